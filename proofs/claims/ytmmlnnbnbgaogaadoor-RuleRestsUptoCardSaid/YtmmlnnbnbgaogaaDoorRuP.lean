/- Plain functions: what package rule computes, over lists of bytes and tokens. No program in sight. -/
import Derived.Lib.AtoiAll
import Derived.Lib.ItoaNum
import Derived.Lib.SlicesS
import Derived.Lib.IndexMore
import Derived.Lib.SlTrimSet
import Derived.Lib.Bytealg
namespace Go.Proofs.YtmmlnnbnbgaogaaDoor.Ru
abbrev Tok := List UInt8

/-- operands, as the program has them -/
structure Opr where
  I : Tok
  V : Int
  W : Int
  F : Tok
  T : Tok
  E : Int

/-- the next token, which is gone; the empty one stays -/
def nextT : List Tok → Tok × List Tok
  | t :: ts => (t, ts)
  | [] => ([], [])

/-- the next token, if it is that, is gone -/
def takeT (p : Tok) : List Tok → Bool × List Tok
  | t :: ts => if t = p then (true, ts) else (false, t :: ts)
  | [] => (false, [])

theorem takeT_ne {p : Tok} {ts : List Tok} : (takeT p ts).2.length ≤ ts.length := by
  unfold takeT; split
  · split <;> simp
  · exact Nat.le_refl _

/-- a number, of at most nine signs -/
def numT : List Tok → Option (Int × List Tok)
  | [] => none
  | t :: ts => match Lib.atoiAll t with
    | .ok v => if t.length ≤ 9 then some (v, ts) else none
    | _ => none

theorem numT_lt {ts ts' : List Tok} {v : Int} (h : numT ts = some (v, ts')) : ts'.length < ts.length := by
  unfold numT at h
  split at h
  · cases h
  · split at h
    · split at h
      · cases h; simp
      · cases h
    · cases h

/-- the words of the categories -/
def words : List ByteArray := [⟨#[122, 101, 114, 111]⟩, ⟨#[111, 110, 101]⟩, ⟨#[116, 119, 111]⟩, ⟨#[102, 101, 119]⟩, ⟨#[109, 97, 110, 121]⟩, ⟨#[111, 116, 104, 101, 114]⟩]
/-- a category's word -/
def catT (ts : List Tok) : Option (Int × List Tok) :=
  let c := Lib.idxOfS words ⟨(nextT ts).1.toArray⟩
  if 0 ≤ c then some (c, (nextT ts).2) else none

theorem idxFrom_in (x : ByteArray) : ∀ (zs : List ByteArray) (i : Nat), Lib.idxFromS zs x i = -1 ∨ ((i : Int) ≤ Lib.idxFromS zs x i ∧ Lib.idxFromS zs x i < i + zs.length)
  | [], i => .inl rfl
  | z :: zs, i => by
    unfold Lib.idxFromS
    split
    · right; simp only [List.length_cons]; omega
    · rcases idxFrom_in x zs (i + 1) with h | h
      · exact .inl h
      · right; simp only [List.length_cons]; omega

theorem catT_in {ts ts' : List Tok} {c : Int} (h : catT ts = some (c, ts')) : (∃ n : Nat, c = n ∧ n ≤ 5) ∧ ts'.length < ts.length := by
  unfold catT at h
  simp only at h
  split at h
  · rename_i h0
    simp only [Option.some.injEq, Prod.mk.injEq] at h
    obtain ⟨rfl, rfl⟩ := h
    constructor
    · unfold Lib.idxOfS at h0 ⊢
      rcases idxFrom_in ⟨(nextT ts).1.toArray⟩ words 0 with e | ⟨e1, e2⟩
      · omega
      · have : words.length = 6 := rfl
        exact ⟨(Lib.idxFromS words ⟨(nextT ts).1.toArray⟩ 0).toNat, by omega, by omega⟩
    · cases ts with
      | nil => exfalso; revert h0; decide
      | cons t tl => simp [nextT]
  · cases h

/-- an operand's digits; can't it be a whole number? -/
def valueT (t : Tok) (x : Opr) : Option (Tok × Bool) :=
  if t = [110] then some (x.I, !(x.T == [48]))
  else if t = [105] then some (x.I, false)
  else if t = [102] then some (x.F, false)
  else if t = [116] then some (x.T, false)
  else if t = [118] then some (Lib.itoa x.V, false)
  else if t = [119] then some (Lib.itoa x.W, false)
  else if t = [99] ∨ t = [101] then some (Lib.itoa x.E, false)
  else none

def restStep (m n : Int) (d : UInt8) : Int :=
  min (if 0 < m then (10 * n + ((d.toNat : Int) - 48) % 256) % m else 10 * n + ((d.toNat : Int) - 48) % 256) 1000000000
/-- the rest of digits by m; without one the number, or what is above all numbers of a text -/
def restT (ds : Tok) (m : Int) : Int := ds.foldl (restStep m) 0

theorem restStep_in (m n : Int) (d : UInt8) (h0 : 0 ≤ n) : 0 ≤ restStep m n d ∧ restStep m n d ≤ 1000000000 := by
  unfold restStep
  have h2 : 0 ≤ ((d.toNat : Int) - 48) % 256 := Int.emod_nonneg _ (by omega)
  split
  · have h1 : 0 ≤ (10 * n + ((d.toNat : Int) - 48) % 256) % m := Int.emod_nonneg _ (by omega)
    omega
  · omega

theorem rest_in (m : Int) : ∀ (ds : Tok) (n : Int), 0 ≤ n ∧ n ≤ 1000000000 → 0 ≤ ds.foldl (restStep m) n ∧ ds.foldl (restStep m) n ≤ 1000000000
  | [], _, h => h
  | d :: ds, n, h => rest_in m ds _ (restStep_in m n d h.1)

theorem restT_snoc (ds : Tok) (m : Int) (k : Nat) (h : k < ds.length) : restT (ds.take (k + 1)) m = restStep m (restT (ds.take k) m) ds[k] := by
  unfold restT
  rw [List.take_succ_eq_append_getElem h, List.foldl_append]
  rfl

/-- the ranges of a relation: is n in one? -/
def rangesT : Nat → Int → Bool → List Tok → Option (Bool × List Tok)
  | 0, _, _, _ => none
  | f + 1, n, inn, ts =>
    match numT ts with
    | none => none
    | some (low, ts1) =>
      match takeT [46, 46] ts1 with
      | (dd, ts2) =>
        match (if dd = true then numT ts2 else some (low, ts2)) with
        | none => none
        | some (high, ts3) =>
          if low ≤ high then
            match takeT [44] ts3 with
            | (true, ts4) => rangesT f n (inn || (decide (low ≤ n) && decide (n ≤ high))) ts4
            | (false, ts4) => some (inn || (decide (low ≤ n) && decide (n ≤ high)), ts4)
          else none

/-- a divisor, if there is one; 0: none -/
def modT (ts : List Tok) : Option (Int × List Tok) :=
  match takeT [37] ts with
  | (true, ts2) => match numT ts2 with
    | some (m, ts3) => if 0 < m then some (m, ts3) else none
    | none => none
  | (false, ts2) => some (0, ts2)

/-- = or != -/
def signT (ts : List Tok) : Option (Bool × List Tok) :=
  match takeT [33, 61] ts with
  | (true, ts2) => some (true, ts2)
  | (false, ts2) => match takeT [61] ts2 with
    | (true, ts3) => some (false, ts3)
    | (false, _) => none

/-- a relation: does it hold? -/
def relT (ts : List Tok) (x : Opr) : Option (Bool × List Tok) :=
  match valueT (nextT ts).1 x with
  | none => none
  | some (ds, broken) =>
    match modT (nextT ts).2 with
    | none => none
    | some (m, ts3) =>
      match signT ts3 with
      | none => none
      | some (nt, ts5) =>
        match rangesT (ts5.length + 1) (restT ds m) false ts5 with
        | none => none
        | some (inn, ts6) => some ((inn && !broken) != nt, ts6)

theorem modT_le {ts ts' : List Tok} {m : Int} (h : modT ts = some (m, ts')) : ts'.length ≤ ts.length := by
  unfold modT at h
  rcases e : takeT [37] ts with ⟨y, ts2⟩
  have hl := takeT_ne (p := [37]) (ts := ts)
  rw [e] at h hl
  cases y
  · simp only [Option.some.injEq, Prod.mk.injEq] at h; obtain ⟨_, rfl⟩ := h; exact hl
  · simp only at h
    rcases e2 : numT ts2 with _ | ⟨v, ts3⟩
    · rw [e2] at h; cases h
    · rw [e2] at h; simp only at h
      split at h
      · cases h; have := numT_lt e2; simp only at hl; omega
      · cases h

theorem signT_le {ts ts' : List Tok} {m : Bool} (h : signT ts = some (m, ts')) : ts'.length ≤ ts.length := by
  unfold signT at h
  rcases e : takeT [33, 61] ts with ⟨y, ts2⟩
  have hl := takeT_ne (p := [33, 61]) (ts := ts)
  rw [e] at h hl
  cases y
  · rcases e2 : takeT [61] ts2 with ⟨y2, ts3⟩
    have hl2 := takeT_ne (p := [61]) (ts := ts2)
    rw [e2] at hl2
    simp only [e2] at h
    cases y2
    · cases h
    · cases h; simp only at hl hl2; omega
  · cases h; exact hl

theorem rangesT_lt : ∀ (f : Nat) (n : Int) (inn r : Bool) (ts ts' : List Tok), rangesT f n inn ts = some (r, ts') → ts'.length < ts.length
  | 0, _, _, _, _, _, h => by cases h
  | f + 1, n, inn, r, ts, ts', h => by
    unfold rangesT at h
    rcases e : numT ts with _ | ⟨lo, ts1⟩
    · rw [e] at h; cases h
    · have h1 := numT_lt e
      rcases e2 : takeT [46, 46] ts1 with ⟨dd, ts2⟩
      have h2 := takeT_ne (p := [46, 46]) (ts := ts1)
      rw [e2] at h2
      simp only [e, e2] at h
      rcases e3 : (if dd = true then numT ts2 else some (lo, ts2)) with _ | ⟨hi, ts3⟩
      · rw [e3] at h; cases h
      · have h3 : ts3.length ≤ ts2.length := by
          cases dd
          · cases e3; exact Nat.le_refl _
          · exact Nat.le_of_lt (numT_lt e3)
        simp only [e3] at h
        split at h
        · rcases e4 : takeT [44] ts3 with ⟨y, ts4⟩
          have h4 := takeT_ne (p := [44]) (ts := ts3)
          rw [e4] at h4
          simp only [e4] at h
          cases y
          · cases h; simp only at h2 h4; omega
          · have := rangesT_lt f _ _ _ _ _ h; simp only at h2 h4; omega
        · cases h

theorem relT_lt {ts ts' : List Tok} {x : Opr} {r : Bool} (h : relT ts x = some (r, ts')) : ts'.length < ts.length := by
  cases ts with
  | nil => unfold relT at h; simp [nextT, valueT] at h
  | cons t tl =>
    unfold relT at h
    simp only [nextT] at h
    rcases e : valueT t x with _ | ⟨ds, br⟩
    · rw [e] at h; cases h
    rcases e1 : modT tl with _ | ⟨m, ts3⟩
    · rw [e, e1] at h; cases h
    have h1 := modT_le e1
    rcases e2 : signT ts3 with _ | ⟨nt, ts5⟩
    · simp only [e, e1, e2] at h; cases h
    have h2 := signT_le e2
    rcases e3 : rangesT (ts5.length + 1) (restT ds m) false ts5 with _ | ⟨inn, ts6⟩
    · simp only [e, e1, e2, e3] at h; cases h
    have h3 := rangesT_lt _ _ _ _ _ _ e3
    simp only [e, e1, e2, e3] at h
    cases h
    simp only [List.length_cons]; omega

/-- an all -/
def allT : Nat → Opr → Bool → List Tok → Option (Bool × List Tok)
  | 0, _, _, _ => none
  | f + 1, x, al, ts =>
    match relT ts x with
    | none => none
    | some (h, ts1) =>
      match takeT [97, 110, 100] ts1 with
      | (true, ts2) => allT f x (al && h) ts2
      | (false, ts2) => some (al && h, ts2)

/-- a condition -/
def condT : Nat → Opr → Bool → List Tok → Option (Bool × List Tok)
  | 0, _, _, _ => none
  | f + 1, x, an, ts =>
    match allT (ts.length + 1) x true ts with
    | none => none
    | some (h, ts1) =>
      match takeT [111, 114] ts1 with
      | (true, ts2) => condT f x (an || h) ts2
      | (false, ts2) => some (an || h, ts2)

theorem allT_lt : ∀ (f : Nat) (x : Opr) (al r : Bool) (ts ts' : List Tok), allT f x al ts = some (r, ts') → ts'.length < ts.length
  | 0, _, _, _, _, _, h => by cases h
  | f + 1, x, al, r, ts, ts', h => by
    unfold allT at h
    rcases e : relT ts x with _ | ⟨hh, ts1⟩
    · rw [e] at h; cases h
    have h1 := relT_lt e
    rcases e2 : takeT [97, 110, 100] ts1 with ⟨y, ts2⟩
    have h2 := takeT_ne (p := [97, 110, 100]) (ts := ts1)
    rw [e2] at h2
    simp only [e, e2] at h
    cases y
    · cases h; simp only at h2; omega
    · have := allT_lt f _ _ _ _ _ h; simp only at h2; omega

theorem condT_lt : ∀ (f : Nat) (x : Opr) (an r : Bool) (ts ts' : List Tok), condT f x an ts = some (r, ts') → ts'.length < ts.length
  | 0, _, _, _, _, _, h => by cases h
  | f + 1, x, an, r, ts, ts', h => by
    unfold condT at h
    rcases e : allT (ts.length + 1) x true ts with _ | ⟨hh, ts1⟩
    · rw [e] at h; cases h
    have h1 := allT_lt _ _ _ _ _ _ e
    rcases e2 : takeT [111, 114] ts1 with ⟨y, ts2⟩
    have h2 := takeT_ne (p := [111, 114]) (ts := ts1)
    rw [e2] at h2
    simp only [e, e2] at h
    cases y
    · cases h; simp only at h2; omega
    · have := condT_lt f _ _ _ _ _ h; simp only at h2; omega

theorem all_step {k : Nat} {x : Opr} {al h y : Bool} {ts ts1 ts2 : List Tok} {R : Option (Bool × List Tok)} (hk : ts.length ≤ k) (HR : allT (k + 1) x al ts = R)
    (e1 : relT ts x = some (h, ts1)) (e2 : takeT [97, 110, 100] ts1 = (y, ts2)) :
    (y = true ∧ ts2.length ≤ k - 1 ∧ allT (k - 1 + 1) x (al && h) ts2 = R ∧ k - 1 < k) ∨ (y = false ∧ R = some (al && h, ts2)) := by
  have h1 := relT_lt e1
  have h2 := takeT_ne (p := [97, 110, 100]) (ts := ts1)
  rw [e2] at h2
  have hg : k - 1 + 1 = k := by omega
  simp only [allT, e1, e2] at HR
  cases y
  · exact .inr ⟨rfl, HR.symm⟩
  · simp only at h2; exact .inl ⟨rfl, by omega, by rw [hg]; exact HR, by omega⟩

theorem cond_step {k : Nat} {x : Opr} {an h y : Bool} {ts ts1 ts2 : List Tok} {R : Option (Bool × List Tok)} (hk : ts.length ≤ k) (HR : condT (k + 1) x an ts = R)
    (e1 : allT (ts.length + 1) x true ts = some (h, ts1)) (e2 : takeT [111, 114] ts1 = (y, ts2)) :
    (y = true ∧ ts2.length ≤ k - 1 ∧ condT (k - 1 + 1) x (an || h) ts2 = R ∧ k - 1 < k) ∨ (y = false ∧ R = some (an || h, ts2)) := by
  have h1 := allT_lt _ _ _ _ _ _ e1
  have h2 := takeT_ne (p := [111, 114]) (ts := ts1)
  rw [e2] at h2
  have hg : k - 1 + 1 = k := by omega
  simp only [condT, e1, e2] at HR
  cases y
  · exact .inr ⟨rfl, HR.symm⟩
  · simp only at h2; exact .inl ⟨rfl, by omega, by rw [hg]; exact HR, by omega⟩

/-- the rules of a text, from one on: what is picked -/
def rulesT : Nat → Opr → Int → List Int → List Tok → Option Int
  | 0, _, _, _, _ => none
  | f + 1, x, found, seen, ts =>
    match catT ts with
    | none => none
    | some (c, ts1) =>
      if c = 5 then none else if seen.contains c = true then none else
      match takeT [58] ts1 with
      | (false, _) => none
      | (true, ts2) =>
        match condT (ts2.length + 1) x false ts2 with
        | none => none
        | some (h, ts3) =>
          match takeT [59] ts3 with
          | (true, ts4) => rulesT f x (if h = true ∧ found = 5 then c else found) (c :: seen) ts4
          | (false, ts4) => if ts4 = [] then some (if h = true ∧ found = 5 then c else found) else none

theorem rules_step {k : Nat} {x : Opr} {found c : Int} {seen : List Int} {ts ts1 ts2 ts3 ts4 : List Tok} {h y : Bool} {R : Option Int} (hk : ts.length ≤ k) (HR : rulesT (k + 1) x found seen ts = R)
    (e1 : catT ts = some (c, ts1)) (h5 : c ≠ 5) (hs : seen.contains c = false) (e2 : takeT [58] ts1 = (true, ts2)) (e3 : condT (ts2.length + 1) x false ts2 = some (h, ts3)) (e4 : takeT [59] ts3 = (y, ts4))
    (f2 : Int) (hf : (if h = true ∧ found = 5 then c else found) = f2) :
    k - 1 < k ∧ ((y = true ∧ ts4.length ≤ k - 1 ∧ rulesT (k - 1 + 1) x f2 (c :: seen) ts4 = R) ∨ (y = false ∧ R = if ts4 = [] then some f2 else none)) := by
  have h1 := (catT_in e1).2
  have h2 := takeT_ne (p := [58]) (ts := ts1)
  have h3 := condT_lt _ _ _ _ _ _ e3
  have h4 := takeT_ne (p := [59]) (ts := ts3)
  rw [e2] at h2
  rw [e4] at h4
  simp only at h2 h4
  have hg : k - 1 + 1 = k := by omega
  unfold rulesT at HR
  simp only [e1, if_neg h5, hs, e2, e3, e4, hf, Bool.false_eq_true, if_false] at HR
  refine ⟨by omega, ?_⟩
  cases y
  · exact .inr ⟨rfl, HR.symm⟩
  · exact .inl ⟨rfl, by omega, by rw [hg]; exact HR⟩

/-- what is picked by tokens; none: they are no rules -/
def pickT (ts : List Tok) (x : Opr) : Option Int := if ts = [] then some 5 else rulesT (ts.length + 1) x 5 [] ts

def low (c : UInt8) : Bool := decide (97 ≤ c.toNat) && decide (c.toNat ≤ 122)
def dig (c : UInt8) : Bool := decide (48 ≤ c.toNat) && decide (c.toNat ≤ 57)
def lowers : Tok := [97, 98, 99, 100, 101, 102, 103, 104, 105, 106, 107, 108, 109, 110, 111, 112, 113, 114, 115, 116, 117, 118, 119, 120, 121, 122]
def digits : Tok := [48, 49, 50, 51, 52, 53, 54, 55, 56, 57]
def marks : Tok := [58, 59, 37, 61, 44, 43]

/-- how many letters, else how many digits, a text begins with -/
def runLen (s : Tok) : Nat :=
  if s.length - (Lib.trimLeftS s lowers).length = 0 then s.length - (Lib.trimLeftS s digits).length else s.length - (Lib.trimLeftS s lowers).length

/-- a sign of one byte -/
def markLen : Tok → Option Nat
  | [] => some 0
  | c :: _ => if 0 ≤ Lib.indexByte marks c then some 1 else none

/-- how long the first part of a text is that does not begin with a blank; none: there is something else -/
def partLen (s : Tok) : Option Nat :=
  if 0 < runLen s then some (runLen s)
  else if Lib.hasPrefix s [33, 61] = true ∨ Lib.hasPrefix s [46, 46] = true then some 2
  else markLen s

theorem trim_le (s cs : Tok) : (Lib.trimLeftS s cs).length ≤ s.length := by unfold Lib.trimLeftS; exact (List.dropWhile_suffix _).length_le

theorem runLen_le (s : Tok) : runLen s ≤ s.length := by unfold runLen; split <;> omega

theorem partLen_le {s : Tok} {n : Nat} (h : partLen s = some n) : n ≤ s.length := by
  unfold partLen at h
  split at h
  · cases h; exact runLen_le s
  · split at h
    · rename_i h2
      cases h
      rcases h2 with h2 | h2 <;>
      · unfold Lib.hasPrefix at h2
        rw [List.isPrefixOf_iff_prefix] at h2
        have := h2.length_le
        simpa using this
    · unfold markLen at h
      split at h
      · cases h; simp
      · split at h
        · cases h; simp
        · cases h

theorem partLen_pos {s : Tok} {n : Nat} (h : partLen s = some n) (hs : s ≠ []) : 0 < n := by
  unfold partLen at h
  split at h
  · cases h; assumption
  · split at h
    · cases h; omega
    · unfold markLen at h
      split at h
      · exact absurd rfl hs
      · split at h
        · cases h; omega
        · cases h

/-- the parts of a text -/
def partsT : Nat → Tok → Option (List Tok)
  | 0, _ => none
  | f + 1, s =>
    let s1 := Lib.trimLeftS s [32]
    match partLen s1 with
    | none => none
    | some n => if s1 = [] then some [] else
      match partsT f (s1.drop n) with
      | none => none
      | some l => some (s1.take n :: l)

/-- the parts of a text; none: there is something else in it -/
def toksT (s : Tok) : Option (List Tok) := partsT (s.length + 1) s

theorem parts_ne : ∀ (f : Nat) (s : Tok) (ts : List Tok), partsT f s = some ts → ∀ t ∈ ts, t ≠ [] ∧ t.length ≤ s.length
  | 0, _, _, h => by cases h
  | f + 1, s, ts, h => by
    unfold partsT at h
    simp only at h
    have hl := trim_le s [32]
    generalize Lib.trimLeftS s [32] = s1 at h hl
    rcases e : partLen s1 with _ | n
    · rw [e] at h; cases h
    · rw [e] at h
      simp only at h
      split at h
      · cases h; simp
      · rename_i hs
        rcases e2 : partsT f (s1.drop n) with _ | l
        · rw [e2] at h; cases h
        · rw [e2] at h; cases h
          have hn := partLen_le e
          have hp := partLen_pos e hs
          intro t ht
          rcases List.mem_cons.1 ht with rfl | ht
          · refine ⟨fun h0 => ?_, ?_⟩
            · have := congrArg List.length h0
              simp only [List.length_take, List.length_nil] at this
              omega
            · rw [List.length_take]; omega
          · have := parts_ne f _ l e2 t ht
            rw [List.length_drop] at this
            exact ⟨this.1, by omega⟩

theorem toksT_ne' {s : Tok} {ts : List Tok} (h : toksT s = some ts) : ∀ t ∈ ts, t ≠ [] ∧ t.length ≤ s.length := parts_ne _ _ _ h

/-- what 'picked' answers -/
def pickedT (s : Tok) (x : Opr) : Int × Int :=
  if 1024 < s.length then (0, 91) else
  match toksT s with
  | none => (0, 90)
  | some ts => match pickT ts x with
    | none => (0, 90)
    | some c => (c, 0)

/-- operand's number: 0, or digits that don't begin with a 0, at most so many? -/
def numOk (s : Tok) (most : Int) : Bool :=
  if s = [48] then true else s.all dig && (!s.isEmpty && !(s.head? == some 48)) && decide ((s.length : Int) ≤ most)

/-- operand's May -/
def mayT (x : Opr) : Bool :=
  if x.V < 0 ∨ 8192 < x.V ∨ x.W < 0 ∨ x.V < x.W ∨ x.E < 0 ∨ 8192 < x.E then false
  else if numOk x.I 8192 = true ∧ numOk x.F x.V = true ∧ numOk x.T x.W = true then
    if x.T = [48] then x.F == [48] else x.F == x.T ++ List.replicate (x.V - x.W).toNat 48
  else false

/-- the operands that Check takes -/
def zeroX : Opr := ⟨[48], 0, 0, [48], [48], 0⟩

/-- what Pick answers -/
def pickAns (s : Tok) (x : Opr) : Int × Int :=
  if (pickedT s zeroX).2 ≠ 0 then (0, (pickedT s zeroX).2)
  else if mayT x = true then pickedT s x else (0, 92)
end Go.Proofs.YtmmlnnbnbgaogaaDoor.Ru
