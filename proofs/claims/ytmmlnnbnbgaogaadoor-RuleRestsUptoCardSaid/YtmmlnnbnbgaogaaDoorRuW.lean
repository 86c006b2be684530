/- Plain law: a relation with a divisor doesn't see more of a whole number than its rest. -/
import Derived.Test.YtmmlnnbnbgaogaaDoorRuR
namespace Go.Proofs.YtmmlnnbnbgaogaaDoor.Ru

/-! the rest -/
def vstep (n : Int) (d : UInt8) : Int := 10 * n + ((d.toNat : Int) - 48) % 256
def valT (ds : Tok) : Int := ds.foldl vstep 0

theorem rest_val (m : Int) (h0 : 0 < m) (h1 : m ≤ 1000000000) : ∀ (ds : Tok) (n k : Int), k = n % m → ds.foldl (restStep m) k = (ds.foldl vstep n) % m
  | [], n, k, h => h
  | d :: ds, n, k, h => by
    simp only [List.foldl_cons]
    refine rest_val m h0 h1 ds (vstep n d) (restStep m k d) ?_
    unfold restStep vstep
    rw [if_pos h0, h]
    have hm : (10 * (n % m) + ((d.toNat : Int) - 48) % 256) % m = (10 * n + ((d.toNat : Int) - 48) % 256) % m := by
      rw [Int.add_emod, Int.mul_emod, Int.emod_emod, ← Int.mul_emod, ← Int.add_emod]
    rw [hm]
    have := Int.emod_lt_of_pos (10 * n + ((d.toNat : Int) - 48) % 256) h0
    omega

theorem restT_val (ds : Tok) (m : Int) (h0 : 0 < m) (h1 : m ≤ 1000000000) : restT ds m = valT ds % m := rest_val m h0 h1 ds 0 0 (by simp)

theorem val_from : ∀ (ds : Tok) (n : Int), ds.foldl vstep n = n * 10 ^ ds.length + valT ds
  | [], n => by simp [valT]
  | d :: ds, n => by
    have h1 := val_from ds (vstep n d)
    have h2 : valT (d :: ds) = vstep 0 d * 10 ^ ds.length + valT ds := val_from ds (vstep 0 d)
    rw [List.foldl_cons, h1, h2, List.length_cons, Int.pow_succ]
    generalize (10 : Int) ^ ds.length = P
    generalize valT ds = V
    unfold vstep
    generalize ((d.toNat : Int) - 48) % 256 = e
    have h3 : 10 * n * P = n * (P * 10) := by rw [Int.mul_comm 10 n, Int.mul_assoc, Int.mul_comm 10 P]
    rw [Int.add_mul, Int.add_mul, h3, Int.mul_zero, Int.zero_mul]
    omega

theorem val_append (a b : Tok) : valT (a ++ b) = valT a * 10 ^ b.length + valT b := by
  have h := val_from b (valT a)
  unfold valT at h ⊢
  rw [List.foldl_append]
  exact h

theorem val_zeros : ∀ n : Nat, valT (List.replicate n 48) = 0
  | 0 => rfl
  | n + 1 => by
    have h : List.replicate (n + 1) (48 : UInt8) = [48] ++ List.replicate n 48 := rfl
    rw [h, val_append, val_zeros n]
    have : valT [48] = 0 := by decide
    rw [this]; simp

/-- as many noughts ahead as it takes -/
def padN (k : Nat) (l : Tok) : Tok := List.replicate (k - l.length) 48 ++ l
def moreI (k : Nat) (more I : Tok) : Tok := more ++ padN k (if I = [48] then [] else I)

theorem rest_same (k : Nat) (hk : k ≤ 8) (more I : Tok) : restT (moreI k more I) (10 ^ k) = restT I (10 ^ k) := by
  have h0 : (0 : Int) < 10 ^ k := Int.pow_pos (by decide)
  have h1 : (10 : Int) ^ k ≤ 1000000000 := by
    have : k = 0 ∨ k = 1 ∨ k = 2 ∨ k = 3 ∨ k = 4 ∨ k = 5 ∨ k = 6 ∨ k = 7 ∨ k = 8 := by omega
    rcases this with rfl | rfl | rfl | rfl | rfl | rfl | rfl | rfl | rfl <;> decide
  rw [restT_val _ _ h0 h1, restT_val _ _ h0 h1]
  unfold moreI padN
  have hv : valT (if I = [48] then [] else I) = valT I := by
    split
    · rename_i h; subst h; decide
    · rfl
  generalize (if I = [48] then [] else I) = J at hv
  rw [val_append, val_append, val_zeros, hv]
  have hl : (List.replicate (k - J.length) (48 : UInt8) ++ J).length = k + (J.length - k) := by
    simp only [List.length_append, List.length_replicate]; omega
  rw [hl, Int.pow_add]
  have e : valT more * (10 ^ k * 10 ^ (J.length - k)) + (0 * 10 ^ J.length + valT I) = valT I + 10 ^ k * (valT more * 10 ^ (J.length - k)) := by
    rw [Int.zero_mul, Int.zero_add, Int.add_comm, Int.mul_left_comm]
  rw [e, Int.add_mul_emod_self_left]

/-! the tokens -/
theorem parts_fuel : ∀ (f : Nat) (s : Tok) (f' : Nat), s.length < f → s.length < f' → partsT f' s = partsT f s
  | 0, s, f', h, _ => by omega
  | f + 1, s, 0, _, h => by omega
  | f + 1, s, f' + 1, h, h' => by
    unfold partsT
    simp only [trim_eq]
    have hl1 : (s.dropWhile isB).length ≤ s.length := (List.dropWhile_suffix _).length_le
    generalize s.dropWhile isB = q at hl1
    rcases hp : partLen q with _ | n
    · rfl
    · simp only
      split
      · rfl
      · rename_i hq
        have hpos := partLen_pos hp hq
        have hq0 : 0 < q.length := by cases q with
          | nil => exact absurd rfl hq
          | cons => simp
        have hd : (q.drop n).length < f := by rw [List.length_drop]; omega
        have hd2 : (q.drop n).length < f' := by rw [List.length_drop]; omega
        rw [parts_fuel f _ f' hd hd2]

theorem toks_step {s q : Tok} {n : Nat} (h : s.dropWhile isB = q) (hq : q ≠ []) (hp : partLen q = some n) : toksT s = (toksT (q.drop n)).map (q.take n :: ·) := by
  have hl1 : (s.dropWhile isB).length ≤ s.length := (List.dropWhile_suffix _).length_le
  rw [h] at hl1
  have hpos := partLen_pos hp hq
  have hq0 : 0 < q.length := by cases q with
    | nil => exact absurd rfl hq
    | cons => simp
  have hf := parts_fuel ((q.drop n).length + 1) (q.drop n) s.length (by omega) (by rw [List.length_drop]; omega)
  unfold toksT
  rw [← hf]
  conv => lhs; unfold partsT
  simp only [trim_eq, h, hp, hq, if_false]
  rcases partsT s.length (q.drop n) with _ | l <;> rfl

theorem runLen_tw (s : Tok) : runLen s = if (s.takeWhile lowers.contains).length = 0 then (s.takeWhile digits.contains).length else (s.takeWhile lowers.contains).length := by
  unfold runLen
  simp only [trim_set]

/-- each byte of a token is one of the text -/
theorem parts_mem : ∀ (f : Nat) (s : Tok) (ts : List Tok), partsT f s = some ts → ∀ t ∈ ts, ∀ c ∈ t, c ∈ s
  | 0, _, _, h => by cases h
  | f + 1, s, ts, h => by
    unfold partsT at h
    simp only [trim_eq] at h
    have hs : ∀ c ∈ s.dropWhile isB, c ∈ s := fun c hc => (List.dropWhile_suffix _).subset hc
    generalize s.dropWhile isB = q at h hs
    rcases e : partLen q with _ | n
    · rw [e] at h; cases h
    · rw [e] at h
      simp only at h
      split at h
      · cases h; simp
      · rcases e2 : partsT f (q.drop n) with _ | l
        · rw [e2] at h; cases h
        · rw [e2] at h; cases h
          intro t ht c hc
          rcases List.mem_cons.1 ht with rfl | ht
          · exact hs c (List.mem_of_mem_take hc)
          · exact hs c (List.mem_of_mem_drop (parts_mem f _ l e2 t ht c hc))

/-! the rules -/
theorem takeT_sub {p : Tok} {ts : List Tok} : ∀ t ∈ (takeT p ts).2, t ∈ ts := by
  unfold takeT
  split
  · split
    · intro t ht; exact List.mem_cons_of_mem _ ht
    · intro t ht; exact ht
  · intro t ht; exact ht

theorem numT_sub {ts ts' : List Tok} {v : Int} (h : numT ts = some (v, ts')) : ∀ t ∈ ts', t ∈ ts := by
  unfold numT at h
  split at h
  · cases h
  · split at h
    · split at h
      · cases h; intro t ht; exact List.mem_cons_of_mem _ ht
      · cases h
    · cases h

theorem rangesT_sub : ∀ (f : Nat) (n : Int) (inn r : Bool) (ts ts' : List Tok), rangesT f n inn ts = some (r, ts') → ∀ t ∈ ts', t ∈ ts
  | 0, _, _, _, _, _, h => by cases h
  | f + 1, n, inn, r, ts, ts', h => by
    unfold rangesT at h
    rcases e : numT ts with _ | ⟨lo, ts1⟩
    · rw [e] at h; cases h
    · have h1 := numT_sub e
      rcases e2 : takeT [46, 46] ts1 with ⟨dd, ts2⟩
      have h2 := takeT_sub (p := [46, 46]) (ts := ts1)
      rw [e2] at h2
      simp only [e, e2] at h
      rcases e3 : (if dd = true then numT ts2 else some (lo, ts2)) with _ | ⟨hi, ts3⟩
      · rw [e3] at h; cases h
      · have h3 : ∀ t ∈ ts3, t ∈ ts2 := by
          cases dd
          · cases e3; exact fun t ht => ht
          · exact numT_sub e3
        simp only [e3] at h
        split at h
        · rcases e4 : takeT [44] ts3 with ⟨y, ts4⟩
          have h4 := takeT_sub (p := [44]) (ts := ts3)
          rw [e4] at h4
          simp only [e4] at h
          cases y
          · cases h; exact fun t ht => h1 t (h2 t (h3 t (h4 t ht)))
          · exact fun t ht => h1 t (h2 t (h3 t (h4 t (rangesT_sub f _ _ _ _ _ h t ht))))
        · cases h

theorem takeT_no {p : Tok} {ts : List Tok} (h : p ∉ ts) : takeT p ts = (false, ts) := by
  unfold takeT
  split
  · rename_i t tl
    rw [if_neg (fun e => h (by rw [e]; exact List.mem_cons_self))]
  · rfl

theorem part_low {q : Tok} {n : Nat} (h : (q.takeWhile lowers.contains).length = n) (hn : 0 < n) : partLen q = some n := by
  have hr : runLen q = n := by rw [runLen_tw, h, if_neg (by omega)]
  unfold partLen
  rw [hr, if_pos hn]

theorem part_dig {q : Tok} {n : Nat} (h0 : (q.takeWhile lowers.contains).length = 0) (h : (q.takeWhile digits.contains).length = n) (hn : 0 < n) : partLen q = some n := by
  have hr : runLen q = n := by rw [runLen_tw, h0, if_pos rfl, h]
  unfold partLen
  rw [hr, if_pos hn]

theorem part_mark {c : UInt8} {r : Tok} (h0 : ((c :: r).takeWhile lowers.contains).length = 0) (h1 : ((c :: r).takeWhile digits.contains).length = 0) (h2 : Lib.hasPrefix (c :: r) [33, 61] = false) (h3 : Lib.hasPrefix (c :: r) [46, 46] = false) (h4 : 0 ≤ Lib.indexByte marks c) : partLen (c :: r) = some 1 := by
  have hr : runLen (c :: r) = 0 := by rw [runLen_tw, h0, if_pos rfl, h1]
  unfold partLen
  rw [hr, if_neg (by omega), h2, h3, if_neg (by simp)]
  show (if 0 ≤ Lib.indexByte marks c then some 1 else none) = some 1
  rw [if_pos h4]

theorem toks_blank (l : Tok) : toksT (32 :: l) = toksT l := by
  have h := parts_fuel (l.length + 1) l ((32 :: l).length + 1) (by omega) (by simp; omega)
  unfold toksT
  rw [← h]
  unfold partsT
  simp only [trim_eq]
  rw [List.dropWhile_cons, if_pos (show isB 32 = true from rfl)]

def tenN (k : Nat) : Tok := 49 :: List.replicate k 48
def fewText (k : Nat) (c : UInt8) (l : Tok) : Tok := [102, 101, 119, 58, 32] ++ [c] ++ [32, 37, 32] ++ tenN k ++ [32, 61, 32] ++ l

theorem t_few (T : Tok) : toksT (102 :: 101 :: 119 :: 58 :: T) = (toksT (58 :: T)).map ([102, 101, 119] :: ·) :=
  toks_step (s := 102 :: 101 :: 119 :: 58 :: T) (q := 102 :: 101 :: 119 :: 58 :: T) (n := 3) rfl (by simp) (part_low rfl (by decide))
theorem t_col (T : Tok) : toksT (58 :: T) = (toksT T).map ([58] :: ·) :=
  toks_step (s := 58 :: T) (q := 58 :: T) (n := 1) rfl (by simp) (part_mark rfl rfl rfl rfl (by decide))
theorem t_pct (T : Tok) : toksT (37 :: T) = (toksT T).map ([37] :: ·) :=
  toks_step (s := 37 :: T) (q := 37 :: T) (n := 1) rfl (by simp) (part_mark rfl rfl rfl rfl (by decide))
theorem t_eq (T : Tok) : toksT (61 :: T) = (toksT T).map ([61] :: ·) :=
  toks_step (s := 61 :: T) (q := 61 :: T) (n := 1) rfl (by simp) (part_mark rfl rfl rfl rfl (by decide))
theorem t_word (c : UInt8) (hc : c = 105 ∨ c = 110) (T : Tok) : toksT (c :: 32 :: T) = (toksT (32 :: T)).map ([c] :: ·) := by
  rcases hc with rfl | rfl
  · exact toks_step (s := 105 :: 32 :: T) (q := 105 :: 32 :: T) (n := 1) rfl (by simp) (part_low rfl (by decide))
  · exact toks_step (s := 110 :: 32 :: T) (q := 110 :: 32 :: T) (n := 1) rfl (by simp) (part_low rfl (by decide))

theorem tw_zeros : ∀ (k : Nat) (T : Tok), (List.replicate k 48 ++ 32 :: T).takeWhile digits.contains = List.replicate k 48
  | 0, T => rfl
  | k + 1, T => by
    have h : (48 : UInt8) ∈ digits := by decide
    simp only [List.replicate_succ, List.cons_append, List.takeWhile_cons, List.contains_iff_mem.2 h, if_true, tw_zeros k T]

theorem t_num (k : Nat) (T : Tok) : toksT (tenN k ++ 32 :: T) = (toksT (32 :: T)).map (tenN k :: ·) := by
  have hl : (tenN k).length = k + 1 := by simp [tenN]
  have h1 : ((tenN k ++ 32 :: T).takeWhile digits.contains).length = k + 1 := by
    have h : (49 : UInt8) ∈ digits := by decide
    simp only [tenN, List.cons_append, List.takeWhile_cons, List.contains_iff_mem.2 h, if_true, tw_zeros, List.length_cons, List.length_replicate]
  have hs := toks_step (s := tenN k ++ 32 :: T) (q := tenN k ++ 32 :: T) (n := k + 1) rfl (by simp [tenN]) (part_dig rfl h1 (by omega))
  rw [hs, ← hl, List.drop_left, List.take_left]

theorem few_toks (k : Nat) (c : UInt8) (hc : c = 105 ∨ c = 110) (l : Tok) : toksT (fewText k c l) = (toksT l).map fun ts => [102, 101, 119] :: [58] :: [c] :: [37] :: tenN k :: [61] :: ts := by
  have e : fewText k c l = 102 :: 101 :: 119 :: 58 :: 32 :: c :: 32 :: 37 :: 32 :: (tenN k ++ 32 :: 61 :: 32 :: l) := by simp [fewText]
  rw [e, t_few, t_col, toks_blank, t_word c hc, toks_blank, t_pct, toks_blank, t_num, toks_blank, t_eq, toks_blank]
  rcases toksT l with _ | ts <;> rfl

/-- the tokens behind the colon -/
theorem few_pick (T : List Tok) (x y : Opr) (hrel : relT T x = relT T y) (hsub : ∀ h ts, relT T x = some (h, ts) → [97, 110, 100] ∉ ts ∧ [111, 114] ∉ ts ∧ [59] ∉ ts) : pickT ([102, 101, 119] :: [58] :: T) x = pickT ([102, 101, 119] :: [58] :: T) y := by
  have hc : catT ([102, 101, 119] :: [58] :: T) = some (3, [58] :: T) := by
    unfold catT
    simp only [nextT]
    have : Lib.idxOfS words ⟨(([102, 101, 119] : Tok)).toArray⟩ = 3 := by decide
    simp only [this]; rfl
  have ht : takeT [58] ([58] :: T) = (true, T) := by simp [takeT]
  have hcond : condT (T.length + 1) x false T = condT (T.length + 1) y false T := by
    unfold condT
    unfold allT
    rw [hrel]
    rcases hr : relT T y with _ | ⟨h, ts⟩
    · rfl
    · obtain ⟨n1, n2, n3⟩ := hsub h ts (hrel.trans hr)
      simp only [takeT_no n1, takeT_no n2]
  have hcr : ∀ h ts, condT (T.length + 1) x false T = some (h, ts) → [59] ∉ ts := by
    intro h ts hh
    unfold condT at hh
    unfold allT at hh
    rcases hr : relT T x with _ | ⟨h', ts'⟩
    · rw [hr] at hh; cases hh
    · obtain ⟨n1, n2, n3⟩ := hsub h' ts' hr
      rw [hr] at hh
      simp only [takeT_no n1, takeT_no n2] at hh
      cases hh
      exact n3
  unfold pickT
  simp only [reduceCtorEq, if_false]
  unfold rulesT
  simp only [hc, ht, ← hcond]
  rcases hr : condT (T.length + 1) x false T with _ | ⟨h, ts⟩
  · rfl
  · simp only [takeT_no (hcr h ts hr)]

theorem few_rel (k : Nat) (hk : 1 ≤ k ∧ k ≤ 8) (c : UInt8) (x : Opr) (ds : Tok) (br : Bool) (hv : valueT [c] x = some (ds, br)) (l : List Tok) :
    relT ([c] :: [37] :: tenN k :: [61] :: l) x = match rangesT (l.length + 1) (restT ds (10 ^ k)) false l with
      | none => none
      | some (inn, ts6) => some ((inn && !br) != false, ts6) := by
  have hn : numT (tenN k :: [61] :: l) = some (10 ^ k, [61] :: l) := by
    have hk8 : k = 1 ∨ k = 2 ∨ k = 3 ∨ k = 4 ∨ k = 5 ∨ k = 6 ∨ k = 7 ∨ k = 8 := by omega
    rcases hk8 with rfl | rfl | rfl | rfl | rfl | rfl | rfl | rfl
    · have : Lib.atoiAll (tenN 1) = .ok (10 ^ 1) := by decide +kernel
      simp only [numT, this]; rfl
    · have : Lib.atoiAll (tenN 2) = .ok (10 ^ 2) := by decide +kernel
      simp only [numT, this]; rfl
    · have : Lib.atoiAll (tenN 3) = .ok (10 ^ 3) := by decide +kernel
      simp only [numT, this]; rfl
    · have : Lib.atoiAll (tenN 4) = .ok (10 ^ 4) := by decide +kernel
      simp only [numT, this]; rfl
    · have : Lib.atoiAll (tenN 5) = .ok (10 ^ 5) := by decide +kernel
      simp only [numT, this]; rfl
    · have : Lib.atoiAll (tenN 6) = .ok (10 ^ 6) := by decide +kernel
      simp only [numT, this]; rfl
    · have : Lib.atoiAll (tenN 7) = .ok (10 ^ 7) := by decide +kernel
      simp only [numT, this]; rfl
    · have : Lib.atoiAll (tenN 8) = .ok (10 ^ 8) := by decide +kernel
      simp only [numT, this]; rfl
  have h0 : (0 : Int) < 10 ^ k := Int.pow_pos (by decide)
  have hm : modT ([37] :: tenN k :: [61] :: l) = some (10 ^ k, [61] :: l) := by
    unfold modT
    have : takeT [37] ([37] :: tenN k :: [61] :: l) = (true, tenN k :: [61] :: l) := by simp [takeT]
    simp only [this, hn, h0, if_true]
  have hs : signT ([61] :: l) = some (false, l) := by
    unfold signT
    have h1 : takeT [33, 61] ([61] :: l) = (false, [61] :: l) := by simp [takeT]
    have h2 : takeT [61] ([61] :: l) = (true, l) := by simp [takeT]
    simp only [h1, h2]
  unfold relT
  simp only [nextT, hv, hm, hs]
  rcases rangesT (l.length + 1) (restT ds (10 ^ k)) false l with _ | ⟨inn, ts6⟩ <;> rfl

/-- what a list of ranges is made of -/
def listB (c : UInt8) : Bool := digits.contains c || c == 44 || c == 46 || c == 32

theorem list_no {s : Tok} {ts : List Tok} (h : toksT s = some ts) (hs : ∀ c ∈ s, listB c = true) (p : Tok) (c : UInt8) (hc : c ∈ p) (hl : listB c = false) : p ∉ ts := by
  intro hp
  have := hs c (parts_mem _ _ _ h p hp c hc)
  rw [this] at hl
  cases hl

/-- the law -/
theorem rests_picked (k : Nat) (hk : 1 ≤ k ∧ k ≤ 8) (c : UInt8) (hc : c = 105 ∨ c = 110) (list more : Tok) (hs : ∀ d ∈ list, listB d = true) (x : Opr) :
    pickedT (fewText k c list) { x with I := moreI k more x.I } = pickedT (fewText k c list) x := by
  unfold pickedT
  split
  · rfl
  · rw [few_toks k c hc list]
    rcases hl : toksT list with _ | l
    · rfl
    · simp only [Option.map_some]
      have hv : ∃ br, valueT [c] x = some (x.I, br) ∧ valueT [c] { x with I := moreI k more x.I } = some (moreI k more x.I, br) := by
        rcases hc with rfl | rfl
        · exact ⟨false, by simp [valueT], by simp [valueT]⟩
        · exact ⟨!(x.T == [48]), by simp [valueT], by simp [valueT]⟩
      obtain ⟨br, hv1, hv2⟩ := hv
      have e1 := few_rel k hk c x _ br hv1 l
      have e2 := few_rel k hk c { x with I := moreI k more x.I } _ br hv2 l
      rw [rest_same k hk.2] at e2
      rw [few_pick _ { x with I := moreI k more x.I } x (e2.trans e1.symm)]
      intro h ts hh
      rw [e2] at hh
      rcases hr : rangesT (l.length + 1) (restT x.I (10 ^ k)) false l with _ | ⟨inn, ts6⟩
      · rw [hr] at hh; cases hh
      · rw [hr] at hh
        cases hh
        have hsub := rangesT_sub _ _ _ _ _ _ hr
        exact ⟨fun hp => list_no hl hs _ 97 (by simp) (by decide) (hsub _ hp), fun hp => list_no hl hs _ 111 (by simp) (by decide) (hsub _ hp), fun hp => list_no hl hs _ 59 (by simp) (by decide) (hsub _ hp)⟩

theorem numOk_digits {s : Tok} {n : Int} (h : numOk s n = true) : s.all dig = true := by
  unfold numOk at h
  split at h
  · rename_i e; subst e; decide
  · simp only [Bool.and_eq_true] at h; exact h.1.1

theorem rests_num (k : Nat) (hk : k ≤ 8) (more I : Tok) (hI : I.all dig = true) (hm : more.all dig = true) (hm0 : more ≠ []) (hm1 : more.head? ≠ some 48) (hl1 : more.length ≤ 4000) (hl2 : I.length ≤ 4000) : numOk (moreI k more I) 8192 = true := by
  have hlen : (moreI k more I).length ≤ 8192 := by
    unfold moreI padN
    have : (if I = [48] then [] else I).length ≤ 4000 := by split <;> simp_all
    simp only [List.length_append, List.length_replicate]
    omega
  have hall : (moreI k more I).all dig = true := by
    unfold moreI padN
    have : (if I = [48] then [] else I).all dig = true := by split <;> simp_all
    rw [List.all_append, List.all_append, hm, this, List.all_replicate]
    simp [dig]
  unfold numOk
  split
  · rfl
  · cases more with
    | nil => exact absurd rfl hm0
    | cons d r =>
      have hd : ¬ d = 48 := fun e => hm1 (by rw [e]; rfl)
      have h1 : (moreI k (d :: r) I).isEmpty = false := rfl
      have h2 : ((moreI k (d :: r) I).head? == some 48) = false := by
        show (some d == some 48) = false
        simpa using hd
      rw [hall, h1, h2]
      simp only [Bool.not_false, Bool.and_self, Bool.true_and, decide_eq_true_eq]
      omega

theorem rests_may (k : Nat) (hk : k ≤ 8) (more : Tok) (x : Opr) (hx : mayT x = true) (hm : more.all dig = true) (hm0 : more ≠ []) (hm1 : more.head? ≠ some 48) (hl1 : more.length ≤ 4000) (hl2 : x.I.length ≤ 4000) : mayT { x with I := moreI k more x.I } = true := by
  unfold mayT at hx ⊢
  simp only at hx ⊢
  split at hx
  · cases hx
  · rename_i h
    rw [if_neg h]
    split at hx
    · rename_i h2
      rw [if_pos ⟨rests_num k hk more x.I (numOk_digits h2.1) hm hm0 hm1 hl1 hl2, h2.2⟩]
      exact hx
    · cases hx

/-- the law -/
theorem rests_pick (k : Nat) (hk : 1 ≤ k ∧ k ≤ 8) (c : UInt8) (hc : c = 105 ∨ c = 110) (list more : Tok) (hs : ∀ d ∈ list, listB d = true) (x : Opr) (hx : mayT x = true) (hm : more.all dig = true) (hm0 : more ≠ []) (hm1 : more.head? ≠ some 48) (hl1 : more.length ≤ 4000) (hl2 : x.I.length ≤ 4000) :
    pickAns (fewText k c list) { x with I := moreI k more x.I } = pickAns (fewText k c list) x := by
  unfold pickAns
  rw [rests_may k hk.2 more x hx hm hm0 hm1 hl1 hl2, hx, rests_picked k hk c hc list more hs x]
end Go.Proofs.YtmmlnnbnbgaogaaDoor.Ru
