/- Plain functions: the tables of ranges. -/
import Derived.Test.YtmmlnnbnbgaogaaDoorRuP
namespace Go.Proofs.YtmmlnnbnbgaogaaDoor.Ru

/-- a table with one entry more -/
def upT (T : Nat → Int) (n : Nat) (v : Int) : Nat → Int := fun k => if k = n then v else T k

/-- the entries of a table, from one on -/
def entT : Nat → (Nat → Int) → List Tok → Option (Nat → Int)
  | 0, _, _ => none
  | f + 1, T, ts =>
    match catT ts with
    | none => none
    | some (a, ts1) =>
      match takeT [43] ts1 with
      | (false, _) => none
      | (true, ts2) =>
        match catT ts2 with
        | none => none
        | some (b, ts3) =>
          match takeT [58] ts3 with
          | (false, _) => none
          | (true, ts4) =>
            if T (6 * a.toNat + b.toNat) = 0 then
              match catT ts4 with
              | none => none
              | some (c, ts5) =>
                match takeT [59] ts5 with
                | (true, ts6) => entT f (upT T (6 * a.toNat + b.toNat) (1 + c)) ts6
                | (false, ts6) => if ts6 = [] then some (upT T (6 * a.toNat + b.toNat) (1 + c)) else none
            else none

theorem ent_step {k : Nat} {T : Nat → Int} {a b c : Int} {ts ts1 ts2 ts3 ts4 ts5 ts6 : List Tok} {y : Bool} {R : Option (Nat → Int)} (hk : ts.length ≤ k) (HR : entT (k + 1) T ts = R)
    (e1 : catT ts = some (a, ts1)) (e2 : takeT [43] ts1 = (true, ts2)) (e3 : catT ts2 = some (b, ts3)) (e4 : takeT [58] ts3 = (true, ts4)) (h0 : T (6 * a.toNat + b.toNat) = 0) (e5 : catT ts4 = some (c, ts5)) (e6 : takeT [59] ts5 = (y, ts6)) :
    k - 1 < k ∧ ((y = true ∧ ts6.length ≤ k - 1 ∧ entT (k - 1 + 1) (upT T (6 * a.toNat + b.toNat) (1 + c)) ts6 = R) ∨ (y = false ∧ R = if ts6 = [] then some (upT T (6 * a.toNat + b.toNat) (1 + c)) else none)) := by
  have h1 := (catT_in e1).2
  have h2 := takeT_ne (p := [43]) (ts := ts1)
  have h3 := (catT_in e3).2
  have h4 := takeT_ne (p := [58]) (ts := ts3)
  have h5 := (catT_in e5).2
  have h6 := takeT_ne (p := [59]) (ts := ts5)
  rw [e2] at h2
  rw [e4] at h4
  rw [e6] at h6
  simp only at h2 h4 h6
  have hg : k - 1 + 1 = k := by omega
  unfold entT at HR
  simp only [e1, e2, e3, e4, h0, e5, e6, if_true] at HR
  refine ⟨by omega, ?_⟩
  cases y
  · exact .inr ⟨rfl, HR.symm⟩
  · exact .inl ⟨rfl, by omega, by rw [hg]; exact HR⟩

def zeroT : Nat → Int := fun _ => 0

/-- what the tokens say -/
def entsT (ts : List Tok) : Option (Nat → Int) := if ts = [] then some zeroT else entT (ts.length + 1) zeroT ts

/-- the table of a text, and what is wrong with it -/
def entAns (s : Tok) : Int × (Nat → Int) :=
  if 1024 < s.length then (91, zeroT) else
  match toksT s with
  | none => (90, zeroT)
  | some ts => match entsT ts with
    | none => (90, zeroT)
    | some T => (0, T)

/-- the category of a range -/
def rangeAns (s : Tok) (a b : Int) : Int × Int :=
  if (entAns s).1 ≠ 0 then (0, (entAns s).1)
  else if a < 0 ∨ 6 ≤ a ∨ b < 0 ∨ 6 ≤ b then (0, 1)
  else if 0 < (entAns s).2 (6 * a.toNat + b.toNat) then ((entAns s).2 (6 * a.toNat + b.toNat) - 1, 0)
  else (b, 0)
end Go.Proofs.YtmmlnnbnbgaogaaDoor.Ru
