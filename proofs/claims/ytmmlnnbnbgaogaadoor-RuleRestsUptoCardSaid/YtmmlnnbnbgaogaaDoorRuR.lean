/- Plain law: blanks between the parts make no difference. -/
import Derived.Test.YtmmlnnbnbgaogaaDoorRuP
namespace Go.Proofs.YtmmlnnbnbgaogaaDoor.Ru

/-- ahead of such a byte the law lays a blank -/
def sepB (p : Option UInt8) (c : UInt8) : Bool :=
  c == 58 || c == 59 || c == 37 || c == 44 || c == 33 || (c == 61 && !(p == some 33))

def wideG : Option UInt8 → Tok → Tok
  | _, [] => []
  | p, c :: r => if sepB p c = true then 32 :: c :: wideG (some c) r else c :: wideG (some c) r

def wideT (s : Tok) : Tok := 32 :: (wideG none s ++ [32])

def isB (c : UInt8) : Bool := c == 32

theorem trim_eq (s : Tok) : Lib.trimLeftS s [32] = s.dropWhile isB := by
  unfold Lib.trimLeftS
  congr 1
  funext c
  simp [isB, List.contains, List.elem]
  cases h : c == 32 <;> simp_all

theorem wide_trim : ∀ (s : Tok) (p : Option UInt8), (s.dropWhile isB = [] ∧ (wideG p s ++ [32]).dropWhile isB = []) ∨
    ∃ c r, isB c = false ∧ s.dropWhile isB = c :: r ∧ (wideG p s ++ [32]).dropWhile isB = c :: (wideG (some c) r ++ [32])
  | [], p => .inl ⟨rfl, rfl⟩
  | c :: r, p => by
    by_cases hc : isB c = true
    · have h32 : c = 32 := by simpa [isB] using hc
      subst h32
      have hs : sepB p 32 = false := by simp [sepB]
      rcases wide_trim r (some 32) with ⟨h1, h2⟩ | ⟨d, q, h0, h1, h2⟩
      · left
        simp only [wideG, hs, Bool.false_eq_true, if_false, List.cons_append, List.dropWhile_cons, hc, if_true]
        exact ⟨h1, h2⟩
      · right
        refine ⟨d, q, h0, ?_, ?_⟩
        · simp only [List.dropWhile_cons, hc, if_true]; exact h1
        · simp only [wideG, hs, Bool.false_eq_true, if_false, List.cons_append, List.dropWhile_cons, hc, if_true]; exact h2
    · have hc' : isB c = false := by simpa using hc
      right
      refine ⟨c, r, hc', by simp [hc'], ?_⟩
      have h32 : isB 32 = true := rfl
      by_cases hs : sepB p c = true
      · simp only [wideG, hs, if_true, List.cons_append, List.dropWhile_cons, h32, hc', Bool.false_eq_true, if_false]
      · simp only [wideG, hs, List.cons_append, List.dropWhile_cons, hc', Bool.false_eq_true, if_false]

/-- a class of bytes ahead of which no blank is laid -/
structure Plain (P : UInt8 → Bool) : Prop where
  b : P 32 = false
  s : ∀ p c, P c = true → sepB p c = false

theorem wide_while {P : UInt8 → Bool} (hP : Plain P) : ∀ (s : Tok) (p : Option UInt8), (wideG p s ++ [32]).takeWhile P = s.takeWhile P ∧
    ∃ p', (wideG p s ++ [32]).drop (s.takeWhile P).length = wideG p' (s.drop (s.takeWhile P).length) ++ [32]
  | [], p => ⟨by simp [wideG, hP.b], p, by simp [wideG]⟩
  | c :: r, p => by
    by_cases hc : P c = true
    · have hs := hP.s p c hc
      obtain ⟨h1, p', h2⟩ := wide_while hP r (some c)
      refine ⟨?_, p', ?_⟩
      · simp only [wideG, hs, Bool.false_eq_true, if_false, List.cons_append, List.takeWhile_cons, hc, if_true, h1]
      · simp only [wideG, hs, Bool.false_eq_true, if_false, List.cons_append, List.takeWhile_cons, hc, if_true, List.length_cons, List.drop_succ_cons]
        exact h2
    · have hc' : P c = false := by simpa using hc
      refine ⟨?_, p, by simp [hc']⟩
      by_cases hs : sepB p c = true
      · simp [wideG, hs, hc', hP.b]
      · simp [wideG, hs, hc']

/-- the same of a text that does not begin with a blank -/
theorem wide_while_at {P : UInt8 → Bool} (hP : Plain P) (c : UInt8) (r : Tok) : (c :: (wideG (some c) r ++ [32])).takeWhile P = (c :: r).takeWhile P ∧
    (0 < ((c :: r).takeWhile P).length → ∃ p', (c :: (wideG (some c) r ++ [32])).drop ((c :: r).takeWhile P).length = wideG p' ((c :: r).drop ((c :: r).takeWhile P).length) ++ [32]) := by
  obtain ⟨h1, p', h2⟩ := wide_while hP r (some c)
  by_cases hc : P c = true
  · refine ⟨by simp only [List.takeWhile_cons, hc, if_true, h1], fun _ => ⟨p', ?_⟩⟩
    simp only [List.takeWhile_cons, hc, if_true, List.length_cons, List.drop_succ_cons]
    exact h2
  · have hc' : P c = false := by simpa using hc
    exact ⟨by simp [hc'], fun h => by simp [hc'] at h⟩

def lowP (c : UInt8) : Bool := lowers.contains c
def digP (c : UInt8) : Bool := digits.contains c

theorem trim_set (s cs : Tok) : s.length - (Lib.trimLeftS s cs).length = (s.takeWhile cs.contains).length := by
  have h : Lib.trimLeftS s cs = s.dropWhile cs.contains := by unfold Lib.trimLeftS; rfl
  rw [h]
  have := congrArg List.length (List.takeWhile_append_dropWhile (p := cs.contains) (l := s))
  rw [List.length_append] at this
  omega

theorem plain_low : Plain lowers.contains := by
  refine ⟨by decide, fun p c h => ?_⟩
  have hne : c ≠ 58 ∧ c ≠ 59 ∧ c ≠ 37 ∧ c ≠ 44 ∧ c ≠ 33 ∧ c ≠ 61 := by
    refine ⟨?_, ?_, ?_, ?_, ?_, ?_⟩ <;> (rintro rfl; revert h; decide)
  simp [sepB, hne.1, hne.2.1, hne.2.2.1, hne.2.2.2.1, hne.2.2.2.2.1, hne.2.2.2.2.2]

theorem plain_dig : Plain digits.contains := by
  refine ⟨by decide, fun p c h => ?_⟩
  have hne : c ≠ 58 ∧ c ≠ 59 ∧ c ≠ 37 ∧ c ≠ 44 ∧ c ≠ 33 ∧ c ≠ 61 := by
    refine ⟨?_, ?_, ?_, ?_, ?_, ?_⟩ <;> (rintro rfl; revert h; decide)
  simp [sepB, hne.1, hne.2.1, hne.2.2.1, hne.2.2.2.1, hne.2.2.2.2.1, hne.2.2.2.2.2]

theorem take_while {P : UInt8 → Bool} (s : Tok) : s.take (s.takeWhile P).length = s.takeWhile P :=
  (List.prefix_iff_eq_take.1 (List.takeWhile_prefix P)).symm

theorem pre_two (c : UInt8) (X : Tok) (a b : UInt8) : Lib.hasPrefix (c :: X) [a, b] = ((a == c) && (X.head? == some b)) := by
  unfold Lib.hasPrefix
  cases X with
  | nil => simp [List.isPrefixOf]
  | cons d q =>
    simp only [List.isPrefixOf, List.head?_cons, Bool.and_true]
    congr 1
    by_cases h : b = d
    · subst h; simp
    · have h2 : ¬ d = b := fun e => h e.symm
      rw [beq_eq_false_iff_ne.2 h]; simp [h2]

/-- the parts of two signs -/
theorem wide_two (c : UInt8) (r : Tok) (a b : UInt8) (hs : sepB (some a) b = false) (hb : b ≠ 32) : Lib.hasPrefix (c :: (wideG (some c) r ++ [32])) [a, b] = Lib.hasPrefix (c :: r) [a, b] ∧
    (Lib.hasPrefix (c :: r) [a, b] = true → (c :: (wideG (some c) r ++ [32])).take 2 = (c :: r).take 2 ∧ ∃ p', (c :: (wideG (some c) r ++ [32])).drop 2 = wideG p' ((c :: r).drop 2) ++ [32]) := by
  have hb2 : ¬ (32 : UInt8) = b := fun e => hb e.symm
  rw [pre_two, pre_two]
  by_cases hac : a = c
  · subst hac
    cases r with
    | nil => simp [wideG, hb2]
    | cons d q =>
      by_cases hd : d = b
      · subst hd
        simp [wideG, hs]
        exact ⟨_, rfl⟩
      · by_cases hsd : sepB (some a) d = true
        · have e1 : (32 == b) = false := beq_eq_false_iff_ne.2 hb2
          have e2 : (d == b) = false := beq_eq_false_iff_ne.2 hd
          simp [wideG, hsd, e1, e2, hd]
        · simp [wideG, hsd, hd]
  · have e1 : (a == c) = false := beq_eq_false_iff_ne.2 hac
    simp [e1]

/-- the first part, and what follows it, are the same -/
theorem wide_part (c : UInt8) (r : Tok) : partLen (c :: (wideG (some c) r ++ [32])) = partLen (c :: r) ∧
    ∀ n, partLen (c :: r) = some n → (c :: (wideG (some c) r ++ [32])).take n = (c :: r).take n ∧ ∃ p', (c :: (wideG (some c) r ++ [32])).drop n = wideG p' ((c :: r).drop n) ++ [32] := by
  obtain ⟨l1, l2⟩ := wide_while_at plain_low c r
  obtain ⟨d1, d2⟩ := wide_while_at plain_dig c r
  have hrun : runLen (c :: (wideG (some c) r ++ [32])) = runLen (c :: r) := by
    unfold runLen
    simp only [trim_set, l1, d1]
  by_cases h0 : 0 < runLen (c :: r)
  · have e1 : partLen (c :: (wideG (some c) r ++ [32])) = some (runLen (c :: r)) := by unfold partLen; rw [hrun, if_pos h0]
    have e2 : partLen (c :: r) = some (runLen (c :: r)) := by unfold partLen; rw [if_pos h0]
    refine ⟨e1.trans e2.symm, fun n hn => ?_⟩
    obtain rfl : runLen (c :: r) = n := by rw [e2] at hn; exact Option.some.inj hn
    unfold runLen at h0 ⊢
    simp only [trim_set] at h0 ⊢
    split at h0
    · rename_i hz
      rw [if_pos hz]
      exact ⟨by rw [take_while, ← d1, take_while], d2 h0⟩
    · rename_i hz
      rw [if_neg hz]
      exact ⟨by rw [take_while, ← l1, take_while], l2 h0⟩
  · have hr0 : ¬ 0 < runLen (c :: (wideG (some c) r ++ [32])) := by rw [hrun]; exact h0
    obtain ⟨a1, a2⟩ := wide_two c r 33 61 (by decide) (by decide)
    obtain ⟨b1, b2⟩ := wide_two c r 46 46 (by decide) (by decide)
    unfold partLen
    rw [if_neg hr0, if_neg h0, a1, b1]
    by_cases hp : Lib.hasPrefix (c :: r) [33, 61] = true ∨ Lib.hasPrefix (c :: r) [46, 46] = true
    · rw [if_pos hp, if_pos hp]
      refine ⟨rfl, fun n hn => ?_⟩
      obtain rfl : 2 = n := Option.some.inj hn
      rcases hp with hp | hp
      · exact a2 hp
      · exact b2 hp
    · rw [if_neg hp, if_neg hp]
      refine ⟨rfl, fun n hn => ?_⟩
      unfold markLen at hn
      split at hn
      · rename_i he; cases he
      · rename_i c' _ he
        split at hn
        · obtain rfl : 1 = n := Option.some.inj hn
          exact ⟨by simp, some c, by simp⟩
        · cases hn

theorem wide_parts : ∀ (f : Nat) (s : Tok) (p : Option UInt8) (f' : Nat), s.length < f → (wideG p s ++ [32]).length < f' → partsT f' (wideG p s ++ [32]) = partsT f s
  | 0, s, p, f', h, _ => by omega
  | f + 1, s, p, 0, _, h => by omega
  | f + 1, s, p, f' + 1, h, h' => by
    unfold partsT
    simp only [trim_eq]
    rcases wide_trim s p with ⟨h1, h2⟩ | ⟨c, r, hc, h1, h2⟩
    · rw [h1, h2]; rfl
    · rw [h1, h2]
      obtain ⟨e1, e2⟩ := wide_part c r
      rw [e1]
      rcases hp : partLen (c :: r) with _ | n
      · rfl
      · obtain ⟨t1, p', t2⟩ := e2 n hp
        have hpos := partLen_pos hp (by simp)
        have hl1 : (s.dropWhile isB).length ≤ s.length := (List.dropWhile_suffix _).length_le
        have hl2 : ((wideG p s ++ [32]).dropWhile isB).length ≤ (wideG p s ++ [32]).length := (List.dropWhile_suffix _).length_le
        rw [h1] at hl1
        rw [h2] at hl2
        have hd : ((c :: r).drop n).length < f := by rw [List.length_drop]; simp only [List.length_cons] at hl1 ⊢; omega
        have hd2 : (wideG p' ((c :: r).drop n) ++ [32]).length < f' := by rw [← t2, List.length_drop]; simp only [List.length_cons] at hl2 ⊢; omega
        simp only [t1, t2, reduceCtorEq, if_false]
        rw [wide_parts f _ p' f' hd hd2]

theorem wide_toks (s : Tok) : toksT (wideT s) = toksT s := by
  unfold toksT
  have h := wide_parts (s.length + 1) s none ((wideT s).length + 1) (by omega) (by unfold wideT; simp)
  rw [← h]
  unfold partsT
  simp only [trim_eq]
  have : (wideT s).dropWhile isB = (wideG none s ++ [32]).dropWhile isB := by
    unfold wideT; rw [List.dropWhile_cons, if_pos (show isB 32 = true from rfl)]
  rw [this]

theorem wide_len : ∀ (s : Tok) (p : Option UInt8), s.length ≤ (wideG p s).length ∧ (wideG p s).length ≤ 2 * s.length
  | [], _ => by simp [wideG]
  | c :: r, p => by
    have := wide_len r (some c)
    unfold wideG
    split <;> (simp only [List.length_cons]; omega)

theorem wide_picked (s : Tok) (x : Opr) (h : (wideT s).length ≤ 1024) : pickedT (wideT s) x = pickedT s x := by
  have h2 := (wide_len s none).1
  have h3 : (wideT s).length = (wideG none s).length + 2 := by simp [wideT]
  unfold pickedT
  rw [if_neg (by omega), if_neg (by omega), wide_toks]

theorem wide_pick (s : Tok) (x : Opr) (h : (wideT s).length ≤ 1024) : pickAns (wideT s) x = pickAns s x := by
  unfold pickAns
  rw [wide_picked s zeroX h, wide_picked s x h]
end Go.Proofs.YtmmlnnbnbgaogaaDoor.Ru
