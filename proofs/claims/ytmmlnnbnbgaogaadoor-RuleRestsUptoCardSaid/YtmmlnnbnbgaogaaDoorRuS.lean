/- RuleBlanks: the walk. -/
import Derived.Test.YtmmlnnbnbgaogaaDoorRuO
import Derived.Test.YtmmlnnbnbgaogaaDoorRuR
import Derived.Laws.OwnMore
import Derived.Laws.IdiomStrings
import Derived.Lib.SmallJoins
namespace Go.Proofs.YtmmlnnbnbgaogaaDoor
open Go.RowKit Ru

theorem wideG_snoc (c : UInt8) : ∀ (l : Tok) (p : Option UInt8), wideG p (l ++ [c]) = wideG p l ++ (if sepB (l.getLast?.or p) c = true then [32, c] else [c])
  | [], p => by simp only [List.nil_append, wideG, List.getLast?_nil, Option.none_or]; rfl
  | d :: r, p => by
    have ih := wideG_snoc c r (some d)
    have hl : (d :: r).getLast?.or p = r.getLast?.or (some d) := by
      cases r with
      | nil => simp
      | cons e q => simp [List.getLast?_cons]
    simp only [List.cons_append, wideG, ih, hl]
    split <;> simp

/-- what has been laid of the wide text behind i bytes -/
def preW (s : Tok) (i : Nat) : Tok := 32 :: wideG none (s.take i)

/-- the byte ahead -/
def lastB (s : Tok) (i : Nat) : Option UInt8 := if i = 0 then none else s[i - 1]?

theorem preW_next (s : Tok) (i : Nat) (h : i < s.length) : preW s (i + 1) = preW s i ++ (if sepB (lastB s i) s[i] = true then [32, s[i]] else [s[i]]) := by
  have hl : (s.take i).getLast?.or none = lastB s i := by
    unfold lastB
    rw [Option.or_none, List.getLast?_eq_getElem?, List.length_take, Nat.min_eq_left (by omega)]
    by_cases h0 : i = 0
    · subst h0; simp
    · rw [if_neg h0, List.getElem?_take, if_pos (by omega)]
  unfold preW
  rw [List.take_succ_eq_append_getElem h, wideG_snoc, hl, List.cons_append]

theorem preW_end (s : Tok) : preW s s.length ++ [32] = wideT s := by
  unfold preW wideT
  rw [List.take_length, List.cons_append]

theorem preW_len (s : Tok) (i : Nat) : (preW s i).length ≤ 2 * s.length + 1 := by
  unfold preW
  have := (wide_len (s.take i) none).2
  simp only [List.length_cons, List.length_take] at this ⊢
  omega

theorem info_u8 : (Tryd.prog.info? 5).map (fun i => (i.zero, i.size, i.bytes)) = some (some (.int .u8 0), 1, 1) := by kernel_rfl

def bytesV (l : Tok) : List Value := l.map fun b => .int .u8 (b.toNat : Int)

/-- between two rounds -/
structure Blk (s : Tok) (x : Opr) (w : World) (i : Nat) (v : Value) (wr : World) : Prop where
  old : w.grownBy wr none
  bx : wr.heap[w.heap.size]? = some (.cells #[.string ⟨x.I.toArray⟩, .int .i64 x.V, .int .i64 x.W, .string ⟨x.F.toArray⟩, .string ⟨x.T.toArray⟩, .int .i64 x.E] 23)
  row : wr.ownsRow (w.heap.size + 1) 5 1 v (preW s i).length (bytesV (preW s i))

def BlkRel (s : Tok) (x : Opr) (w : World) (k : Nat) (s5 s6 : Value) (wr : World) : Prop :=
  ∃ i : Nat, i ≤ s.length ∧ k = s.length - i ∧ s6 = .int .i64 i ∧ Blk s x w i s5 wr

/-- between the two appends of a round -/
structure Mid (s : Tok) (x : Opr) (w : World) (l : Tok) (v : Value) (wr : World) : Prop where
  old : w.grownBy wr none
  bx : wr.heap[w.heap.size]? = some (.cells #[.string ⟨x.I.toArray⟩, .int .i64 x.V, .int .i64 x.W, .string ⟨x.F.toArray⟩, .string ⟨x.T.toArray⟩, .int .i64 x.E] 23)
  row : wr.ownsRow (w.heap.size + 1) 5 1 v l.length (bytesV l)

theorem bytesV_snoc (l : Tok) (c : UInt8) : bytesV l ++ [.int .u8 (c.toNat : Int)] = bytesV (l ++ [c]) := by simp [bytesV]

/-- one byte more -/
theorem Mid.next {s : Tok} {x : Opr} {w wr w1 : World} {l : Tok} {v v' : Value} {o : Obj} (c : UInt8) (h : Mid s x w l v wr)
    (hrow : w1.ownsRow (w.heap.size + 1) 5 1 v' (l.length + 1) (bytesV l ++ [.int .u8 (c.toNat : Int)])) (hg : (wr.alloc o).grownBy w1 v.ownBlock) : Mid s x w (l ++ [c]) v' w1 := by
  have hlt : w.heap.size < wr.heap.size := (Array.getElem?_eq_some_iff.1 h.bx).1
  have hk : ∀ k, k < w.heap.size + 1 → w1.heap[k]? = wr.heap[k]? := fun k hk =>
    (hg.block k (by simp; omega) (own_not _ _ _ _ _ _ _ h.row k hk)).trans (Below.heap_alloc _ _ _ (by omega))
  refine ⟨⟨hg.os.trans h.old.os, hg.tape.trans h.old.tape, hg.output.trans h.old.output, ?_, fun k hk1 _ => (hk k (by omega)).trans (h.old.block k hk1 (by simp))⟩, (hk _ (by omega)).trans h.bx, ?_⟩
  · have := hg.size; have := h.old.size; simp at *; omega
  · rw [bytesV_snoc] at hrow
    rw [List.length_append]
    exact hrow

theorem ownsRow_form' {w : World} {base size n : Nat} {e : TypeId} {v : Value} {xs : List Value} (h : w.ownsRow base e size v n xs) (hn : 0 < n) : ∃ g cap, v = .slice (some ⟨g, 0, none⟩) n cap := by
  rcases h.2 with ⟨_, h0⟩ | ⟨g, cap, cur, rfl, _⟩
  · omega
  · exact ⟨g, cap, rfl⟩

/-- a slice of bytes of the call's own as a text -/
theorem conv_own {w : World} {base g cap : Nat} {l : Tok} (h : w.ownsRow base 5 1 (.slice (some ⟨g, 0, none⟩) l.length cap) l.length (bytesV l)) :
    (convert 24 9 (.slice (some ⟨g, 0, none⟩) l.length cap)).run Tryd.prog w = .ok (.string ⟨l.toArray⟩) w := by
  refine run_convert_bytes_back w _ _ _ _ cap l Tryd.underlying24 Tryd.underlying5 Tryd.underlying9 fun j hj => ?_
  have h1 := h.cellAt j (by omega)
  have hadd : (⟨g, 0, none⟩ : Addr).add j = ⟨g, j, none⟩ := by unfold Addr.add; split <;> simp_all
  rw [hadd, h1]
  simp [bytesV, hj]

theorem u8_nat (c : UInt8) (n : Nat) (h : n < 256) : (c == UInt8.ofNat n) = decide (c.toNat = n) := by
  rw [Bool.eq_iff_iff]
  simp only [beq_iff_eq, decide_eq_true_eq, ← UInt8.toNat_inj, UInt8.toNat_ofNat']
  omega

theorem sep_nat (p : Option UInt8) (c : UInt8) : sepB p c = decide (c.toNat = 58 ∨ c.toNat = 59 ∨ c.toNat = 37 ∨ c.toNat = 44 ∨ c.toNat = 33 ∨ (c.toNat = 61 ∧ ¬ p = some 33)) := by
  have e58 := u8_nat c 58 (by omega)
  have e59 := u8_nat c 59 (by omega)
  have e37 := u8_nat c 37 (by omega)
  have e44 := u8_nat c 44 (by omega)
  have e33 := u8_nat c 33 (by omega)
  have e61 := u8_nat c 61 (by omega)
  have h : sepB p c = (decide (c.toNat = 58) || decide (c.toNat = 59) || decide (c.toNat = 37) || decide (c.toNat = 44) || decide (c.toNat = 33) || (decide (c.toNat = 61) && !(p == some 33))) := by
    rw [← e58, ← e59, ← e37, ← e44, ← e33, ← e61]; rfl
  rw [h, Bool.eq_iff_iff]
  simp only [Bool.or_eq_true, Bool.and_eq_true, decide_eq_true_eq, Bool.not_eq_true', beq_eq_false_iff_ne, ne_eq]
  constructor
  · rintro (((((h | h) | h) | h) | h) | h) <;> simp [h]
  · rintro (h | h | h | h | h | h) <;> simp [h]

theorem sep_zero (s : Tok) (h : 0 < s.length) : sepB (lastB s 0) s[0] = decide (s[0].toNat = 58 ∨ s[0].toNat = 59 ∨ s[0].toNat = 37 ∨ s[0].toNat = 44 ∨ s[0].toNat = 33 ∨ s[0].toNat = 61) := by
  rw [sep_nat]
  simp [lastB]

theorem sep_succ (s : Tok) (m : Nat) (h : m + 1 < s.length) : sepB (lastB s (m + 1)) s[m + 1] = decide (s[m + 1].toNat = 58 ∨ s[m + 1].toNat = 59 ∨ s[m + 1].toNat = 37 ∨ s[m + 1].toNat = 44 ∨ s[m + 1].toNat = 33 ∨ (s[m + 1].toNat = 61 ∧ ¬ s[m].toNat = 33)) := by
  have hl : lastB s (m + 1) = some s[m] := by unfold lastB; rw [if_neg (by omega)]; simp
  have e : (some s[m] = some (33 : UInt8)) = (s[m].toNat = 33) := by
    rw [Option.some.injEq, ← UInt8.toNat_inj]; rfl
  rw [sep_nat]
  simp only [hl, e]

set_option maxRecDepth 20000 in
set_option maxHeartbeats 1000000 in
theorem ruleBlanks_any (s : Tok) (hs : s.length ≤ 1048576) (x : Opr) (hx : x.fits) (w : World) (hE : Env w) :
    Calls Tryd.prog 3 #[.string ⟨s.toArray⟩, .agg #[.string ⟨x.I.toArray⟩, .int .i64 x.V, .int .i64 x.W, .string ⟨x.F.toArray⟩, .string ⟨x.T.toArray⟩, .int .i64 x.E]] w fun e w' => e = .returned (.bool true) ∧ w.grownBy w' none := by
  obtain ⟨i0, hi0, hz0, hz1, hz2⟩ := info_parts info_u8
  go_enter Tryd.func3, Tryd.ntmps3
  go_wp2
  go_loopg [5, 6, 7] s.length (fun k s5 s6 s7 wr => BlkRel s x w k s5 s6 wr)
  case atStart =>
    have h1 := World.ownsRow_lit (base := w.heap.size + 1) (e := 5) (size := 1) (w.alloc (.cells #[.string ⟨x.I.toArray⟩, .int .i64 x.V, .int .i64 x.W, .string ⟨x.F.toArray⟩, .string ⟨x.T.toArray⟩, .int .i64 x.E] 23)) #[.int .u8 32] 1 (by simp) (by decide) rfl
    refine ⟨0, Nat.zero_le _, rfl, rfl, (World.grownBy_alloc w _ none).trans (World.grownBy_alloc _ _ none), (Below.heap_alloc _ _ _ (by simp)).trans (World.alloc_heap_new w _), ?_⟩
    have e0 : preW s 0 = [32] := by simp [preW, wideG]
    rw [e0]
    simpa [bytesV] using h1
  case round =>
    obtain ⟨i, hi, hk, rfl, hB⟩ := hrel
    have hB' : Mid s x w (preW s i) u5 wr := ⟨hB.old, hB.bx, hB.row⟩
    have hsz := hB.old.size
    have hlen := preW_len s i
    have HB := Lib.hid hB'
    clear hB hB'
    by_cases hlt : i < s.length
    · go_upto_region 6 with fail
      go_cut [7, 54] from 19 to 53 (fun s7 s54 wx => wx = wr ∧ s7 = .int .u8 (s[i].toNat : Int) ∧ s54 = .bool (sepB (lastB s i) s[i]))
      case first =>
        have hcb : (({ data := s.toArray } : ByteArray)[i]'hlt).toNat = s[i].toNat := rfl
        by_cases h0 : i = 0
        · subst h0
          have Hcb := Lib.hid hcb
          clear hcb
          go_wp2
          all_goals go_meet
          all_goals (have hcb := Hcb.out; refine ⟨rfl, congrArg _ ?_, congrArg _ ?_⟩)
          all_goals first | omega | (rw [sep_zero s hlt, Bool.eq_iff_iff]; simp only [Bool.or_eq_true, beq_iff_eq, bne_iff_ne, ne_eq, decide_eq_true_eq, true_iff]; omega)
        · obtain ⟨m, rfl⟩ : ∃ m, i = m + 1 := ⟨i - 1, by omega⟩
          have hcm : (({ data := s.toArray } : ByteArray)[m]'(by show m < s.length; omega)).toNat = s[m].toNat := rfl
          have Hcb := Lib.hid hcb
          have Hcm := Lib.hid hcm
          clear hcb hcm
          go_wp2
          all_goals go_meet
          all_goals (have hcb := Hcb.out; have hcm := Hcm.out; refine ⟨rfl, congrArg _ ?_, congrArg _ ?_⟩)
          all_goals first | omega | (rw [sep_succ s m hlt, Bool.eq_iff_iff]; simp only [Bool.or_eq_true, beq_iff_eq, bne_iff_ne, ne_eq, decide_eq_true_eq, true_iff]; omega)
      case rest =>
        obtain ⟨rfl, rfl, rfl⟩ := hcut
        have hnx := preW_next s i hlt
        have hrow := HB.out.row
        have hrowB := hrow.alloc (.cells #[.int .u8 (s[i].toNat : Int)] 5)
        have hnwB := cell_one_new wc (.int .u8 (s[i].toNat : Int)) 5
        have HRB := Lib.hid hrowB
        have HNB := Lib.hid hnwB
        rcases hse : sepB (lastB s i) s[i] with _ | _
        · rw [hse] at hnx
          have HNX := Lib.hid hnx
          clear hnx hse hrow hrowB hnwB
          go_wp2_with (at_builtin; refine wpList_append_own _ rfl (.tmp 58) (.tmp 60) 24 rfl (w.heap.size + 1) 5 i0 (.int .u8 0) 1 1 Tryd.underlying24 hi0 hz0 hz1 hz2 rfl (by decide) _ _ _ rfl HRB.out ⟨wc.heap.size, 0, none⟩ 1 1 [.int .u8 (s[i].toNat : Int)] rfl rfl HNB.out (by simp [Value.oneCell']) (by unfold maxLen; omega) (by omega) (by simp; omega) ?_; intro v1 w1 hrow1 hg1 _)
          have hM := HB.out.next s[i] hrow1 hg1
          have hM2 : Mid s x w (preW s (i + 1)) v1 w1 := by rw [HNX.out, if_neg (by simp)]; exact hM
          clear hrow1 hg1 hM
          go_roundg (gk - 1)
          case measure => omega
          case rel => exact ⟨i + 1, by omega, by omega, by go_num, hM2.old, hM2.bx, hM2.row⟩
        · rw [hse] at hnx
          have HNX := Lib.hid hnx
          have hrowA := hrow.alloc (.cells #[.int .u8 32] 5)
          have hnwA := cell_one_new wc (.int .u8 32) 5
          have HRA := Lib.hid hrowA
          have HNA := Lib.hid hnwA
          clear hnx hse hrow hrowB hnwB hrowA hnwA
          go_upto_region 8 with (at_builtin; refine wpList_append_own _ rfl (.tmp 55) (.tmp 56) 24 rfl (w.heap.size + 1) 5 i0 (.int .u8 0) 1 1 Tryd.underlying24 hi0 hz0 hz1 hz2 rfl (by decide) _ _ _ rfl HRA.out ⟨wc.heap.size, 0, none⟩ 1 1 [.int .u8 32] rfl rfl HNA.out (by simp [Value.oneCell']) (by unfold maxLen; omega) (by omega) (by simp; omega) ?_; intro v0 w0 hrow0 hg0 _)
          have hM0 : Mid s x w (preW s i ++ [32]) v0 w0 := HB.out.next 32 hrow0 hg0
          have hsz0 := hM0.old.size
          have hlen0 : (preW s i ++ [32]).length = (preW s i).length + 1 := by simp
          have HM0 := Lib.hid hM0
          have HRC := Lib.hid (hM0.row.alloc (.cells #[.int .u8 (s[i].toNat : Int)] 5))
          have HNC := Lib.hid (cell_one_new w0 (.int .u8 (s[i].toNat : Int)) 5)
          clear hrow0 hg0 hM0 HRA HNA HRB HNB
          go_wp2_with (at_builtin; refine wpList_append_own _ rfl (.tmp 58) (.tmp 60) 24 rfl (w.heap.size + 1) 5 i0 (.int .u8 0) 1 1 Tryd.underlying24 hi0 hz0 hz1 hz2 rfl (by decide) _ _ _ rfl HRC.out ⟨w0.heap.size, 0, none⟩ 1 1 [.int .u8 (s[i].toNat : Int)] rfl rfl HNC.out (by simp [Value.oneCell']) (by unfold maxLen; omega) (by omega) (by simp; omega) ?_; intro v1 w1 hrow1 hg1 _)
          have hM := HM0.out.next s[i] hrow1 hg1
          have hM2 : Mid s x w (preW s (i + 1)) v1 w1 := by rw [HNX.out]; simpa using hM
          clear hrow1 hg1 hM
          go_roundg (gk - 1)
          case measure => omega
          case rel => exact ⟨i + 1, by omega, by omega, by go_num, hM2.old, hM2.bx, hM2.row⟩
    · obtain rfl : i = s.length := by omega
      have hrow := HB.out.row
      have HRA := Lib.hid (hrow.alloc (.cells #[.int .u8 32] 5))
      have HNA := Lib.hid (cell_one_new wr (.int .u8 32) 5)
      clear hrow
      go_upto_region 10 with (at_builtin; refine wpList_append_own _ rfl (.tmp 62) (.tmp 63) 24 rfl (w.heap.size + 1) 5 i0 (.int .u8 0) 1 1 Tryd.underlying24 hi0 hz0 hz1 hz2 rfl (by decide) _ _ _ rfl HRA.out ⟨wr.heap.size, 0, none⟩ 1 1 [.int .u8 32] rfl rfl HNA.out (by simp [Value.oneCell']) (by unfold maxLen; omega) (by omega) (by simp; omega) ?_; intro v1 w1 hrow1 hg1 _)
      have hM : Mid s x w (wideT s) v1 w1 := by
        have := HB.out.next 32 hrow1 hg1
        rw [preW_end] at this
        exact this
      have hwl : 0 < (wideT s).length := by simp [wideT]
      have hwl2 : (wideT s).length ≤ 2 * s.length + 2 := by have := (wide_len s none).2; simp [wideT]; omega
      obtain ⟨g, cap, rfl⟩ := ownsRow_form' hM.row hwl
      clear hrow1 hg1 HRA HNA
      have hR := hM.row
      have hbl : g < w1.heap.size := by
        rcases hR.2 with ⟨h0, _⟩ | ⟨g', cap', cur, h0, _, hh, _⟩
        · cases h0
        · simp only [Value.slice.injEq, Option.some.injEq, Addr.mk.injEq, and_true, true_and] at h0
          rw [h0.1]; exact (Array.getElem?_eq_some_iff.1 hh).1
      have hE1 := hE.kept hM.old (by simp)
      have hbx : w1.cell? ⟨w.heap.size, 0, none⟩ = some (.string ⟨x.I.toArray⟩) ∧ w1.cell? ⟨w.heap.size, 1, none⟩ = some (.int .i64 x.V) ∧ w1.cell? ⟨w.heap.size, 2, none⟩ = some (.int .i64 x.W) ∧ w1.cell? ⟨w.heap.size, 3, none⟩ = some (.string ⟨x.F.toArray⟩) ∧ w1.cell? ⟨w.heap.size, 4, none⟩ = some (.string ⟨x.T.toArray⟩) ∧ w1.cell? ⟨w.heap.size, 5, none⟩ = some (.int .i64 x.E) := by simp [World.cell?, hM.bx]
      have HM := Lib.hid hM
      have HR := Lib.hid hR
      have HWL := Lib.hid hwl2
      have HE1 := Lib.hid hE1
      have HW := Lib.hid (wide_pick s x)
      clear hM hR hwl hwl2 hE1
      generalize hW : wideT s = W at HM HR HWL HW
      clear hW
      have hs2 : s.length ≤ 140737488351232 := by omega
      have hw2 : W.length ≤ 140737488351232 := by have := HWL.out; omega
      have hgt : 1024 < W.length ∨ (¬ 1024 < W.length ∧ pickAns W x = pickAns s x) := by
        by_cases h : 1024 < W.length
        · exact .inl h
        · exact .inr ⟨h, HW.out (by omega)⟩
      have hcv : ∀ w2 : World, w1.grownBy w2 none → (convert 24 9 (.slice (some ⟨g, 0, none⟩) W.length cap)).run Tryd.prog w2 = .ok (.string ⟨W.toArray⟩) w2 := fun w2 hg => conv_own (HR.out.kept hg (.inr (by simp [Value.ownBlock])))
      have hbx2 : ∀ w2 : World, w1.grownBy w2 none → w2.cell? ⟨w.heap.size, 0, none⟩ = some (.string ⟨x.I.toArray⟩) ∧ w2.cell? ⟨w.heap.size, 1, none⟩ = some (.int .i64 x.V) ∧ w2.cell? ⟨w.heap.size, 2, none⟩ = some (.int .i64 x.W) ∧ w2.cell? ⟨w.heap.size, 3, none⟩ = some (.string ⟨x.F.toArray⟩) ∧ w2.cell? ⟨w.heap.size, 4, none⟩ = some (.string ⟨x.T.toArray⟩) ∧ w2.cell? ⟨w.heap.size, 5, none⟩ = some (.int .i64 x.E) := fun w2 hg => by
        have hb2 := (hg.block _ (Array.getElem?_eq_some_iff.1 HM.out.bx).1 (by simp)).trans HM.out.bx
        simp [World.cell?, hb2]
      have HCV := Lib.hid hcv
      have HBX := Lib.hid hbx2
      clear hcv hbx2
      rcases hgt with hw | ⟨hw, hq⟩
      · go_wp2_with (first
          | (go_at_call 5; (with_reducible refine Calls.mono (pick_any s hs2 x hx _ HE1.out) ?_); rintro e w2 ⟨rfl, hg2⟩; have hcw := HCV.out w2 hg2; have hbw := HBX.out w2 hg2; have hE2 := Lib.hid (HE1.out.kept hg2 (by simp)); clear hbx)
          | (go_at_call 5; (with_reducible refine Calls.mono (pick_any W hw2 x hx _ hE2.out) ?_); rintro e w3 ⟨rfl, hg3⟩; have hE3 := Lib.hid (hE2.out.kept hg3 (by simp)); clear hbw)
          | (go_at_call 6; refine (awake_any _ hE3.out).mono ?_; rintro e w4 ⟨rfl, hg4⟩))
        go_ret
        exact ⟨rfl, HM.out.old.trans (hg2.trans (hg3.trans hg4))⟩
      · have HQ := Lib.hid hq
        clear hq
        go_wp2_with (first
          | (go_at_call 5; (with_reducible refine Calls.mono (pick_any s hs2 x hx _ HE1.out) ?_); rintro e w2 ⟨rfl, hg2⟩; have hcw := HCV.out w2 hg2; have hbw := HBX.out w2 hg2; have hE2 := Lib.hid (HE1.out.kept hg2 (by simp)); clear hbx)
          | (go_at_call 5; (with_reducible refine Calls.mono (pick_any W hw2 x hx _ hE2.out) ?_); rintro e w3 ⟨rfl, hg3⟩; rw [HQ.out]; have hE3 := Lib.hid (hE2.out.kept hg3 (by simp)); clear hbw)
          | (go_at_call 6; refine (awake_any _ hE3.out).mono ?_; rintro e w4 ⟨rfl, hg4⟩))
        go_ret
        exact ⟨rfl, HM.out.old.trans (hg2.trans (hg3.trans hg4))⟩
end Go.Proofs.YtmmlnnbnbgaogaaDoor
