/- quipuref08.number and May: the same as operand's. -/
import Derived.Test.YtmmlnnbnbgaogaaDoorRuO
import Derived.Test.YtmmlnnbnbgaogaaDoorRuW
import Derived.Test.YtmmlnnbnbgaogaaDoorRuS
import Derived.Test.YtmmlnnbnbgaogaaDoorRm
namespace Go.Proofs.YtmmlnnbnbgaogaaDoor
open Go.RowKit Ru

theorem all_snoc (s : Tok) (i : Nat) (h : i < s.length) (h1 : (s.take i).all dig = true) (h2 : dig s[i] = true) : (s.take (i + 1)).all dig = true := by
  rw [List.take_succ_eq_append_getElem h, List.all_append, h1]
  simp [h2]

theorem all_not (s : Tok) (i : Nat) (h : i < s.length) (h2 : dig s[i] = false) : s.all dig = false := by
  rw [List.all_eq_false]
  exact ⟨s[i], List.getElem_mem h, by simp [h2]⟩

set_option maxRecDepth 20000 in
set_option maxHeartbeats 1000000 in
theorem refnum_any (s : Tok) (hs : s.length ≤ 140737488351232) (most : Int) (w : World) :
    Calls Tryd.prog 13 #[.string ⟨s.toArray⟩, .int .i64 most] w fun e w' => e = .returned (.bool (numOk s most)) ∧ w = w' := by
  by_cases h0 : s = [48]
  · subst h0
    go_enter Tryd.func13, Tryd.ntmps13
    go_wp2
    go_ret
    exact ⟨rfl, rfl⟩
  · have hn : numOk s most = (s.all dig && (!s.isEmpty && !(s.head? == some 48)) && decide ((s.length : Int) ≤ most)) := by unfold numOk; rw [if_neg h0]
    have hb0 : (s == [48]) = false := by simpa using h0
    have HN := Lib.hid hn
    clear hn h0
    go_enter Tryd.func13, Tryd.ntmps13
    go_wp2
    go_loop [5] (fun i => ∃ k : Nat, k ≤ s.length ∧ i = .int .i64 k ∧ Hid ((s.take k).all dig = true)) (fun i => s.length - (intOf i).toNat)
    case atStart => exact ⟨0, Nat.zero_le _, rfl, rfl⟩
    case round =>
      obtain ⟨k, hk, rfl, hall⟩ := hrel
      by_cases hlt : k < s.length
      · have hcb : (({ data := s.toArray } : ByteArray)[k]'hlt).toNat = s[k].toNat := rfl
        have Hcb := Lib.hid hcb
        clear hcb
        go_wp2
        · go_ret
          have hcb := Hcb.out
          exact ⟨ret_bool (by rw [HN.out, all_not s k hlt (by unfold dig; simp only [Bool.and_eq_false_iff, decide_eq_false_iff_not]; omega)]; rfl), rfl⟩
        · have hcb := Hcb.out
          exact ⟨⟨k + 1, by omega, by go_num, all_snoc s k hlt hall.out (by unfold dig; simp only [Bool.and_eq_true, decide_eq_true_eq]; omega)⟩, by simp [intOf]; omega⟩
        · go_ret
          have hcb := Hcb.out
          exact ⟨ret_bool (by rw [HN.out, all_not s k hlt (by unfold dig; simp only [Bool.and_eq_false_iff, decide_eq_false_iff_not]; omega)]; rfl), rfl⟩
      · have hal : s.all dig = true := by
          have := hall.out
          rwa [List.take_of_length_le (by omega)] at this
        have HAL := Lib.hid hal
        clear hal
        have hcb : ∀ h : 0 < s.length, (({ data := s.toArray } : ByteArray)[0]'h).toNat = s[0].toNat := fun _ => rfl
        have hhd : ∀ h : 0 < s.length, s.head? = some s[0] := fun h => by cases s with
          | nil => simp at h
          | cons d r => rfl
        have Hcb := Lib.hid hcb
        have HHD := Lib.hid hhd
        clear hcb hhd
        go_wp2
        · go_ret
          exact ⟨ret_bool (by simp [numOk]), rfl⟩
        · go_ret
          rename_i hpos h48
          have e := Hcb.out hpos
          have e2 : s[0] = 48 := by rw [← UInt8.toNat_inj]; show _ = 48; omega
          exact ⟨ret_bool (by rw [HN.out, HHD.out hpos, e2]; simp), rfl⟩
        · go_ret
          rename_i hne hpos h48
          have e := Hcb.out hpos
          have e2 : (s[0] == 48) = false := by
            refine beq_eq_false_iff_ne.2 fun he => h48 ?_
            rw [e, he]; rfl
          have e3 : ((({ data := s.toArray } : ByteArray)[0]'hpos).toNat : Int) ≠ 48 := h48
          have e4 : (((({ data := s.toArray } : ByteArray)[0]'hpos).toNat : Int) != 48) = true := by simpa using e3
          have e5 : (some s[0] == some (48 : UInt8)) = false := e2
          exact ⟨ret_bool (by rw [HN.out, HAL.out, HHD.out hpos, e4, e5]; simp), rfl⟩
        · exact absurd (List.length_pos_iff.2 (show s ≠ [] by assumption)) (show ¬ 0 < s.length by assumption)

set_option maxRecDepth 20000 in
set_option maxHeartbeats 1000000 in
theorem refmay_r1 (x : Opr) (h1 : x.V < 0) (w : World) :
    Calls Tryd.prog 7 #[.agg #[.string ⟨x.I.toArray⟩, .int .i64 x.V, .int .i64 x.W, .string ⟨x.F.toArray⟩, .string ⟨x.T.toArray⟩, .int .i64 x.E]] w (MayPost x w) := by
  have hm : mayT x = false := by unfold mayT; rw [if_pos (by omega)]
  have HM := Lib.hid hm
  clear hm
  go_enter Tryd.func7, Tryd.ntmps7
  go_wp2
  go_ret
  exact ⟨ret_bool HM.out.symm, World.grownBy_alloc w _ none⟩

set_option maxRecDepth 20000 in
set_option maxHeartbeats 1000000 in
theorem refmay_r2 (x : Opr) (h1 : ¬ x.V < 0) (h2 : 8192 < x.V) (w : World) :
    Calls Tryd.prog 7 #[.agg #[.string ⟨x.I.toArray⟩, .int .i64 x.V, .int .i64 x.W, .string ⟨x.F.toArray⟩, .string ⟨x.T.toArray⟩, .int .i64 x.E]] w (MayPost x w) := by
  have hm : mayT x = false := by unfold mayT; rw [if_pos (by omega)]
  have HM := Lib.hid hm
  clear hm
  go_enter Tryd.func7, Tryd.ntmps7
  go_wp2
  go_ret
  exact ⟨ret_bool HM.out.symm, World.grownBy_alloc w _ none⟩

set_option maxRecDepth 20000 in
set_option maxHeartbeats 1000000 in
theorem refmay_r3 (x : Opr) (h1 : ¬ x.V < 0) (h2 : ¬ 8192 < x.V) (h3 : x.W < 0) (w : World) :
    Calls Tryd.prog 7 #[.agg #[.string ⟨x.I.toArray⟩, .int .i64 x.V, .int .i64 x.W, .string ⟨x.F.toArray⟩, .string ⟨x.T.toArray⟩, .int .i64 x.E]] w (MayPost x w) := by
  have hm : mayT x = false := by unfold mayT; rw [if_pos (by omega)]
  have HM := Lib.hid hm
  clear hm
  go_enter Tryd.func7, Tryd.ntmps7
  go_wp2
  go_ret
  exact ⟨ret_bool HM.out.symm, World.grownBy_alloc w _ none⟩

set_option maxRecDepth 20000 in
set_option maxHeartbeats 1000000 in
theorem refmay_r4 (x : Opr) (h1 : ¬ x.V < 0) (h2 : ¬ 8192 < x.V) (h3 : ¬ x.W < 0) (h4 : x.V < x.W) (w : World) :
    Calls Tryd.prog 7 #[.agg #[.string ⟨x.I.toArray⟩, .int .i64 x.V, .int .i64 x.W, .string ⟨x.F.toArray⟩, .string ⟨x.T.toArray⟩, .int .i64 x.E]] w (MayPost x w) := by
  have hm : mayT x = false := by unfold mayT; rw [if_pos (by omega)]
  have HM := Lib.hid hm
  clear hm
  go_enter Tryd.func7, Tryd.ntmps7
  go_wp2
  go_ret
  exact ⟨ret_bool HM.out.symm, World.grownBy_alloc w _ none⟩

set_option maxRecDepth 20000 in
set_option maxHeartbeats 1000000 in
theorem refmay_r5 (x : Opr) (h1 : ¬ x.V < 0) (h2 : ¬ 8192 < x.V) (h3 : ¬ x.W < 0) (h4 : ¬ x.V < x.W) (h5 : x.E < 0) (w : World) :
    Calls Tryd.prog 7 #[.agg #[.string ⟨x.I.toArray⟩, .int .i64 x.V, .int .i64 x.W, .string ⟨x.F.toArray⟩, .string ⟨x.T.toArray⟩, .int .i64 x.E]] w (MayPost x w) := by
  have hm : mayT x = false := by unfold mayT; rw [if_pos (by omega)]
  have HM := Lib.hid hm
  clear hm
  go_enter Tryd.func7, Tryd.ntmps7
  go_wp2
  go_ret
  exact ⟨ret_bool HM.out.symm, World.grownBy_alloc w _ none⟩

set_option maxRecDepth 20000 in
set_option maxHeartbeats 1000000 in
theorem refmay_r6 (x : Opr) (h1 : ¬ x.V < 0) (h2 : ¬ 8192 < x.V) (h3 : ¬ x.W < 0) (h4 : ¬ x.V < x.W) (h5 : ¬ x.E < 0) (h6 : 8192 < x.E) (w : World) :
    Calls Tryd.prog 7 #[.agg #[.string ⟨x.I.toArray⟩, .int .i64 x.V, .int .i64 x.W, .string ⟨x.F.toArray⟩, .string ⟨x.T.toArray⟩, .int .i64 x.E]] w (MayPost x w) := by
  have hm : mayT x = false := by unfold mayT; rw [if_pos (by omega)]
  have HM := Lib.hid hm
  clear hm
  go_enter Tryd.func7, Tryd.ntmps7
  go_wp2
  go_ret
  exact ⟨ret_bool HM.out.symm, World.grownBy_alloc w _ none⟩


def padded (x : Opr) (j : Nat) : Tok := x.T ++ List.replicate j 48

theorem padded_next (x : Opr) (j : Nat) : padded x (j + 1) = padded x j ++ [48] := by
  unfold padded
  rw [List.append_assoc, ← List.replicate_succ']

/-- between two rounds -/
structure Pad (x : Opr) (w : World) (l : Tok) (v : Value) (wr : World) : Prop where
  old : w.grownBy wr none
  bx : wr.heap[w.heap.size]? = some (.cells #[.string ⟨x.I.toArray⟩, .int .i64 x.V, .int .i64 x.W, .string ⟨x.F.toArray⟩, .string ⟨x.T.toArray⟩, .int .i64 x.E] 23)
  row : ownsM wr (w.heap.size + 1) 5 1 v l.length (bytesV l)

theorem Pad.next {x : Opr} {w wr w1 : World} {l : Tok} {v v' : Value} {o : Obj} (c : UInt8) (h : Pad x w l v wr)
    (hrow : ownsM w1 (w.heap.size + 1) 5 1 v' (l.length + 1) (bytesV l ++ [.int .u8 (c.toNat : Int)])) (hg : (wr.alloc o).grownBy w1 v.ownBlock) : Pad x w (l ++ [c]) v' w1 := by
  have hlt : w.heap.size < wr.heap.size := (Array.getElem?_eq_some_iff.1 h.bx).1
  have hk : ∀ k, k < w.heap.size + 1 → w1.heap[k]? = wr.heap[k]? := fun k hk =>
    (hg.block k (by simp; omega) (fun e => by have := h.row.lt k e.symm; omega)).trans (Below.heap_alloc _ _ _ (by omega))
  refine ⟨⟨hg.os.trans h.old.os, hg.tape.trans h.old.tape, hg.output.trans h.old.output, ?_, fun k hk1 _ => (hk k (by omega)).trans (h.old.block k hk1 (by simp))⟩, (hk _ (by omega)).trans h.bx, ?_⟩
  · have := hg.size; have := h.old.size; simp at *; omega
  · rw [bytesV_snoc] at hrow
    rw [List.length_append]
    exact hrow

theorem bytes_grown (w : World) (e : TypeId) (s : ByteArray) : w.grownBy (Lib.bytesWorld w e s) none :=
  ⟨rfl, rfl, rfl, by rw [Lib.bytesWorld_size]; omega, fun k hk _ => Lib.bytesWorld_at_old w e s k hk⟩

theorem pad_start (x : Opr) (hx : x.T.length ≤ 8192) (w : World) :
    Pad x w x.T (.slice (some ⟨w.heap.size + 1, 0, none⟩) x.T.length (grownCap (w.alloc (.cells #[.string ⟨x.I.toArray⟩, .int .i64 x.V, .int .i64 x.W, .string ⟨x.F.toArray⟩, .string ⟨x.T.toArray⟩, .int .i64 x.E] 23)) x.T.length 0 5))
      (Lib.bytesWorld (w.alloc (.cells #[.string ⟨x.I.toArray⟩, .int .i64 x.V, .int .i64 x.W, .string ⟨x.F.toArray⟩, .string ⟨x.T.toArray⟩, .int .i64 x.E] 23)) 5 ⟨x.T.toArray⟩) := by
  have hsz : (w.alloc (.cells #[.string ⟨x.I.toArray⟩, .int .i64 x.V, .int .i64 x.W, .string ⟨x.F.toArray⟩, .string ⟨x.T.toArray⟩, .int .i64 x.E] 23)).heap.size = w.heap.size + 1 := by simp
  refine ⟨(World.grownBy_alloc w _ none).trans (bytes_grown _ _ _), (Lib.bytesWorld_at_old _ _ _ _ (by rw [hsz]; omega)).trans (World.alloc_heap_new w _), ?_⟩
  have := ownsM_bytes (w.alloc (.cells #[.string ⟨x.I.toArray⟩, .int .i64 x.V, .int .i64 x.W, .string ⟨x.F.toArray⟩, .string ⟨x.T.toArray⟩, .int .i64 x.E] 23)) 5 ⟨x.T.toArray⟩ (w.heap.size + 1) (by rw [hsz]; omega) (by show x.T.length ≤ maxLen; unfold maxLen; omega)
  rw [hsz] at this
  exact this

theorem conv_ownM {w : World} {base g cap : Nat} {l : Tok} (h : ownsM w base 5 1 (.slice (some ⟨g, 0, none⟩) l.length cap) l.length (bytesV l)) :
    (convert 24 9 (.slice (some ⟨g, 0, none⟩) l.length cap)).run Tryd.prog w = .ok (.string ⟨l.toArray⟩) w := by
  refine run_convert_bytes_back w _ _ _ _ cap l Tryd.underlying24 Tryd.underlying5 Tryd.underlying9 fun j hj => ?_
  have h1 := h.cells rfl j (.int .u8 (l[j].toNat : Int)) (by simp [bytesV, hj])
  have hadd : (⟨g, 0, none⟩ : Addr).add j = ⟨g, j, none⟩ := by unfold Addr.add; split <;> simp_all
  rw [hadd]
  exact h1

set_option maxRecDepth 20000 in
set_option maxHeartbeats 1000000 in
theorem refmay_last (x : Opr) (hx : x.fits) (h1 : 0 ≤ x.V) (h2 : x.V ≤ 8192) (h3 : 0 ≤ x.W) (h4 : x.W ≤ x.V) (h5 : 0 ≤ x.E) (h6 : x.E ≤ 8192)
    (hI : numOk x.I 8192 = true) (hF : numOk x.F x.V = true) (hT : numOk x.T x.W = true) (h0 : ¬ x.T = [48]) (w : World) :
    Calls Tryd.prog 7 #[.agg #[.string ⟨x.I.toArray⟩, .int .i64 x.V, .int .i64 x.W, .string ⟨x.F.toArray⟩, .string ⟨x.T.toArray⟩, .int .i64 x.E]] w (MayPost x w) := by
  have hm : mayT x = (x.F == padded x (x.V - x.W).toNat) := by
    unfold mayT padded
    rw [if_neg (by omega), if_pos ⟨hI, hF, hT⟩, if_neg h0]
  have hTl : 0 < x.T.length ∧ (x.T.length : Int) ≤ x.W := by
    unfold numOk at hT
    rw [if_neg h0] at hT
    simp only [Bool.and_eq_true, decide_eq_true_eq, Bool.not_eq_true', List.isEmpty_eq_false_iff] at hT
    exact ⟨List.length_pos_iff.2 hT.1.2.1, hT.2⟩
  obtain ⟨i0, hi0, hz0, hz1, hz2⟩ := info_parts info_u8
  have h0b : (x.T == [48]) = false := by simpa using h0
  have n1 : ¬ x.V < 0 := by omega
  have n2 : ¬ 8192 < x.V := by omega
  have n3 : ¬ x.W < 0 := by omega
  have n4 : ¬ x.V < x.W := by omega
  have n5 : ¬ x.E < 0 := by omega
  have n6 : ¬ 8192 < x.E := by omega
  have HM := Lib.hid hm
  have HI := Lib.hid hI
  have HF := Lib.hid hF
  have HT := Lib.hid hT
  have HTL := Lib.hid hTl
  have hps := pad_start x (by omega) w
  have HPS := Lib.hid hps
  have hbv : (Lib.bytesWorld (w.alloc (.cells #[.string ⟨x.I.toArray⟩, .int .i64 x.V, .int .i64 x.W, .string ⟨x.F.toArray⟩, .string ⟨x.T.toArray⟩, .int .i64 x.E] 23)) 5 ⟨x.T.toArray⟩).cell? ⟨w.heap.size, 2, none⟩ = some (.int .i64 x.W) := by simp [World.cell?, hps.bx]
  have hcv := Lib.run_convert_string_bytes (P := Tryd.prog) (w.alloc (.cells #[.string ⟨x.I.toArray⟩, .int .i64 x.V, .int .i64 x.W, .string ⟨x.F.toArray⟩, .string ⟨x.T.toArray⟩, .int .i64 x.E] 23)) 9 24 5 ⟨x.T.toArray⟩ Tryd.underlying9 Tryd.underlying24 Tryd.underlying5
  clear hm hI hF hT hTl hps h0
  go_enter Tryd.func7, Tryd.ntmps7
  go_wp2_with (go_at_call 13; first
        | ((with_reducible refine Calls.mono (refnum_any x.I hx.I 8192 _) ?_); rintro e w1 ⟨rfl, rfl⟩; rw [HI.out])
        | ((with_reducible refine Calls.mono (refnum_any x.F hx.F x.V _) ?_); rintro e w2 ⟨rfl, rfl⟩; rw [HF.out])
        | ((with_reducible refine Calls.mono (refnum_any x.T hx.T x.W _) ?_); rintro e w3 ⟨rfl, rfl⟩; rw [HT.out]))
  clear hcv hbv
  go_loopg [3, 4] (x.V - x.W).toNat (fun k s3 s4 wr => ∃ j : Nat, j + k = (x.V - x.W).toNat ∧ s4 = .int .i64 (x.W + j) ∧ Pad x w (padded x j) s3 wr)
  case atStart =>
    refine ⟨0, by omega, by go_num, ?_⟩
    have := HPS.out
    unfold padded
    simpa using this
  case round =>
    obtain ⟨j, hj, rfl, hB⟩ := hrel
    have hsz := hB.old.size
    have hlen : (padded x j).length = x.T.length + j := by simp [padded]
    have hTl := HTL.out
    have hbx : wr.cell? ⟨w.heap.size, 0, none⟩ = some (.string ⟨x.I.toArray⟩) ∧ wr.cell? ⟨w.heap.size, 1, none⟩ = some (.int .i64 x.V) ∧ wr.cell? ⟨w.heap.size, 2, none⟩ = some (.int .i64 x.W) ∧ wr.cell? ⟨w.heap.size, 3, none⟩ = some (.string ⟨x.F.toArray⟩) ∧ wr.cell? ⟨w.heap.size, 4, none⟩ = some (.string ⟨x.T.toArray⟩) ∧ wr.cell? ⟨w.heap.size, 5, none⟩ = some (.int .i64 x.E) := by simp [World.cell?, hB.bx]
    by_cases hlt : x.W + j < x.V
    · have HRA := Lib.hid (hB.row.alloc (.cells #[.int .u8 48] 5))
      have HNA := Lib.hid (cell_one_new wr (.int .u8 48) 5)
      have HB := Lib.hid hB
      clear hB
      go_wp2_with (at_builtin; refine wpList_append_ownM _ rfl (.tmp 72) (.tmp 73) 24 rfl (w.heap.size + 1) 5 i0 (.int .u8 0) 1 1 Tryd.underlying24 hi0 hz0 hz1 hz2 rfl _ _ _ rfl HRA.out ⟨wr.heap.size, 0, none⟩ 1 1 [.int .u8 48] rfl rfl HNA.out (by simp [Value.oneCell']) (by unfold maxLen; omega) (by omega) (by simp; omega) ?_; intro v1 w1 hrow1 hg1)
      have hM : Pad x w (padded x (j + 1)) v1 w1 := by rw [padded_next]; exact HB.out.next 48 hrow1 hg1
      clear hrow1 hg1
      go_roundg (gk - 1)
      case measure => omega
      case rel => exact ⟨j + 1, by omega, by go_num, hM⟩
    · obtain rfl : j = (x.V - x.W).toNat := by omega
      obtain ⟨g, cap, rfl, hg1, hg2⟩ := hB.row.form
      have hcw := conv_ownM hB.row
      have HB := Lib.hid hB
      clear hB
      rw [hlen] at hcw
      go_wp2
      go_ret
      exact ⟨ret_bool (by rw [HM.out]; exact BEq.comm), HB.out.old⟩

set_option maxRecDepth 20000 in
set_option maxHeartbeats 1000000 in
theorem refmay_in (x : Opr) (hx : x.fits) (h1 : 0 ≤ x.V) (h2 : x.V ≤ 8192) (h3 : 0 ≤ x.W) (h4 : x.W ≤ x.V) (h5 : 0 ≤ x.E) (h6 : x.E ≤ 8192) (w : World) :
    Calls Tryd.prog 7 #[.agg #[.string ⟨x.I.toArray⟩, .int .i64 x.V, .int .i64 x.W, .string ⟨x.F.toArray⟩, .string ⟨x.T.toArray⟩, .int .i64 x.E]] w (MayPost x w) := by
  have hm : mayT x = if numOk x.I 8192 = true ∧ numOk x.F x.V = true ∧ numOk x.T x.W = true then
    if x.T = [48] then x.F == [48] else x.F == x.T ++ List.replicate (x.V - x.W).toNat 48 else false := by
    unfold mayT; rw [if_neg (by omega)]
  have HM := Lib.hid hm
  have n1 : ¬ x.V < 0 := by omega
  have n2 : ¬ 8192 < x.V := by omega
  have n3 : ¬ x.W < 0 := by omega
  have n4 : ¬ x.V < x.W := by omega
  have n5 : ¬ x.E < 0 := by omega
  have n6 : ¬ 8192 < x.E := by omega
  clear hm
  rcases hI : numOk x.I 8192 with _ | _
  · have HI := Lib.hid hI
    clear hI
    go_enter Tryd.func7, Tryd.ntmps7
    go_wp2_with (go_at_call 13; refine (refnum_any x.I hx.I _ _).mono ?_; rintro e w1 ⟨rfl, rfl⟩; rw [HI.out])
    go_ret
    exact ⟨ret_bool (by rw [HM.out, HI.out]; simp), (World.grownBy_alloc w _ none)⟩
  · rcases hF : numOk x.F x.V with _ | _
    · have HI := Lib.hid hI
      have HF := Lib.hid hF
      clear hI hF
      go_enter Tryd.func7, Tryd.ntmps7
      go_wp2_with (go_at_call 13; first
        | ((with_reducible refine Calls.mono (refnum_any x.I hx.I 8192 _) ?_); rintro e w1 ⟨rfl, rfl⟩; rw [HI.out])
        | ((with_reducible refine Calls.mono (refnum_any x.F hx.F x.V _) ?_); rintro e w2 ⟨rfl, rfl⟩; rw [HF.out]))
      go_ret
      exact ⟨ret_bool (by rw [HM.out, HF.out]; simp), World.grownBy_alloc w _ none⟩
    · rcases hT : numOk x.T x.W with _ | _
      · have HI := Lib.hid hI
        have HF := Lib.hid hF
        have HT := Lib.hid hT
        clear hI hF hT
        go_enter Tryd.func7, Tryd.ntmps7
        go_wp2_with (go_at_call 13; first
        | ((with_reducible refine Calls.mono (refnum_any x.I hx.I 8192 _) ?_); rintro e w1 ⟨rfl, rfl⟩; rw [HI.out])
        | ((with_reducible refine Calls.mono (refnum_any x.F hx.F x.V _) ?_); rintro e w2 ⟨rfl, rfl⟩; rw [HF.out])
        | ((with_reducible refine Calls.mono (refnum_any x.T hx.T x.W _) ?_); rintro e w3 ⟨rfl, rfl⟩; rw [HT.out]))
        go_ret
        exact ⟨ret_bool (by rw [HM.out, HT.out]; simp), World.grownBy_alloc w _ none⟩
      · have hm2 : mayT x = if x.T = [48] then x.F == [48] else x.F == x.T ++ List.replicate (x.V - x.W).toNat 48 := by
          rw [HM.out, if_pos ⟨hI, hF, hT⟩]
        have HM2 := Lib.hid hm2
        have HI := Lib.hid hI
        have HF := Lib.hid hF
        have HT := Lib.hid hT
        clear hI hF hT hm2
        by_cases h0 : x.T = [48]
        · have h0b : (x.T == [48]) = true := by simpa using h0
          have H0 := Lib.hid h0
          clear h0
          go_enter Tryd.func7, Tryd.ntmps7
          go_wp2_with (go_at_call 13; first
        | ((with_reducible refine Calls.mono (refnum_any x.I hx.I 8192 _) ?_); rintro e w1 ⟨rfl, rfl⟩; rw [HI.out])
        | ((with_reducible refine Calls.mono (refnum_any x.F hx.F x.V _) ?_); rintro e w2 ⟨rfl, rfl⟩; rw [HF.out])
        | ((with_reducible refine Calls.mono (refnum_any x.T hx.T x.W _) ?_); rintro e w3 ⟨rfl, rfl⟩; rw [HT.out]))
          go_ret
          exact ⟨ret_bool (by rw [HM2.out, if_pos H0.out]), World.grownBy_alloc w _ none⟩
        · exact refmay_last x hx h1 h2 h3 h4 h5 h6 HI.out HF.out HT.out h0 w
set_option maxRecDepth 20000 in
/-- quipuref08.May: which operands may be -/
theorem refmay_any (x : Opr) (hx : x.fits) (w : World) :
    Calls Tryd.prog 7 #[.agg #[.string ⟨x.I.toArray⟩, .int .i64 x.V, .int .i64 x.W, .string ⟨x.F.toArray⟩, .string ⟨x.T.toArray⟩, .int .i64 x.E]] w (MayPost x w) := by
  by_cases h1 : x.V < 0
  · exact refmay_r1 x h1 w
  by_cases h2 : 8192 < x.V
  · exact refmay_r2 x h1 h2 w
  by_cases h3 : x.W < 0
  · exact refmay_r3 x h1 h2 h3 w
  by_cases h4 : x.V < x.W
  · exact refmay_r4 x h1 h2 h3 h4 w
  by_cases h5 : x.E < 0
  · exact refmay_r5 x h1 h2 h3 h4 h5 w
  by_cases h6 : 8192 < x.E
  · exact refmay_r6 x h1 h2 h3 h4 h5 h6 w
  exact refmay_in x hx (by omega) (by omega) (by omega) (by omega) (by omega) (by omega) w
end Go.Proofs.YtmmlnnbnbgaogaaDoor
