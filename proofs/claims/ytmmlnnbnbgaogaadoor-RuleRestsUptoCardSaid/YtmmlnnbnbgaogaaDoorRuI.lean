/- Check, Pick; operand's number and May. -/
import Derived.Test.YtmmlnnbnbgaogaaDoorRuH
import Derived.Laws.RangeAny
namespace Go.Proofs.YtmmlnnbnbgaogaaDoor
open Go.RowKit Ru

set_option maxHeartbeats 400000 in
theorem check_any (s : Tok) (hs : s.length ≤ 140737488351232) (w : World) (hE : Env w) :
    Calls Tryd.prog 8 #[.string ⟨s.toArray⟩] w fun e w' => e = .returned (.int .i64 (pickedT s zeroX).2) ∧ w.grownBy w' none := by
  have hz : zeroX.fits := ⟨by decide, by decide, by decide, by decide, by decide, by decide⟩
  go_enter Tryd.func8, Tryd.ntmps8
  go_wp2_with (go_at_call 10; refine (picked_any s hs zeroX hz _ hE).mono ?_; rintro e w2 ⟨rfl, hg⟩)
  go_ret
  exact ⟨rfl, hg⟩

theorem ret_bool {a b : Bool} (h : a = b) : Ending.returned (.bool a) = .returned (.bool b) := by rw [h]

set_option maxHeartbeats 1000000 in
theorem number_ok (s : Tok) (hs : s.length ≤ 140737488351232) (most : Int) (w : World) :
    Calls Tryd.prog 14 #[.string ⟨s.toArray⟩, .int .i64 most] w fun e w' => e = .returned (.bool (numOk s most)) ∧ w.grownBy w' none := by
  by_cases h0 : s = [48]
  · subst h0
    go_enter Tryd.func14, Tryd.ntmps14
    go_wp2
    go_ret
    exact ⟨rfl, grownBy_refl _ _⟩
  · have h0b : (s == [48]) = false := by simpa using h0
    go_enter Tryd.func14, Tryd.ntmps14
    go_wp2
    go_loopw [6] (fun _ wr => ∃ pos : Nat, pos ≤ s.length ∧ w.iter ⟨s.toArray⟩ pos = wr ∧ Hid ((s.take pos).all dig = true)) (fun _ wr => s.length - wr.iterPos w.heap.size)
    case atStart => exact ⟨0, Nat.zero_le _, rfl, rfl⟩
    case round =>
      obtain ⟨pos, hp, rfl, hd⟩ := hrel
      by_cases hlt : pos < s.length
      · have hbs : pos < (⟨s.toArray⟩ : ByteArray).size := by simpa [ByteArray.size] using hlt
        have hge : (⟨s.toArray⟩ : ByteArray)[pos] = s[pos] := rfl
        by_cases hdg : dig s[pos] = true
        · have h2 : 48 ≤ s[pos].toNat ∧ s[pos].toNat ≤ 57 := by simpa [dig] using hdg
          have hnx : ∀ ty, (Instr.next (.pointer (some ⟨w.heap.size, 0, none⟩)) true ty).run Tryd.prog (w.iter ⟨s.toArray⟩ pos) = _ := fun ty => run_next_ascii w ⟨s.toArray⟩ pos ty hbs (by rw [hge]; omega)
          rw [hge] at hnx
          have h3 : ¬ (s[pos].toNat : Int) < 48 := by omega
          have h4 : ¬ 57 < (s[pos].toNat : Int) := by omega
          have H2 := Lib.hid h2
          have HDG := Lib.hid hdg
          clear hge h2 hdg
          go_wp2
          go_roundw
          case rel =>
            refine ⟨pos + 1, by omega, rfl, ?_⟩
            show (s.take (pos + 1)).all dig = true
            rw [List.take_succ_eq_append_getElem hlt, List.all_append, hd.out]
            simp [HDG.out]
          case measure => simp; omega
        · have hdf : dig s[pos] = false := by simpa using hdg
          have hall : s.all dig = false := by
            rw [List.all_eq_false]; exact ⟨s[pos], List.getElem_mem hlt, by simp [hdf]⟩
          have hno : numOk s most = false := by unfold numOk; rw [if_neg h0, hall]; rfl
          have HNO := Lib.hid hno
          have hnx : ∀ ty, (Instr.next (.pointer (some ⟨w.heap.size, 0, none⟩)) true ty).run Tryd.prog (w.iter ⟨s.toArray⟩ pos) = _ := fun ty => run_next_any w ⟨s.toArray⟩ pos ty hbs
          have hr : (Utf8.decode ⟨s.toArray⟩ pos).1 < 48 ∨ 57 < (Utf8.decode ⟨s.toArray⟩ pos).1 := by
            by_cases ha : s[pos].toNat < 128
            · rw [decode_ascii ⟨s.toArray⟩ pos hbs (by rw [hge]; exact ha)]
              simp only [dig, Bool.and_eq_false_iff, decide_eq_false_iff_not] at hdf
              show s[pos].toNat < 48 ∨ 57 < s[pos].toNat
              omega
            · have := (decode_high ⟨s.toArray⟩ pos hbs (by rw [hge]; omega)).1
              omega
          generalize (Utf8.decode ⟨s.toArray⟩ pos).1 = r at hnx hr
          generalize pos + (Utf8.decode ⟨s.toArray⟩ pos).2 = p2 at hnx
          clear hno hall hdf hdg hge
          rcases hr with hr | hr
          · have h3 : (r : Int) < 48 := by omega
            clear hr
            go_wp2
            go_ret
            exact ⟨ret_bool HNO.out.symm, World.grownBy_alloc w _ none⟩
          · have h3 : ¬ (r : Int) < 48 := by omega
            have h4 : 57 < (r : Int) := by omega
            clear hr
            go_wp2
            go_ret
            exact ⟨ret_bool HNO.out.symm, World.grownBy_alloc w _ none⟩
      · have hnx : ∀ ty, (Instr.next (.pointer (some ⟨w.heap.size, 0, none⟩)) true ty).run Tryd.prog (w.iter ⟨s.toArray⟩ pos) = _ := fun ty => run_next_end w ⟨s.toArray⟩ pos ty (by simpa [ByteArray.size] using hlt)
        have hall : s.all dig = true := by have := hd.out; rwa [List.take_of_length_le (by omega)] at this
        have hok : numOk s most = (!s.isEmpty && !(s.head? == some 48) && decide ((s.length : Int) ≤ most)) := by unfold numOk; rw [if_neg h0, hall]; rfl
        have HOK := Lib.hid hok
        clear hok hall hlt
        cases s with
        | nil =>
          go_wp2
          go_ret
          exact ⟨ret_bool (by rw [HOK.out]; rfl), World.grownBy_alloc w _ none⟩
        | cons c rr =>
          have hne : (c :: rr).isEmpty = false := rfl
          by_cases hc : c = 48
          · subst hc
            go_wp2
            go_ret
            exact ⟨ret_bool (by rw [HOK.out]; rfl), World.grownBy_alloc w _ none⟩
          · have hcn : ¬ (c.toNat : Int) = 48 := fun h => hc (by apply UInt8.toNat_inj.1; simp; omega)
            have hcb : ((c.toNat : Int) == 48) = false := by simpa using hcn
            go_wp2
            go_ret
            refine ⟨ret_bool ?_, World.grownBy_alloc w _ none⟩
            rw [HOK.out]
            show (((c.toNat : Int) != 48) && _) = _
            have hc2 : ((c.toNat : Int) != 48) = true := by simpa using hcn
            rw [hc2]
            simp [hc]

theorem rep48 : ∀ k : Nat, Lib.repeatL (⟨#[48]⟩ : ByteArray).data.toList k = List.replicate k 48
  | 0 => rfl
  | k + 1 => by rw [List.replicate_succ, ← rep48 k]; rfl

theorem numOk_len {s : Tok} {m : Int} (h : numOk s m = true) (hm : 0 ≤ m) : (s.length : Int) ≤ m + 1 := by
  unfold numOk at h
  split at h
  · rename_i h0; subst h0; simp only [List.length_singleton]; omega
  · simp only [Bool.and_eq_true, decide_eq_true_eq] at h
    omega

theorem cat_toList (a : Tok) (n : Nat) : ((⟨a.toArray⟩ : ByteArray) ++ ⟨Array.replicate n 48⟩).toList = a ++ List.replicate n 48 := by
  rw [ByteArray.toList_eq]; simp

theorem repeat0_any (n : Int) (h0 : 0 ≤ n) (h1 : n ≤ 8192) (w : World) :
    Calls Tryd.prog 15 #[.string ⟨#[48]⟩, .int .i64 n] w fun e w' => e = .returned (.string ⟨(List.replicate n.toNat 48).toArray⟩) ∧ w.grownBy w' none := by
  obtain ⟨k, rfl⟩ : ∃ k : Nat, n = k := ⟨n.toNat, by omega⟩
  refine (Tryd.strings_Repeat ⟨#[48]⟩ k w (by omega) (by simp [ByteArray.size]; omega)).mono fun e w' ⟨he, hb⟩ => ⟨?_, grownBy_below hb⟩
  rw [he, rep48 k]
  rfl

theorem box_none {w w1 : World} {x : Opr} (hg : (w.alloc (.cells #[.string ⟨x.I.toArray⟩, .int .i64 x.V, .int .i64 x.W, .string ⟨x.F.toArray⟩, .string ⟨x.T.toArray⟩, .int .i64 x.E] 23)).grownBy w1 none) : w1.cell? ⟨w.heap.size, 0, none⟩ = some (.string ⟨x.I.toArray⟩) ∧ w1.cell? ⟨w.heap.size, 1, none⟩ = some (.int .i64 x.V) ∧ w1.cell? ⟨w.heap.size, 2, none⟩ = some (.int .i64 x.W) ∧ w1.cell? ⟨w.heap.size, 3, none⟩ = some (.string ⟨x.F.toArray⟩) ∧ w1.cell? ⟨w.heap.size, 4, none⟩ = some (.string ⟨x.T.toArray⟩) ∧ w1.cell? ⟨w.heap.size, 5, none⟩ = some (.int .i64 x.E) := by
  have hne : ∀ j, some (⟨w.heap.size, j, none⟩ : Addr).block ≠ none := fun j => by simp
  refine ⟨hg.cell ?_ (hne _), hg.cell ?_ (hne _), hg.cell ?_ (hne _), hg.cell ?_ (hne _), hg.cell ?_ (hne _), hg.cell ?_ (hne _)⟩ <;> simp

def MayPost (x : Opr) (w : World) (e : Ending) (w' : World) : Prop := e = .returned (.bool (mayT x)) ∧ w.grownBy w' none

set_option maxHeartbeats 1000000 in
theorem may_r1 (x : Opr) (h1 : x.V < 0) (w : World) :
    Calls Tryd.prog 9 #[.agg #[.string ⟨x.I.toArray⟩, .int .i64 x.V, .int .i64 x.W, .string ⟨x.F.toArray⟩, .string ⟨x.T.toArray⟩, .int .i64 x.E]] w (MayPost x w) := by
  have hm : mayT x = false := by unfold mayT; rw [if_pos (by omega)]
  have HM := Lib.hid hm
  clear hm
  go_enter Tryd.func9, Tryd.ntmps9
  go_wp2
  go_ret
  exact ⟨ret_bool HM.out.symm, World.grownBy_alloc w _ none⟩

set_option maxHeartbeats 1000000 in
theorem may_r2 (x : Opr) (h1 : ¬ x.V < 0) (h2 : 8192 < x.V) (w : World) :
    Calls Tryd.prog 9 #[.agg #[.string ⟨x.I.toArray⟩, .int .i64 x.V, .int .i64 x.W, .string ⟨x.F.toArray⟩, .string ⟨x.T.toArray⟩, .int .i64 x.E]] w (MayPost x w) := by
  have hm : mayT x = false := by unfold mayT; rw [if_pos (by omega)]
  have HM := Lib.hid hm
  clear hm
  go_enter Tryd.func9, Tryd.ntmps9
  go_wp2
  go_ret
  exact ⟨ret_bool HM.out.symm, World.grownBy_alloc w _ none⟩

set_option maxHeartbeats 1000000 in
theorem may_r3 (x : Opr) (h1 : ¬ x.V < 0) (h2 : ¬ 8192 < x.V) (h3 : x.W < 0) (w : World) :
    Calls Tryd.prog 9 #[.agg #[.string ⟨x.I.toArray⟩, .int .i64 x.V, .int .i64 x.W, .string ⟨x.F.toArray⟩, .string ⟨x.T.toArray⟩, .int .i64 x.E]] w (MayPost x w) := by
  have hm : mayT x = false := by unfold mayT; rw [if_pos (by omega)]
  have HM := Lib.hid hm
  clear hm
  go_enter Tryd.func9, Tryd.ntmps9
  go_wp2
  go_ret
  exact ⟨ret_bool HM.out.symm, World.grownBy_alloc w _ none⟩

set_option maxHeartbeats 1000000 in
theorem may_r4 (x : Opr) (h1 : ¬ x.V < 0) (h2 : ¬ 8192 < x.V) (h3 : ¬ x.W < 0) (h4 : x.V < x.W) (w : World) :
    Calls Tryd.prog 9 #[.agg #[.string ⟨x.I.toArray⟩, .int .i64 x.V, .int .i64 x.W, .string ⟨x.F.toArray⟩, .string ⟨x.T.toArray⟩, .int .i64 x.E]] w (MayPost x w) := by
  have hm : mayT x = false := by unfold mayT; rw [if_pos (by omega)]
  have HM := Lib.hid hm
  clear hm
  go_enter Tryd.func9, Tryd.ntmps9
  go_wp2
  go_ret
  exact ⟨ret_bool HM.out.symm, World.grownBy_alloc w _ none⟩

set_option maxHeartbeats 1000000 in
theorem may_r5 (x : Opr) (h1 : ¬ x.V < 0) (h2 : ¬ 8192 < x.V) (h3 : ¬ x.W < 0) (h4 : ¬ x.V < x.W) (h5 : x.E < 0) (w : World) :
    Calls Tryd.prog 9 #[.agg #[.string ⟨x.I.toArray⟩, .int .i64 x.V, .int .i64 x.W, .string ⟨x.F.toArray⟩, .string ⟨x.T.toArray⟩, .int .i64 x.E]] w (MayPost x w) := by
  have hm : mayT x = false := by unfold mayT; rw [if_pos (by omega)]
  have HM := Lib.hid hm
  clear hm
  go_enter Tryd.func9, Tryd.ntmps9
  go_wp2
  go_ret
  exact ⟨ret_bool HM.out.symm, World.grownBy_alloc w _ none⟩

set_option maxHeartbeats 1000000 in
theorem may_r6 (x : Opr) (h1 : ¬ x.V < 0) (h2 : ¬ 8192 < x.V) (h3 : ¬ x.W < 0) (h4 : ¬ x.V < x.W) (h5 : ¬ x.E < 0) (h6 : 8192 < x.E) (w : World) :
    Calls Tryd.prog 9 #[.agg #[.string ⟨x.I.toArray⟩, .int .i64 x.V, .int .i64 x.W, .string ⟨x.F.toArray⟩, .string ⟨x.T.toArray⟩, .int .i64 x.E]] w (MayPost x w) := by
  have hm : mayT x = false := by unfold mayT; rw [if_pos (by omega)]
  have HM := Lib.hid hm
  clear hm
  go_enter Tryd.func9, Tryd.ntmps9
  go_wp2
  go_ret
  exact ⟨ret_bool HM.out.symm, World.grownBy_alloc w _ none⟩

set_option maxHeartbeats 1000000 in
theorem may_in (x : Opr) (hx : x.fits) (h1 : 0 ≤ x.V) (h2 : x.V ≤ 8192) (h3 : 0 ≤ x.W) (h4 : x.W ≤ x.V) (h5 : 0 ≤ x.E) (h6 : x.E ≤ 8192) (w : World) :
    Calls Tryd.prog 9 #[.agg #[.string ⟨x.I.toArray⟩, .int .i64 x.V, .int .i64 x.W, .string ⟨x.F.toArray⟩, .string ⟨x.T.toArray⟩, .int .i64 x.E]] w (MayPost x w) := by
  have hm : mayT x = if numOk x.I 8192 = true ∧ numOk x.F x.V = true ∧ numOk x.T x.W = true then
    if x.T = [48] then x.F == [48] else x.F == x.T ++ List.replicate (x.V - x.W).toNat 48 else false := by
    unfold mayT; rw [if_neg (by omega)]
  have HM := Lib.hid hm
  have n1 : ¬ x.V < 0 := by omega
  have n2 : ¬ 8192 < x.V := by omega
  have n3 : ¬ x.W < 0 := by omega
  have n4 : ¬ x.V < x.W := by omega
  have n5 : ¬ x.E < 0 := by omega
  have n6 : ¬ 8192 < x.E := by omega
  clear hm
  rcases hI : numOk x.I 8192 with _ | _
  · have HI := Lib.hid hI
    clear hI
    go_enter Tryd.func9, Tryd.ntmps9
    go_wp2_with (go_at_call 14; refine (number_ok x.I hx.I _ _).mono ?_; rintro e w1 ⟨rfl, hg⟩; rw [HI.out])
    go_ret
    exact ⟨ret_bool (by rw [HM.out, HI.out]; simp), (World.grownBy_alloc w _ none).trans hg⟩
  · rcases hF : numOk x.F x.V with _ | _
    · have HI := Lib.hid hI
      have HF := Lib.hid hF
      clear hI hF
      go_enter Tryd.func9, Tryd.ntmps9
      go_wp2_with (go_at_call 14; first
        | (with_reducible refine Calls.mono (number_ok x.I hx.I 8192 _) ?_; rintro e w1 ⟨rfl, hg⟩; rw [HI.out]; have hbx := box_none hg)
        | (with_reducible refine Calls.mono (number_ok x.F hx.F x.V _) ?_; rintro e w2 ⟨rfl, hg2⟩; rw [HF.out]))
      go_ret
      exact ⟨ret_bool (by rw [HM.out, HF.out]; simp), ((World.grownBy_alloc w _ none).trans hg).trans hg2⟩
    · rcases hT : numOk x.T x.W with _ | _
      · have HI := Lib.hid hI
        have HF := Lib.hid hF
        have HT := Lib.hid hT
        clear hI hF hT
        go_enter Tryd.func9, Tryd.ntmps9
        go_wp2_with (go_at_call 14; first
          | (with_reducible refine Calls.mono (number_ok x.I hx.I 8192 _) ?_; rintro e w1 ⟨rfl, hg⟩; rw [HI.out]; have hbx := box_none hg)
          | (with_reducible refine Calls.mono (number_ok x.F hx.F x.V _) ?_; rintro e w2 ⟨rfl, hg2⟩; rw [HF.out]; have hgb := hg.trans hg2; have hbx2 := box_none hgb; clear hbx)
          | (with_reducible refine Calls.mono (number_ok x.T hx.T x.W _) ?_; rintro e w3 ⟨rfl, hg3⟩; rw [HT.out]; have hgc := hgb.trans hg3; have hbx3 := box_none hgc; clear hbx2))
        go_ret
        exact ⟨ret_bool (by rw [HM.out, HT.out]; simp), (World.grownBy_alloc w _ none).trans hgc⟩
      · have hm2 : mayT x = if x.T = [48] then x.F == [48] else x.F == x.T ++ List.replicate (x.V - x.W).toNat 48 := by
          rw [HM.out, if_pos ⟨hI, hF, hT⟩]
        have HM2 := Lib.hid hm2
        have HI := Lib.hid hI
        have HF := Lib.hid hF
        have HT := Lib.hid hT
        clear hI hF hT hm2
        by_cases h0 : x.T = [48]
        · have h0b : (x.T == [48]) = true := by simpa using h0
          have H0 := Lib.hid h0
          clear h0
          go_enter Tryd.func9, Tryd.ntmps9
          go_wp2_with (go_at_call 14; first
            | (with_reducible refine Calls.mono (number_ok x.I hx.I 8192 _) ?_; rintro e w1 ⟨rfl, hg⟩; rw [HI.out]; have hbx := box_none hg)
            | (with_reducible refine Calls.mono (number_ok x.F hx.F x.V _) ?_; rintro e w2 ⟨rfl, hg2⟩; rw [HF.out]; have hgb := hg.trans hg2; have hbx2 := box_none hgb; clear hbx)
            | (with_reducible refine Calls.mono (number_ok x.T hx.T x.W _) ?_; rintro e w3 ⟨rfl, hg3⟩; rw [HT.out]; have hgc := hgb.trans hg3; have hbx3 := box_none hgc; clear hbx2))
          go_ret
          exact ⟨ret_bool (by rw [HM2.out, if_pos H0.out]), (World.grownBy_alloc w _ none).trans hgc⟩
        · have h0b : (x.T == [48]) = false := by simpa using h0
          have H0 := Lib.hid h0
          clear h0
          go_enter Tryd.func9, Tryd.ntmps9
          go_upto_region 7 with (go_at_call 14; first
            | (with_reducible refine Calls.mono (number_ok x.I hx.I 8192 _) ?_; rintro e w1 ⟨rfl, hg⟩; rw [HI.out]; have hbx := box_none hg)
            | (with_reducible refine Calls.mono (number_ok x.F hx.F x.V _) ?_; rintro e w2 ⟨rfl, hg2⟩; rw [HF.out]; have hgb := hg.trans hg2; have hbx2 := box_none hgb; clear hbx)
            | (with_reducible refine Calls.mono (number_ok x.T hx.T x.W _) ?_; rintro e w3 ⟨rfl, hg3⟩; rw [HT.out]; have hgc := hgb.trans hg3; have hbx3 := box_none hgc; clear hbx2))
          have hsub : IntKind.i64.wrap (x.V - x.W) = x.V - x.W := IntWalk.i64_in _ (by omega)
          have htl := numOk_len HT.out h3
          have hcat : ¬ 9223372036854775807 < x.T.length + (x.V - x.W).toNat := by omega
          go_region_held3 (fun w' => w'.cell? ⟨w.heap.size, 0, none⟩ = some (.string ⟨x.I.toArray⟩) ∧ w'.cell? ⟨w.heap.size, 1, none⟩ = some (.int .i64 x.V) ∧ w'.cell? ⟨w.heap.size, 2, none⟩ = some (.int .i64 x.W) ∧ w'.cell? ⟨w.heap.size, 3, none⟩ = some (.string ⟨x.F.toArray⟩) ∧ w'.cell? ⟨w.heap.size, 4, none⟩ = some (.string ⟨x.T.toArray⟩) ∧ w'.cell? ⟨w.heap.size, 5, none⟩ = some (.int .i64 x.E)) (first | assumption | simp [go_sem, *])
            (first | (go_at_call 15; refine (repeat0_any _ (by omega) (by omega) _).mono ?_; rintro e w4 ⟨rfl, hg4⟩; have hgd := hgc.trans (of_drew hg4); have hbx4 := box_none hgd; clear hbx3))
          go_wp2
          go_ret
          exact ⟨ret_bool (by rw [HM2.out, if_neg H0.out, cat_toList]), (World.grownBy_alloc w _ none).trans (hgc.trans (of_drew hg4))⟩
end Go.Proofs.YtmmlnnbnbgaogaaDoor
