/- The iterator over a text's parts: what the call of the closure does, whatever the loop's body keeps. -/
import Derived.Test.YtmmlnnbnbgaogaaDoorRuA
import Derived.Test.YtmmlnnbnbgaogaaDoorRf
import Derived.Deep.RegionHeld3
import Derived.Deep.DeepCutAuto
import Derived.Deep.CutBlock
import Derived.Deep.LoopGhost
import Derived.RangeFuncSeq
import Derived.TacticsIn
import Derived.BigFrameIn
namespace Go.Proofs.YtmmlnnbnbgaogaaDoor
open Go.RowKit Ru

theorem trimLeft_any (s cs : Tok) (hcs : cs.length < 4294967281) (ha : cs.all (fun b => decide (b.toNat < 128)) = true) (w : World) :
    Calls Tryd.prog 39 #[.string ⟨s.toArray⟩, .string ⟨cs.toArray⟩] w fun e w' => e = .returned (.string ⟨(Lib.trimLeftS s cs).toArray⟩) ∧ w.grownBy w' none :=
  (Tryd.strings_TrimLeft_laid ⟨s.toArray⟩ ⟨cs.toArray⟩ w (by simpa [ByteArray.size] using hcs) (fun j b hb => by
    have := List.all_eq_true.1 ha b (List.mem_of_getElem? (by simpa using hb))
    simpa using this)).mono fun _ _ ⟨he, hb⟩ => ⟨he, grownBy_below hb⟩

theorem hasPrefix_any (s p : Tok) (w : World) :
    Calls Tryd.prog 24 #[.string ⟨s.toArray⟩, .string ⟨p.toArray⟩] w fun e w' => e = .returned (.bool (Lib.hasPrefix s p)) ∧ w = w' :=
  (Tryd.strings_HasPrefix ⟨s.toArray⟩ ⟨p.toArray⟩ w).mono fun _ _ ⟨he, hb⟩ => ⟨he, hb.symm⟩

theorem of_drew' {w w1 : World} {row : Option Nat} (h : w.drew.grownBy w1 row) : w.grownBy w1 row := ⟨h.os, h.tape, h.output, h.size, h.block⟩

theorem wrap_sub {a b : Nat} (h : b ≤ a) (ha : a ≤ 1024) : IntKind.i64.wrap ((a : Int) - (b : Int)) = ((a - b : Nat) : Int) := by
  rw [IntWalk.i64_in _ (by omega)]; omega

theorem ext_take (s : Tok) (n : Nat) : (⟨s.toArray⟩ : ByteArray).extract 0 n = ⟨(s.take n).toArray⟩ := by
  apply ByteArray.ext; simp [ByteArray.extract, ByteArray.copySlice]

theorem ext_drop (s : Tok) (n : Nat) : (⟨s.toArray⟩ : ByteArray).extract n s.length = ⟨(s.drop n).toArray⟩ := by
  apply ByteArray.ext; simp [ByteArray.extract, ByteArray.copySlice, List.take_of_length_le]

theorem contains_first (m : Tok) (c : UInt8) (rr : Tok) (w : World) :
    Calls Tryd.prog 40 #[.string ⟨m.toArray⟩, .string ((⟨(c :: rr).toArray⟩ : ByteArray).extract 0 1)] w fun e w' => w = w' ∧ ((Hid (0 ≤ Lib.indexByte m c) ∧ e = .returned (.bool true)) ∨ (Hid (¬ 0 ≤ Lib.indexByte m c) ∧ e = .returned (.bool false))) := by
  rw [ext_take]
  refine (Tryd.strings_Contains_one ⟨m.toArray⟩ c w).mono fun e w' ⟨he, hw⟩ => ⟨hw.symm, ?_⟩
  by_cases h : 0 ≤ Lib.indexByte m c
  · exact .inl ⟨h, by rw [he]; simpa using h⟩
  · exact .inr ⟨h, by rw [he]; simpa using h⟩

/-- what is kept between two rounds: J of the tokens that have come; it does not mind new blocks, and the text's own box -/
def Minds (sb : Nat) (J : List Tok → World → Prop) : Prop :=
  ∀ pre W W' row, J pre W → W.grownBy W' row → (row = none ∨ row = some sb) → J pre W'

/-- where the iterator stands: the text that is left, what has come -/
def PartsRel (R : Option (List Tok)) (sb : Nat) (J : List Tok → World → Prop) (k : Nat) (wr : World) : Prop :=
  ∃ s pre, Boxed wr sb 9 (.string ⟨s.toArray⟩) ∧ J pre wr ∧ s.length ≤ k ∧ pre.length + s.length ≤ 1024 ∧ Hid ((partsT (k + 1) s).map (pre ++ ·) = R)

set_option maxHeartbeats 1000000 in
theorem parts1_any (l m sb : Nat) (J : List Tok → World → Prop) (hJ : Minds sb J) (s : Tok) (hs : s.length ≤ 1024) (W : World) (hb : Boxed W sb 9 (.string ⟨s.toArray⟩)) (h0 : J [] W)
    (hY : ∀ pre t W1 s1, J pre W1 → pre.length ≤ 1024 → t.length ≤ 1024 → Boxed W1 sb 9 (.string ⟨s1⟩) → YieldAt Fence.wide m Tryd.prog l #[.string ⟨t.toArray⟩] W1 fun e W' => e = .returned (.bool true) ∧ J (pre ++ [t]) W' ∧ Boxed W' sb 9 (.string ⟨s1⟩)) :
    Calls Tryd.prog 38 #[.func (.yield l) #[] #[], .pointer (some ⟨sb, 0, none⟩)] W fun e W' =>
      (∃ ts, Hid (toksT s = some ts) ∧ e = .returned (.tuple #[]) ∧ J (ts ++ [[]]) W') ∨ (Hid (toksT s = none) ∧ e = .panicked wrongC ∧ ∃ pre, J pre W') := by
  generalize hR : toksT s = R
  have HR := Lib.hid hR
  have HJ := Lib.hid hJ
  have HY := Lib.hid hY
  have HB := Lib.hid hb
  clear hR hJ hY hb
  go_enter Tryd.func38, Tryd.ntmps38
  go_wp2
  go_loopg [] s.length (fun k wr => PartsRel R sb J k wr)
  case atStart => exact ⟨s, [], HB.out, h0, Nat.le_refl _, by simpa using hs, by have := HR.out; unfold toksT at this; show Option.map _ _ = _; rw [this]; cases R <;> simp⟩
  case round =>
    obtain ⟨s1, pre, hb1, hj1, hk, hl, HP⟩ := hrel
    have hc1 := hb1.cell
    have hf1 := hb1.frozen
    have HB1 := Lib.hid hb1
    clear hb1
    go_upto_region 1 with (go_at_call 39; refine (trimLeft_any s1 [32] (by decide) (by decide) _).mono ?_; rintro e w2 ⟨rfl, hg2⟩; have hb2 := HB1.out.kept hg2 (by simp); have hc2 := hb2.cell; have hf2 := hb2.frozen; have HB2 := Lib.hid hb2; clear hb2)
    generalize hs2 : Lib.trimLeftS s1 [32] = s2
    have HS2 := Lib.hid hs2
    have hb3 : Boxed (w2.setCell ⟨sb, 0, none⟩ (.string ⟨s2.toArray⟩)) sb 9 (.string ⟨s2.toArray⟩) := HB2.out.set _
    have hj3 : J pre (w2.setCell ⟨sb, 0, none⟩ (.string ⟨s2.toArray⟩)) := HJ.out _ _ _ _ (HJ.out _ _ _ _ hj1 hg2 (.inl rfl)) (grownBy_setCell' _ _ _) (.inr rfl)
    have hl2 : s2.length ≤ s1.length := by rw [← hs2]; unfold Lib.trimLeftS; exact (List.dropWhile_suffix _).length_le
    clear hc1 hf1 hc2 hf2 hj1 hs2
    generalize w2.setCell ⟨sb, 0, none⟩ (.string ⟨s2.toArray⟩) = w3 at hb3 hj3
    have hle : ∀ cs, (Lib.trimLeftS s2 cs).length ≤ s2.length := fun cs => by unfold Lib.trimLeftS; exact (List.dropWhile_suffix _).length_le
    have hA := hle lowers
    have hD := hle digits
    clear hle
    go_cut [3] (fun s3 wx => s3 = .int .i64 ((s2.length - (Lib.trimLeftS s2 lowers).length : Nat) : Int) ∧ J pre wx ∧ Boxed wx sb 9 (.string ⟨s2.toArray⟩))
    case first =>
      have hc3 := hb3.cell
      have HB3 := Lib.hid hb3
      clear hb3
      go_region_held3 (fun w' => w'.cell? ⟨sb, 0, none⟩ = some (.string ⟨s2.toArray⟩)) (first | assumption | simp [go_sem, *])
        (first
          | (go_at_call 39; refine (trimLeft_any s2 lowers (by decide) (by decide) _).mono ?_; rintro e w4 ⟨rfl, hg4⟩; have hc4 := (HB3.out.kept (of_drew' hg4) (by simp)).cell))
      all_goals
        go_wp2
        go_meet
        have hgx := of_drew' hg4
        exact ⟨congrArg (Value.int IntKind.i64) (wrap_sub hA (by omega)), HJ.out _ _ _ _ hj3 hgx (.inl rfl), HB3.out.kept hgx (by simp)⟩
    case rest =>
      obtain ⟨rfl, hj4, hb4⟩ := hcut
      clear hj3 hb3
      go_upto_if 13 with fail
      generalize haa : s2.length - (Lib.trimLeftS s2 lowers).length = aa
      have HAA := Lib.hid haa
      have haa2 : aa ≤ 1024 := by omega
      clear haa
      go_cut [3] (fun s3 wx => s3 = .int .i64 ((runLen s2 : Nat) : Int) ∧ J pre wx ∧ Boxed wx sb 9 (.string ⟨s2.toArray⟩))
      case first =>
        by_cases h0a : aa = 0
        · subst h0a
          have hc5 := hb4.cell
          have HB4 := Lib.hid hb4
          clear hb4
          go_wp2_with fail
          go_region_held3 (fun w' => w'.cell? ⟨sb, 0, none⟩ = some (.string ⟨s2.toArray⟩)) (first | assumption | simp [go_sem, *])
            (first
              | (go_at_call 39; refine (trimLeft_any s2 digits (by decide) (by decide) _).mono ?_; rintro e w4 ⟨rfl, hg4⟩; have hc4 := (HB4.out.kept (of_drew' hg4) (by simp)).cell))
          all_goals
            go_wp2
            go_meet
            have hgx := of_drew' hg4
            exact ⟨congrArg (Value.int IntKind.i64) (by rw [wrap_sub hD (by omega)]; unfold runLen; rw [if_pos HAA.out]), HJ.out _ _ _ _ hj4 hgx (.inl rfl), HB4.out.kept hgx (by simp)⟩
        · have hab : ((aa : Int) == 0) = false := by simpa using h0a
          go_wp2
          go_meet
          exact ⟨congrArg (Value.int IntKind.i64) (by unfold runLen; rw [HAA.out, if_neg h0a]), hj4, hb4⟩
      case rest =>
        obtain ⟨rfl, hj5, hb5⟩ := hcut
        clear hj4 hb4
        go_upto_block 2 with fail
        have hrl : runLen s2 ≤ s2.length := by unfold runLen; split <;> omega
        generalize hrn : runLen s2 = rn at hrl
        have HRN := Lib.hid hrn
        clear hrn
        go_cut [3] (fun s3 wx => ∃ n, s3 = .int .i64 ((n : Nat) : Int) ∧ Hid (partLen s2 = some n) ∧ J pre wx ∧ Boxed wx sb 9 (.string ⟨s2.toArray⟩))
        case first =>
          have hc5 := hb5.cell
          have HB5 := Lib.hid hb5
          clear hb5
          by_cases h1 : 0 < rn
          · go_wp2
            go_meet
            exact ⟨rn, rfl, (by show partLen s2 = _; unfold partLen; rw [HRN.out, if_pos h1]), hj5, HB5.out⟩
          · obtain rfl : rn = 0 := by omega
            have hdd : (((0 : Nat) : Int) == 0) = true := rfl
            by_cases h2 : Lib.hasPrefix s2 [33, 61] = true
            · go_wp2_with (go_at_call 24; refine (hasPrefix_any s2 _ _).mono ?_; rintro e w5 ⟨rfl, rfl⟩; rw [h2])
              go_meet
              exact ⟨2, rfl, (by show partLen s2 = _; unfold partLen; rw [HRN.out, if_neg h1, if_pos (.inl h2)]), hj5, HB5.out⟩
            · have h2f : Lib.hasPrefix s2 [33, 61] = false := by simpa using h2
              by_cases h3 : Lib.hasPrefix s2 [46, 46] = true
              · go_wp2_with (go_at_call 24; refine (hasPrefix_any s2 _ _).mono ?_; rintro e w5 ⟨rfl, rfl⟩; first | rw [h2f] | rw [h3])
                go_meet
                exact ⟨2, rfl, (by show partLen s2 = _; unfold partLen; rw [HRN.out, if_neg h1, if_pos (.inr h3)]), hj5, HB5.out⟩
              · have h3f : Lib.hasPrefix s2 [46, 46] = false := by simpa using h3
                have hno : partLen s2 = markLen s2 := by unfold partLen; rw [HRN.out, if_neg h1, if_neg (by simp [h2f, h3f])]
                have HNO := Lib.hid hno
                clear hno h2 h3 HAA
                cases s2 with
                | nil =>
                  go_wp2_with (go_at_call 24; refine (hasPrefix_any [] _ _).mono ?_; rintro e w5 ⟨rfl, rfl⟩; first | rw [h2f] | rw [h3f])
                  go_meet
                  exact ⟨0, rfl, HNO.out, hj5, HB5.out⟩
                | cons c rr =>
                  have hne : (c :: rr).isEmpty = false := rfl
                  go_wp2_with (first
                    | (go_at_call 24; refine (hasPrefix_any (c :: rr) _ _).mono ?_; rintro e w5 ⟨rfl, rfl⟩; first | rw [h2f] | rw [h3f])
                    | (go_at_call 40; refine (contains_first marks c rr _).mono ?_; rintro e w6 ⟨rfl, ⟨HC, rfl⟩ | ⟨HC, rfl⟩⟩)
                    | (go_at_call 20; refine (must_any _ _).mono ?_; rintro e w7 ⟨rfl, ⟨HX, rfl⟩ | ⟨HX, rfl⟩⟩))
                  · go_meet
                    exact ⟨1, rfl, (by show partLen _ = _; rw [HNO.out]; exact if_pos HC.out), hj5, HB5.out⟩
                  · exact absurd HX.out (by simp)
                  · exact absurd HX.out (by simp)
                  · refine ⟨rfl, .inr ⟨?_, rfl, pre, hj5⟩⟩
                    have hno : partLen (c :: rr) = none := HNO.out.trans (if_neg (by have := HC.out; omega))
                    show R = none
                    rw [← HP.out]
                    simp only [partsT, HS2.out, hno, Option.map_none]
        case rest =>
          obtain ⟨n, rfl, HPL, hj6, hb6⟩ := hcut
          have hn := partLen_le HPL.out
          have hc6 := hb6.cell
          have HB6 := Lib.hid hb6
          have hx1 := ext_take s2 n
          have hx2 := ext_drop s2 n
          clear hb6 hb5 hj5
          go_upto_region 10 with fail
          refine (wpIn_wide (n := m + 1)).1 ?_
          have hy := HY.out pre (s2.take n) wc s2.toArray hj6 (by omega) (by rw [List.length_take]; omega) HB6.out
          obtain ⟨yfn, ytm, yas, ybd, hyr, hyd⟩ := hy
          by_cases he : s2.isEmpty = true
          · obtain rfl : s2 = [] := by simpa using he
            obtain rfl : n = 0 := by simpa using hn
            change (Instr.yield l #[Value.string ByteArray.empty]).run Tryd.prog wc = _ at hyr
            gi_wp2
            refine hyd.mono ?_
            rintro e w7 ⟨rfl, hj7, hb7⟩
            have hc7 := hb7.cell
            have HB7 := Lib.hid hb7
            clear hb7 hc6
            gi_wp2
            go_wp2
            refine bodyPost_ret (results_none rfl _ _ _) rfl ?_
            have h8 : R = some pre := by rw [← HP.out]; simp [partsT, HS2.out, HPL.out]
            exact .inl ⟨pre, h8, rfl, by simpa using hj7⟩
          · have he2 : s2.isEmpty = false := by simpa using he
            clear he
            gi_wp2
            refine hyd.mono ?_
            rintro e w7 ⟨rfl, hj7, hb7⟩
            have hc7 := hb7.cell
            have hf7 := hb7.frozen
            have HB7 := Lib.hid hb7
            clear hb7 hc6
            gi_wp2
            go_wp2
            have hn0 : 0 < n := partLen_pos HPL.out (by intro h; simp [h] at he2)
            go_roundg (gk - 1)
            case measure => have : s2.length ≠ 0 := by (intro h; simp [List.length_eq_zero_iff.1 h] at he2)
                            omega
            case rel =>
              refine ⟨s2.drop n, pre ++ [s2.take n], HB7.out.set _, HJ.out _ _ _ _ hj7 (grownBy_setCell' _ _ _) (.inr rfl), by rw [List.length_drop]; omega, by rw [List.length_drop, List.length_append, List.length_singleton]; omega, ?_⟩
              show Option.map _ _ = R
              rw [← HP.out, show gk - 1 + 1 = gk by omega]
              simp only [partsT, HS2.out, HPL.out]
              rw [if_neg (by intro h; simp [h] at he2)]
              cases partsT gk (s2.drop n) with
              | none => rfl
              | some l => simp
end Go.Proofs.YtmmlnnbnbgaogaaDoor
