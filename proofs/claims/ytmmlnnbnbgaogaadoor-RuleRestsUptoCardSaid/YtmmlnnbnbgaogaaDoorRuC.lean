/- relation: what the call does. -/
import Derived.Test.YtmmlnnbnbgaogaaDoorRuB
import Derived.Deep.RegionHeld3
import Derived.Deep.DeepCutAuto
namespace Go.Proofs.YtmmlnnbnbgaogaaDoor
open Go.RowKit Ru

theorem grown_alloc_drew (w : World) (o : Obj) : w.grownBy (w.alloc o).drew none := (World.grownBy_alloc w o none).trans ⟨rfl, rfl, rfl, Nat.le_refl _, fun _ _ _ => rfl⟩

/-- the operands' box reads on -/
theorem box_kept {w w1 : World} {b : Nat} {x : Opr} (hlt : b < w.heap.size) (hg : (w.alloc (.cells #[.string ⟨x.I.toArray⟩, .int .i64 x.V, .int .i64 x.W, .string ⟨x.F.toArray⟩, .string ⟨x.T.toArray⟩, .int .i64 x.E] 23)).grownBy w1 (some b)) :
    w1.cell? ⟨w.heap.size, 0, none⟩ = some (.string ⟨x.I.toArray⟩) ∧ w1.cell? ⟨w.heap.size, 1, none⟩ = some (.int .i64 x.V) ∧ w1.cell? ⟨w.heap.size, 2, none⟩ = some (.int .i64 x.W) ∧ w1.cell? ⟨w.heap.size, 3, none⟩ = some (.string ⟨x.F.toArray⟩) ∧ w1.cell? ⟨w.heap.size, 4, none⟩ = some (.string ⟨x.T.toArray⟩) ∧ w1.cell? ⟨w.heap.size, 5, none⟩ = some (.int .i64 x.E) := by
  have hne : ∀ j, some (⟨w.heap.size, j, none⟩ : Addr).block ≠ some b := fun j => by simp; omega
  refine ⟨hg.cell ?_ (hne _), hg.cell ?_ (hne _), hg.cell ?_ (hne _), hg.cell ?_ (hne _), hg.cell ?_ (hne _), hg.cell ?_ (hne _)⟩ <;> simp

theorem of_drew {w w1 : World} {row : Option Nat} (h : w.drew.grownBy w1 row) : w.grownBy w1 row := ⟨h.os, h.tape, h.output, h.size, h.block⟩

theorem dec_len (n : Nat) : (Lib.decDigits n).length ≤ n + 1 := by
  induction n using Nat.strongRecOn with
  | _ n ih =>
    rw [Lib.decDigits]
    split
    · simp
    · have := ih (n / 10) (by omega)
      simp only [List.length_append, List.length_singleton]
      omega

theorem dec_len2 : ∀ (k n : Nat), n < 10 ^ k → 0 < k → (Lib.decDigits n).length ≤ k
  | 0, _, _, h => absurd h (by omega)
  | k + 1, n, h, _ => by
    rw [Lib.decDigits]
    split
    · simp
    · rename_i hn
      have hk : 0 < k := by
        rcases Nat.eq_zero_or_pos k with rfl | hk
        · simp at h; omega
        · exact hk
      have := dec_len2 k (n / 10) (by rw [Nat.pow_succ] at h; omega) hk
      simp only [List.length_append, List.length_singleton]
      omega

theorem itoa_len {n : Int} (h : -9223372036854775808 ≤ n ∧ n ≤ 9223372036854775807) : (Lib.itoa n).length ≤ 140737488351232 := by
  unfold Lib.itoa
  split
  · have := dec_len2 20 n.natAbs (by omega) (by omega)
    simp only [List.length_cons]; omega
  · have := dec_len2 20 n.toNat (by omega) (by omega)
    omega

theorem value_len {x : Opr} (hx : x.fits) {t ds : Tok} {br : Bool} (h : Hid (valueT t x = some (ds, br))) : ds.length ≤ 140737488351232 := by
  have h := h.out
  unfold valueT at h
  have a1 := hx.I; have a2 := hx.F; have a3 := hx.T; have a4 := itoa_len hx.V; have a5 := itoa_len hx.W; have a6 := itoa_len hx.E
  repeat' split at h
  all_goals first | (injection h with h; injection h with h _; subst h; assumption) | cases h

/-- where the loop over the ranges stands -/
def RangeRel (R : Option (Bool × List Tok)) (n : Int) (b : Nat) (w : World) (k : Nat) (s10 s11 : Value) (wr : World) : Prop :=
  ∃ inn more ts', s10 = .bool inn ∧ s11 = .bool more ∧ Rdr wr b ts' ∧ w.grownBy wr (some b) ∧
    ((Hid (more = true) ∧ ts'.length ≤ k ∧ Hid (rangesT (k + 1) n inn ts' = R)) ∨ (Hid (more = false) ∧ Hid (R = some (inn, ts'))))

theorem ranges_step {gk : Nat} {n : Int} {inn : Bool} {ts6 ts7 ts8 ts9 ts10 : List Tok} {R : Option (Bool × List Tok)} {lw hi : Int} {y2 y3 : Bool} (hk : ts6.length ≤ gk) (HRR : rangesT (gk + 1) n inn ts6 = R)
    (hnm : numT ts6 = some (lw, ts7)) (htk2 : takeT [46, 46] ts7 = (y2, ts8)) (hhi : (if y2 = true then numT ts8 else some (lw, ts8)) = some (hi, ts9)) (HL : ts9.length < ts6.length) (hle : lw ≤ hi)
    (htk3 : takeT [44] ts9 = (y3, ts10)) (yy : Bool) (hyy : (inn || (decide (lw ≤ n) && decide (n ≤ hi))) = yy) :
    ((Hid (y3 = true) ∧ ts10.length ≤ gk - 1 ∧ Hid (rangesT (gk - 1 + 1) n yy ts10 = R)) ∨ (Hid (y3 = false) ∧ Hid (R = some (yy, ts10)))) := by
  have hl : ts10.length ≤ ts9.length := by have := takeT_ne (p := [44]) (ts := ts9); rw [htk3] at this; exact this
  have hg : gk - 1 + 1 = gk := by omega
  simp only [rangesT, hnm, htk2, hhi, hle, if_true, htk3, hyy] at HRR
  cases y3
  · exact .inr ⟨rfl, HRR.symm⟩
  · exact .inl ⟨rfl, by omega, by rw [hg]; exact HRR⟩

/-- what a call does that reads a thing off the tokens: it tells it and takes its tokens, or gives up -/
def Reads {α : Type} (f : Option (α × List Tok)) (val : α → Value) (b : Nat) (w : World) (e : Ending) (w' : World) : Prop :=
  (∃ r ts', Hid (f = some (r, ts')) ∧ Takes b w (val r) ts' e w') ∨ (Hid (f = none) ∧ Gives b w e w')

set_option maxHeartbeats 1000000 in
theorem relation_any (x : Opr) (hx : x.fits) (w : World) (b : Nat) (hNb : Tryd.prog.globals.size ≤ b) (hE : Env w) (ts : List Tok) (h : Rdr w b ts) :
    Calls Tryd.prog 32 #[.pointer (some ⟨b, 0, none⟩), .agg #[.string ⟨x.I.toArray⟩, .int .i64 x.V, .int .i64 x.W, .string ⟨x.F.toArray⟩, .string ⟨x.T.toArray⟩, .int .i64 x.E]] w (Reads (relT ts x) Value.bool b w) := by
  have h' := Lib.hid h
  have hlt := h.lt
  clear h
  have hNw : Tryd.prog.globals.size ≤ w.heap.size := Nat.le_of_lt (Nat.lt_of_le_of_lt hNb hlt)
  have hsome : ∀ k, some b = some k → Tryd.prog.globals.size ≤ k := fun k hk => by cases hk; exact hNb
  have HS := Lib.hid hsome; clear hsome
  rcases hv : valueT (nextT ts).1 x with _ | ⟨ds, br⟩
  · have HN : Hid (relT ts x = none) := by show relT ts x = none; unfold relT; rw [hv]
    have HV := Lib.hid hv; clear hv
    go_enter Tryd.func32, Tryd.ntmps32
    go_upto_region 1 with fail
    refine wp_region_any (by kernel_rfl) ?_
    change wpAny _ _ _ _ _ _ _ (World.drew _)
    refine wpAny_ready (rs := [0, 2]) (by kernel_rfl) (by simp) ?_
    refine AllReady.cons rfl (fun K hK => ?_) ?_
    · go_simp
      refine hK _ _ ?_
      clear hK K
      refine wpAny_ready (rs := [1, 2]) (by kernel_rfl) (by simp) ?_
      refine AllReady.cons rfl (fun K hK => ?_) ?_
      · go_simp
        refine (next_any _ _ _ (h'.out.kept (grown_alloc_drew w _))).mono ?_; rintro e w1 ⟨rfl, hr, hg⟩; have hbx := box_kept hlt (of_drew hg)
        refine hK _ _ ?_
        clear hK K
        refine wpAny_ready (rs := [2]) (by kernel_rfl) (by simp) ?_
        refine AllReady.cons rfl (fun K hK => ?_) AllReady.nil
        go_simp
        refine hK _ _ ?_
        clear hK K
        refine wpAny_ready (rs := [3]) (by kernel_rfl) (by simp) ?_
        refine AllReady.cons rfl (fun K hK => ?_) AllReady.nil
        go_simp
        refine (value_none _ x hx HV _ ((hE.kept (grown_alloc_drew w _) (by simp)).kept hg HS.out)).mono ?_; rintro e w2 ⟨rfl, hg2⟩; exact ⟨rfl, .inr ⟨HN, rfl, (grownBy_some (grown_alloc_drew w _)).trans (hg.trans (grownBy_some hg2))⟩⟩
      refine AllReady.cons rfl (fun K hK => ?_) AllReady.nil
      go_simp
      refine hK _ _ ?_
      clear hK K
      refine wpAny_ready (rs := [1]) (by kernel_rfl) (by simp) ?_
      refine AllReady.cons rfl (fun K hK => ?_) AllReady.nil
      go_simp
      refine (next_any _ _ _ (h'.out.kept (grown_alloc_drew w _))).mono ?_; rintro e w1 ⟨rfl, hr, hg⟩; have hbx := box_kept hlt (of_drew hg)
      refine hK _ _ ?_
      clear hK K
      refine wpAny_ready (rs := [3]) (by kernel_rfl) (by simp) ?_
      refine AllReady.cons rfl (fun K hK => ?_) AllReady.nil
      go_simp
      refine (value_none _ x hx HV _ ((hE.kept (grown_alloc_drew w _) (by simp)).kept hg HS.out)).mono ?_; rintro e w2 ⟨rfl, hg2⟩; exact ⟨rfl, .inr ⟨HN, rfl, (grownBy_some (grown_alloc_drew w _)).trans (hg.trans (grownBy_some hg2))⟩⟩
    refine AllReady.cons rfl (fun K hK => ?_) AllReady.nil
    go_simp
    refine hK _ _ ?_
    clear hK K
    refine wpAny_ready (rs := [0]) (by kernel_rfl) (by simp) ?_
    refine AllReady.cons rfl (fun K hK => ?_) AllReady.nil
    go_simp
    refine hK _ _ ?_
    clear hK K
    refine wpAny_ready (rs := [1]) (by kernel_rfl) (by simp) ?_
    refine AllReady.cons rfl (fun K hK => ?_) AllReady.nil
    go_simp
    refine (next_any _ _ _ (h'.out.kept (grown_alloc_drew w _))).mono ?_; rintro e w1 ⟨rfl, hr, hg⟩; have hbx := box_kept hlt (of_drew hg)
    refine hK _ _ ?_
    clear hK K
    refine wpAny_ready (rs := [3]) (by kernel_rfl) (by simp) ?_
    refine AllReady.cons rfl (fun K hK => ?_) AllReady.nil
    go_simp
    refine (value_none _ x hx HV _ ((hE.kept (grown_alloc_drew w _) (by simp)).kept hg HS.out)).mono ?_; rintro e w2 ⟨rfl, hg2⟩; exact ⟨rfl, .inr ⟨HN, rfl, (grownBy_some (grown_alloc_drew w _)).trans (hg.trans (grownBy_some hg2))⟩⟩
  · have HV := Lib.hid hv; clear hv
    go_enter Tryd.func32, Tryd.ntmps32
    go_upto_region 1 with fail
    go_region_held3 (fun w' => w'.cell? ⟨w.heap.size, 0, none⟩ = some (.string ⟨x.I.toArray⟩) ∧ w'.cell? ⟨w.heap.size, 1, none⟩ = some (.int .i64 x.V) ∧ w'.cell? ⟨w.heap.size, 2, none⟩ = some (.int .i64 x.W) ∧ w'.cell? ⟨w.heap.size, 3, none⟩ = some (.string ⟨x.F.toArray⟩) ∧ w'.cell? ⟨w.heap.size, 4, none⟩ = some (.string ⟨x.T.toArray⟩) ∧ w'.cell? ⟨w.heap.size, 5, none⟩ = some (.int .i64 x.E)) (first | assumption | simp [go_sem])
      (first
        | (go_at_call 30; refine (next_any _ _ _ (h'.out.kept (grown_alloc_drew w _))).mono ?_; rintro e w1 ⟨rfl, hr, hg⟩; have hbx := box_kept hlt (of_drew hg))
        | (go_at_call 41; refine (value_yes _ x hx ds br HV _ ?_).mono ?_; exact ((hE.kept (grown_alloc_drew w _) (by simp)).kept hg HS.out); rintro e w2 ⟨rfl, hg2⟩; have hbx2 := box_kept hlt ((of_drew hg).trans (grownBy_some hg2))))
    have hgA : w.grownBy w2 (some b) := (grownBy_some (grown_alloc_drew w _)).trans (hg.trans (grownBy_some hg2))
    have hrA := hr.kept hg2
    have hEA := hE.kept hgA HS.out
    generalize hts1 : (nextT ts).2 = ts1 at hr hrA
    have HT := Lib.hid hts1; clear hts1 hr
    clear hbx hbx2
    go_upto_if 22 with (go_at_call 18; refine (take_any [37] rfl _ _ _ hrA).mono ?_; rintro e w3 ⟨y, ts2, htk, rfl, hrB, hgB⟩)
    go_cut [7] (fun s7 wx => ∃ m ts3, s7 = .int .i64 m ∧ Hid (modT ts1 = some (m, ts3)) ∧ 0 ≤ m ∧ m ≤ 1000000000 ∧ Rdr wx b ts3 ∧ w.grownBy wx (some b))
    case first =>
      cases y
      · go_wp2
        go_meet
        exact ⟨0, ts2, rfl, (by show modT ts1 = _; unfold modT; rw [htk.out]), by omega, by omega, hrB, hgA.trans hgB⟩
      · go_wp2_with (first
          | (go_at_call 42; refine (number_any _ _ hNb (hEA.kept hgB HS.out) _ hrB).mono ?_; rintro e w4 (⟨m, ts3, hnm, rfl, hrC, hgC⟩ | ⟨hnm, rfl, hgC⟩))
          | (go_at_call 20; refine (must_any _ _).mono ?_; rintro e w5 ⟨rfl, ⟨HX, rfl⟩ | ⟨HX, rfl⟩⟩))
        · go_meet
          have h3 := of_decide_eq_true HX.out
          exact ⟨m, ts3, rfl, (by show modT ts1 = _; simp only [modT, htk.out, hnm.out, h3, if_true]), by omega, (numT_in hnm.out).2, hrC, hgA.trans (hgB.trans hgC)⟩
        · have h3 := of_decide_eq_false HX.out
          refine ⟨rfl, .inr ⟨?_, rfl, hgA.trans (hgB.trans hgC)⟩⟩
          show relT ts x = none
          simp only [relT, HV.out, HT.out, modT, htk.out, hnm.out, h3, if_false]
        · refine ⟨rfl, .inr ⟨?_, rfl, hgA.trans (hgB.trans hgC)⟩⟩
          show relT ts x = none
          simp only [relT, HV.out, HT.out, modT, htk.out, hnm.out]
    case rest =>
      obtain ⟨m, ts3, rfl, HM, hm0, hm1, hrD, hgD⟩ := hcut
      clear hrA hgA hEA
      have hED := hE.kept hgD HS.out
      go_upto_region 7 with (go_at_call 18; refine (take_any [33, 61] rfl _ _ _ hrD).mono ?_; rintro e w3 ⟨y, ts4, htk, rfl, hrE, hgE⟩)
      go_cut [8] (fun s8 wx => ∃ nt ts5, s8 = .bool nt ∧ Hid (signT ts3 = some (nt, ts5)) ∧ Rdr wx b ts5 ∧ w.grownBy wx (some b))
      case first =>
        cases y
        · go_wp2_with (first
            | (go_at_call 18; refine (take_any [61] rfl _ _ _ hrE).mono ?_; rintro e w4 ⟨y2, ts5, htk2, rfl, hrF, hgF⟩)
            | (go_at_call 20; refine (must_any _ _).mono ?_; rintro e w5 ⟨rfl, ⟨HX, rfl⟩ | ⟨HX, rfl⟩⟩))
          · go_meet
            obtain rfl := HX.out
            exact ⟨false, ts5, rfl, (by show signT ts3 = _; simp only [signT, htk.out, htk2.out]), hrF, hgD.trans (hgE.trans hgF)⟩
          · obtain rfl := HX.out
            refine ⟨rfl, .inr ⟨?_, rfl, hgD.trans (hgE.trans hgF)⟩⟩
            show relT ts x = none
            simp only [relT, HV.out, HT.out, HM.out, signT, htk.out, htk2.out]
        · go_wp2_with (go_at_call 20; refine (must_ok _).mono ?_; rintro e w5 ⟨rfl, rfl⟩)
          go_meet
          exact ⟨true, ts4, rfl, (by show signT ts3 = _; simp only [signT, htk.out]), hrE, hgD.trans hgE⟩
      case rest =>
        clear hrD hgD hED
        obtain ⟨nt, ts5, rfl, HSg, hrG, hgG⟩ := hcut
        go_wp2_with (go_at_call 43; refine (rest_any _ _ hm0 hm1 (value_len hx HV) _).mono ?_; rintro e w6 ⟨rfl, rfl⟩)
        have hn0 := rest_in m ds 0 ⟨by omega, by omega⟩
        have hr1 : 0 ≤ restT ds m := hn0.1
        have hr2 : restT ds m ≤ 1000000000 := hn0.2
        clear hn0
        generalize hn : restT ds m = n at hr1 hr2
        generalize hR : rangesT (ts5.length + 1) n false ts5 = R
        have HR := Lib.hid hR
        have HNn := Lib.hid hn
        clear hR hn
        go_loopg [10, 11] ts5.length (fun k s10 s11 wr => RangeRel R n b w k s10 s11 wr)
        case atStart => exact ⟨false, true, ts5, rfl, rfl, hrG, hgG, .inl ⟨rfl, Nat.le_refl _, HR⟩⟩
        case round =>
          obtain ⟨inn, more, ts6, rfl, rfl, hrH, hgH, ⟨hm, hk, HRR⟩ | ⟨hm, HRR⟩⟩ := hrel
          · obtain rfl := hm.out
            have hEH := hE.kept hgH HS.out
            go_wp2_with (go_at_call 42; refine (number_any _ _ hNb hEH _ hrH).mono ?_; rintro e w4 (⟨lw, ts7, hnm, rfl, hrI, hgI⟩ | ⟨hnm, rfl, hgI⟩))
            · go_upto_if 46 with (go_at_call 18; refine (take_any [46, 46] rfl _ _ _ hrI).mono ?_; rintro e w5 ⟨y2, ts8, htk2, rfl, hrJ, hgJ⟩)
              go_cut [13] (fun s13 wx => ∃ hi ts9, s13 = .int .i64 hi ∧ Hid ((if y2 = true then numT ts8 else some (lw, ts8)) = some (hi, ts9)) ∧ Rdr wx b ts9 ∧ w.grownBy wx (some b) ∧ ts9.length ≤ ts8.length)
              case first =>
                cases y2
                · go_wp2
                  go_meet
                  exact ⟨lw, ts8, rfl, rfl, hrJ, hgH.trans (hgI.trans hgJ), Nat.le_refl _⟩
                · have hEJ := (hEH.kept hgI HS.out).kept hgJ HS.out
                  go_wp2_with (go_at_call 42; refine (number_any _ _ hNb hEJ _ hrJ).mono ?_; rintro e w6 (⟨hi, ts9, hnm2, rfl, hrK, hgK⟩ | ⟨hnm2, rfl, hgK⟩))
                  · go_meet
                    exact ⟨hi, ts9, rfl, hnm2.out, hrK, hgH.trans (hgI.trans (hgJ.trans hgK)), Nat.le_of_lt (numT_lt hnm2.out)⟩
                  · refine ⟨rfl, .inr ⟨?_, rfl, hgH.trans (hgI.trans (hgJ.trans hgK))⟩⟩
                    show relT ts x = none
                    have h0 : R = none := by rw [← HRR.out]; simp only [rangesT, hnm.out, htk2.out, hnm2.out, if_true]
                    simp only [relT, HV.out, HT.out, HM.out, HSg.out, HNn.out, HR.out, h0]
              case rest =>
                obtain ⟨hi, ts9, rfl, hhi, hrL, hgL, hl9⟩ := hcut
                have h7 := numT_lt hnm.out
                have h8 : ts8.length ≤ ts7.length := by have := takeT_ne (p := [46, 46]) (ts := ts7); rw [htk2.out] at this; exact this
                have HL : ts9.length < ts6.length := by omega
                clear h7 h8 hl9 hrI hgI hrJ hgJ hrH hgH hEH
                by_cases hle : lw ≤ hi
                · cases inn
                  · by_cases h1 : lw ≤ n
                    · go_wp2_with (first
                        | (go_at_call 20; refine (must_ok _).mono ?_; rintro e w5 ⟨rfl, rfl⟩)
                        | (go_at_call 18; refine (take_any [44] rfl _ _ _ hrL).mono ?_; rintro e w6 ⟨y3, ts10, htk3, rfl, hrM, hgM⟩))
                      have hst := ranges_step hk HRR.out hnm.out htk2.out hhi.out HL hle htk3.out
                      go_roundg (gk - 1)
                      case measure => omega
                      case rel => exact ⟨decide (n ≤ hi), y3, ts10, rfl, rfl, hrM, hgL.trans hgM, hst _ (by simp [h1])⟩
                    · go_wp2_with (first
                        | (go_at_call 20; refine (must_ok _).mono ?_; rintro e w5 ⟨rfl, rfl⟩)
                        | (go_at_call 18; refine (take_any [44] rfl _ _ _ hrL).mono ?_; rintro e w6 ⟨y3, ts10, htk3, rfl, hrM, hgM⟩))
                      have hst := ranges_step hk HRR.out hnm.out htk2.out hhi.out HL hle htk3.out
                      go_roundg (gk - 1)
                      case measure => omega
                      case rel => exact ⟨false, y3, ts10, rfl, rfl, hrM, hgL.trans hgM, hst _ (by rw [decide_eq_false (p := lw ≤ n) (by omega)]; rfl)⟩
                  · go_wp2_with (first
                      | (go_at_call 20; refine (must_ok _).mono ?_; rintro e w5 ⟨rfl, rfl⟩)
                      | (go_at_call 18; refine (take_any [44] rfl _ _ _ hrL).mono ?_; rintro e w6 ⟨y3, ts10, htk3, rfl, hrM, hgM⟩))
                    have hst := ranges_step hk HRR.out hnm.out htk2.out hhi.out HL hle htk3.out
                    go_roundg (gk - 1)
                    case measure => omega
                    case rel => exact ⟨true, y3, ts10, rfl, rfl, hrM, hgL.trans hgM, hst _ rfl⟩
                · go_wp2_with (go_at_call 20; refine (must_no _).mono ?_; rintro e w5 ⟨rfl, rfl⟩)
                  refine ⟨rfl, .inr ⟨?_, rfl, hgL⟩⟩
                  show relT ts x = none
                  have h0 : R = none := by rw [← HRR.out]; simp only [rangesT, hnm.out, htk2.out, hhi.out]; rw [if_neg (by omega)]
                  simp only [relT, HV.out, HT.out, HM.out, HSg.out, HNn.out, HR.out, h0]
            · refine ⟨rfl, .inr ⟨?_, rfl, hgH.trans hgI⟩⟩
              show relT ts x = none
              have h0 : R = none := by rw [← HRR.out]; simp only [rangesT, hnm.out]
              simp only [relT, HV.out, HT.out, HM.out, HSg.out, HNn.out, HR.out, h0]
          · obtain rfl := hm.out
            have hR : relT ts x = some ((inn && !br) != nt, ts6) := by simp only [relT, HV.out, HT.out, HM.out, HSg.out, HNn.out, HR.out, HRR.out]
            have HF := Lib.hid hR
            clear hR HV HSg HRR
            cases inn <;> cases br <;> cases nt <;> (go_wp2; go_ret; exact .inl ⟨_, ts6, HF, rfl, hrH, hgH⟩)
end Go.Proofs.YtmmlnnbnbgaogaaDoor
