/- condition: what the call does. -/
import Derived.Test.YtmmlnnbnbgaogaaDoorRuC
namespace Go.Proofs.YtmmlnnbnbgaogaaDoor
open Go.RowKit Ru

/-- where a loop over things that are read off the tokens stands: F: what is still to be read, at so many rounds -/
def LoopRel (F : Nat → Bool → List Tok → Option (Bool × List Tok)) (R : Option (Bool × List Tok)) (b : Nat) (W : World) (k : Nat) (s1 s2 : Value) (wr : World) : Prop :=
  ∃ an more ts', s1 = .bool an ∧ s2 = .bool more ∧ Rdr wr b ts' ∧ W.grownBy wr (some b) ∧
    ((Hid (more = true) ∧ ts'.length ≤ k ∧ Hid (F (k + 1) an ts' = R)) ∨ (Hid (more = false) ∧ Hid (R = some (an, ts'))))

set_option maxHeartbeats 1000000 in
theorem condition_any (x : Opr) (hx : x.fits) (w : World) (b : Nat) (hNb : Tryd.prog.globals.size ≤ b) (hE : Env w) (ts : List Tok) (h : Rdr w b ts) :
    Calls Tryd.prog 21 #[.pointer (some ⟨b, 0, none⟩), .agg #[.string ⟨x.I.toArray⟩, .int .i64 x.V, .int .i64 x.W, .string ⟨x.F.toArray⟩, .string ⟨x.T.toArray⟩, .int .i64 x.E]] w (Reads (condT (ts.length + 1) x false ts) Value.bool b w) := by
  have hlt := h.lt
  have hEW : Env (w.alloc (.cells #[.string ⟨x.I.toArray⟩, .int .i64 x.V, .int .i64 x.W, .string ⟨x.F.toArray⟩, .string ⟨x.T.toArray⟩, .int .i64 x.E] 23)) := hE.kept (World.grownBy_alloc w _ none) (by simp)
  have h' := h.kept (World.grownBy_alloc w (.cells #[.string ⟨x.I.toArray⟩, .int .i64 x.V, .int .i64 x.W, .string ⟨x.F.toArray⟩, .string ⟨x.T.toArray⟩, .int .i64 x.E] 23) none)
  have hgw := World.grownBy_alloc w (.cells #[.string ⟨x.I.toArray⟩, .int .i64 x.V, .int .i64 x.W, .string ⟨x.F.toArray⟩, .string ⟨x.T.toArray⟩, .int .i64 x.E] 23) (some b)
  generalize hW : w.alloc (.cells #[.string ⟨x.I.toArray⟩, .int .i64 x.V, .int .i64 x.W, .string ⟨x.F.toArray⟩, .string ⟨x.T.toArray⟩, .int .i64 x.E] 23) = W at hEW h' hgw
  have hbox : ∀ w1, W.grownBy w1 (some b) → w1.cell? ⟨w.heap.size, 0, none⟩ = some (.string ⟨x.I.toArray⟩) ∧ w1.cell? ⟨w.heap.size, 1, none⟩ = some (.int .i64 x.V) ∧ w1.cell? ⟨w.heap.size, 2, none⟩ = some (.int .i64 x.W) ∧ w1.cell? ⟨w.heap.size, 3, none⟩ = some (.string ⟨x.F.toArray⟩) ∧ w1.cell? ⟨w.heap.size, 4, none⟩ = some (.string ⟨x.T.toArray⟩) ∧ w1.cell? ⟨w.heap.size, 5, none⟩ = some (.int .i64 x.E) := fun w1 hg => box_kept hlt (by rw [hW]; exact hg)
  have HW := Lib.hid hW
  have HB := Lib.hid hbox
  have HSm : Hid (∀ k, some b = some k → Tryd.prog.globals.size ≤ k) := fun k hk => by cases hk; exact hNb
  clear hW hbox h
  generalize hR : condT (ts.length + 1) x false ts = R
  have HR := Lib.hid hR
  clear hR
  go_enter Tryd.func21, Tryd.ntmps21
  go_wp2
  rw [HW.out]
  go_loopg [5, 6, 7, 8, 9] ts.length (fun k s5 s6 s7 s8 s9 wr => LoopRel (fun k an ts => condT k x an ts) R b W k s5 s6 wr)
  case atStart => exact ⟨false, true, ts, rfl, rfl, h', grownBy_refl _ _, .inl ⟨rfl, Nat.le_refl _, HR⟩⟩
  case round =>
    obtain ⟨an, more, ts1, rfl, rfl, hr1, hg1, ⟨hm, hk, HRR⟩ | ⟨hm, HRR⟩⟩ := hrel
    · obtain rfl := hm.out
      obtain ⟨wo, rfl⟩ : ∃ wo : World, wo = wr := ⟨_, rfl⟩
      obtain ⟨ko, rfl⟩ : ∃ ko : Nat, ko = gk := ⟨_, rfl⟩
      generalize hR2 : allT (ts1.length + 1) x true ts1 = R2
      have HR2 := Lib.hid hR2
      clear hR2
      go_wp2
      go_loopg [7, 8, 9] ts1.length (fun k s7 s8 s9 wr => LoopRel (fun k al ts => allT k x al ts) R2 b W k s7 s8 wr)
      case atStart => exact ⟨true, true, ts1, rfl, rfl, hr1, hg1, .inl ⟨rfl, Nat.le_refl _, HR2⟩⟩
      case round =>
        obtain ⟨al, also, ts2, rfl, rfl, hr2, hg2, ⟨hm2, hk2, HRR2⟩ | ⟨hm2, HRR2⟩⟩ := hrel
        · obtain rfl := hm2.out
          have hE2 := hEW.kept hg2 HSm.out
          have hbx := HB.out _ hg2
          cases al
          · go_wp2_with (first
              | (go_at_call 32; refine (relation_any x hx _ _ hNb hE2 _ hr2).mono ?_; rintro e w3 (⟨hh, ts3, hrl, rfl, hr3, hg3⟩ | ⟨hrl, rfl, hg3⟩))
              | (go_at_call 18; refine (take_any [97, 110, 100] rfl _ _ _ hr3).mono ?_; rintro e w4 ⟨y, ts4, htk, rfl, hr4, hg4⟩))
            · have hst := all_step hk2 HRR2.out hrl.out htk.out
              rcases hst with ⟨rfl, h5, h6, h7⟩ | ⟨rfl, h6⟩
              · go_roundg (gk - 1)
                case measure => exact h7
                case rel => exact ⟨false, true, ts4, rfl, rfl, hr4, hg2.trans (hg3.trans hg4), .inl ⟨rfl, h5, h6⟩⟩
              · go_roundg (gk - 1)
                case measure => have := relT_lt hrl.out; omega
                case rel => exact ⟨false, false, ts4, rfl, rfl, hr4, hg2.trans (hg3.trans hg4), .inr ⟨rfl, h6⟩⟩
            · refine ⟨rfl, .inr ⟨?_, rfl, hgw.trans (hg2.trans hg3)⟩⟩
              have h0 : R2 = none := by rw [← HRR2.out]; simp only [allT, hrl.out]
              show R = none
              rw [← HRR.out]; simp only [condT, HR2.out, h0]
          · go_wp2_with (first
              | (go_at_call 32; refine (relation_any x hx _ _ hNb hE2 _ hr2).mono ?_; rintro e w3 (⟨hh, ts3, hrl, rfl, hr3, hg3⟩ | ⟨hrl, rfl, hg3⟩))
              | (go_at_call 18; refine (take_any [97, 110, 100] rfl _ _ _ hr3).mono ?_; rintro e w4 ⟨y, ts4, htk, rfl, hr4, hg4⟩))
            · have hst := all_step hk2 HRR2.out hrl.out htk.out
              rcases hst with ⟨rfl, h5, h6, h7⟩ | ⟨rfl, h6⟩
              · go_roundg (gk - 1)
                case measure => exact h7
                case rel => exact ⟨hh, true, ts4, rfl, rfl, hr4, hg2.trans (hg3.trans hg4), .inl ⟨rfl, h5, h6⟩⟩
              · go_roundg (gk - 1)
                case measure => have := relT_lt hrl.out; omega
                case rel => exact ⟨hh, false, ts4, rfl, rfl, hr4, hg2.trans (hg3.trans hg4), .inr ⟨rfl, h6⟩⟩
            · refine ⟨rfl, .inr ⟨?_, rfl, hgw.trans (hg2.trans hg3)⟩⟩
              have h0 : R2 = none := by rw [← HRR2.out]; simp only [allT, hrl.out]
              show R = none
              rw [← HRR.out]; simp only [condT, HR2.out, h0]
        · obtain rfl := hm2.out
          cases an
          · go_wp2_with (go_at_call 18; refine (take_any [111, 114] rfl _ _ _ hr2).mono ?_; rintro e w4 ⟨y, ts4, htk, rfl, hr4, hg4⟩)
            have hall : allT (ts1.length + 1) x true ts1 = some (al, ts2) := HR2.out.trans HRR2.out
            have hst := cond_step hk HRR.out hall htk.out
            rcases hst with ⟨rfl, h5, h6, h7⟩ | ⟨rfl, h6⟩
            · go_roundg (ko - 1)
              case measure => exact h7
              case rel => exact ⟨al, true, ts4, rfl, rfl, hr4, hg2.trans hg4, .inl ⟨rfl, h5, h6⟩⟩
            · go_roundg (ko - 1)
              case measure => have := allT_lt _ _ _ _ _ _ hall; omega
              case rel => exact ⟨al, false, ts4, rfl, rfl, hr4, hg2.trans hg4, .inr ⟨rfl, h6⟩⟩
          · go_wp2_with (go_at_call 18; refine (take_any [111, 114] rfl _ _ _ hr2).mono ?_; rintro e w4 ⟨y, ts4, htk, rfl, hr4, hg4⟩)
            have hall : allT (ts1.length + 1) x true ts1 = some (al, ts2) := HR2.out.trans HRR2.out
            have hst := cond_step hk HRR.out hall htk.out
            rcases hst with ⟨rfl, h5, h6, h7⟩ | ⟨rfl, h6⟩
            · go_roundg (ko - 1)
              case measure => exact h7
              case rel => exact ⟨true, true, ts4, rfl, rfl, hr4, hg2.trans hg4, .inl ⟨rfl, h5, h6⟩⟩
            · go_roundg (ko - 1)
              case measure => have := allT_lt _ _ _ _ _ _ hall; omega
              case rel => exact ⟨true, false, ts4, rfl, rfl, hr4, hg2.trans hg4, .inr ⟨rfl, h6⟩⟩
    · obtain rfl := hm.out
      go_wp2
      go_ret
      exact .inl ⟨an, ts1, HRR, rfl, hr1, hgw.trans hg1⟩
end Go.Proofs.YtmmlnnbnbgaogaaDoor
