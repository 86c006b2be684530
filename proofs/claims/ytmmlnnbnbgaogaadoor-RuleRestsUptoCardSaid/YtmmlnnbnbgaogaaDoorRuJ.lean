/- Pick. -/
import Derived.Test.YtmmlnnbnbgaogaaDoorRuI
namespace Go.Proofs.YtmmlnnbnbgaogaaDoor
open Go.RowKit Ru

theorem may_any (x : Opr) (hx : x.fits) (w : World) : Calls Tryd.prog 9 #[.agg #[.string ⟨x.I.toArray⟩, .int .i64 x.V, .int .i64 x.W, .string ⟨x.F.toArray⟩, .string ⟨x.T.toArray⟩, .int .i64 x.E]] w (MayPost x w) := by
  by_cases h1 : x.V < 0
  · exact may_r1 x h1 w
  by_cases h2 : 8192 < x.V
  · exact may_r2 x h1 h2 w
  by_cases h3 : x.W < 0
  · exact may_r3 x h1 h2 h3 w
  by_cases h4 : x.V < x.W
  · exact may_r4 x h1 h2 h3 h4 w
  by_cases h5 : x.E < 0
  · exact may_r5 x h1 h2 h3 h4 h5 w
  by_cases h6 : 8192 < x.E
  · exact may_r6 x h1 h2 h3 h4 h5 h6 w
  · exact may_in x hx (by omega) (by omega) (by omega) (by omega) (by omega) (by omega) w

def PickPost (s : Tok) (x : Opr) (w : World) (e : Ending) (w' : World) : Prop := e = .returned (.tuple #[.int .i64 (pickAns s x).1, .int .i64 (pickAns s x).2]) ∧ w.grownBy w' none

set_option maxHeartbeats 1000000 in
theorem pick_any (s : Tok) (hs : s.length ≤ 140737488351232) (x : Opr) (hx : x.fits) (w : World) (hE : Env w) :
    Calls Tryd.prog 5 #[.string ⟨s.toArray⟩, .agg #[.string ⟨x.I.toArray⟩, .int .i64 x.V, .int .i64 x.W, .string ⟨x.F.toArray⟩, .string ⟨x.T.toArray⟩, .int .i64 x.E]] w (PickPost s x w) := by
  have hg0 := World.grownBy_alloc w (.cells #[.string ⟨x.I.toArray⟩, .int .i64 x.V, .int .i64 x.W, .string ⟨x.F.toArray⟩, .string ⟨x.T.toArray⟩, .int .i64 x.E] 23) none
  have hE0 := hE.kept hg0 (by simp)
  generalize hc0 : (pickedT s zeroX).2 = c0
  have HC0 := Lib.hid hc0
  clear hc0
  by_cases h0 : c0 = 0
  · subst h0
    rcases hm : mayT x with _ | _
    · have ha : pickAns s x = (0, 92) := by unfold pickAns; rw [HC0.out, if_neg (by simp), hm]; rfl
      have HA := Lib.hid ha
      have HM := Lib.hid hm
      clear ha hm
      go_enter Tryd.func5, Tryd.ntmps5
      go_wp2_with (first
        | (go_at_call 8; refine (check_any s hs _ hE0).mono ?_; rintro e w1 ⟨rfl, hg1⟩; rw [HC0.out]; have hbx := box_none hg1)
        | (go_at_call 9; refine (may_any x hx _).mono ?_; rintro e w2 ⟨rfl, hg2⟩; rw [HM.out]))
      go_ret2
      exact ⟨by rw [HA.out]; rfl, hg0.trans (hg1.trans hg2)⟩
    · have ha : pickAns s x = pickedT s x := by unfold pickAns; rw [HC0.out, if_neg (by simp), hm]; rfl
      have HA := Lib.hid ha
      have HM := Lib.hid hm
      clear ha hm
      go_enter Tryd.func5, Tryd.ntmps5
      go_wp2_with (first
        | (go_at_call 8; refine (check_any s hs _ hE0).mono ?_; rintro e w1 ⟨rfl, hg1⟩; rw [HC0.out]; have hbx := box_none hg1)
        | (go_at_call 9; refine (may_any x hx _).mono ?_; rintro e w2 ⟨rfl, hg2⟩; rw [HM.out]; have hbx2 := box_none (hg1.trans hg2); clear hbx)
        | (go_at_call 10; refine (picked_any s hs x hx _ ((hE0.kept hg1 (by simp)).kept hg2 (by simp))).mono ?_; rintro e w3 ⟨rfl, hg3⟩))
      go_ret2
      exact ⟨by rw [HA.out]; rfl, hg0.trans ((hg1.trans hg2).trans hg3)⟩
  · have ha : pickAns s x = (0, c0) := by unfold pickAns; rw [HC0.out, if_pos h0]
    have HA := Lib.hid ha
    have hb0 : (c0 == 0) = false := by simpa using h0
    clear ha
    go_enter Tryd.func5, Tryd.ntmps5
    go_wp2_with (go_at_call 8; refine (check_any s hs _ hE0).mono ?_; rintro e w1 ⟨rfl, hg1⟩; rw [HC0.out])
    go_ret2
    exact ⟨by rw [HA.out]; rfl, hg0.trans hg1⟩
end Go.Proofs.YtmmlnnbnbgaogaaDoor
