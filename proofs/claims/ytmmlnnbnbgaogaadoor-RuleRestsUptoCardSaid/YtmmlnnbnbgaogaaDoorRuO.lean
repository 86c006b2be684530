/- awake. -/
import Derived.Test.YtmmlnnbnbgaogaaDoorRuM
import Derived.Test.YtmmlnnbnbgaogaaDoorRuN
namespace Go.Proofs.YtmmlnnbnbgaogaaDoor
open Go.RowKit Ru

theorem x21_fits : x21.fits := by constructor <;> decide
theorem xNo_fits : xNo.fits := by constructor <;> decide

theorem pk1 (w : World) (hE : Env w) : Calls Tryd.prog 5 #[.string ⟨List.toArray [111, 110, 101, 58, 32, 110, 32, 37, 32, 49, 48, 32, 61, 32, 49, 32, 97, 110, 100, 32, 110, 32, 37, 32, 49, 48, 48, 32, 33, 61, 32, 49, 49]⟩, .agg #[.string ⟨#[50, 49]⟩, .int .i64 0, .int .i64 0, .string ⟨#[48]⟩, .string ⟨#[48]⟩, .int .i64 0]] w fun e w' => e = .returned (.tuple #[.int .i64 1, .int .i64 0]) ∧ w.grownBy w' none := by
  refine (pick_any [111, 110, 101, 58, 32, 110, 32, 37, 32, 49, 48, 32, 61, 32, 49, 32, 97, 110, 100, 32, 110, 32, 37, 32, 49, 48, 48, 32, 33, 61, 32, 49, 49] (by decide) x21 x21_fits w hE).mono ?_
  rintro e w' ⟨he, hg⟩
  rw [aw1] at he
  exact ⟨he, hg⟩
theorem pk2 (w : World) (hE : Env w) : Calls Tryd.prog 5 #[.string ⟨List.toArray [111, 110, 101, 58, 32, 110, 32, 61, 32, 49]⟩, .agg #[.string ⟨#[]⟩, .int .i64 0, .int .i64 0, .string ⟨#[]⟩, .string ⟨#[]⟩, .int .i64 0]] w fun e w' => e = .returned (.tuple #[.int .i64 0, .int .i64 92]) ∧ w.grownBy w' none := by
  refine (pick_any [111, 110, 101, 58, 32, 110, 32, 61, 32, 49] (by decide) xNo xNo_fits w hE).mono ?_
  rintro e w' ⟨he, hg⟩
  rw [aw2] at he
  exact ⟨he, hg⟩
theorem pr1 (w : World) : Calls Tryd.prog 11 #[.string ⟨List.toArray [111, 110, 101, 43, 111, 116, 104, 101, 114, 58, 32, 102, 101, 119]⟩, .int .i64 1, .int .i64 5] w fun e w' => e = .returned (.tuple #[.int .i64 3, .int .i64 0]) ∧ w.grownBy w' none := by
  refine (pickRange_any [111, 110, 101, 43, 111, 116, 104, 101, 114, 58, 32, 102, 101, 119] (by decide) 1 5 w).mono ?_
  rintro e w' ⟨he, hg⟩
  rw [aw3] at he
  exact ⟨he, hg⟩
theorem pr2 (w : World) : Calls Tryd.prog 11 #[.string ⟨List.toArray []⟩, .int .i64 6, .int .i64 0] w fun e w' => e = .returned (.tuple #[.int .i64 0, .int .i64 1]) ∧ w.grownBy w' none := by
  refine (pickRange_any [] (by decide) 6 0 w).mono ?_
  rintro e w' ⟨he, hg⟩
  rw [aw4] at he
  exact ⟨he, hg⟩
theorem ck1 (w : World) (hE : Env w) : Calls Tryd.prog 8 #[.string ⟨List.toArray [111, 116, 104, 101, 114, 58, 32, 110, 32, 61, 32, 49]⟩] w fun e w' => e = .returned (.int .i64 90) ∧ w.grownBy w' none := by
  refine (check_any [111, 116, 104, 101, 114, 58, 32, 110, 32, 61, 32, 49] (by decide) w hE).mono ?_
  rintro e w' ⟨he, hg⟩
  rw [aw5] at he
  exact ⟨he, hg⟩
theorem ck2 (w : World) (hE : Env w) : Calls Tryd.prog 8 #[.string ⟨List.toArray []⟩] w fun e w' => e = .returned (.int .i64 0) ∧ w.grownBy w' none := by
  refine (check_any [] (by decide) w hE).mono ?_
  rintro e w' ⟨he, hg⟩
  rw [aw6] at he
  exact ⟨he, hg⟩
theorem cr1 (w : World) : Calls Tryd.prog 12 #[.string ⟨List.toArray [111, 110, 101, 58, 32, 111, 110, 101]⟩] w fun e w' => e = .returned (.int .i64 90) ∧ w.grownBy w' none := by
  refine (checkRanges_any [111, 110, 101, 58, 32, 111, 110, 101] (by decide) w).mono ?_
  rintro e w' ⟨he, hg⟩
  rw [aw7] at he
  exact ⟨he, hg⟩
theorem cr2 (w : World) : Calls Tryd.prog 12 #[.string ⟨List.toArray []⟩] w fun e w' => e = .returned (.int .i64 0) ∧ w.grownBy w' none := by
  refine (checkRanges_any [] (by decide) w).mono ?_
  rintro e w' ⟨he, hg⟩
  rw [aw8] at he
  exact ⟨he, hg⟩

set_option maxRecDepth 20000 in
set_option maxHeartbeats 1000000 in
theorem awake_any (w : World) (hE : Env w) :
    Calls Tryd.prog 6 #[] w fun e w' => e = .returned (.bool true) ∧ w.grownBy w' none := by
  have hg0 : ∀ o : Obj, w.grownBy (w.alloc o) none := fun o => World.grownBy_alloc w o none
  have hE0 : ∀ o : Obj, Env (w.alloc o) := fun o => hE.kept (hg0 o) (by simp)
  go_enter Tryd.func6, Tryd.ntmps6
  go_wp2_with (first
    | (go_at_call 5; with_reducible refine Calls.mono (pk1 _ (hE0 _)) ?_; rintro e w1 ⟨rfl, hg1⟩; have hga := (hg0 _).trans hg1)
    | (go_at_call 5; with_reducible refine Calls.mono (pk2 _ (hE.kept hga (by simp))) ?_; rintro e w2 ⟨rfl, hg2⟩; have hgb := hga.trans hg2)
    | (go_at_call 11; with_reducible refine Calls.mono (pr1 _) ?_; rintro e w3 ⟨rfl, hg3⟩; have hgc := hgb.trans hg3)
    | (go_at_call 11; with_reducible refine Calls.mono (pr2 _) ?_; rintro e w4 ⟨rfl, hg4⟩; have hgd := hgc.trans hg4)
    | (go_at_call 8; with_reducible refine Calls.mono (ck1 _ (hE.kept hgd (by simp))) ?_; rintro e w5 ⟨rfl, hg5⟩; have hge := hgd.trans hg5)
    | (go_at_call 8; with_reducible refine Calls.mono (ck2 _ (hE.kept hge (by simp))) ?_; rintro e w6 ⟨rfl, hg6⟩; have hgf := hge.trans hg6)
    | (go_at_call 12; with_reducible refine Calls.mono (cr1 _) ?_; rintro e w7 ⟨rfl, hg7⟩; have hgg := hgf.trans hg7)
    | (go_at_call 12; with_reducible refine Calls.mono (cr2 _) ?_; rintro e w8 ⟨rfl, hg8⟩; have hgh := hgg.trans hg8))
  go_ret
  exact ⟨rfl, hgh⟩
end Go.Proofs.YtmmlnnbnbgaogaaDoor
