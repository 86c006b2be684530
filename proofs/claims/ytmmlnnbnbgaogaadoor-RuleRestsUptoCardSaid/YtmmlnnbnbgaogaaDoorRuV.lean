/- Proved here: for every text and all operands that together hold at most 1048576 values and letters, the law RuleBlanks of package quipulaw09 returns true, does not panic, and leaves its arguments as they were. Conditions: the package-level variables that the row lists hold at the start what the program's text lays in them (the card ties this); the bound on the size of what comes in. -/
import Derived.Test.YtmmlnnbnbgaogaaDoorCards
import Derived.Test.YtmmlnnbnbgaogaaDoorTie
import Derived.Test.YtmmlnnbnbgaogaaDoorRuS
import Derived.Test.YtmmlnnbnbgaogaaDoorRuT
import Derived.Test.YtmmlnnbnbgaogaaDoorRuU
import Derived.WalkKit
import Derived.JoinedCond
namespace Go.Proofs.YtmmlnnbnbgaogaaDoor
open Go.ChangeShapes Go.WideShapes Go.ChangeAt Go.RowKit Ru
open Go.ChangeMaps (open_string shut_string)
set_option maxRecDepth 100000

theorem own0 : ownKnob Tryd.prog.godebug = none := by kernel_rfl

theorem rowAt : (((begin Tryd.prog (fun _ _ => 0) default).world.heap[Tryd.prog.globals.size - 1]?).bind Obj.row?).isSome = true := by kernel_rfl
theorem big_of_shaped {W : World} (h : W.ShapedOpen Tryd.prog) : Tryd.prog.globals.size ≤ W.heap.size := by
  obtain ⟨⟨zero, t⟩, hz⟩ := Option.isSome_iff_exists.1 rowAt
  have hpos : 0 < Tryd.prog.globals.size := of_decide_eq_true (by kernel_rfl)
  obtain ⟨cs, hc, _⟩ := h.1 (Tryd.prog.globals.size - 1) zero t (by omega) hz
  have := (Array.getElem?_eq_some_iff.1 hc).1
  omega

/-- WHAT THE BOUND GIVES -/
theorem blanks_short {H : Type} {s : List UInt8} {x : Opr} (hk : Rows.uptoSmall H [.lit (.string s), oprD x] = true) : s.length ≤ 1048576 ∧ x.I.length ≤ 1048576 ∧ x.F.length ≤ 1048576 ∧ x.T.length ≤ 1048576 := by
  have h : Rows.uptoBulkAll [DataW.lit (H := H) (.string s), oprD x] ≤ 1048576 := of_decide_eq_true hk
  simp only [Rows.uptoBulkAll, Rows.uptoBulk, oprD] at h
  omega

theorem blanks_contract (H : Type) (enc : TypeId × Value → H) (W : World) (base : Nat) (args : Array Value) (ds gs : List (DataW H)) (before : List MemPlace)
    (hval : ∀ (j : Nat) t v, Tryd.f3.params[j]? = some t → args[j]? = some v → Value.okWide Tryd.prog W .any base t v)
    (hW : DataW.Whole enc Tryd.prog Tryd.f3.params.toList Rows.ruleBlanksSpec.vars false W args.toList ds gs before) (hk : Rows.uptoSmall H (ds ++ gs) = true)
    (hL : laidMetH Tryd.prog Rows.ruleBlanksRow.laid W) (hS : W.ShapedOpen Tryd.prog) :
    Calls Tryd.prog 3 args W fun e W' => ∃ v, e = .returned v ∧ Rows.ruleBlanksSpec.post enc Tryd.prog Tryd.f3 false true false false W args v W' := by
  have hW' := hW
  obtain ⟨p, q, hA0, hV, rfl, hfz, hnd⟩ := hW
  have hA : DataW.TrodAll enc Tryd.prog W 0 (fun _ => true) true Tryd.f3.params.toList args.toList ds p := hA0
  rw [Tryd.params3] at hA hval
  obtain ⟨v0, vs0, d0, ds0, p0, q0, hargs, rfl, rfl, h0, r0⟩ := trodAll_cons hA
  obtain ⟨v1, vs1, d1, ds1, p1, q1, rfl, rfl, rfl, h1, r1⟩ := trodAll_cons r0
  obtain ⟨rfl, rfl, rfl⟩ := trodAll_nil r1
  obtain rfl : args = #[v0, v1] := by cases args; simp_all
  obtain ⟨rfl, rfl⟩ := trodVars_none hV
  obtain ⟨s, rfl, rfl, rfl, hmax⟩ := open_string Tryd.underlying9 (hval 0 9 v0 rfl rfl) h0
  obtain ⟨x, rfl, rfl, rfl, hxV, hxW, hxE⟩ := open_opr (hval 1 23 v1 rfl rfl) h1
  clear hA0
  simp only [List.append_nil] at hW' hk
  obtain ⟨b0, b1, b2, b3⟩ := blanks_short hk
  have hx : x.fits := ⟨by omega, by omega, by omega, hxV, hxW, hxE⟩
  have hE := env_of_laid hL (big_of_shaped hS)
  have hwalk := ruleBlanks_any s.data.toList b0 x hx W hE
  rw [← str_of] at hwalk
  refine hwalk.mono fun e W' ⟨he, hg⟩ => ?_
  subst he
  have hbel : Below W.heap.size W W' := ⟨hg.os, hg.tape, hg.output, hg.size, fun k hk => hg.block k hk (by simp)⟩
  refine ⟨_, rfl, _, _, _, [], [], [], hW', ?_, ?_, ?_, hbel.frame _, fun h => by cases h⟩
  · exact trodAll_cons_mk (shut_bool Tryd.underlying4 _) trodAll_mk0
  · exact trodAll_cons_mk (shut_string Tryd.underlying9 hmax) (trodAll_cons_mk (shut_opr hx) trodAll_mk0)
  · rfl

theorem blanks_lifted (os : Os) (started : os.Started) (H : Type) (enc : TypeId × Value → H) (F : Stop.Interp) :
    ReturnsInHanded {} Tryd.checked os 3 .any ((Rows.OpenSpec.upto Rows.ruleBlanksSpec).preRow enc Tryd.prog Tryd.f3 Rows.ruleBlanksUptoRow.domain false Rows.ruleBlanksUptoRow.laid) (((Rows.OpenSpec.upto Rows.ruleBlanksSpec).at F).post enc Tryd.prog Tryd.f3 false true false false) := by
  obtain ⟨places, hx⟩ := blanks_reads os enc
  refine returnsInHanded_of_row (C := Tryd.checked) (s := Rows.OpenSpec.upto Rows.ruleBlanksSpec) own0 started (by kernel_rfl) Tryd.func3
    (witness_row_atRef (enc := enc) (C := Tryd.checked) false (laidWorld os) zeroArgs rfl (blanks_vars os) (blanks_rest os) (blanks_ok os)
      (OpenSpec.preRow_of_cond 8 hx (by kernel_rfl) (fun k hk => by cases hk; kernel_rfl) (by kernel_rfl) (laid_met os))) ?_
  intro W base args ds gs before hval hW _ hcond _ hL hS _
  exact blanks_contract H enc W base args ds gs before hval hW (hcond _ rfl) hL hS

theorem ruleBlanksUpto_holds : Rows.RuleBlanksUptoSaid :=
  OpenClaim.holds_of_cond 3 Tryd.f3 rfl rfl rfl rfl rfl rfl rfl ⟨rfl, rfl, rfl, rfl, rfl⟩ rfl rfl rfl rfl rfl (by kernel_rfl) Tryd.func3 (by kernel_rfl)
    (of_decide_eq_true (by kernel_rfl)) (by unfold Func.isWrapper; first | (rw [if_pos (by decide +kernel)]; kernel_rfl) | (rw [if_neg (by decide +kernel)]; exact ⟨rfl, rfl⟩))
    (fun os started H enc _ F => by rw [OpenClaim.pre_eq_preRow]; exact blanks_lifted os started H enc F)

/-- No parameter wants a stand-in; the program's own looks. -/
theorem blanks_plain (f : FuncId) (fn : Func) (hf : Tryd.pinned.checked.prog.funcNamed "quipu/quipulaw09.RuleBlanks" = some f) (hfn : Tryd.pinned.checked.prog.funcs[f]? = some fn) :
    true = Tryd.pinned.checked.prog.looks [] ∧ ∀ (j : Nat) t, fn.params[j]? = some t → Tryd.pinned.checked.prog.wantsStandIn t = false := by
  obtain rfl : f = 3 := Option.some.inj ((show Tryd.prog.funcNamed "quipu/quipulaw09.RuleBlanks" = some 3 by kernel_rfl).symm.trans hf) |>.symm
  obtain rfl : fn = Tryd.f3 := (Option.some.inj (Tryd.func3.symm.trans hfn)).symm
  refine ⟨by kernel_rfl, fun j t ht => ?_⟩
  rw [Tryd.params3] at ht
  have hm : t = 9 ∨ t = 23 := by simpa using Array.mem_of_getElem? ht
  rcases hm with rfl | rfl
  · exact (show Tryd.prog.wantsStandIn 9 = false by kernel_rfl)
  · exact (show Tryd.prog.wantsStandIn 23 = false by kernel_rfl)

/-- ████ THE CARD ████ -/
theorem ruleBlanksUptoCard_holds : Rows.RuleBlanksUptoCardSaid :=
  Claim7.holds_tied_plain_at .later [] _ _ _ _ ruleBlanksUpto_holds (fun _ h => by cases h) (by kernel_rfl) (fun _ h => by cases h) ruleBlanksUpto_row_tie rfl ⟨rfl, rfl⟩ (by kernel_rfl) rfl blanks_plain (by kernel_rfl)
#print axioms ruleBlanksUptoCard_holds
end Go.Proofs.YtmmlnnbnbgaogaaDoor
