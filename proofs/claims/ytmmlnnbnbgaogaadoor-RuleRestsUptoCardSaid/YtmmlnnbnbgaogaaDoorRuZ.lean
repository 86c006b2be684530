/- Proved here: for every list, every further number and every rest that together hold at most 1048576 values and letters, the law RuleRests of package quipulaw09 returns true, does not panic, and leaves its arguments as they were. Conditions: the package-level variables that the row lists hold at the start what the program's text lays in them (the card ties this); the bound on the size of what comes in. -/
import Derived.Test.YtmmlnnbnbgaogaaDoorCards
import Derived.Test.YtmmlnnbnbgaogaaDoorTie
import Derived.Test.YtmmlnnbnbgaogaaDoorRuV
import Derived.Test.YtmmlnnbnbgaogaaDoorRuY
namespace Go.Proofs.YtmmlnnbnbgaogaaDoor
open Go.ChangeShapes Go.WideShapes Go.ChangeAt Go.RowKit Ru
open Go.ChangeMaps (open_string shut_string)
set_option maxRecDepth 100000

section
variable {H : Type} {enc : TypeId × Value → H}

def restsD {H : Type} (n : Int) (x : Opr) : DataW H := .agg [.lit (.int .i64 n), oprD x]

/-- a divisor's noughts and operands, by value -/
theorem open_rests {W : World} {b : Nat} {sp : Nat → Bool} {held : Bool} {base : Nat} {v : Value} {d : DataW H} {p : List MemPlace} (hok : Value.okWide Tryd.prog W .any base 31 v) (h : DataW.Trod enc Tryd.prog W b sp held 31 v d p) :
    ∃ n x, v = restsV n x ∧ d = restsD n x ∧ p = [] ∧ (-9223372036854775808 ≤ n ∧ n ≤ 9223372036854775807) ∧ (-9223372036854775808 ≤ x.V ∧ x.V ≤ 9223372036854775807) ∧ (-9223372036854775808 ≤ x.W ∧ x.W ≤ 9223372036854775807) ∧ (-9223372036854775808 ≤ x.E ∧ x.E ≤ 9223372036854775807) := by
  obtain ⟨cs, rfl, hc⟩ := okWide_struct Tryd.underlying31 hok
  obtain ⟨fuel, h⟩ := h
  obtain ⟨ys, n, _, hy, hyl0, hyl, hyf⟩ := DataW.trod_struct Tryd.underlying31 h
  have c7 : Tryd.prog.cellsOf 31 = 7 := by kernel_rfl
  have c6 : Tryd.prog.cellsOf 23 = 6 := by kernel_rfl
  have cs1 : Tryd.prog.cellsOf 9 = 1 := by kernel_rfl
  have ci1 : Tryd.prog.cellsOf 3 = 1 := by kernel_rfl
  rw [c7] at hc
  obtain ⟨l⟩ := cs
  match l, hc with
  | [c, c0, c1, c2, c3, c4, c5], _ =>
    match ys, hyl with
    | [y0, y1], _ =>
      have g0 := hyf 0 _ rfl
      have g1 := hyf 1 _ rfl
      simp only [Value.cells] at g0 g1
      obtain ⟨n0, e, y, m⟩ := DataW.trod_int Tryd.underlying3 g0
      obtain ⟨xs, n', _, hx, hl, hxl, hf⟩ := DataW.trod_struct Tryd.underlying23 g1
      match xs, hxl with
      | [x0, x1, x2, x3, x4, x5], _ =>
        have h0 := hf 0 _ rfl
        have h1 := hf 1 _ rfl
        have h2 := hf 2 _ rfl
        have h3 := hf 3 _ rfl
        have h4 := hf 4 _ rfl
        have h5 := hf 5 _ rfl
        obtain ⟨s0, e0, y0, m0⟩ := DataW.trod_string Tryd.underlying9 h0
        obtain ⟨n1, e1, y1, m1⟩ := DataW.trod_int Tryd.underlying3 h1
        obtain ⟨n2, e2, y2, m2⟩ := DataW.trod_int Tryd.underlying3 h2
        obtain ⟨s3, e3, y3, m3⟩ := DataW.trod_string Tryd.underlying9 h3
        obtain ⟨s4, e4, y4, m4⟩ := DataW.trod_string Tryd.underlying9 h4
        obtain ⟨n5, e5, y5, m5⟩ := DataW.trod_int Tryd.underlying3 h5
        obtain rfl : c = _ := (List.cons.inj (show [c] = [_] from e)).1
        obtain rfl : c0 = _ := (List.cons.inj (show [c0] = [_] from e0)).1
        obtain rfl : c1 = _ := (List.cons.inj (show [c1] = [_] from e1)).1
        obtain rfl : c2 = _ := (List.cons.inj (show [c2] = [_] from e2)).1
        obtain rfl : c3 = _ := (List.cons.inj (show [c3] = [_] from e3)).1
        obtain rfl : c4 = _ := (List.cons.inj (show [c4] = [_] from e4)).1
        obtain rfl : c5 = _ := (List.cons.inj (show [c5] = [_] from e5)).1
        subst y0 y1 y2 y3 y4 y5 y
        subst hx
        refine ⟨n0, ⟨s0.data.toList, n1, n2, s3.data.toList, s4.data.toList, n5⟩, ?_, ?_, ?_, wf_fits m, wf_fits m1, wf_fits m2, wf_fits m5⟩
        · simp only [restsV, ← str_of]
        · have := congrArg Prod.fst hy
          simpa [restsD, oprD] using this
        · have := congrArg Prod.snd hy
          simpa using this

/-- and back, in any world -/
theorem shut_rests {W : World} {b : Nat} {sp : Nat → Bool} {held : Bool} {n : Int} {x : Opr} (hn : -9223372036854775808 ≤ n ∧ n ≤ 9223372036854775807) (hx : x.fits) : DataW.Trod enc Tryd.prog W b sp held 31 (restsV n x) (restsD n x) [] := by
  have c7 : Tryd.prog.cellsOf 31 = 7 := by kernel_rfl
  have c6 : Tryd.prog.cellsOf 23 = 6 := by kernel_rfl
  have cs1 : Tryd.prog.cellsOf 9 = 1 := by kernel_rfl
  have ci1 : Tryd.prog.cellsOf 3 = 1 := by kernel_rfl
  have hs : ∀ l : List UInt8, l.length ≤ 140737488351232 → DataW.trod enc Tryd.prog W b sp held 1 9 [.string ⟨l.toArray⟩] = some (.lit (.string l), []) := fun l hl => by
    have hm : (⟨l.toArray⟩ : ByteArray).size ≤ maxLen := by
      show l.toArray.size ≤ maxLen
      simp only [List.size_toArray]; unfold maxLen; omega
    simp [DataW.trod, Tryd.underlying9, hm]
  have hi : ∀ (f : Nat) (n : Int), (Lit.int .i64 n).wf = true → DataW.trod enc Tryd.prog W b sp held (f + 1) 3 [.int .i64 n] = some (.lit (.int .i64 n), []) := fun f n hn => by
    simp [DataW.trod, Tryd.underlying3, hn]
  have h := trod_struct_mk (enc := enc) (P := Tryd.prog) (w := W) (base := b) (spare := sp) (held := held) (n := 1) (cs := (oprV x).cells.toList)
    (xs := [(.lit (.string x.I), []), (.lit (.int .i64 x.V), []), (.lit (.int .i64 x.W), []), (.lit (.string x.F), []), (.lit (.string x.T), []), (.lit (.int .i64 x.E), [])]) Tryd.underlying23 (by rw [c6]; rfl)
    (by simp [oprV, Value.cells, cs1, ci1, hs _ hx.I, hs _ hx.F, hs _ hx.T, hi 0 _ (wf_mk hx.V), hi 0 _ (wf_mk hx.W), hi 0 _ (wf_mk hx.E)])
  have h2 : DataW.trod enc Tryd.prog W b sp held 2 23 [.string ⟨x.I.toArray⟩, .int .i64 x.V, .int .i64 x.W, .string ⟨x.F.toArray⟩, .string ⟨x.T.toArray⟩, .int .i64 x.E] = some (oprD x, []) := by
    simpa [oprD, oprV, Value.cells] using h
  refine ⟨3, ?_⟩
  have h3 := trod_struct_mk (enc := enc) (P := Tryd.prog) (w := W) (base := b) (spare := sp) (held := held) (n := 2) (cs := (restsV n x).cells.toList)
    (xs := [(.lit (.int .i64 n), []), (oprD x, [])]) Tryd.underlying31 (by rw [c7]; rfl)
    (by simp [restsV, Value.cells, c6, ci1, hi 1 _ (wf_mk hn), h2])
  simpa [restsD] using h3
end

def zeroRests : Array Value := #[.string ⟨#[]⟩, .string ⟨#[]⟩, .agg #[.int .i64 0, .string ⟨#[]⟩, .int .i64 0, .int .i64 0, .string ⟨#[]⟩, .string ⟨#[]⟩, .int .i64 0]]

theorem rests_met (os : Os) : laidMet Tryd.prog Rows.ruleRestsRow.laid ((laidWorld os).forCall (fun _ _ => 0) ⟨#[], zeroRests, []⟩).memory :=
  laidMet_of_run3 8 (by kernel_rfl) (by kernel_rfl) (by kernel_rfl)
theorem rests_reads (os : Os) {H : Type} (enc : TypeId × Value → H) : ∃ places, DataW.whole enc Tryd.prog ((laidWorld os).forCall (fun _ _ => 0) ⟨#[], zeroRests, []⟩).memory Tryd.f4.params.toList Rows.ruleRestsSpec.vars false zeroRests.toList 8 = some ([.lit (.string []), .lit (.string []), .agg [.lit (.int .i64 0), .agg [.lit (.string []), .lit (.int .i64 0), .lit (.int .i64 0), .lit (.string []), .lit (.string []), .lit (.int .i64 0)]]], [], places) :=
  ⟨[], by kernel_rfl⟩
theorem rests_vars (os : Os) : ((laidWorld os).forCall (fun _ _ => 0) ⟨#[], zeroRests, []⟩).variablesRefB Tryd.prog = true := by kernel_rfl
theorem rests_rest (os : Os) : ((((laidWorld os).forCall (fun _ _ => 0) ⟨#[], zeroRests, []⟩).heap.toList.drop Tryd.prog.globals.size).take ((begin Tryd.prog (fun _ _ => 0) default).world.heap.size - Tryd.prog.globals.size) =
      (begin Tryd.prog (fun _ _ => 0) default).world.heap.toList.drop Tryd.prog.globals.size) := by kernel_rfl
theorem rests_ok (os : Os) : Input.okWideB Tryd.prog ((laidWorld os).forCall (fun _ _ => 0) ⟨#[], zeroRests, []⟩) 4 ⟨#[], zeroRests, []⟩ = true := by kernel_rfl

/-- WHAT THE BOUND GIVES -/
theorem rests_short {H : Type} {s m : List UInt8} {n : Int} {x : Opr} (hk : Rows.uptoSmall H [.lit (.string s), .lit (.string m), restsD n x] = true) : s.length ≤ 1048576 ∧ m.length ≤ 1048576 ∧ x.I.length ≤ 1048576 ∧ x.F.length ≤ 1048576 ∧ x.T.length ≤ 1048576 := by
  have h : Rows.uptoBulkAll [DataW.lit (H := H) (.string s), .lit (.string m), restsD n x] ≤ 1048576 := of_decide_eq_true hk
  simp only [Rows.uptoBulkAll, Rows.uptoBulk, restsD, oprD] at h
  omega

theorem rests_contract (H : Type) (enc : TypeId × Value → H) (W : World) (base : Nat) (args : Array Value) (ds gs : List (DataW H)) (before : List MemPlace)
    (hval : ∀ (j : Nat) t v, Tryd.f4.params[j]? = some t → args[j]? = some v → Value.okWide Tryd.prog W .any base t v)
    (hW : DataW.Whole enc Tryd.prog Tryd.f4.params.toList Rows.ruleRestsSpec.vars false W args.toList ds gs before) (hk : Rows.uptoSmall H (ds ++ gs) = true)
    (hL : laidMetH Tryd.prog Rows.ruleRestsRow.laid W) (hS : W.ShapedOpen Tryd.prog) :
    Calls Tryd.prog 4 args W fun e W' => ∃ v, e = .returned v ∧ Rows.ruleRestsSpec.post enc Tryd.prog Tryd.f4 false true false false W args v W' := by
  have hW' := hW
  obtain ⟨p, q, hA0, hV, rfl, hfz, hnd⟩ := hW
  have hA : DataW.TrodAll enc Tryd.prog W 0 (fun _ => true) true Tryd.f4.params.toList args.toList ds p := hA0
  rw [Tryd.params4] at hA hval
  obtain ⟨v0, vs0, d0, ds0, p0, q0, hargs, rfl, rfl, h0, r0⟩ := trodAll_cons hA
  obtain ⟨v1, vs1, d1, ds1, p1, q1, rfl, rfl, rfl, h1, r1⟩ := trodAll_cons r0
  obtain ⟨v2, vs2, d2, ds2, p2, q2, rfl, rfl, rfl, h2, r2⟩ := trodAll_cons r1
  obtain ⟨rfl, rfl, rfl⟩ := trodAll_nil r2
  obtain rfl : args = #[v0, v1, v2] := by cases args; simp_all
  obtain ⟨rfl, rfl⟩ := trodVars_none hV
  obtain ⟨s, rfl, rfl, rfl, hmax⟩ := open_string Tryd.underlying9 (hval 0 9 v0 rfl rfl) h0
  obtain ⟨m, rfl, rfl, rfl, hmax1⟩ := open_string Tryd.underlying9 (hval 1 9 v1 rfl rfl) h1
  obtain ⟨n, x, rfl, rfl, rfl, hn, hxV, hxW, hxE⟩ := open_rests (hval 2 31 v2 rfl rfl) h2
  clear hA0
  simp only [List.append_nil] at hW' hk
  obtain ⟨b0, bm, b1, b2, b3⟩ := rests_short hk
  have hx : x.fits := ⟨by omega, by omega, by omega, hxV, hxW, hxE⟩
  have hE := env_of_laid hL (big_of_shaped hS)
  have hwalk := rests_any s.data.toList m.data.toList b0 bm n x hx W hE
  rw [← str_of, ← str_of] at hwalk
  refine hwalk.mono fun e W' ⟨he, hg⟩ => ?_
  subst he
  have hbel : Below W.heap.size W W' := ⟨hg.os, hg.tape, hg.output, hg.size, fun k hk => hg.block k hk (by simp)⟩
  refine ⟨_, rfl, _, _, _, [], [], [], hW', ?_, ?_, ?_, hbel.frame _, fun h => by cases h⟩
  · exact trodAll_cons_mk (shut_bool Tryd.underlying4 _) trodAll_mk0
  · exact trodAll_cons_mk (shut_string Tryd.underlying9 hmax) (trodAll_cons_mk (shut_string Tryd.underlying9 hmax1) (trodAll_cons_mk (shut_rests hn hx) trodAll_mk0))
  · rfl

theorem rests_lifted (os : Os) (started : os.Started) (H : Type) (enc : TypeId × Value → H) (F : Stop.Interp) :
    ReturnsInHanded {} Tryd.checked os 4 .any ((Rows.OpenSpec.upto Rows.ruleRestsSpec).preRow enc Tryd.prog Tryd.f4 Rows.ruleRestsUptoRow.domain false Rows.ruleRestsUptoRow.laid) (((Rows.OpenSpec.upto Rows.ruleRestsSpec).at F).post enc Tryd.prog Tryd.f4 false true false false) := by
  obtain ⟨places, hx⟩ := rests_reads os enc
  refine returnsInHanded_of_row (C := Tryd.checked) (s := Rows.OpenSpec.upto Rows.ruleRestsSpec) own0 started (by kernel_rfl) Tryd.func4
    (witness_row_atRef (enc := enc) (C := Tryd.checked) false (laidWorld os) zeroRests rfl (rests_vars os) (rests_rest os) (rests_ok os)
      (OpenSpec.preRow_of_cond 8 hx (by kernel_rfl) (fun k hk => by cases hk; kernel_rfl) (by kernel_rfl) (rests_met os))) ?_
  intro W base args ds gs before hval hW _ hcond _ hL hS _
  exact rests_contract H enc W base args ds gs before hval hW (hcond _ rfl) hL hS

theorem ruleRestsUpto_holds : Rows.RuleRestsUptoSaid :=
  OpenClaim.holds_of_cond 4 Tryd.f4 rfl rfl rfl rfl rfl rfl rfl ⟨rfl, rfl, rfl, rfl, rfl⟩ rfl rfl rfl rfl rfl (by kernel_rfl) Tryd.func4 (by kernel_rfl)
    (of_decide_eq_true (by kernel_rfl)) (by unfold Func.isWrapper; first | (rw [if_pos (by decide +kernel)]; kernel_rfl) | (rw [if_neg (by decide +kernel)]; exact ⟨rfl, rfl⟩))
    (fun os started H enc _ F => by rw [OpenClaim.pre_eq_preRow]; exact rests_lifted os started H enc F)

/-- No parameter wants a stand-in; the program's own looks. -/
theorem rests_plain (f : FuncId) (fn : Func) (hf : Tryd.pinned.checked.prog.funcNamed "quipu/quipulaw09.RuleRests" = some f) (hfn : Tryd.pinned.checked.prog.funcs[f]? = some fn) :
    true = Tryd.pinned.checked.prog.looks [] ∧ ∀ (j : Nat) t, fn.params[j]? = some t → Tryd.pinned.checked.prog.wantsStandIn t = false := by
  obtain rfl : f = 4 := Option.some.inj ((show Tryd.prog.funcNamed "quipu/quipulaw09.RuleRests" = some 4 by kernel_rfl).symm.trans hf) |>.symm
  obtain rfl : fn = Tryd.f4 := (Option.some.inj (Tryd.func4.symm.trans hfn)).symm
  refine ⟨by kernel_rfl, fun j t ht => ?_⟩
  rw [Tryd.params4] at ht
  have hm : t = 9 ∨ t = 9 ∨ t = 31 := by simpa using Array.mem_of_getElem? ht
  rcases hm with rfl | rfl | rfl
  · exact (show Tryd.prog.wantsStandIn 9 = false by kernel_rfl)
  · exact (show Tryd.prog.wantsStandIn 9 = false by kernel_rfl)
  · exact (show Tryd.prog.wantsStandIn 31 = false by kernel_rfl)

/-- ████ THE CARD ████ -/
theorem ruleRestsUptoCard_holds : Rows.RuleRestsUptoCardSaid :=
  Claim7.holds_tied_plain_at .later [] _ _ _ _ ruleRestsUpto_holds (fun _ h => by cases h) (by kernel_rfl) (fun _ h => by cases h) ruleRestsUpto_row_tie rfl ⟨rfl, rfl⟩ (by kernel_rfl) rfl rests_plain (by kernel_rfl)
#print axioms ruleRestsUptoCard_holds
end Go.Proofs.YtmmlnnbnbgaogaaDoor
