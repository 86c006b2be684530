/- RuleBlanks, RuleRests: what the rows give: the operands that came in, the variables that are listed. -/
import Derived.Test.YtmmlnnbnbgaogaaDoorRuB
import Derived.Test.YtmmlnnbnbgaogaaDoorRows
import Derived.ProofKit
import Derived.OpenShut
import Derived.LaidLaws
import Derived.Lib.LaidTab
namespace Go.Proofs.YtmmlnnbnbgaogaaDoor
open Go.ChangeShapes Go.WideShapes Go.ChangeAt Go.RowKit Ru

set_option maxRecDepth 100000
section
variable {H : Type} {enc : TypeId × Value → H}

def oprV (x : Opr) : Value := .agg #[.string ⟨x.I.toArray⟩, .int .i64 x.V, .int .i64 x.W, .string ⟨x.F.toArray⟩, .string ⟨x.T.toArray⟩, .int .i64 x.E]
def oprD {H : Type} (x : Opr) : DataW H := .agg [.lit (.string x.I), .lit (.int .i64 x.V), .lit (.int .i64 x.W), .lit (.string x.F), .lit (.string x.T), .lit (.int .i64 x.E)]

theorem str_of (s : ByteArray) : s = ⟨s.data.toList.toArray⟩ := by cases s; simp

theorem wf_fits {n : Int} (h : (Lit.int .i64 n).wf = true) : -9223372036854775808 ≤ n ∧ n ≤ 9223372036854775807 := by
  simp only [Lit.wf, Bool.and_eq_true, decide_eq_true_eq] at h
  exact h

/-- operands by value -/
theorem open_opr {W : World} {b : Nat} {sp : Nat → Bool} {held : Bool} {base : Nat} {v : Value} {d : DataW H} {p : List MemPlace} (hok : Value.okWide Tryd.prog W .any base 23 v) (h : DataW.Trod enc Tryd.prog W b sp held 23 v d p) :
    ∃ x : Opr, v = oprV x ∧ d = oprD x ∧ p = [] ∧ (-9223372036854775808 ≤ x.V ∧ x.V ≤ 9223372036854775807) ∧ (-9223372036854775808 ≤ x.W ∧ x.W ≤ 9223372036854775807) ∧ (-9223372036854775808 ≤ x.E ∧ x.E ≤ 9223372036854775807) := by
  obtain ⟨cs, rfl, hc⟩ := okWide_struct Tryd.underlying23 hok
  obtain ⟨fuel, h⟩ := h
  obtain ⟨xs, n, _, hx, hl, hxl, hf⟩ := DataW.trod_struct Tryd.underlying23 h
  have c6 : Tryd.prog.cellsOf 23 = 6 := by kernel_rfl
  have cs1 : Tryd.prog.cellsOf 9 = 1 := by kernel_rfl
  have ci1 : Tryd.prog.cellsOf 3 = 1 := by kernel_rfl
  rw [c6] at hc
  obtain ⟨l⟩ := cs
  match l, hc with
  | [c0, c1, c2, c3, c4, c5], _ =>
    match xs, hxl with
    | [x0, x1, x2, x3, x4, x5], _ =>
      have h0 := hf 0 _ rfl
      have h1 := hf 1 _ rfl
      have h2 := hf 2 _ rfl
      have h3 := hf 3 _ rfl
      have h4 := hf 4 _ rfl
      have h5 := hf 5 _ rfl
      simp only [Value.cells] at h0 h1 h2 h3 h4 h5
      obtain ⟨s0, e0, y0, m0⟩ := DataW.trod_string Tryd.underlying9 h0
      obtain ⟨n1, e1, y1, m1⟩ := DataW.trod_int Tryd.underlying3 h1
      obtain ⟨n2, e2, y2, m2⟩ := DataW.trod_int Tryd.underlying3 h2
      obtain ⟨s3, e3, y3, m3⟩ := DataW.trod_string Tryd.underlying9 h3
      obtain ⟨s4, e4, y4, m4⟩ := DataW.trod_string Tryd.underlying9 h4
      obtain ⟨n5, e5, y5, m5⟩ := DataW.trod_int Tryd.underlying3 h5
      obtain rfl : c0 = _ := (List.cons.inj (show [c0] = [_] from e0)).1
      obtain rfl : c1 = _ := (List.cons.inj (show [c1] = [_] from e1)).1
      obtain rfl : c2 = _ := (List.cons.inj (show [c2] = [_] from e2)).1
      obtain rfl : c3 = _ := (List.cons.inj (show [c3] = [_] from e3)).1
      obtain rfl : c4 = _ := (List.cons.inj (show [c4] = [_] from e4)).1
      obtain rfl : c5 = _ := (List.cons.inj (show [c5] = [_] from e5)).1
      subst y0 y1 y2 y3 y4 y5
      refine ⟨⟨s0.data.toList, n1, n2, s3.data.toList, s4.data.toList, n5⟩, ?_, ?_, ?_, wf_fits m1, wf_fits m2, wf_fits m5⟩
      · simp only [oprV, ← str_of]
      · have := congrArg Prod.fst hx
        simpa [oprD] using this
      · have := congrArg Prod.snd hx
        simpa using this

theorem wf_mk {n : Int} (h : -9223372036854775808 ≤ n ∧ n ≤ 9223372036854775807) : (Lit.int .i64 n).wf = true := by
  simp only [Lit.wf, Bool.and_eq_true, decide_eq_true_eq]
  exact h

/-- and back, in any world -/
theorem shut_opr {W : World} {b : Nat} {sp : Nat → Bool} {held : Bool} {x : Opr} (hx : x.fits) : DataW.Trod enc Tryd.prog W b sp held 23 (oprV x) (oprD x) [] := by
  have c6 : Tryd.prog.cellsOf 23 = 6 := by kernel_rfl
  have cs1 : Tryd.prog.cellsOf 9 = 1 := by kernel_rfl
  have ci1 : Tryd.prog.cellsOf 3 = 1 := by kernel_rfl
  have hs : ∀ l : Tok, l.length ≤ 140737488351232 → DataW.trod enc Tryd.prog W b sp held 1 9 [.string ⟨l.toArray⟩] = some (.lit (.string l), []) := fun l hl => by
    have hm : (⟨l.toArray⟩ : ByteArray).size ≤ maxLen := by
      show l.toArray.size ≤ maxLen
      simp only [List.size_toArray]; unfold maxLen; omega
    simp [DataW.trod, Tryd.underlying9, hm]
  have hi : ∀ n : Int, (Lit.int .i64 n).wf = true → DataW.trod enc Tryd.prog W b sp held 1 3 [.int .i64 n] = some (.lit (.int .i64 n), []) := fun n hn => by
    simp [DataW.trod, Tryd.underlying3, hn]
  refine ⟨2, ?_⟩
  have h := trod_struct_mk (enc := enc) (P := Tryd.prog) (w := W) (base := b) (spare := sp) (held := held) (n := 1) (cs := (oprV x).cells.toList)
    (xs := [(.lit (.string x.I), []), (.lit (.int .i64 x.V), []), (.lit (.int .i64 x.W), []), (.lit (.string x.F), []), (.lit (.string x.T), []), (.lit (.int .i64 x.E), [])]) Tryd.underlying23 (by rw [c6]; rfl)
    (by simp [oprV, Value.cells, cs1, ci1, hs _ hx.I, hs _ hx.F, hs _ hx.T, hi _ (wf_mk hx.V), hi _ (wf_mk hx.W), hi _ (wf_mk hx.E)])
  simpa [oprD] using h
end

/-- the list without its first -/
theorem laidMet_tail {P : Program} {n : String} {d : DataW Unit} {r : List (String × DataW Unit)} {w : World} (h : laidMet P ((n, d) :: r) w) : laidMet P r w := by
  obtain ⟨ps, ⟨g, t, cs, fuel, p, q, _, _, _, _, hq, rfl⟩, hn, hr⟩ := h
  exact ⟨q, hq, (List.nodup_append.1 hn).2.1, fun b off hb => hr b off (List.mem_append_right _ hb)⟩

/-- an error that is listed -/
theorem iface_of_laid {P : Program} {n nm : String} {d : DataW Unit} {r : List (String × DataW Unit)} {w : World} {g : Nat} {t : TypeId} {ms : Array (String × TypeId)} (hg : P.globalNamed n = some g) (hty : (P.globals[g]?).map (·.type) = some t)
    (hu : P.underlying t = some (.interface ms)) (h : laidMet P ((n, .iface nm d) :: r) w) : ∃ tp p, w.var? P n = some #[.iface tp p] := by
  obtain ⟨ps, ⟨g', t', cs, fuel, p, q, hg', ht', hv, hd, _, _⟩, _, _⟩ := h
  obtain rfl := Option.some.inj (hg.symm.trans hg')
  obtain rfl := Option.some.inj (hty.symm.trans ht')
  obtain ⟨f1, u, v, hcs, _, _⟩ := iface_of_trod hu hd
  refine ⟨u, v, ?_⟩
  rw [hv]
  obtain ⟨l⟩ := cs
  simp only at hcs
  rw [hcs]

theorem gPow : Tryd.prog.globalNamed "internal/strconv.uint64pow10" = some 5 := by kernel_rfl
theorem gSyn : Tryd.prog.globalNamed "strconv.ErrSyntax" = some 3 := by kernel_rfl
theorem gRng : Tryd.prog.globalNamed "strconv.ErrRange" = some 4 := by kernel_rfl

theorem env_of_laid {W : World} (h : laidMetH Tryd.prog Rows.ruleBlanksRow.laid W) (hb : Tryd.prog.globals.size ≤ W.heap.size) : Env W := by
  have h0 : laidMet Tryd.prog [("math/bits.deBruijn32tab", Rows.laid_math_bits_deBruijn32tab), ("math/bits.deBruijn64tab", Rows.laid_math_bits_deBruijn64tab), ("internal/strconv.uint64pow10", Rows.laid_internal_strconv_uint64pow10), ("unicode/utf8.acceptRanges", Rows.laid_unicode_utf8_acceptRanges), ("strconv.ErrRange", Rows.laid_strconv_ErrRange), ("strconv.ErrSyntax", Rows.laid_strconv_ErrSyntax), ("unicode/utf8.first", Rows.laid_unicode_utf8_first)] W := h
  have h2 := laidMet_tail (laidMet_tail h0)
  have h4 := laidMet_tail (laidMet_tail h2)
  have h5 := laidMet_tail h4
  refine ⟨hb, ?_, ?_, ?_⟩
  · exact iface_of_laid gSyn (by kernel_rfl) Tryd.underlying62 h5
  · exact iface_of_laid gRng (by kernel_rfl) Tryd.underlying62 h4
  · exact Lib.tabIs_of_head (k := .u64) (t := 129) (n := 20) gPow (by kernel_rfl) (by kernel_rfl) Tryd.underlying76 (by kernel_rfl) (by kernel_rfl) h2
end Go.Proofs.YtmmlnnbnbgaogaaDoor
