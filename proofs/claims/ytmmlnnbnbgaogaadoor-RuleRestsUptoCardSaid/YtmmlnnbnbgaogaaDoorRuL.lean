/- entries: the walk. -/
import Derived.Test.YtmmlnnbnbgaogaaDoorRuK
namespace Go.Proofs.YtmmlnnbnbgaogaaDoor
open Go.RowKit Ru

theorem Ent.ok0 {w : World} {b : Nat} {T : Nat → Int} {wr : World} (h : Ent w b T wr) : Ent w b T (wr.setCell ⟨w.heap.size + 1, 0, none⟩ (.int .i64 0)) := by
  have hset : ∀ k, k ≠ w.heap.size + 1 → (wr.setCell ⟨w.heap.size + 1, 0, none⟩ (.int .i64 0)).heap[k]? = wr.heap[k]? := fun k hk => Below.heap_setCell _ _ _ k hk
  exact ⟨⟨h.old.os, h.old.tape, h.old.output, by simpa [World.setCell] using h.old.size, fun k hk _ => (hset k (by omega)).trans (h.old.block k hk (by simp))⟩, h.b1, h.be.set _, (hset _ (by omega)).trans h.tb, h.bd⟩

theorem leaves_same {P : Program} {fn : Func} {tmps tmps' : Array Value} {R : Ending → World → Prop} (h : results fn tmps = results fn tmps') : ∀ (ds : List Deferred) (u : FrameMode) (w : World), Leaves P fn tmps R ds u w → Leaves P fn tmps' R ds u w
  | [], .returning, w, hL => by
    obtain ⟨v, h1, h2⟩ := hL
    exact ⟨v, h ▸ h1, h2⟩
  | [], .panicking chain, w, hL => hL
  | [], .run, w, hL => hL.elim
  | d :: ds, u, w, hL => by
    obtain ⟨hr, fv, cap, f, args, ht, hi, hc⟩ := hL
    refine ⟨hr, fv, cap, f, args, ht, hi, hc.mono ?_⟩
    intro e u' w' hx
    cases e with
    | returned v => exact leaves_same h ds _ _ hx
    | panicked c => exact leaves_same h ds _ _ hx
    | outgrown => exact hx

/-- a temporary that no result reads may be written ahead -/
theorem ent_hq {R : Ending → World → Prop} (k : Nat) (h2 : k ≠ 2) (h3 : k ≠ 3) (v : Value) (c : List PanicEntry) (a : Act) (w : World) (h : bodyPostD Tryd.prog Tryd.f22 R (.panic c) (a.put (some k) v) w) :
    bodyPostD Tryd.prog Tryd.f22 R (.panic c) a w := by
  refine leaves_same ?_ _ _ _ h
  have e2 : ((a.put (some k) v).tmps).getD 2 undef = a.tmps.getD 2 undef := by simp [Act.put, h2]
  have e3 : ((a.put (some k) v).tmps).getD 3 undef = a.tmps.getD 3 undef := by simp [Act.put, h3]
  simp only [results, Tryd.results22]
  generalize (a.put (some k) v).tmps = A at e2 e3 ⊢
  have f2 : A[2]?.getD undef = a.tmps[2]?.getD undef := by simpa using e2
  have f3 : A[3]?.getD undef = a.tmps[3]?.getD undef := by simpa using e3
  simp [f2, f3]

/-- where the loop over the entries stands -/
def EntRel (R : Option (Nat → Int)) (w : World) (b : Nat) (k : Nat) (s5 : Value) (wr : World) : Prop :=
  ∃ more T ts', s5 = .bool more ∧ Rdr wr b ts' ∧ Ent w b T wr ∧
    ((Hid (more = true) ∧ ts'.length ≤ k ∧ Hid (entT (k + 1) T ts' = R)) ∨ (Hid (more = false) ∧ Hid (R = if ts' = [] then some T else none)))

set_option maxRecDepth 20000 in
set_option maxHeartbeats 1000000 in
theorem entries_short (s : Tok) (hl : s.length ≤ 1024) (w : World) :
    Calls Tryd.prog 22 #[.string ⟨s.toArray⟩] w (EntPost s w) := by
  go_enter_defers Tryd.func22, Tryd.ntmps22
  go_upto_region 5 with (first
    | (refine Great.wpList_allocTo rfl _ rfl _ _ (tab_alloc _ _ _ rfl) ?_)
    | (go_at_call 17; refine (read_any s hl _).mono ?_; rintro e w2 (⟨ts, b, hts, rfl, hr, hb, hg⟩ | ⟨hts, rfl, hg⟩)))
  · have hP : Ent w b zeroT w2 := by
      have hb' : w.heap.size + 2 ≤ b := by simpa using hb
      refine ⟨((World.grownBy_alloc w _ none).trans (World.grownBy_alloc _ _ none)).trans hg, hb', ?_, ?_, fun k => by simp [zeroT]⟩
      · exact Boxed.kept (by simpa using Boxed.new (w.alloc (.cells (tabC zeroT) 50 (0, 0))) 25 (.int .i64 0)) hg (by simp)
      · exact (hg.block _ (by simp; omega) (by simp)).trans ((Below.heap_alloc _ _ _ (by simp)).trans (World.alloc_heap_new w _))
    have hpk : entAns s = match entsT ts with
        | none => (90, zeroT)
        | some T => (0, T) := by unfold entAns; rw [if_neg (by omega), hts.out]; rfl
    have HPK := Lib.hid hpk
    clear hpk hb hts hg
    generalize hR : entsT ts = R at HPK
    have HR := Lib.hid hR
    clear hR
    have hlk := hr.look
    have hfi := hr.first
    go_cut [5] from 14 to 20 (fun s5 wx => s5 = .bool (!ts.isEmpty) ∧ Rdr wx b ts ∧ Ent w b zeroT wx)
    case first =>
      obtain ⟨g, o, cap, hl1, hl2⟩ := hlk
      go_wp2
      go_meet
      exact ⟨rfl, hr, hP⟩
    case rest =>
      obtain ⟨rfl, hr3, hP3⟩ := hcut
      clear hr hP hlk hfi
      go_wp2
      go_loopg [5, 6, 7] ts.length (fun k s5 s6 s7 wr => EntRel R w b k s5 wr)
      case atStart =>
        refine ⟨!ts.isEmpty, zeroT, ts, rfl, hr3, hP3, ?_⟩
        cases ts with
        | nil => exact .inr ⟨rfl, by have := HR.out; unfold entsT at this; exact this.symm⟩
        | cons t tl => exact .inl ⟨rfl, Nat.le_refl _, by have := HR.out; unfold entsT at this; rw [if_neg (by simp)] at this; exact this⟩
      case round =>
        obtain ⟨more, T, ts1, rfl, hr4, hP4, ⟨hm, hk, HRR⟩ | ⟨hm, HRR⟩⟩ := hrel
        · obtain rfl := hm.out
          have hno : R = none → (entAns s).1 = 90 := fun h => by rw [HPK.out, h]
          have HNO := Lib.hid hno
          clear hno
          go_upto_region 9 with (go_at_call 19; refine (category_any _ _ _ hr4).mono ?_; rintro e w5 (⟨c, ts2, hct, rfl, hr5, hg5⟩ | ⟨hct, rfl, hg5⟩))
          · have hP5 := hP4.kept hg5
            obtain ⟨⟨an, rfl, han⟩, hlt2⟩ := catT_in hct.out
            go_upto_region 11 with (first
              | (go_at_call 18; refine (take_any [43] rfl _ _ _ hr5).mono ?_; rintro e w6 ⟨y, ts3, htk, rfl, hr6, hg6⟩; cases y)
              | (go_at_call 20; first | (refine (must_no _).mono ?_; rintro e w7 ⟨rfl, rfl⟩) | (refine (must_ok _).mono ?_; rintro e w7 ⟨rfl, rfl⟩))
              | (go_at_call 19; refine (category_any _ _ _ hr6).mono ?_; rintro e w7 (⟨c, ts4, hct2, rfl, hr7, hg7⟩ | ⟨hct2, rfl, hg7⟩)))
            · exact ent_door rfl rfl (hP5.kept hg6) (HNO.out (by rw [← HRR.out]; simp only [entT, hct.out, htk.out]))
            · have hP7 := (hP5.kept hg6).kept hg7
              obtain ⟨⟨bn, rfl, hbn⟩, hlt4⟩ := catT_in hct2.out
              have hix : 6 * (an : Int).toNat + (bn : Int).toNat = an * 6 + bn := by omega
              have HIX := Lib.hid hix
              clear hix
              generalize ht0 : T (an * 6 + bn) = t0
              have HT0 := Lib.hid ht0
              clear ht0
              go_upto_region 12 with (first
                | (go_at_call 18; refine (take_any [58] rfl _ _ _ hr7).mono ?_; rintro e w8 ⟨y, ts5, htk2, rfl, hr8, hg8⟩; have htd := tab_cell (hP7.kept hg8).tb (an * 6 + bn) (by omega); have htd1 := htd.1; clear htd; rw [HT0.out] at htd1; cases y)
                | (go_at_call 20; first | (refine (must_no _).mono ?_; rintro e w9 ⟨rfl, rfl⟩) | (refine (must_any _ _).mono ?_; rintro e w9 ⟨rfl, ⟨HX, rfl⟩ | ⟨HX, rfl⟩⟩)))
              · exact ent_door rfl rfl (hP7.kept hg8) (HNO.out (by rw [← HRR.out]; simp only [entT, hct.out, htk.out, hct2.out, htk2.out]))
              · obtain rfl : t0 = 0 := by simpa using HX.out
                have hP8 := hP7.kept hg8
                have hr8d : Rdr w8.drew b ts5 := hr8.kept (⟨rfl, rfl, rfl, Nat.le_refl _, fun _ _ _ => rfl⟩ : w8.grownBy w8.drew none)
                clear HX htd1
                have h6a : (an : Int) < 6 := by omega
                have h6b : (bn : Int) < 6 := by omega
                rcases hC : catT ts5 with _ | ⟨c, ts6⟩
                · have HC := Lib.hid hC
                  clear hC
                  have hnx : R = none := by rw [← HRR.out]; simp only [entT, hct.out, htk.out, hct2.out, htk2.out, HIX.out, HT0.out, if_true, HC.out]
                  have HNX := Lib.hid hnx
                  clear hnx
                  refine wp_region_any (by kernel_rfl) ?_
                  change wpAny _ _ _ _ _ _ _ (World.drew _)
                  refine wpAny_take (i := 0) (v := ?_) rfl (by kernel_rfl) (by kernel_rfl) (by kernel_rfl) (fun c a w h => ent_hq 42 (by decide) (by decide) _ c a w h) (Or.inl ⟨by rfl, ?_⟩) ?_
                  rotate_left
                  · intro w; go_simp; try with_reducible rfl
                  refine wpAny_take (i := 1) (v := ?_) rfl (by kernel_rfl) (by kernel_rfl) (by kernel_rfl) (fun c a w h => ent_hq 43 (by decide) (by decide) _ c a w h) (Or.inl ⟨by rfl, ?_⟩) ?_
                  rotate_left
                  · intro w; go_simp; try with_reducible rfl
                  refine wpAny_take (i := 2) (v := ?_) rfl (by kernel_rfl) (by kernel_rfl) (by kernel_rfl) (fun c a w h => ent_hq 44 (by decide) (by decide) _ c a w h) (Or.inl ⟨by rfl, ?_⟩) ?_
                  rotate_left
                  · intro w; go_simp; try with_reducible rfl
                  refine wpAny_ready (rs := [3, 5]) (by kernel_rfl) (by simp) ?_
                  refine AllReady.cons rfl (fun K hK => ?_) ?_
                  · go_simp
                    refine (category_any _ _ _ hr8d).mono ?_; rintro e w9 (⟨c', ts7, hct4, rfl, hr9, hg9⟩ | ⟨hct4, rfl, hg9⟩)
                    · exact absurd (HC.out.symm.trans hct4.out) (by simp)
                    exact ent_door rfl rfl (hP8.kept (of_drew hg9)) (HNO.out HNX.out)
                  refine AllReady.cons rfl (fun K hK => ?_) AllReady.nil
                  go_simp
                  refine hK _ _ ?_
                  clear hK K
                  refine wpAny_ready (rs := [3]) (by kernel_rfl) (by simp) ?_
                  refine AllReady.cons rfl (fun K hK => ?_) AllReady.nil
                  go_simp
                  refine (category_any _ _ _ hr8d).mono ?_; rintro e w9 (⟨c', ts7, hct4, rfl, hr9, hg9⟩ | ⟨hct4, rfl, hg9⟩)
                  · exact absurd (HC.out.symm.trans hct4.out) (by simp)
                  exact ent_door rfl rfl (hP8.kept (of_drew hg9)) (HNO.out HNX.out)
                · obtain ⟨⟨cn, rfl, hcn⟩, _⟩ := catT_in hC
                  have HC := Lib.hid hC
                  clear hC
                  have hwr : IntKind.i64.wrap (1 + (cn : Int)) = 1 + cn := IntWalk.i64_in _ (by omega)
                  refine wp_region_any (by kernel_rfl) ?_
                  change wpAny _ _ _ _ _ _ _ (World.drew _)
                  refine wpAny_take (i := 0) (v := ?_) rfl (by kernel_rfl) (by kernel_rfl) (by kernel_rfl) (fun c a w h => ent_hq 42 (by decide) (by decide) _ c a w h) (Or.inl ⟨by rfl, ?_⟩) ?_
                  rotate_left
                  · intro w; go_simp; try with_reducible rfl
                  refine wpAny_take (i := 1) (v := ?_) rfl (by kernel_rfl) (by kernel_rfl) (by kernel_rfl) (fun c a w h => ent_hq 43 (by decide) (by decide) _ c a w h) (Or.inl ⟨by rfl, ?_⟩) ?_
                  rotate_left
                  · intro w; go_simp; try with_reducible rfl
                  refine wpAny_take (i := 2) (v := ?_) rfl (by kernel_rfl) (by kernel_rfl) (by kernel_rfl) (fun c a w h => ent_hq 44 (by decide) (by decide) _ c a w h) (Or.inl ⟨by rfl, ?_⟩) ?_
                  rotate_left
                  · intro w; go_simp; try with_reducible rfl
                  refine wpAny_ready (rs := [3, 5]) (by kernel_rfl) (by simp) ?_
                  refine AllReady.cons rfl (fun K hK => ?_) ?_
                  · go_simp
                    refine (category_any _ _ _ hr8d).mono ?_; rintro e w9 (⟨c', ts7, hct4, rfl, hr9, hg9⟩ | ⟨hct4, rfl, hg9⟩)
                    rotate_left
                    · exact absurd (HC.out.symm.trans hct4.out) (by simp)
                    obtain ⟨rfl, rfl⟩ : (cn : Int) = c' ∧ ts6 = ts7 := by simpa using HC.out.symm.trans hct4.out
                    have hP9 := hP8.kept (of_drew hg9)
                    have htf := tab_cell hP9.tb (an * 6 + bn) (by omega)
                    have htf1 := htf.1
                    have htf2 := htf.2
                    clear htf
                    refine hK _ _ ?_
                    clear hK K
                    refine wpAny_take (i := 4) (v := ?_) rfl (by kernel_rfl) (by kernel_rfl) (by kernel_rfl) (fun c a w h => ent_hq 46 (by decide) (by decide) _ c a w h) (Or.inl ⟨by rfl, ?_⟩) ?_
                    rotate_left
                    · intro w; go_simp; try with_reducible rfl
                    refine wpAny_ready (rs := [5]) (by kernel_rfl) (by simp) ?_
                    refine AllReady.cons rfl (fun K hK => ?_) AllReady.nil
                    go_simp
                    refine hK _ _ ?_
                    clear hK K
                    refine wpAny_ready (rs := [6]) (by kernel_rfl) (by simp) ?_
                    refine AllReady.cons rfl (fun K hK => ?_) AllReady.nil
                    go_simp
                    refine hK _ _ ?_
                    clear hK K
                    refine wpAny_ready (rs := [7]) (by kernel_rfl) (by simp) ?_
                    refine AllReady.cons rfl (fun K hK => ?_) AllReady.nil
                    go_simp
                    refine hK _ _ ?_
                    clear hK K
                    refine wpAny_done (by kernel_rfl) ?_ _
                    have hr10 := hP9.aside hr9 (an * 6 + bn) (.int .i64 (1 + (cn : Int)))
                    have hP10 := hP9.mark (an * 6 + bn) (1 + (cn : Int)) (by omega)
                    generalize w9.setCell ⟨w.heap.size, an * 6 + bn, none⟩ (.int .i64 (1 + (cn : Int))) = w10 at hP10 hr10
                    clear htf1 htf2
                    go_wp2_with (go_at_call 18; refine (take_any [59] rfl _ _ _ hr10).mono ?_; rintro e w11 ⟨y, ts8, htk3, rfl, hr11, hg11⟩)
                    obtain ⟨hm1, hst⟩ := ent_step hk HRR.out hct.out htk.out hct2.out htk2.out (by rw [HIX.out]; exact HT0.out) HC.out htk3.out
                    rw [HIX.out] at hst
                    go_roundg (gk - 1)
                    case measure => exact hm1
                    case rel => exact ⟨y, _, ts8, rfl, hr11, hP10.kept hg11, hst⟩
                  refine AllReady.cons rfl (fun K hK => ?_) AllReady.nil
                  go_simp
                  refine hK _ _ ?_
                  clear hK K
                  refine wpAny_ready (rs := [3]) (by kernel_rfl) (by simp) ?_
                  refine AllReady.cons rfl (fun K hK => ?_) AllReady.nil
                  go_simp
                  refine (category_any _ _ _ hr8d).mono ?_; rintro e w9 (⟨c', ts7, hct4, rfl, hr9, hg9⟩ | ⟨hct4, rfl, hg9⟩)
                  rotate_left
                  · exact absurd (HC.out.symm.trans hct4.out) (by simp)
                  obtain ⟨rfl, rfl⟩ : (cn : Int) = c' ∧ ts6 = ts7 := by simpa using HC.out.symm.trans hct4.out
                  have hP9 := hP8.kept (of_drew hg9)
                  have htf := tab_cell hP9.tb (an * 6 + bn) (by omega)
                  have htf1 := htf.1
                  have htf2 := htf.2
                  clear htf
                  refine hK _ _ ?_
                  clear hK K
                  refine wpAny_take (i := 4) (v := ?_) rfl (by kernel_rfl) (by kernel_rfl) (by kernel_rfl) (fun c a w h => ent_hq 46 (by decide) (by decide) _ c a w h) (Or.inl ⟨by rfl, ?_⟩) ?_
                  rotate_left
                  · intro w; go_simp; try with_reducible rfl
                  refine wpAny_ready (rs := [6]) (by kernel_rfl) (by simp) ?_
                  refine AllReady.cons rfl (fun K hK => ?_) AllReady.nil
                  go_simp
                  refine hK _ _ ?_
                  clear hK K
                  refine wpAny_ready (rs := [7]) (by kernel_rfl) (by simp) ?_
                  refine AllReady.cons rfl (fun K hK => ?_) AllReady.nil
                  go_simp
                  refine hK _ _ ?_
                  clear hK K
                  refine wpAny_done (by kernel_rfl) ?_ _
                  have hr10 := hP9.aside hr9 (an * 6 + bn) (.int .i64 (1 + (cn : Int)))
                  have hP10 := hP9.mark (an * 6 + bn) (1 + (cn : Int)) (by omega)
                  generalize w9.setCell ⟨w.heap.size, an * 6 + bn, none⟩ (.int .i64 (1 + (cn : Int))) = w10 at hP10 hr10
                  clear htf1 htf2
                  go_wp2_with (go_at_call 18; refine (take_any [59] rfl _ _ _ hr10).mono ?_; rintro e w11 ⟨y, ts8, htk3, rfl, hr11, hg11⟩)
                  obtain ⟨hm1, hst⟩ := ent_step hk HRR.out hct.out htk.out hct2.out htk2.out (by rw [HIX.out]; exact HT0.out) HC.out htk3.out
                  rw [HIX.out] at hst
                  go_roundg (gk - 1)
                  case measure => exact hm1
                  case rel => exact ⟨y, _, ts8, rfl, hr11, hP10.kept hg11, hst⟩
              · have h0 : ¬ t0 = 0 := by simpa using HX.out
                exact ent_door rfl rfl (hP7.kept hg8) (HNO.out (by rw [← HRR.out]; simp only [entT, hct.out, htk.out, hct2.out, htk2.out, HIX.out, HT0.out, h0, if_false]))
            · exact ent_door rfl rfl ((hP5.kept hg6).kept hg7) (HNO.out (by rw [← HRR.out]; simp only [entT, hct.out, htk.out, hct2.out]))
          · have hP5 := hP4.kept hg5
            exact ent_door rfl rfl hP5 (HNO.out (by rw [← HRR.out]; simp only [entT, hct.out]))
        · obtain rfl := hm.out
          obtain ⟨g, o, cap, hl1, hl2⟩ := hr4.look
          have hfi := hr4.first
          have hno : R = none → (entAns s).1 = 90 := fun h => by rw [HPK.out, h]
          have HNO := Lib.hid hno
          clear hno
          cases ts1 with
          | nil =>
            simp only [List.getElem?_nil, Option.getD_none] at hl2
            have hpk : entAns s = (0, T) := by rw [HPK.out, HRR.out, if_pos rfl]
            have HPK2 := Lib.hid hpk
            clear hpk hfi
            have hbe := hP4.be.cell
            have hbf := hP4.be.frozen
            go_wp2_with (first
              | (go_at_call 20; refine (must_ok _).mono ?_; rintro e w6 ⟨rfl, rfl⟩)
              | (refine wpList_load_row rfl 50 _ rfl w.heap.size rfl 50 _ (0, 0) _ hP4.tb Tryd.underlying50 rfl (tab_info T) ?_)
              | (refine wpList_store_row rfl 50 _ _ rfl w.heap.size (tabC T) rfl rfl 50 _ hP4.tb (tab_info T) rfl (tabC_one _) ?_; rw [setRow_self _ _ _ _ _ hP4.tb]))
            exact ent_out rfl rfl hP4.ok0 HPK2.out
          | cons t tl =>
            simp only [List.getElem?_cons_zero, Option.getD_some] at hl2 hfi
            have hte : t.isEmpty = false := hfi
            clear hfi
            go_wp2_with (go_at_call 20; refine (must_no _).mono ?_; rintro e w6 ⟨rfl, rfl⟩)
            exact ent_door rfl rfl hP4 (HNO.out (by rw [HRR.out, if_neg (by simp)]))
  · have hp : (entAns s).1 = 90 := by unfold entAns; rw [if_neg (by omega), hts.out]
    have hP : Ent w (w.heap.size + 2) zeroT w2 := by
      refine ⟨((World.grownBy_alloc w _ none).trans (World.grownBy_alloc _ _ none)).trans hg, Nat.le_refl _, ?_, ?_, fun k => by simp [zeroT]⟩
      · exact Boxed.kept (by simpa using Boxed.new (w.alloc (.cells (tabC zeroT) 50 (0, 0))) 25 (.int .i64 0)) hg (by simp)
      · exact (hg.block _ (by simp; omega) (by simp)).trans ((Below.heap_alloc _ _ _ (by simp)).trans (World.alloc_heap_new w _))
    exact ent_door rfl rfl hP hp
theorem entries_any (s : Tok) (hs : s.length ≤ 140737488351232) (w : World) :
    Calls Tryd.prog 22 #[.string ⟨s.toArray⟩] w (EntPost s w) := by
  by_cases h : s.length ≤ 1024
  · exact entries_short s h w
  · exact entries_long s (by omega) hs w

end Go.Proofs.YtmmlnnbnbgaogaaDoor
