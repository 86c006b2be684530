/- read: the reader of a text. -/
import Derived.Test.YtmmlnnbnbgaogaaDoorRuE
import Derived.Deep.AppendLies
import Derived.OneCell
import Derived.RangeFuncBound
namespace Go.Proofs.YtmmlnnbnbgaogaaDoor
open Go.RowKit Ru

set_option maxHeartbeats 400000 in
theorem parts_any (s : Tok) (w : World) :
    Calls Tryd.prog 29 #[.string ⟨s.toArray⟩] w fun e w' => e = .returned (.func (.func 38) #[] #[.pointer (some ⟨w.heap.size, 0, none⟩)]) ∧ w.alloc (.cells #[.string ⟨s.toArray⟩] 9) = w' := by
  have hmf : ∀ (fn : Fn) (first cap : Array Value) (w : World), (Instr.makeFunc fn first cap).run Tryd.prog w = .ok (.func fn first cap) w := fun _ _ _ _ => rfl
  go_enter Tryd.func29, Tryd.ntmps29
  go_wp2
  go_ret
  exact ⟨rfl, rfl⟩

/-- between two rounds of 'read': what has come lies in the reader's own row -/
structure RdI (w : World) (pre : List Tok) (W : World) : Prop where
  old : w.grownBy W none
  box : Boxed W (w.heap.size + 1) 40 (.pointer (some ⟨w.heap.size, 0, none⟩))
  row : ∃ v, Boxed W w.heap.size 45 v ∧ W.ownsRow (w.heap.size + 3) 9 1 v pre.length (pre.map fun t => .string ⟨t.toArray⟩)
  sz : w.heap.size + 3 ≤ W.heap.size

def RdPost (s : Tok) (w : World) (e : Ending) (w' : World) : Prop :=
  (∃ ts b, Hid (toksT s = some ts) ∧ e = .returned (.pointer (some ⟨b, 0, none⟩)) ∧ Rdr w' b ts ∧ w.heap.size ≤ b ∧ w.grownBy w' none) ∨
    (Hid (toksT s = none) ∧ e = .panicked wrongC ∧ w.grownBy w' none)

theorem Tryd.infoStr : (Tryd.prog.info? 9).map (fun i => (i.zero, i.size, i.bytes)) = some (some (.string ByteArray.empty), 1, 16) := by kernel_rfl

theorem own_not (W : World) (base e size n : Nat) (v : Value) (xs : List Value) (h : W.ownsRow base e size v n xs) (k : Nat) (hk : k < base) : some k ≠ v.ownBlock := by
  rcases h.2 with ⟨rfl, _⟩ | ⟨g, cap, cur, rfl, hg, _⟩
  · simp [Value.ownBlock]
  · simp only [Value.ownBlock, ne_eq, Option.some.injEq]; omega

/-- behind the append, and behind the store -/
theorem rd_append {w W w' : World} {pre : List Tok} {x : Tok} {v v' : Value} (hI : RdI w pre W) (hv : Boxed W w.heap.size 45 v) (hrow : W.ownsRow (w.heap.size + 3) 9 1 v pre.length (pre.map fun t => .string ⟨t.toArray⟩))
    (hrow' : w'.ownsRow (w.heap.size + 3) 9 1 v' (pre.length + 1) ((pre.map fun t => .string ⟨t.toArray⟩) ++ [.string ⟨x.toArray⟩]))
    (hgr : (W.alloc (.cells #[.string ⟨x.toArray⟩] 9)).drew.grownBy w' v.ownBlock) :
    w'.cell? ⟨w.heap.size + 1, 0, none⟩ = some (.pointer (some ⟨w.heap.size, 0, none⟩)) ∧ w'.cell? ⟨w.heap.size, 0, none⟩ = some v ∧ w'.frozen? ⟨w.heap.size, 0, none⟩ = false ∧
      roundGoes (RdI w) (w.heap.size + 2) (pre ++ [x]) W .normal { tmps := #[], defers := [] } (w'.setCell ⟨w.heap.size, 0, none⟩ v') := by
  have hsz := hI.sz
  have hA : ∀ k, k < W.heap.size → (W.alloc (.cells #[.string ⟨x.toArray⟩] 9)).drew.heap[k]? = W.heap[k]? := fun k hk => Below.heap_alloc W _ k hk
  have hAs : (W.alloc (.cells #[.string ⟨x.toArray⟩] 9)).drew.heap.size = W.heap.size + 1 := by simp
  have hw : ∀ k, k < w.heap.size + 3 → w'.heap[k]? = W.heap[k]? := fun k hk => (hgr.block k (by omega) (own_not _ _ _ _ _ _ _ hrow k hk)).trans (hA k (by omega))
  have hb' : Boxed w' (w.heap.size + 1) 40 (.pointer (some ⟨w.heap.size, 0, none⟩)) := (hw _ (by omega)).trans hI.box
  have hr' : Boxed w' w.heap.size 45 v := (hw _ (by omega)).trans hv
  have hws : W.heap.size ≤ w'.heap.size := by have := hgr.size; omega
  have hset : ∀ k, k ≠ w.heap.size → (w'.setCell ⟨w.heap.size, 0, none⟩ v').heap[k]? = w'.heap[k]? := fun k hk => Below.heap_setCell _ _ _ k hk
  have hss : (w'.setCell ⟨w.heap.size, 0, none⟩ v').heap.size = w'.heap.size := by simp [World.setCell]
  refine ⟨hb'.cell, hr'.cell, hr'.frozen, ?_, ⟨⟨?_, ?_, ?_, ?_, ?_⟩, ?_, ⟨v', hr'.set v', ?_⟩, ?_⟩, ?_⟩
  · refine (((KeepsOthers.alloc W (.cells #[.string ⟨x.toArray⟩] 9)).trans (KeepsOthers.drew _)).trans (KeepsOthers.of_grownBy hgr fun j o ej hj => ?_)).trans (KeepsOthers.setCell _ _ _)
    rcases hrow.2 with ⟨rfl, _⟩ | ⟨g, cap, cur, rfl, hg, hh, _⟩
    · simp [Value.ownBlock] at ej
    · simp only [Value.ownBlock, Option.some.injEq] at ej
      subst ej
      rw [hA _ (Array.getElem?_eq_some_iff.1 hh).1, hh] at hj
      cases hj; rfl
  · exact (hgr.os.trans hI.old.os)
  · exact (hgr.tape.trans hI.old.tape)
  · exact (hgr.output.trans hI.old.output)
  · have := hI.old.size; rw [hss]; omega
  · intro k hk _
    rw [hset k (by omega), hw k (by omega)]
    exact hI.old.block k hk (by simp)
  · exact (hset _ (by omega)).trans hb'
  · rw [List.map_append, List.length_append]
    exact hrow'.kept (grownBy_setCell' w' _ v') (.inr (own_not _ _ _ _ _ _ _ hrow' _ (by omega)).symm)
  · rw [hss]; omega
  · rw [hset _ (by omega), hw _ (by omega)]

theorem rdI_own (w : World) (B : Nat) (hB : w.heap.size + 3 ≤ B) : OwnFrom B (RdI w) := by
  intro pre W W' row h hg hr
  have hk : ∀ k, k < w.heap.size + 3 → W'.heap[k]? = W.heap[k]? := fun k hk => hg.block k (by have := h.sz; omega) (fun e => by have := (hr k e.symm).1; omega)
  obtain ⟨v, hv, hrow⟩ := h.row
  refine ⟨⟨hg.os.trans h.old.os, hg.tape.trans h.old.tape, hg.output.trans h.old.output, Nat.le_trans h.old.size hg.size, fun k hk' _ => (hk k (by omega)).trans (h.old.block k hk' (by simp))⟩, (hk _ (by omega)).trans h.box, ⟨v, (hk _ (by omega)).trans hv, hrow.kept hg ?_⟩, Nat.le_trans h.sz hg.size⟩
  rcases hrow.2 with ⟨rfl, _⟩ | ⟨g, cap, cur, rfl, hg', hh, _⟩
  · exact .inl rfl
  · refine .inr (fun e => ?_)
    obtain ⟨_, o, ho, hc⟩ := hr g e.symm
    rw [hh] at ho; cases ho; cases hc

theorem rdI_minds (w : World) (pre : List Tok) (W W' : World) (row : Option Nat) (h : RdI w pre W) (hg : W.grownBy W' row) (hr : row = none ∨ row = some (w.heap.size + 2)) : RdI w pre W' := by
  have hne : ∀ k, k ≠ w.heap.size + 2 → some k ≠ row := fun k hk e => by rcases hr with rfl | rfl <;> simp at e; omega
  have hk : ∀ k, k < w.heap.size + 2 → W'.heap[k]? = W.heap[k]? := fun k hk => hg.block k (by have := h.sz; omega) (hne k (by omega))
  obtain ⟨v, hv, hrow⟩ := h.row
  refine ⟨⟨hg.os.trans h.old.os, hg.tape.trans h.old.tape, hg.output.trans h.old.output, Nat.le_trans h.old.size hg.size, fun k hk' _ => (hk k (by omega)).trans (h.old.block k hk' (by simp))⟩, (hk _ (by omega)).trans h.box, ⟨v, (hk _ (by omega)).trans hv, hrow.kept hg ?_⟩, Nat.le_trans h.sz hg.size⟩
  rcases hr with rfl | rfl
  · rcases hrow.2 with ⟨rfl, _⟩ | ⟨g, cap, cur, rfl, hg', hh, _⟩
    · exact .inl rfl
    · exact .inr (by simp [Value.ownBlock])
  · exact .inr (own_not _ _ _ _ _ _ _ hrow _ (by omega)).symm

/-- a reader out of what the rounds have laid -/
theorem rdr_of {w W : World} {ts : List Tok} (h : RdI w (ts ++ [[]]) W) (hne : ∀ t ∈ ts, t ≠ [] ∧ t.length ≤ 1024) : Rdr W w.heap.size ts := by
  obtain ⟨v, hv, hrow⟩ := h.row
  rcases hrow.2 with ⟨rfl, h0⟩ | ⟨g, cap, cur, rfl, hg, hh, hn, hc, hs, ht⟩
  · simp at h0
  · have hlen : (ts ++ [[]]).length = ts.length + 1 := by simp
    rw [hlen] at hn ht hv
    refine ⟨hne, g, 0, cap, by omega, hn, hc, (Array.getElem?_eq_some_iff.1 hh).1, hv, fun i hi => ?_⟩
    simp only [World.cell?, hh, Option.isSome_none, Bool.false_eq_true, if_false, Nat.zero_add]
    have h2 : (cur.toList.take ((ts.length + 1) * 1))[i]? = ((ts ++ [[]]).map fun t : Tok => Value.string ⟨t.toArray⟩)[i]? := by rw [ht]
    rw [List.getElem?_take_of_lt (by omega)] at h2
    rw [← Array.getElem?_toList, h2, List.getElem?_map]
    by_cases e : i < ts.length
    · rw [List.getElem?_append_left e, List.getElem?_eq_getElem e]; simp [List.getD_eq_getElem?_getD, e]
    · obtain rfl : i = ts.length := by omega
      simp

set_option maxHeartbeats 4000000 in
theorem read_any (s : Tok) (hs : s.length ≤ 1024) (w : World) :
    Calls Tryd.prog 17 #[.string ⟨s.toArray⟩] w (RdPost s w) := by
  refine (callsIn_wide (n := 9)).1 (callsIn_of_wp_marks Tryd.func17 rfl trivial (wpIn_wide.2 ?_) rfl)
  simp only [Tryd.ntmps17, List.size_toArray, List.length_cons, List.length_nil, Nat.reduceAdd, Nat.reduceSub, Array.replicate_succ, Array.replicate_zero, List.push_toArray, List.append_toArray, List.nil_append, List.cons_append]
  go_wp2_with (go_at_call 29; refine (parts_any s _).mono ?_; rintro e w1 ⟨rfl, rfl⟩)
  obtain ⟨i0, hi, hz0, hz1, hz2⟩ := info_parts Tryd.infoStr
  refine range_gives_up (n := 5) (gf := 38) rfl ?_ (fun t : Tok => Value.string ⟨t.toArray⟩) (RdI w) ?_ ?_ (fun x => { tmps := #[Value.string ⟨s.toArray⟩, undef, Value.pointer none, Value.pointer (some ⟨w.heap.size + 1, 0, none⟩), Value.string ⟨x.toArray⟩, Value.agg #[Value.slice none 0 0], Value.pointer (some ⟨w.heap.size, 0, none⟩), Value.string ⟨s.toArray⟩, Value.func (Fn.func 38) #[] #[Value.pointer (some ⟨w.heap.size + 1 + 1, 0, none⟩)], Value.string ⟨x.toArray⟩, undef, undef, undef, undef, undef, undef, undef, undef, undef, undef, undef], defers := [] }) (w.heap.size + 2) ?_ (fun pre x => pre.length ≤ 1024 ∧ x.length ≤ 1024) ?_ ?_ (fun xs => ∃ ts, Hid (toksT s = some ts) ∧ xs = ts ++ [[]]) (fun c => Hid (toksT s = none) ∧ c = wrongC) ?_ ?_ ?_
  · intro args w2
    simp [go_sem]
  · exact rdI_own w _ (by simp)
  · refine ⟨?_, ?_, ⟨.slice none 0 0, ?_, rfl, .inl ⟨rfl, rfl⟩⟩, by simp⟩
    · exact ((World.grownBy_alloc w _ none).trans (World.grownBy_alloc _ _ none)).trans (World.grownBy_alloc _ _ none)
    · have := (Boxed.new (w.alloc (.cells #[.slice none 0 0] 45)) 40 (.pointer (some ⟨w.heap.size, 0, none⟩))).alloc (.cells #[.string ⟨s.toArray⟩] 9)
      simpa using this
    · exact ((Boxed.new w 45 (.slice none 0 0)).alloc _).alloc _
  · simp
  · intro l x W K hK
    gi_wp2_with (rw [Oper.semAt_eq _ _ _ (fun c h => by cases h)]; go_simp)
    exact hK
  · rintro l pre x W hI ⟨hp1, hx1⟩
    obtain ⟨v, hv, hrow⟩ := hI.row
    have hI0 := Lib.hid hI
    have hbb := hI.box.cell
    have hrb := hv.cell
    have hbbA : (W.alloc (.cells #[.string ⟨x.toArray⟩] 9)).cell? ⟨w.heap.size + 1, 0, none⟩ = some (.pointer (some ⟨w.heap.size, 0, none⟩)) := (hI.box.alloc _).cell
    have hrbA : (W.alloc (.cells #[.string ⟨x.toArray⟩] 9)).cell? ⟨w.heap.size, 0, none⟩ = some v := (hv.alloc _).cell
    have hrowA : (W.alloc (.cells #[.string ⟨x.toArray⟩] 9)).drew.ownsRow (w.heap.size + 3) 9 1 v pre.length (pre.map fun t => .string ⟨t.toArray⟩) := hrow.alloc _
    have hnewsA : ∀ j u, [Value.string ⟨x.toArray⟩][j]? = some u → (W.alloc (.cells #[.string ⟨x.toArray⟩] 9)).drew.cell? ((⟨W.heap.size, 0, none⟩ : Addr).add j) = some u := cell_one_new W (.string ⟨x.toArray⟩) 9
    have hsz := hI.sz
    clear hI
    have HrowA := Lib.hid hrowA
    have Hrow := Lib.hid hrow
    have HnewsA := Lib.hid hnewsA
    have Hv := Lib.hid hv
    clear hrowA hrow hnewsA hv
    refine wpIn_block (wpIn_region_round (by kernel_rfl) (noDefer_out rfl) (by rintro ⟨a, w2, h⟩; exact h.elim) ?_)
    refine wpAny_take (i := 5) (v := ?_) rfl (by kernel_rfl) (by kernel_rfl) (by kernel_rfl) (fun _ _ _ h => h) (Or.inl ⟨by rfl, ?_⟩) ?_
    rotate_left
    · intro w; go_simp; try with_reducible rfl
    refine wpAny_ready (rs := [0, 1, 6]) (by kernel_rfl) (by simp) ?_
    refine AllReady.cons rfl (fun K hK => ?_) ?_
    · go_simp
      refine hK _ _ ?_
      clear hK K
      refine wpAny_ready (rs := [1, 6]) (by kernel_rfl) (by simp) ?_
      refine AllReady.cons rfl (fun K hK => ?_) ?_
      · go_simp
        refine hK _ _ ?_
        clear hK K
        refine wpAny_take (i := 2) (v := ?_) rfl (by kernel_rfl) (by kernel_rfl) (by kernel_rfl) (fun _ _ _ h => h) (Or.inl ⟨by rfl, ?_⟩) ?_
        rotate_left
        · intro w; go_simp; try with_reducible rfl
        refine wpAny_take (i := 3) (v := ?_) rfl (by kernel_rfl) (by kernel_rfl) (by kernel_rfl) (fun _ _ _ h => h) (Or.inl ⟨by rfl, ?_⟩) ?_
        rotate_left
        · intro w; go_simp; try with_reducible rfl
        refine wpAny_ready (rs := [4, 6]) (by kernel_rfl) (by simp) ?_
        refine AllReady.cons rfl (fun K hK => ?_) ?_
        · go_simp
          refine hK _ _ ?_
          clear hK K
          refine wpAny_ready (rs := [6]) (by kernel_rfl) (by simp) ?_
          refine AllReady.cons rfl (fun K hK => ?_) AllReady.nil
          go_simp
          refine hK _ _ ?_
          clear hK K
          refine wpAny_ready (rs := [7]) (by kernel_rfl) (by simp) ?_
          refine AllReady.cons rfl (fun K hK => ?_) AllReady.nil
          (refine step_append_lies _ rfl (.tmp 14) (.tmp 16) 43 rfl (w.heap.size + 3) 9 i0 (.string ByteArray.empty) 1 16 Tryd.underlying43 hi hz0 hz1 hz2 rfl (by decide) v pre.length _ rfl HrowA.out ⟨W.heap.size, 0, none⟩ 1 1 [.string ⟨x.toArray⟩] rfl rfl HnewsA.out (by simp [Value.oneCell']) (by decide) (by unfold maxLen; omega) (by omega) (by show _ ≤ (W.alloc _).heap.size; simp; omega) _ rfl ?_)
          intro g cap w' hrow' hgr' _ _
          obtain ⟨hbb', hrb', hfr', hI'⟩ := rd_append hI0.out Hv.out Hrow.out hrow' hgr'
          have HI' := Lib.hid hI'
          clear hI' hrow' hgr'
          refine hK _ _ ?_
          clear hK K
          refine wpAny_take (i := 8) (v := ?_) rfl (by kernel_rfl) (by kernel_rfl) (by kernel_rfl) (fun _ _ _ h => h) (Or.inl ⟨by rfl, ?_⟩) ?_
          rotate_left
          · intro w; go_simp; try with_reducible rfl
          refine wpAny_take (i := 9) (v := ?_) rfl (by kernel_rfl) (by kernel_rfl) (by kernel_rfl) (fun _ _ _ h => h) (Or.inl ⟨by rfl, ?_⟩) ?_
          rotate_left
          · intro w; go_simp; try with_reducible rfl
          refine wpAny_ready (rs := [10]) (by kernel_rfl) (by simp) ?_
          refine AllReady.cons rfl (fun K hK => ?_) AllReady.nil
          go_simp
          refine hK _ _ ?_
          clear hK K
          refine wpAny_done (by kernel_rfl) ?_ _
          exact HI'.out
        refine AllReady.cons rfl (fun K hK => ?_) AllReady.nil
        go_simp
        refine hK _ _ ?_
        clear hK K
        refine wpAny_ready (rs := [4]) (by kernel_rfl) (by simp) ?_
        refine AllReady.cons rfl (fun K hK => ?_) AllReady.nil
        go_simp
        refine hK _ _ ?_
        clear hK K
        refine wpAny_ready (rs := [7]) (by kernel_rfl) (by simp) ?_
        refine AllReady.cons rfl (fun K hK => ?_) AllReady.nil
        (refine step_append_lies _ rfl (.tmp 14) (.tmp 16) 43 rfl (w.heap.size + 3) 9 i0 (.string ByteArray.empty) 1 16 Tryd.underlying43 hi hz0 hz1 hz2 rfl (by decide) v pre.length _ rfl HrowA.out ⟨W.heap.size, 0, none⟩ 1 1 [.string ⟨x.toArray⟩] rfl rfl HnewsA.out (by simp [Value.oneCell']) (by decide) (by unfold maxLen; omega) (by omega) (by show _ ≤ (W.alloc _).heap.size; simp; omega) _ rfl ?_)
        intro g cap w' hrow' hgr' _ _
        obtain ⟨hbb', hrb', hfr', hI'⟩ := rd_append hI0.out Hv.out Hrow.out hrow' hgr'
        have HI' := Lib.hid hI'
        clear hI' hrow' hgr'
        refine hK _ _ ?_
        clear hK K
        refine wpAny_take (i := 8) (v := ?_) rfl (by kernel_rfl) (by kernel_rfl) (by kernel_rfl) (fun _ _ _ h => h) (Or.inl ⟨by rfl, ?_⟩) ?_
        rotate_left
        · intro w; go_simp; try with_reducible rfl
        refine wpAny_take (i := 9) (v := ?_) rfl (by kernel_rfl) (by kernel_rfl) (by kernel_rfl) (fun _ _ _ h => h) (Or.inl ⟨by rfl, ?_⟩) ?_
        rotate_left
        · intro w; go_simp; try with_reducible rfl
        refine wpAny_ready (rs := [10]) (by kernel_rfl) (by simp) ?_
        refine AllReady.cons rfl (fun K hK => ?_) AllReady.nil
        go_simp
        refine hK _ _ ?_
        clear hK K
        refine wpAny_done (by kernel_rfl) ?_ _
        exact HI'.out
      refine AllReady.cons rfl (fun K hK => ?_) AllReady.nil
      go_simp
      refine hK _ _ ?_
      clear hK K
      refine wpAny_ready (rs := [1]) (by kernel_rfl) (by simp) ?_
      refine AllReady.cons rfl (fun K hK => ?_) AllReady.nil
      go_simp
      refine hK _ _ ?_
      clear hK K
      refine wpAny_take (i := 2) (v := ?_) rfl (by kernel_rfl) (by kernel_rfl) (by kernel_rfl) (fun _ _ _ h => h) (Or.inl ⟨by rfl, ?_⟩) ?_
      rotate_left
      · intro w; go_simp; try with_reducible rfl
      refine wpAny_take (i := 3) (v := ?_) rfl (by kernel_rfl) (by kernel_rfl) (by kernel_rfl) (fun _ _ _ h => h) (Or.inl ⟨by rfl, ?_⟩) ?_
      rotate_left
      · intro w; go_simp; try with_reducible rfl
      refine wpAny_ready (rs := [4]) (by kernel_rfl) (by simp) ?_
      refine AllReady.cons rfl (fun K hK => ?_) AllReady.nil
      go_simp
      refine hK _ _ ?_
      clear hK K
      refine wpAny_ready (rs := [7]) (by kernel_rfl) (by simp) ?_
      refine AllReady.cons rfl (fun K hK => ?_) AllReady.nil
      (refine step_append_lies _ rfl (.tmp 14) (.tmp 16) 43 rfl (w.heap.size + 3) 9 i0 (.string ByteArray.empty) 1 16 Tryd.underlying43 hi hz0 hz1 hz2 rfl (by decide) v pre.length _ rfl HrowA.out ⟨W.heap.size, 0, none⟩ 1 1 [.string ⟨x.toArray⟩] rfl rfl HnewsA.out (by simp [Value.oneCell']) (by decide) (by unfold maxLen; omega) (by omega) (by show _ ≤ (W.alloc _).heap.size; simp; omega) _ rfl ?_)
      intro g cap w' hrow' hgr' _ _
      obtain ⟨hbb', hrb', hfr', hI'⟩ := rd_append hI0.out Hv.out Hrow.out hrow' hgr'
      have HI' := Lib.hid hI'
      clear hI' hrow' hgr'
      refine hK _ _ ?_
      clear hK K
      refine wpAny_take (i := 8) (v := ?_) rfl (by kernel_rfl) (by kernel_rfl) (by kernel_rfl) (fun _ _ _ h => h) (Or.inl ⟨by rfl, ?_⟩) ?_
      rotate_left
      · intro w; go_simp; try with_reducible rfl
      refine wpAny_take (i := 9) (v := ?_) rfl (by kernel_rfl) (by kernel_rfl) (by kernel_rfl) (fun _ _ _ h => h) (Or.inl ⟨by rfl, ?_⟩) ?_
      rotate_left
      · intro w; go_simp; try with_reducible rfl
      refine wpAny_ready (rs := [10]) (by kernel_rfl) (by simp) ?_
      refine AllReady.cons rfl (fun K hK => ?_) AllReady.nil
      go_simp
      refine hK _ _ ?_
      clear hK K
      refine wpAny_done (by kernel_rfl) ?_ _
      exact HI'.out
    refine AllReady.cons rfl (fun K hK => ?_) ?_
    · go_simp
      refine hK _ _ ?_
      clear hK K
      refine wpAny_take (i := 2) (v := ?_) rfl (by kernel_rfl) (by kernel_rfl) (by kernel_rfl) (fun _ _ _ h => h) (Or.inl ⟨by rfl, ?_⟩) ?_
      rotate_left
      · intro w; go_simp; try with_reducible rfl
      refine wpAny_take (i := 3) (v := ?_) rfl (by kernel_rfl) (by kernel_rfl) (by kernel_rfl) (fun _ _ _ h => h) (Or.inl ⟨by rfl, ?_⟩) ?_
      rotate_left
      · intro w; go_simp; try with_reducible rfl
      refine wpAny_ready (rs := [0, 4, 6]) (by kernel_rfl) (by simp) ?_
      refine AllReady.cons rfl (fun K hK => ?_) ?_
      · go_simp
        refine hK _ _ ?_
        clear hK K
        refine wpAny_ready (rs := [4, 6]) (by kernel_rfl) (by simp) ?_
        refine AllReady.cons rfl (fun K hK => ?_) ?_
        · go_simp
          refine hK _ _ ?_
          clear hK K
          refine wpAny_ready (rs := [6]) (by kernel_rfl) (by simp) ?_
          refine AllReady.cons rfl (fun K hK => ?_) AllReady.nil
          go_simp
          refine hK _ _ ?_
          clear hK K
          refine wpAny_ready (rs := [7]) (by kernel_rfl) (by simp) ?_
          refine AllReady.cons rfl (fun K hK => ?_) AllReady.nil
          (refine step_append_lies _ rfl (.tmp 14) (.tmp 16) 43 rfl (w.heap.size + 3) 9 i0 (.string ByteArray.empty) 1 16 Tryd.underlying43 hi hz0 hz1 hz2 rfl (by decide) v pre.length _ rfl HrowA.out ⟨W.heap.size, 0, none⟩ 1 1 [.string ⟨x.toArray⟩] rfl rfl HnewsA.out (by simp [Value.oneCell']) (by decide) (by unfold maxLen; omega) (by omega) (by show _ ≤ (W.alloc _).heap.size; simp; omega) _ rfl ?_)
          intro g cap w' hrow' hgr' _ _
          obtain ⟨hbb', hrb', hfr', hI'⟩ := rd_append hI0.out Hv.out Hrow.out hrow' hgr'
          have HI' := Lib.hid hI'
          clear hI' hrow' hgr'
          refine hK _ _ ?_
          clear hK K
          refine wpAny_take (i := 8) (v := ?_) rfl (by kernel_rfl) (by kernel_rfl) (by kernel_rfl) (fun _ _ _ h => h) (Or.inl ⟨by rfl, ?_⟩) ?_
          rotate_left
          · intro w; go_simp; try with_reducible rfl
          refine wpAny_take (i := 9) (v := ?_) rfl (by kernel_rfl) (by kernel_rfl) (by kernel_rfl) (fun _ _ _ h => h) (Or.inl ⟨by rfl, ?_⟩) ?_
          rotate_left
          · intro w; go_simp; try with_reducible rfl
          refine wpAny_ready (rs := [10]) (by kernel_rfl) (by simp) ?_
          refine AllReady.cons rfl (fun K hK => ?_) AllReady.nil
          go_simp
          refine hK _ _ ?_
          clear hK K
          refine wpAny_done (by kernel_rfl) ?_ _
          exact HI'.out
        refine AllReady.cons rfl (fun K hK => ?_) AllReady.nil
        go_simp
        refine hK _ _ ?_
        clear hK K
        refine wpAny_ready (rs := [4]) (by kernel_rfl) (by simp) ?_
        refine AllReady.cons rfl (fun K hK => ?_) AllReady.nil
        go_simp
        refine hK _ _ ?_
        clear hK K
        refine wpAny_ready (rs := [7]) (by kernel_rfl) (by simp) ?_
        refine AllReady.cons rfl (fun K hK => ?_) AllReady.nil
        (refine step_append_lies _ rfl (.tmp 14) (.tmp 16) 43 rfl (w.heap.size + 3) 9 i0 (.string ByteArray.empty) 1 16 Tryd.underlying43 hi hz0 hz1 hz2 rfl (by decide) v pre.length _ rfl HrowA.out ⟨W.heap.size, 0, none⟩ 1 1 [.string ⟨x.toArray⟩] rfl rfl HnewsA.out (by simp [Value.oneCell']) (by decide) (by unfold maxLen; omega) (by omega) (by show _ ≤ (W.alloc _).heap.size; simp; omega) _ rfl ?_)
        intro g cap w' hrow' hgr' _ _
        obtain ⟨hbb', hrb', hfr', hI'⟩ := rd_append hI0.out Hv.out Hrow.out hrow' hgr'
        have HI' := Lib.hid hI'
        clear hI' hrow' hgr'
        refine hK _ _ ?_
        clear hK K
        refine wpAny_take (i := 8) (v := ?_) rfl (by kernel_rfl) (by kernel_rfl) (by kernel_rfl) (fun _ _ _ h => h) (Or.inl ⟨by rfl, ?_⟩) ?_
        rotate_left
        · intro w; go_simp; try with_reducible rfl
        refine wpAny_take (i := 9) (v := ?_) rfl (by kernel_rfl) (by kernel_rfl) (by kernel_rfl) (fun _ _ _ h => h) (Or.inl ⟨by rfl, ?_⟩) ?_
        rotate_left
        · intro w; go_simp; try with_reducible rfl
        refine wpAny_ready (rs := [10]) (by kernel_rfl) (by simp) ?_
        refine AllReady.cons rfl (fun K hK => ?_) AllReady.nil
        go_simp
        refine hK _ _ ?_
        clear hK K
        refine wpAny_done (by kernel_rfl) ?_ _
        exact HI'.out
      refine AllReady.cons rfl (fun K hK => ?_) ?_
      · go_simp
        refine hK _ _ ?_
        clear hK K
        refine wpAny_ready (rs := [0, 6]) (by kernel_rfl) (by simp) ?_
        refine AllReady.cons rfl (fun K hK => ?_) ?_
        · go_simp
          refine hK _ _ ?_
          clear hK K
          refine wpAny_ready (rs := [6]) (by kernel_rfl) (by simp) ?_
          refine AllReady.cons rfl (fun K hK => ?_) AllReady.nil
          go_simp
          refine hK _ _ ?_
          clear hK K
          refine wpAny_ready (rs := [7]) (by kernel_rfl) (by simp) ?_
          refine AllReady.cons rfl (fun K hK => ?_) AllReady.nil
          (refine step_append_lies _ rfl (.tmp 14) (.tmp 16) 43 rfl (w.heap.size + 3) 9 i0 (.string ByteArray.empty) 1 16 Tryd.underlying43 hi hz0 hz1 hz2 rfl (by decide) v pre.length _ rfl HrowA.out ⟨W.heap.size, 0, none⟩ 1 1 [.string ⟨x.toArray⟩] rfl rfl HnewsA.out (by simp [Value.oneCell']) (by decide) (by unfold maxLen; omega) (by omega) (by show _ ≤ (W.alloc _).heap.size; simp; omega) _ rfl ?_)
          intro g cap w' hrow' hgr' _ _
          obtain ⟨hbb', hrb', hfr', hI'⟩ := rd_append hI0.out Hv.out Hrow.out hrow' hgr'
          have HI' := Lib.hid hI'
          clear hI' hrow' hgr'
          refine hK _ _ ?_
          clear hK K
          refine wpAny_take (i := 8) (v := ?_) rfl (by kernel_rfl) (by kernel_rfl) (by kernel_rfl) (fun _ _ _ h => h) (Or.inl ⟨by rfl, ?_⟩) ?_
          rotate_left
          · intro w; go_simp; try with_reducible rfl
          refine wpAny_take (i := 9) (v := ?_) rfl (by kernel_rfl) (by kernel_rfl) (by kernel_rfl) (fun _ _ _ h => h) (Or.inl ⟨by rfl, ?_⟩) ?_
          rotate_left
          · intro w; go_simp; try with_reducible rfl
          refine wpAny_ready (rs := [10]) (by kernel_rfl) (by simp) ?_
          refine AllReady.cons rfl (fun K hK => ?_) AllReady.nil
          go_simp
          refine hK _ _ ?_
          clear hK K
          refine wpAny_done (by kernel_rfl) ?_ _
          exact HI'.out
        refine AllReady.cons rfl (fun K hK => ?_) AllReady.nil
        go_simp
        refine hK _ _ ?_
        clear hK K
        refine wpAny_ready (rs := [0, 7]) (by kernel_rfl) (by simp) ?_
        refine AllReady.cons rfl (fun K hK => ?_) ?_
        · go_simp
          refine hK _ _ ?_
          clear hK K
          refine wpAny_ready (rs := [7]) (by kernel_rfl) (by simp) ?_
          refine AllReady.cons rfl (fun K hK => ?_) AllReady.nil
          (refine step_append_lies _ rfl (.tmp 14) (.tmp 16) 43 rfl (w.heap.size + 3) 9 i0 (.string ByteArray.empty) 1 16 Tryd.underlying43 hi hz0 hz1 hz2 rfl (by decide) v pre.length _ rfl HrowA.out ⟨W.heap.size, 0, none⟩ 1 1 [.string ⟨x.toArray⟩] rfl rfl HnewsA.out (by simp [Value.oneCell']) (by decide) (by unfold maxLen; omega) (by omega) (by show _ ≤ (W.alloc _).heap.size; simp; omega) _ rfl ?_)
          intro g cap w' hrow' hgr' _ _
          obtain ⟨hbb', hrb', hfr', hI'⟩ := rd_append hI0.out Hv.out Hrow.out hrow' hgr'
          have HI' := Lib.hid hI'
          clear hI' hrow' hgr'
          refine hK _ _ ?_
          clear hK K
          refine wpAny_take (i := 8) (v := ?_) rfl (by kernel_rfl) (by kernel_rfl) (by kernel_rfl) (fun _ _ _ h => h) (Or.inl ⟨by rfl, ?_⟩) ?_
          rotate_left
          · intro w; go_simp; try with_reducible rfl
          refine wpAny_take (i := 9) (v := ?_) rfl (by kernel_rfl) (by kernel_rfl) (by kernel_rfl) (fun _ _ _ h => h) (Or.inl ⟨by rfl, ?_⟩) ?_
          rotate_left
          · intro w; go_simp; try with_reducible rfl
          refine wpAny_ready (rs := [10]) (by kernel_rfl) (by simp) ?_
          refine AllReady.cons rfl (fun K hK => ?_) AllReady.nil
          go_simp
          refine hK _ _ ?_
          clear hK K
          refine wpAny_done (by kernel_rfl) ?_ _
          exact HI'.out
        refine AllReady.cons rfl (fun K hK => ?_) AllReady.nil
        (refine step_append_lies _ rfl (.tmp 14) (.tmp 16) 43 rfl (w.heap.size + 3) 9 i0 (.string ByteArray.empty) 1 16 Tryd.underlying43 hi hz0 hz1 hz2 rfl (by decide) v pre.length _ rfl HrowA.out ⟨W.heap.size, 0, none⟩ 1 1 [.string ⟨x.toArray⟩] rfl rfl HnewsA.out (by simp [Value.oneCell']) (by decide) (by unfold maxLen; omega) (by omega) (by show _ ≤ (W.alloc _).heap.size; simp; omega) _ rfl ?_)
        intro g cap w' hrow' hgr' _ _
        obtain ⟨hbb', hrb', hfr', hI'⟩ := rd_append hI0.out Hv.out Hrow.out hrow' hgr'
        have HI' := Lib.hid hI'
        clear hI' hrow' hgr'
        refine hK _ _ ?_
        clear hK K
        refine wpAny_ready (rs := [0]) (by kernel_rfl) (by simp) ?_
        refine AllReady.cons rfl (fun K hK => ?_) AllReady.nil
        go_simp
        refine hK _ _ ?_
        clear hK K
        refine wpAny_take (i := 8) (v := ?_) rfl (by kernel_rfl) (by kernel_rfl) (by kernel_rfl) (fun _ _ _ h => h) (Or.inl ⟨by rfl, ?_⟩) ?_
        rotate_left
        · intro w; go_simp; try with_reducible rfl
        refine wpAny_take (i := 9) (v := ?_) rfl (by kernel_rfl) (by kernel_rfl) (by kernel_rfl) (fun _ _ _ h => h) (Or.inl ⟨by rfl, ?_⟩) ?_
        rotate_left
        · intro w; go_simp; try with_reducible rfl
        refine wpAny_ready (rs := [10]) (by kernel_rfl) (by simp) ?_
        refine AllReady.cons rfl (fun K hK => ?_) AllReady.nil
        go_simp
        refine hK _ _ ?_
        clear hK K
        refine wpAny_done (by kernel_rfl) ?_ _
        exact HI'.out
      refine AllReady.cons rfl (fun K hK => ?_) AllReady.nil
      go_simp
      refine hK _ _ ?_
      clear hK K
      refine wpAny_ready (rs := [0, 4]) (by kernel_rfl) (by simp) ?_
      refine AllReady.cons rfl (fun K hK => ?_) ?_
      · go_simp
        refine hK _ _ ?_
        clear hK K
        refine wpAny_ready (rs := [4]) (by kernel_rfl) (by simp) ?_
        refine AllReady.cons rfl (fun K hK => ?_) AllReady.nil
        go_simp
        refine hK _ _ ?_
        clear hK K
        refine wpAny_ready (rs := [7]) (by kernel_rfl) (by simp) ?_
        refine AllReady.cons rfl (fun K hK => ?_) AllReady.nil
        (refine step_append_lies _ rfl (.tmp 14) (.tmp 16) 43 rfl (w.heap.size + 3) 9 i0 (.string ByteArray.empty) 1 16 Tryd.underlying43 hi hz0 hz1 hz2 rfl (by decide) v pre.length _ rfl HrowA.out ⟨W.heap.size, 0, none⟩ 1 1 [.string ⟨x.toArray⟩] rfl rfl HnewsA.out (by simp [Value.oneCell']) (by decide) (by unfold maxLen; omega) (by omega) (by show _ ≤ (W.alloc _).heap.size; simp; omega) _ rfl ?_)
        intro g cap w' hrow' hgr' _ _
        obtain ⟨hbb', hrb', hfr', hI'⟩ := rd_append hI0.out Hv.out Hrow.out hrow' hgr'
        have HI' := Lib.hid hI'
        clear hI' hrow' hgr'
        refine hK _ _ ?_
        clear hK K
        refine wpAny_take (i := 8) (v := ?_) rfl (by kernel_rfl) (by kernel_rfl) (by kernel_rfl) (fun _ _ _ h => h) (Or.inl ⟨by rfl, ?_⟩) ?_
        rotate_left
        · intro w; go_simp; try with_reducible rfl
        refine wpAny_take (i := 9) (v := ?_) rfl (by kernel_rfl) (by kernel_rfl) (by kernel_rfl) (fun _ _ _ h => h) (Or.inl ⟨by rfl, ?_⟩) ?_
        rotate_left
        · intro w; go_simp; try with_reducible rfl
        refine wpAny_ready (rs := [10]) (by kernel_rfl) (by simp) ?_
        refine AllReady.cons rfl (fun K hK => ?_) AllReady.nil
        go_simp
        refine hK _ _ ?_
        clear hK K
        refine wpAny_done (by kernel_rfl) ?_ _
        exact HI'.out
      refine AllReady.cons rfl (fun K hK => ?_) AllReady.nil
      go_simp
      refine hK _ _ ?_
      clear hK K
      refine wpAny_ready (rs := [0, 7]) (by kernel_rfl) (by simp) ?_
      refine AllReady.cons rfl (fun K hK => ?_) ?_
      · go_simp
        refine hK _ _ ?_
        clear hK K
        refine wpAny_ready (rs := [7]) (by kernel_rfl) (by simp) ?_
        refine AllReady.cons rfl (fun K hK => ?_) AllReady.nil
        (refine step_append_lies _ rfl (.tmp 14) (.tmp 16) 43 rfl (w.heap.size + 3) 9 i0 (.string ByteArray.empty) 1 16 Tryd.underlying43 hi hz0 hz1 hz2 rfl (by decide) v pre.length _ rfl HrowA.out ⟨W.heap.size, 0, none⟩ 1 1 [.string ⟨x.toArray⟩] rfl rfl HnewsA.out (by simp [Value.oneCell']) (by decide) (by unfold maxLen; omega) (by omega) (by show _ ≤ (W.alloc _).heap.size; simp; omega) _ rfl ?_)
        intro g cap w' hrow' hgr' _ _
        obtain ⟨hbb', hrb', hfr', hI'⟩ := rd_append hI0.out Hv.out Hrow.out hrow' hgr'
        have HI' := Lib.hid hI'
        clear hI' hrow' hgr'
        refine hK _ _ ?_
        clear hK K
        refine wpAny_take (i := 8) (v := ?_) rfl (by kernel_rfl) (by kernel_rfl) (by kernel_rfl) (fun _ _ _ h => h) (Or.inl ⟨by rfl, ?_⟩) ?_
        rotate_left
        · intro w; go_simp; try with_reducible rfl
        refine wpAny_take (i := 9) (v := ?_) rfl (by kernel_rfl) (by kernel_rfl) (by kernel_rfl) (fun _ _ _ h => h) (Or.inl ⟨by rfl, ?_⟩) ?_
        rotate_left
        · intro w; go_simp; try with_reducible rfl
        refine wpAny_ready (rs := [10]) (by kernel_rfl) (by simp) ?_
        refine AllReady.cons rfl (fun K hK => ?_) AllReady.nil
        go_simp
        refine hK _ _ ?_
        clear hK K
        refine wpAny_done (by kernel_rfl) ?_ _
        exact HI'.out
      refine AllReady.cons rfl (fun K hK => ?_) AllReady.nil
      (refine step_append_lies _ rfl (.tmp 14) (.tmp 16) 43 rfl (w.heap.size + 3) 9 i0 (.string ByteArray.empty) 1 16 Tryd.underlying43 hi hz0 hz1 hz2 rfl (by decide) v pre.length _ rfl HrowA.out ⟨W.heap.size, 0, none⟩ 1 1 [.string ⟨x.toArray⟩] rfl rfl HnewsA.out (by simp [Value.oneCell']) (by decide) (by unfold maxLen; omega) (by omega) (by show _ ≤ (W.alloc _).heap.size; simp; omega) _ rfl ?_)
      intro g cap w' hrow' hgr' _ _
      obtain ⟨hbb', hrb', hfr', hI'⟩ := rd_append hI0.out Hv.out Hrow.out hrow' hgr'
      have HI' := Lib.hid hI'
      clear hI' hrow' hgr'
      refine hK _ _ ?_
      clear hK K
      refine wpAny_ready (rs := [0]) (by kernel_rfl) (by simp) ?_
      refine AllReady.cons rfl (fun K hK => ?_) AllReady.nil
      go_simp
      refine hK _ _ ?_
      clear hK K
      refine wpAny_take (i := 8) (v := ?_) rfl (by kernel_rfl) (by kernel_rfl) (by kernel_rfl) (fun _ _ _ h => h) (Or.inl ⟨by rfl, ?_⟩) ?_
      rotate_left
      · intro w; go_simp; try with_reducible rfl
      refine wpAny_take (i := 9) (v := ?_) rfl (by kernel_rfl) (by kernel_rfl) (by kernel_rfl) (fun _ _ _ h => h) (Or.inl ⟨by rfl, ?_⟩) ?_
      rotate_left
      · intro w; go_simp; try with_reducible rfl
      refine wpAny_ready (rs := [10]) (by kernel_rfl) (by simp) ?_
      refine AllReady.cons rfl (fun K hK => ?_) AllReady.nil
      go_simp
      refine hK _ _ ?_
      clear hK K
      refine wpAny_done (by kernel_rfl) ?_ _
      exact HI'.out
    refine AllReady.cons rfl (fun K hK => ?_) AllReady.nil
    go_simp
    refine hK _ _ ?_
    clear hK K
    refine wpAny_ready (rs := [0, 1]) (by kernel_rfl) (by simp) ?_
    refine AllReady.cons rfl (fun K hK => ?_) ?_
    · go_simp
      refine hK _ _ ?_
      clear hK K
      refine wpAny_ready (rs := [1]) (by kernel_rfl) (by simp) ?_
      refine AllReady.cons rfl (fun K hK => ?_) AllReady.nil
      go_simp
      refine hK _ _ ?_
      clear hK K
      refine wpAny_take (i := 2) (v := ?_) rfl (by kernel_rfl) (by kernel_rfl) (by kernel_rfl) (fun _ _ _ h => h) (Or.inl ⟨by rfl, ?_⟩) ?_
      rotate_left
      · intro w; go_simp; try with_reducible rfl
      refine wpAny_take (i := 3) (v := ?_) rfl (by kernel_rfl) (by kernel_rfl) (by kernel_rfl) (fun _ _ _ h => h) (Or.inl ⟨by rfl, ?_⟩) ?_
      rotate_left
      · intro w; go_simp; try with_reducible rfl
      refine wpAny_ready (rs := [4]) (by kernel_rfl) (by simp) ?_
      refine AllReady.cons rfl (fun K hK => ?_) AllReady.nil
      go_simp
      refine hK _ _ ?_
      clear hK K
      refine wpAny_ready (rs := [7]) (by kernel_rfl) (by simp) ?_
      refine AllReady.cons rfl (fun K hK => ?_) AllReady.nil
      (refine step_append_lies _ rfl (.tmp 14) (.tmp 16) 43 rfl (w.heap.size + 3) 9 i0 (.string ByteArray.empty) 1 16 Tryd.underlying43 hi hz0 hz1 hz2 rfl (by decide) v pre.length _ rfl HrowA.out ⟨W.heap.size, 0, none⟩ 1 1 [.string ⟨x.toArray⟩] rfl rfl HnewsA.out (by simp [Value.oneCell']) (by decide) (by unfold maxLen; omega) (by omega) (by show _ ≤ (W.alloc _).heap.size; simp; omega) _ rfl ?_)
      intro g cap w' hrow' hgr' _ _
      obtain ⟨hbb', hrb', hfr', hI'⟩ := rd_append hI0.out Hv.out Hrow.out hrow' hgr'
      have HI' := Lib.hid hI'
      clear hI' hrow' hgr'
      refine hK _ _ ?_
      clear hK K
      refine wpAny_take (i := 8) (v := ?_) rfl (by kernel_rfl) (by kernel_rfl) (by kernel_rfl) (fun _ _ _ h => h) (Or.inl ⟨by rfl, ?_⟩) ?_
      rotate_left
      · intro w; go_simp; try with_reducible rfl
      refine wpAny_take (i := 9) (v := ?_) rfl (by kernel_rfl) (by kernel_rfl) (by kernel_rfl) (fun _ _ _ h => h) (Or.inl ⟨by rfl, ?_⟩) ?_
      rotate_left
      · intro w; go_simp; try with_reducible rfl
      refine wpAny_ready (rs := [10]) (by kernel_rfl) (by simp) ?_
      refine AllReady.cons rfl (fun K hK => ?_) AllReady.nil
      go_simp
      refine hK _ _ ?_
      clear hK K
      refine wpAny_done (by kernel_rfl) ?_ _
      exact HI'.out
    refine AllReady.cons rfl (fun K hK => ?_) AllReady.nil
    go_simp
    refine hK _ _ ?_
    clear hK K
    refine wpAny_take (i := 2) (v := ?_) rfl (by kernel_rfl) (by kernel_rfl) (by kernel_rfl) (fun _ _ _ h => h) (Or.inl ⟨by rfl, ?_⟩) ?_
    rotate_left
    · intro w; go_simp; try with_reducible rfl
    refine wpAny_take (i := 3) (v := ?_) rfl (by kernel_rfl) (by kernel_rfl) (by kernel_rfl) (fun _ _ _ h => h) (Or.inl ⟨by rfl, ?_⟩) ?_
    rotate_left
    · intro w; go_simp; try with_reducible rfl
    refine wpAny_ready (rs := [0, 4]) (by kernel_rfl) (by simp) ?_
    refine AllReady.cons rfl (fun K hK => ?_) ?_
    · go_simp
      refine hK _ _ ?_
      clear hK K
      refine wpAny_ready (rs := [4]) (by kernel_rfl) (by simp) ?_
      refine AllReady.cons rfl (fun K hK => ?_) AllReady.nil
      go_simp
      refine hK _ _ ?_
      clear hK K
      refine wpAny_ready (rs := [7]) (by kernel_rfl) (by simp) ?_
      refine AllReady.cons rfl (fun K hK => ?_) AllReady.nil
      (refine step_append_lies _ rfl (.tmp 14) (.tmp 16) 43 rfl (w.heap.size + 3) 9 i0 (.string ByteArray.empty) 1 16 Tryd.underlying43 hi hz0 hz1 hz2 rfl (by decide) v pre.length _ rfl HrowA.out ⟨W.heap.size, 0, none⟩ 1 1 [.string ⟨x.toArray⟩] rfl rfl HnewsA.out (by simp [Value.oneCell']) (by decide) (by unfold maxLen; omega) (by omega) (by show _ ≤ (W.alloc _).heap.size; simp; omega) _ rfl ?_)
      intro g cap w' hrow' hgr' _ _
      obtain ⟨hbb', hrb', hfr', hI'⟩ := rd_append hI0.out Hv.out Hrow.out hrow' hgr'
      have HI' := Lib.hid hI'
      clear hI' hrow' hgr'
      refine hK _ _ ?_
      clear hK K
      refine wpAny_take (i := 8) (v := ?_) rfl (by kernel_rfl) (by kernel_rfl) (by kernel_rfl) (fun _ _ _ h => h) (Or.inl ⟨by rfl, ?_⟩) ?_
      rotate_left
      · intro w; go_simp; try with_reducible rfl
      refine wpAny_take (i := 9) (v := ?_) rfl (by kernel_rfl) (by kernel_rfl) (by kernel_rfl) (fun _ _ _ h => h) (Or.inl ⟨by rfl, ?_⟩) ?_
      rotate_left
      · intro w; go_simp; try with_reducible rfl
      refine wpAny_ready (rs := [10]) (by kernel_rfl) (by simp) ?_
      refine AllReady.cons rfl (fun K hK => ?_) AllReady.nil
      go_simp
      refine hK _ _ ?_
      clear hK K
      refine wpAny_done (by kernel_rfl) ?_ _
      exact HI'.out
    refine AllReady.cons rfl (fun K hK => ?_) AllReady.nil
    go_simp
    refine hK _ _ ?_
    clear hK K
    refine wpAny_ready (rs := [0, 7]) (by kernel_rfl) (by simp) ?_
    refine AllReady.cons rfl (fun K hK => ?_) ?_
    · go_simp
      refine hK _ _ ?_
      clear hK K
      refine wpAny_ready (rs := [7]) (by kernel_rfl) (by simp) ?_
      refine AllReady.cons rfl (fun K hK => ?_) AllReady.nil
      (refine step_append_lies _ rfl (.tmp 14) (.tmp 16) 43 rfl (w.heap.size + 3) 9 i0 (.string ByteArray.empty) 1 16 Tryd.underlying43 hi hz0 hz1 hz2 rfl (by decide) v pre.length _ rfl HrowA.out ⟨W.heap.size, 0, none⟩ 1 1 [.string ⟨x.toArray⟩] rfl rfl HnewsA.out (by simp [Value.oneCell']) (by decide) (by unfold maxLen; omega) (by omega) (by show _ ≤ (W.alloc _).heap.size; simp; omega) _ rfl ?_)
      intro g cap w' hrow' hgr' _ _
      obtain ⟨hbb', hrb', hfr', hI'⟩ := rd_append hI0.out Hv.out Hrow.out hrow' hgr'
      have HI' := Lib.hid hI'
      clear hI' hrow' hgr'
      refine hK _ _ ?_
      clear hK K
      refine wpAny_take (i := 8) (v := ?_) rfl (by kernel_rfl) (by kernel_rfl) (by kernel_rfl) (fun _ _ _ h => h) (Or.inl ⟨by rfl, ?_⟩) ?_
      rotate_left
      · intro w; go_simp; try with_reducible rfl
      refine wpAny_take (i := 9) (v := ?_) rfl (by kernel_rfl) (by kernel_rfl) (by kernel_rfl) (fun _ _ _ h => h) (Or.inl ⟨by rfl, ?_⟩) ?_
      rotate_left
      · intro w; go_simp; try with_reducible rfl
      refine wpAny_ready (rs := [10]) (by kernel_rfl) (by simp) ?_
      refine AllReady.cons rfl (fun K hK => ?_) AllReady.nil
      go_simp
      refine hK _ _ ?_
      clear hK K
      refine wpAny_done (by kernel_rfl) ?_ _
      exact HI'.out
    refine AllReady.cons rfl (fun K hK => ?_) AllReady.nil
    (refine step_append_lies _ rfl (.tmp 14) (.tmp 16) 43 rfl (w.heap.size + 3) 9 i0 (.string ByteArray.empty) 1 16 Tryd.underlying43 hi hz0 hz1 hz2 rfl (by decide) v pre.length _ rfl HrowA.out ⟨W.heap.size, 0, none⟩ 1 1 [.string ⟨x.toArray⟩] rfl rfl HnewsA.out (by simp [Value.oneCell']) (by decide) (by unfold maxLen; omega) (by omega) (by show _ ≤ (W.alloc _).heap.size; simp; omega) _ rfl ?_)
    intro g cap w' hrow' hgr' _ _
    obtain ⟨hbb', hrb', hfr', hI'⟩ := rd_append hI0.out Hv.out Hrow.out hrow' hgr'
    have HI' := Lib.hid hI'
    clear hI' hrow' hgr'
    refine hK _ _ ?_
    clear hK K
    refine wpAny_ready (rs := [0]) (by kernel_rfl) (by simp) ?_
    refine AllReady.cons rfl (fun K hK => ?_) AllReady.nil
    go_simp
    refine hK _ _ ?_
    clear hK K
    refine wpAny_take (i := 8) (v := ?_) rfl (by kernel_rfl) (by kernel_rfl) (by kernel_rfl) (fun _ _ _ h => h) (Or.inl ⟨by rfl, ?_⟩) ?_
    rotate_left
    · intro w; go_simp; try with_reducible rfl
    refine wpAny_take (i := 9) (v := ?_) rfl (by kernel_rfl) (by kernel_rfl) (by kernel_rfl) (fun _ _ _ h => h) (Or.inl ⟨by rfl, ?_⟩) ?_
    rotate_left
    · intro w; go_simp; try with_reducible rfl
    refine wpAny_ready (rs := [10]) (by kernel_rfl) (by simp) ?_
    refine AllReady.cons rfl (fun K hK => ?_) AllReady.nil
    go_simp
    refine hK _ _ ?_
    clear hK K
    refine wpAny_done (by kernel_rfl) ?_ _
    exact HI'.out
  · intro l J W1 hg1 hj0 hmind hround
    have hsbx : Boxed W1 (w.heap.size + 2) 9 (.string ⟨s.toArray⟩) := by
      have := Boxed.new ((w.alloc (.cells #[.slice none 0 0] 45)).alloc (.cells #[.pointer (some ⟨w.heap.size, 0, none⟩)] 40)) 9 (.string ⟨s.toArray⟩)
      refine Boxed.kept ?_ hg1 (by simp)
      simpa using this
    refine (parts1_any l 5 (w.heap.size + 2) J (fun pre W W' row hj hg hr => hmind pre W W' row hj hg hr (rdI_minds w)) s hs W1 hsbx hj0 ?_).mono ?_
    · intro pre t W2 s1 hj hp ht hb
      exact (hround pre t W2 hj ⟨hp, ht⟩).mono fun e W' ⟨h1, h2, h3⟩ => ⟨h1, h2, h3.trans hb⟩
    · rintro e W' (⟨ts, hts, rfl, hj⟩ | ⟨hts, rfl, pre, hj⟩)
      · exact .inl ⟨_, _, rfl, ⟨ts, hts, rfl⟩, hj⟩
      · exact .inr ⟨_, pre, rfl, ⟨hts, rfl⟩, hj⟩
  · rintro D xs W ⟨ts, hts, rfl⟩ hI hK hD
    have hbc := hI.box.cell
    have hI2 := (rdI_own w D (by simpa using hD)).putObj (l := D) (.deferred none) hI (Nat.le_refl _) hK rfl
    have HF := Lib.hid (rdr_of hI2 (fun t ht => ⟨(toksT_ne' hts.out t ht).1, Nat.le_trans (toksT_ne' hts.out t ht).2 hs⟩))
    have HO := Lib.hid hI2.old
    clear hI2 hI
    go_wp2
    refine ⟨by simp, .inl ⟨_, _, rfl, run_takeDeferred hK, ?_⟩⟩
    exact ⟨_, results_tmp rfl _ _ _, .inl ⟨ts, w.heap.size, hts, rfl, HF.out, Nat.le_refl _, HO.out⟩⟩
  · rintro D c pre W ⟨hn, rfl⟩ hI hK hD
    have hI2 := (rdI_own w D (by simpa using hD)).putObj (l := D) (.deferred none) hI (Nat.le_refl _) hK rfl
    exact ⟨by simp, .inl ⟨_, _, rfl, run_takeDeferred hK, .inr ⟨hn, rfl, hI2.old⟩⟩⟩
end Go.Proofs.YtmmlnnbnbgaogaaDoor
