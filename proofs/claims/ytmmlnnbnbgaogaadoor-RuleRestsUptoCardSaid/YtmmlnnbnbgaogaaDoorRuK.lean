/- entries: the table of ranges of a text. -/
import Derived.Test.YtmmlnnbnbgaogaaDoorRuJ
import Derived.Test.YtmmlnnbnbgaogaaDoorRuQ
import Derived.Laws.Rows
import Derived.Laws.Tables
import Derived.Great.Walk
namespace Go.Proofs.YtmmlnnbnbgaogaaDoor
open Go.RowKit Ru

/-- a table's cells -/
def tabL (T : Nat → Int) : List Value := (List.range 36).map fun k => .int .i64 (T k)
def tabC (T : Nat → Int) : Array Value := (tabL T).toArray
theorem tabC_size (T : Nat → Int) : (tabC T).size = 36 := by simp [tabC, tabL]
theorem tabC_one (T : Nat → Int) : (tabC T).all (·.oneCell') = true := by
  refine Array.all_eq_true_iff_forall_mem.2 fun v hv => ?_
  simp only [tabC, tabL, List.mem_toArray, List.mem_map] at hv
  obtain ⟨k, _, rfl⟩ := hv
  rfl
theorem tab_zeroV : ∀ w : World, (zeroValue 50).run Tryd.prog w = .ok (.agg (tabC zeroT)) w := fun w => Tryd.zeroValue50 w
theorem tab_alloc (w : World) (ρ : Operand → Value) (o : Oper) (ho : o.op = .alloc 50) : (execOp ρ o).run Tryd.prog w = .ok (.value (.pointer (some ⟨w.heap.size, 0, none⟩))) (w.alloc (.cells (tabC zeroT) 50)) := by
  unfold execOp
  simp only [ho, Instr.alloc, Sem.run_bind, tab_zeroV, Result.andThen_ok]
  rfl
theorem tab_zero : (Obj.cells #[Value.int IntKind.i64 0, Value.int IntKind.i64 0, Value.int IntKind.i64 0, Value.int IntKind.i64 0, Value.int IntKind.i64 0, Value.int IntKind.i64 0, Value.int IntKind.i64 0, Value.int IntKind.i64 0, Value.int IntKind.i64 0, Value.int IntKind.i64 0, Value.int IntKind.i64 0, Value.int IntKind.i64 0, Value.int IntKind.i64 0, Value.int IntKind.i64 0, Value.int IntKind.i64 0, Value.int IntKind.i64 0, Value.int IntKind.i64 0, Value.int IntKind.i64 0, Value.int IntKind.i64 0, Value.int IntKind.i64 0, Value.int IntKind.i64 0, Value.int IntKind.i64 0, Value.int IntKind.i64 0, Value.int IntKind.i64 0, Value.int IntKind.i64 0, Value.int IntKind.i64 0, Value.int IntKind.i64 0, Value.int IntKind.i64 0, Value.int IntKind.i64 0, Value.int IntKind.i64 0, Value.int IntKind.i64 0, Value.int IntKind.i64 0, Value.int IntKind.i64 0, Value.int IntKind.i64 0, Value.int IntKind.i64 0, Value.int IntKind.i64 0] 50 (0, 0)) = .cells (tabC zeroT) 50 (0, 0) := rfl
theorem tab_info (T : Nat → Int) : (Tryd.prog.info? 50).map (·.size) = some (tabC T).size := by
  rw [tabC_size]; kernel_rfl
theorem tab_cell {w : World} {b : Nat} {T : Nat → Int} {t : TypeId} (h : w.heap[b]? = some (.cells (tabC T) t (0, 0))) (n : Nat) (hn : n < 36) : w.cell? ⟨b, n, none⟩ = some (.int .i64 (T n)) ∧ w.frozen? ⟨b, n, none⟩ = false := by
  constructor
  · simp [World.cell?, h, tabC, tabL, hn]
  · simp [World.frozen?, h]
theorem tab_set {w : World} {b : Nat} {T : Nat → Int} {t : TypeId} (h : w.heap[b]? = some (.cells (tabC T) t (0, 0))) (n : Nat) (v : Int) : (w.setCell ⟨b, n, none⟩ (.int .i64 v)).heap[b]? = some (.cells (tabC (upT T n v)) t (0, 0)) := by
  show (w.heap.modify b _)[b]? = _
  rw [Array.getElem?_modify, if_pos rfl, h]
  simp only [Option.map_some, Option.some.injEq]
  congr 1
  apply Array.ext_getElem?
  intro i
  simp only [tabC, tabL, List.getElem?_toArray, List.getElem?_map]
  by_cases hi : n = i
  · subst hi
    by_cases h36 : n < 36 <;> simp [h36, upT]
  · have hne : ¬ i = n := fun e => hi e.symm
    by_cases h36 : i < 36 <;> simp [h36, upT, hi, hne]

def EntPost (s : Tok) (w : World) (e : Ending) (w' : World) : Prop :=
  ∃ T, (∀ k, 0 ≤ T k ∧ T k ≤ 6) ∧ ((entAns s).1 = 0 → T = (entAns s).2) ∧ e = .returned (.tuple #[.agg (tabC T), .int .i64 (entAns s).1]) ∧ w.grownBy w' none

theorem ent_results {w : World} {tmps : Array Value} {T : Nat → Int} {bt be : Nat} {t : TypeId} {e : Int} (h2 : tmps[2]?.getD undef = .pointer (some ⟨bt, 0, none⟩)) (h3 : tmps[3]?.getD undef = .pointer (some ⟨be, 0, none⟩))
    (hb : w.heap[bt]? = some (.cells (tabC T) t (0, 0))) (hc : w.cell? ⟨be, 0, none⟩ = some (.int .i64 e)) :
    (results Tryd.f22 tmps).run Tryd.prog w = .ok (.tuple #[.agg (tabC T), .int .i64 e]) w := by
  have hl : (loadVar 50 ⟨bt, 0, none⟩).run Tryd.prog w = .ok (.agg (tabC T)) w := run_loadVar_row w bt t 50 _ (0, 0) _ hb Tryd.underlying50 rfl (tab_info T)
  have hl2 : (loadVar 25 ⟨be, 0, none⟩).run Tryd.prog w = .ok (.int .i64 e) w := by simp [loadVar, go_sem, hc]
  simp [results, Tryd.results22, h2, h3, asAddr, hl, hl2]

set_option maxHeartbeats 1000000 in
theorem entries_long (s : Tok) (hl : 1024 < s.length) (hs : s.length ≤ 140737488351232) (w : World) :
    Calls Tryd.prog 22 #[.string ⟨s.toArray⟩] w (EntPost s w) := by
  have hp : entAns s = (91, zeroT) := by unfold entAns; rw [if_pos hl]
  have HP := Lib.hid hp
  clear hp
  go_enter_defers Tryd.func22, Tryd.ntmps22
  have hb0 : ∀ v, ((w.alloc (.cells (tabC zeroT) 50 (0, 0))).alloc (.cells #[.int .i64 v] 25)).heap[w.heap.size]? = some (.cells (tabC zeroT) 50 (0, 0)) := fun v => (Below.heap_alloc _ _ _ (by simp)).trans (World.alloc_heap_new w _)
  have HB := Lib.hid hb0
  clear hb0
  go_wp2_with (first
    | (refine Great.wpList_allocTo rfl _ rfl _ _ (tab_alloc _ _ _ rfl) ?_)
    | (refine wpList_load_row rfl 50 _ rfl w.heap.size rfl 50 _ (0, 0) _ (HB.out _) Tryd.underlying50 rfl (tab_info zeroT) ?_)
    | (refine wpList_store_row rfl 50 _ _ rfl w.heap.size (tabC zeroT) rfl rfl 50 _ (HB.out _) (tab_info zeroT) rfl (tabC_one _) ?_; rw [setRow_self _ _ _ _ _ (HB.out _)]))
  have hc1 : ∀ v, ((w.alloc (.cells (tabC zeroT) 50 (0, 0))).alloc (.cells #[.int .i64 v] 25)).cell? ⟨w.heap.size + 1, 0, none⟩ = some (.int .i64 v) := fun v => (by simpa using Boxed.new (w.alloc (.cells (tabC zeroT) 50 (0, 0))) 25 (.int .i64 v) : Boxed _ (w.heap.size + 1) _ _).cell
  refine ⟨_, ent_results rfl rfl (HB.out 91) (hc1 91), ?_⟩
  exact ⟨zeroT, fun k => by simp [zeroT], fun h => (by rw [HP.out] at h; cases h), by rw [HP.out], (World.grownBy_alloc w _ none).trans (World.grownBy_alloc _ _ none)⟩

/-- where entries stands -/
structure Ent (w : World) (b : Nat) (T : Nat → Int) (wr : World) : Prop where
  old : w.grownBy wr none
  b1 : w.heap.size + 2 ≤ b
  be : Boxed wr (w.heap.size + 1) 25 (.int .i64 0)
  tb : wr.heap[w.heap.size]? = some (.cells (tabC T) 50 (0, 0))
  bd : ∀ k, 0 ≤ T k ∧ T k ≤ 6

theorem Ent.kept {w : World} {b : Nat} {T : Nat → Int} {wr w' : World} (h : Ent w b T wr) (hg : wr.grownBy w' (some b)) : Ent w b T w' := by
  have hlt : ∀ k o, wr.heap[k]? = some o → k < wr.heap.size := fun k o hk => (Array.getElem?_eq_some_iff.1 hk).1
  have h1 := h.b1
  refine ⟨⟨hg.os.trans h.old.os, hg.tape.trans h.old.tape, hg.output.trans h.old.output, Nat.le_trans h.old.size hg.size, fun k hk _ => ?_⟩, h1, ?_, ?_, h.bd⟩
  · exact (hg.block k (Nat.lt_of_lt_of_le hk h.old.size) (by simp; omega)).trans (h.old.block k hk (by simp))
  · exact (hg.block _ (hlt _ _ h.be) (by simp; omega)).trans h.be
  · exact (hg.block _ (hlt _ _ h.tb) (by simp; omega)).trans h.tb

theorem Ent.aside {w : World} {b : Nat} {T : Nat → Int} {wr : World} {ts : List Tok} (h : Ent w b T wr) (hr : Rdr wr b ts) (k : Nat) (v : Value) : Rdr (wr.setCell ⟨w.heap.size, k, none⟩ v) b ts := by
  obtain ⟨hn, g, o, cap, h1, h2, h3, h4, hb, hc⟩ := hr
  have hb1 := h.b1
  have hg : g ≠ w.heap.size := by
    intro e
    subst e
    have h0 := hc 0 (by omega)
    simp only [World.cell?, h.tb, Option.isSome_none, Bool.false_eq_true, if_false, Nat.add_zero] at h0
    have hm := Array.mem_of_getElem? h0
    simp [tabC, tabL] at hm
  refine ⟨hn, g, o, cap, h1, h2, h3, by simpa [World.setCell] using h4, (Below.heap_setCell _ _ _ _ (by simp; omega)).trans hb, fun i hi => ?_⟩
  rw [World.cell?_of_block (w := wr) (Below.heap_setCell _ _ _ _ hg)]
  exact hc i hi

theorem Ent.mark {w : World} {b : Nat} {T : Nat → Int} {wr : World} (h : Ent w b T wr) (n : Nat) (v : Int) (h0 : 0 ≤ v ∧ v ≤ 6) : Ent w b (upT T n v) (wr.setCell ⟨w.heap.size, n, none⟩ (.int .i64 v)) := by
  have hset : ∀ k, k ≠ w.heap.size → (wr.setCell ⟨w.heap.size, n, none⟩ (.int .i64 v)).heap[k]? = wr.heap[k]? := fun k hk => Below.heap_setCell _ _ _ k hk
  refine ⟨⟨h.old.os, h.old.tape, h.old.output, by simpa [World.setCell] using h.old.size, fun k hk _ => (hset k (by omega)).trans (h.old.block k hk (by simp))⟩, h.b1, (hset _ (by omega)).trans h.be, tab_set h.tb n v, fun k => ?_⟩
  unfold upT
  split
  · exact h0
  · exact h.bd k

/-- the door, where the text is none -/
theorem ent_door {s : Tok} {w wq : World} {b : Nat} {T : Nat → Int} {tmps : Array Value} (h2 : tmps[2]?.getD undef = .pointer (some ⟨w.heap.size, 0, none⟩)) (h3 : tmps[3]?.getD undef = .pointer (some ⟨w.heap.size + 1, 0, none⟩))
    (hE : Ent w b T wq) (hp : (entAns s).1 = 90) :
    bodyPostD Tryd.prog Tryd.f22 (EntPost s w) (.panic wrongC) { tmps := tmps, defers := [{ target := .fn (.func 16) #[], args := #[.pointer (some ⟨w.heap.size + 1, 0, none⟩)] }] } wq := by
  refine leaves_cons (f := 16) (args := #[.pointer (some ⟨w.heap.size + 1, 0, none⟩)]) (by simp) (by simp [go_sem]) ?_
  have hbe := hE.be
  have hg := hE.old
  refine (caught_up ⟨w.heap.size + 1, 0, none⟩ 0 [] wq hbe.cell hbe.frozen hbe.lt).mono ?_
  rintro e u' w'' ⟨rfl, rfl, o, rfl⟩
  have hc : ((wq.alloc o).setCell ⟨w.heap.size + 1, 0, none⟩ (.int .i64 90)).cell? ⟨w.heap.size + 1, 0, none⟩ = some (.int .i64 90) := ((hbe.alloc o).set (.int .i64 90)).cell
  have ht : ((wq.alloc o).setCell ⟨w.heap.size + 1, 0, none⟩ (.int .i64 90)).heap[w.heap.size]? = some (.cells (tabC T) 50 (0, 0)) := (Below.heap_setCell _ _ _ _ (by simp)).trans ((Below.heap_alloc _ _ _ (by have := hbe.lt; omega)).trans hE.tb)
  refine ⟨_, ent_results h2 h3 ht hc, T, hE.bd, fun h => (by rw [hp] at h; cases h), by rw [hp], ?_⟩
  have h1 := (wq.grownBy_alloc o none)
  exact ⟨(h1.os.trans hg.os), h1.tape.trans hg.tape, h1.output.trans hg.output, Nat.le_trans hg.size (by simp [World.setCell]), fun k hk _ => (Below.heap_setCell _ _ _ k (by simp; omega)).trans ((Below.heap_alloc _ _ _ (Nat.lt_of_lt_of_le hk hg.size)).trans (hg.block k hk (by simp)))⟩

/-- the door, where the text is one -/
theorem ent_out {s : Tok} {w wq : World} {b : Nat} {T : Nat → Int} {tmps : Array Value} (h2 : tmps[2]?.getD undef = .pointer (some ⟨w.heap.size, 0, none⟩)) (h3 : tmps[3]?.getD undef = .pointer (some ⟨w.heap.size + 1, 0, none⟩))
    (hE : Ent w b T wq) (hp : entAns s = (0, T)) :
    bodyPostD Tryd.prog Tryd.f22 (EntPost s w) .ret { tmps := tmps, defers := [{ target := .fn (.func 16) #[], args := #[.pointer (some ⟨w.heap.size + 1, 0, none⟩)] }] } wq := by
  refine leaves_cons (f := 16) (args := #[.pointer (some ⟨w.heap.size + 1, 0, none⟩)]) (by simp) (by simp [go_sem]) ?_
  have hbe := hE.be
  refine (caught_none ⟨w.heap.size + 1, 0, none⟩ wq).mono ?_
  rintro e u' w'' ⟨rfl, rfl, o, rfl⟩
  refine ⟨_, ent_results h2 h3 ((Below.heap_alloc _ _ _ (by have := hbe.lt; omega)).trans hE.tb) (hbe.alloc o).cell, T, hE.bd, fun h => by rw [hp], by rw [hp], hE.old.trans (World.grownBy_alloc _ _ none)⟩
end Go.Proofs.YtmmlnnbnbgaogaaDoor
