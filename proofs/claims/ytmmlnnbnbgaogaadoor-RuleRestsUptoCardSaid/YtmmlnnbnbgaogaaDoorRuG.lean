/- caught: the deferred call that takes what a text that is none gives up with. -/
import Derived.Test.YtmmlnnbnbgaogaaDoorRuD
import Derived.Test.YtmmlnnbnbgaogaaDoorRuF
import Derived.Test.YtmmlnnbnbgaogaaDoorRg
namespace Go.Proofs.YtmmlnnbnbgaogaaDoor
open Go.RowKit Ru

/-- what the deferred call does where the frame gives up -/
def CaughtUp (p : Addr) (x : Value) (older : List PanicEntry) (w : World) (e : Ending) (u' : FrameMode) (w' : World) : Prop :=
  e = .returned (.tuple #[]) ∧ u' = .panicking ({ v := .iface 67 x, recovered := true } :: older) ∧ ∃ o, w' = (w.alloc o).setCell p (.int .i64 90)

set_option maxRecDepth 20000 in
set_option maxHeartbeats 1000000 in
theorem caught_up (p : Addr) (n : Int) (older : List PanicEntry) (w : World) (hc : w.cell? p = some (.int .i64 n)) (hz : w.frozen? p = false) (hb : p.block < w.heap.size) :
    CallsD Tryd.prog 16 #[.pointer (some p)] (.panicking ({ v := .iface 67 (.agg #[]), recovered := false } :: older)) w (CaughtUp p (.agg #[]) older w) := by
  have hta : ∀ w : World, (Instr.typeAssert (.iface 67 (.agg #[])) 20 67 true).run Tryd.prog w = .ok (.tuple #[.agg #[], .bool true]) w := fun _ => by kernel_rfl
  have hc2 : ∀ o, (w.alloc o).cell? p = some (.int .i64 n) := fun o => by rw [World.cell?_of_block (w := w) (Below.heap_alloc w o _ hb)]; exact hc
  have hz2 : ∀ o, (w.alloc o).frozen? p = false := fun o => by rw [World.frozen?_of_block (w := w) (Below.heap_alloc w o _ hb)]; exact hz
  refine callsD_of_wpS Tryd.func16 rfl fun c₀ cs hu => ?_
  simp only [Tryd.ntmps16, List.size_toArray, List.length_cons, List.length_nil, Nat.reduceAdd, Nat.reduceSub, Array.replicate_succ, Array.replicate_zero, List.push_toArray, List.append_toArray, List.nil_append, List.cons_append]
  apply wpS_seq
  refine wpS_region_recover (cs' := { c₀ with mode := .panicking ({ v := .iface 67 (.agg #[]), recovered := true } :: older) } :: cs) (v := .iface 67 (.agg #[])) rfl rfl ?_ (.inl (by simp [recoverD, hu])) ?_
  · simp [go_sem]
  clear hu
  intro K hK
  have HK := Lib.hid hK
  clear hK
  simp only [Act.put, Array.setIfInBounds, List.size_toArray, List.length_cons, List.length_nil]
  go_wp2
  refine HK.out _ _ ?_
  clear HK K
  have hc3 := hc2 (.cells #[] 67)
  have hz3 := hz2 (.cells #[] 67)
  clear hc2 hz2 hta
  generalize hcs : ({ fn := c₀.fn, tmps := c₀.tmps, todo := c₀.todo, defers := c₀.defers, mode := FrameMode.panicking ({ v := Value.iface 67 (Value.agg #[]), recovered := true } :: older), kind := c₀.kind, roundOf := c₀.roundOf } :: cs) = cs'
  have HCS := Lib.hid hcs
  clear hcs
  refine wpS_of_wp (wp_mono (Q := fun e a w1 => (e = .normal ∧ a.defers = [] ∧ w1 = (w.alloc (.cells #[] 67)).setCell p (.int .i64 90))) ?_ ?_)
  · go_wp2
  · rintro e a w1 ⟨rfl, hd, rfl⟩
    exact ⟨hd, _, HCS.out.symm, _, results_none rfl _ _ _, rfl, rfl, _, rfl⟩

/-- what the deferred call does where the frame returns -/
def CaughtNone (w : World) (e : Ending) (u' : FrameMode) (w' : World) : Prop :=
  e = .returned (.tuple #[]) ∧ u' = .returning ∧ ∃ o, w' = w.alloc o

set_option maxRecDepth 20000 in
set_option maxHeartbeats 1000000 in
theorem caught_none (p : Addr) (w : World) :
    CallsD Tryd.prog 16 #[.pointer (some p)] .returning w (CaughtNone w) := by
  have hta : ∀ w : World, (Instr.typeAssert .nilIface 20 67 true).run Tryd.prog w = .ok (.tuple #[.agg #[], .bool false]) w := fun _ => by kernel_rfl
  refine callsD_of_wpS Tryd.func16 rfl fun c₀ cs hu => ?_
  simp only [Tryd.ntmps16, List.size_toArray, List.length_cons, List.length_nil, Nat.reduceAdd, Nat.reduceSub, Array.replicate_succ, Array.replicate_zero, List.push_toArray, List.append_toArray, List.nil_append, List.cons_append]
  apply wpS_seq
  refine wpS_region_recover (cs' := c₀ :: cs) (v := .nilIface) rfl rfl ?_ (.inr ⟨by simp [recoverD, hu], rfl, rfl⟩) ?_
  · simp [go_sem]
  have hc0 : c₀ = { c₀ with mode := .returning } := by cases c₀; simp only at hu; subst hu; rfl
  have HC0 := Lib.hid hc0
  clear hu hc0
  intro K hK
  have HK := Lib.hid hK
  clear hK
  simp only [Act.put, Array.setIfInBounds, List.size_toArray, List.length_cons, List.length_nil]
  go_wp2
  refine HK.out _ _ ?_
  clear HK K hta
  refine wpS_of_wp (wp_mono (Q := fun e a w1 => (e = .normal ∧ a.defers = [] ∧ w1 = w.alloc (.cells #[] 67))) ?_ ?_)
  · go_wp2
  · rintro e a w1 ⟨rfl, hd, rfl⟩
    exact ⟨hd, _, by rw [← HC0.out], _, results_none rfl _ _ _, rfl, rfl, _, rfl⟩
end Go.Proofs.YtmmlnnbnbgaogaaDoor
