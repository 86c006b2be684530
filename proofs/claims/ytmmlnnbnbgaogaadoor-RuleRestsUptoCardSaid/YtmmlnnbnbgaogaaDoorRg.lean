/- A region that begins with 'recover', in a deferred call: what follows is walked as anywhere. No program in sight. -/
import Derived.Recover
import Derived.Tactics
namespace Go.Proofs.YtmmlnnbnbgaogaaDoor
open Go

theorem wpOpsS_of_wpOps {P : Program} {ops : Array Oper} {Q : Exit → Act → List Frame → World → Prop} {Q2 : Exit → Act → World → Prop} {cs : List Frame} (hQ : ∀ a w, ¬ Q2 .outgrown a w) (hm : ∀ e a w, Q2 e a w → Q e a cs w) :
    ∀ (l : List Nat) (a : Act) (w : World), wpOps P ops Q2 l a w → wpOpsS P ops Q l a cs w
  | [], _, _, h => hm _ _ _ h
  | i :: rest, a, w, h => by
    unfold wpOps at h
    unfold wpOpsS
    cases ho : ops[i]? with
    | none => simp only [ho] at h ⊢; exact wpOpsS_of_wpOps hQ hm rest _ _ h
    | some o =>
      simp only [ho] at h ⊢
      by_cases hw : Region.wanted o (yielded ops a.tmps) = true
      · simp only [hw, if_true] at h ⊢
        rcases h with h | ⟨_, a', w', h⟩
        · unfold Oper.wp at h
          generalize (execOp a.eval o).run P w = r at h ⊢
          cases r with
          | ok x w' =>
            cases x with
            | value v => exact wpOpsS_of_wpOps hQ hm rest _ _ h
            | skip => exact wpOpsS_of_wpOps hQ hm rest _ _ h
            | defer d => exact wpOpsS_of_wpOps hQ hm rest _ _ h
            | enter f args =>
              refine Calls.mono h (fun e w'' he => ?_)
              cases e with
              | returned v => exact wpOpsS_of_wpOps hQ hm rest _ _ he
              | panicked c => exact hm _ _ _ he
              | outgrown => obtain ⟨a', w', he⟩ := he; exact absurd he (hQ a' w')
            | row row args => exact Rows.mono h (fun v w'' he => wpOpsS_of_wpOps hQ hm rest _ _ he)
            | _ => exact h.elim
          | halt x w' => cases x <;> first | exact hm _ _ _ h | exact h
        · exact absurd h (hQ a' w')
      · simp only [hw, if_false, Bool.false_eq_true] at h ⊢
        exact wpOpsS_of_wpOps hQ hm rest _ _ h

theorem wpS_region_recover {P : Program} {id : Nat} {ops : Array Oper} {Q : Exit → Act → List Frame → World → Prop} {o : Oper} {rest : List Oper} {a : Act} {cs cs' : List Frame} {w : World} {v : Value}
    (hops : ops.toList = o :: rest) (hg : o.guard = none) (hrec : (execOp a.eval o).run P w = .ok .recover w)
    (hcs : recoverD cs = some (v, cs') ∨ (recoverD cs = none ∧ v = .nilIface ∧ cs' = cs))
    (h : ∀ K : Act → World → Prop, (∀ a w, Q .normal a cs' w → K a w) → wpList P ops (Exit.then K fun _ _ _ => False) rest (a.put o.dst v) w) : (Code.region id ops false).wpS P Q a cs w := by
  apply wpS_region
  have hsz : ops.size = rest.length + 1 := by rw [← Array.length_toList, hops]; rfl
  have h0 : ops[0]? = some o := by rw [← Array.getElem?_toList, hops]; rfl
  rw [hsz, List.range_eq_range', List.range'_succ]
  unfold wpOpsS
  have hw : Region.wanted o (yielded ops a.tmps) = true := by simp [Region.wanted, hg]
  simp only [h0, hw, if_true, hrec]
  have hm : ∀ e a w, Exit.then (fun a w => Q .normal a cs' w) (fun _ _ _ => False) e a w → Q e a cs' w := fun e a w h => by
    cases e <;> first | exact h | exact h.elim
  have heq := wpOps_eq_wpList (P := P) (ops := ops) (Q := Exit.then (fun a w => Q .normal a cs' w) fun _ _ _ => False) rest 1 (fun j => by rw [← Array.getElem?_toList, hops, Nat.add_comm]; rfl)
  rcases hcs with hcs | ⟨hcs, rfl, rfl⟩
  · simp only [hcs]
    exact wpOpsS_of_wpOps (fun _ _ h => h) hm _ _ _ (by rw [heq]; exact h _ (fun _ _ h => h))
  · simp only [hcs]
    exact wpOpsS_of_wpOps (fun _ _ h => h) hm _ _ _ (by rw [heq]; exact h _ (fun _ _ h => h))
end Go.Proofs.YtmmlnnbnbgaogaaDoor
