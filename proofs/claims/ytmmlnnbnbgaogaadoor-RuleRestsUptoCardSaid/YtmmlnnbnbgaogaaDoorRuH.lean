/- picked: a rules' text, and what it picks. -/
import Derived.Test.YtmmlnnbnbgaogaaDoorRuG
namespace Go.Proofs.YtmmlnnbnbgaogaaDoor
open Go.RowKit Ru

/-- what picked answers -/
def PickedPost (s : Tok) (x : Opr) (w : World) (e : Ending) (w' : World) : Prop :=
  e = .returned (.tuple #[.int .i64 (pickedT s x).1, .int .i64 (pickedT s x).2]) ∧ w.grownBy w' none

set_option maxHeartbeats 1000000 in
theorem picked_long (s : Tok) (hl : 1024 < s.length) (hs : s.length ≤ 140737488351232) (x : Opr) (w : World) :
    Calls Tryd.prog 10 #[.string ⟨s.toArray⟩, .agg #[.string ⟨x.I.toArray⟩, .int .i64 x.V, .int .i64 x.W, .string ⟨x.F.toArray⟩, .string ⟨x.T.toArray⟩, .int .i64 x.E]] w (PickedPost s x w) := by
  have hp : pickedT s x = (0, 91) := by unfold pickedT; rw [if_pos hl]
  have HP := Lib.hid hp
  clear hp
  go_enter_defers Tryd.func10, Tryd.ntmps10
  go_wp2
  refine ⟨.tuple #[.int .i64 0, .int .i64 91], by simp [results, Tryd.results10, go_sem], ?_, (World.grownBy_alloc w _ none).trans (World.grownBy_alloc _ _ none)⟩
  rw [HP.out]

/-- the array of what was seen -/
def seenA (seen : List Int) : Array Value := #[.bool (seen.contains 0), .bool (seen.contains 1), .bool (seen.contains 2), .bool (seen.contains 3), .bool (seen.contains 4), .bool (seen.contains 5)]

/-- where picked stands -/
structure Pick (w : World) (x : Opr) (b bs : Nat) (seen : List Int) (wr : World) : Prop where
  old : w.grownBy wr none
  b1 : w.heap.size + 2 ≤ b
  b2 : b < bs
  bx : wr.heap[w.heap.size]? = some (.cells #[.string ⟨x.I.toArray⟩, .int .i64 x.V, .int .i64 x.W, .string ⟨x.F.toArray⟩, .string ⟨x.T.toArray⟩, .int .i64 x.E] 23)
  be : Boxed wr (w.heap.size + 1) 25 (.int .i64 0)
  sn : wr.heap[bs]? = some (.cells (seenA seen) 42 (0, 0))

theorem Pick.kept {w : World} {x : Opr} {b bs : Nat} {seen : List Int} {wr w' : World} (h : Pick w x b bs seen wr) (hg : wr.grownBy w' (some b)) : Pick w x b bs seen w' := by
  have hlt : ∀ k o, wr.heap[k]? = some o → k < wr.heap.size := fun k o hk => (Array.getElem?_eq_some_iff.1 hk).1
  have h1 := h.b1
  have h2 := h.b2
  refine ⟨⟨hg.os.trans h.old.os, hg.tape.trans h.old.tape, hg.output.trans h.old.output, Nat.le_trans h.old.size hg.size, fun k hk _ => ?_⟩, h1, h2, ?_, ?_, ?_⟩
  · exact (hg.block k (Nat.lt_of_lt_of_le hk h.old.size) (by simp; omega)).trans (h.old.block k hk (by simp))
  · exact (hg.block _ (hlt _ _ h.bx) (by simp; omega)).trans h.bx
  · exact (hg.block _ (hlt _ _ h.be) (by simp; omega)).trans h.be
  · exact (hg.block _ (hlt _ _ h.sn) (by simp; omega)).trans h.sn

/-- what stands first -/
theorem Rdr.look {w : World} {b : Nat} {ts : List Tok} (h : Rdr w b ts) : ∃ g o cap, w.cell? ⟨b, 0, none⟩ = some (.slice (some ⟨g, o, none⟩) (ts.length + 1) cap) ∧ w.cell? ⟨g, o, none⟩ = some (.string ⟨(ts[0]?.getD []).toArray⟩) := by
  obtain ⟨_, g, o, cap, _, _, _, _, hb, hc⟩ := h
  exact ⟨g, o, cap, by simp [World.cell?, hb], by have := hc 0 (by omega); rw [Nat.add_zero] at this; rw [this, List.getD_eq_getElem?_getD]⟩

theorem Rdr.first {w : World} {b : Nat} {ts : List Tok} (h : Rdr w b ts) : (ts[0]?.getD []).isEmpty = ts.isEmpty := by
  cases ts with
  | nil => rfl
  | cons t ts => have := h.tail.1; cases t <;> simp at this ⊢

/-- a bool of the array is no token -/
theorem Rdr.aside {w : World} {b bs : Nat} {ts : List Tok} {seen : List Int} {t : TypeId} (h : Rdr w b ts) (hs : w.heap[bs]? = some (.cells (seenA seen) t (0, 0))) (hne : bs ≠ b) (k : Nat) (v : Value) : Rdr (w.setCell ⟨bs, k, none⟩ v) b ts := by
  obtain ⟨hn, g, o, cap, h1, h2, h3, h4, hb, hc⟩ := h
  have hg : g ≠ bs := by
    intro e
    subst e
    have h0 := hc 0 (by omega)
    simp only [World.cell?, hs, Option.isSome_none, Bool.false_eq_true, if_false, Nat.add_zero] at h0
    have hm := Array.mem_of_getElem? h0
    simp [seenA] at hm
  refine ⟨hn, g, o, cap, h1, h2, h3, by simpa [World.setCell] using h4, (Below.heap_setCell _ _ _ _ (fun e => hne e.symm)).trans hb, fun i hi => ?_⟩
  rw [World.cell?_of_block (w := w) (Below.heap_setCell _ _ _ _ hg)]
  exact hc i hi

theorem seen_cell {w : World} {bs : Nat} {seen : List Int} {t : TypeId} (hs : w.heap[bs]? = some (.cells (seenA seen) t (0, 0))) (n : Nat) (hn : n ≤ 5) : w.cell? ⟨bs, n, none⟩ = some (.bool (seen.contains (n : Int))) ∧ w.frozen? ⟨bs, n, none⟩ = false := by
  constructor
  · simp only [World.cell?, hs, Option.isSome_none, Bool.false_eq_true, if_false]
    match n, hn with
    | 0, _ => rfl
    | 1, _ => rfl
    | 2, _ => rfl
    | 3, _ => rfl
    | 4, _ => rfl
    | 5, _ => rfl
    | n + 6, hn => omega
  · simp [World.frozen?, hs]

theorem Pick.mark {w : World} {x : Opr} {b bs : Nat} {seen : List Int} {wr : World} (h : Pick w x b bs seen wr) (n : Nat) (hn : n ≤ 5) : Pick w x b bs ((n : Int) :: seen) (wr.setCell ⟨bs, n, none⟩ (.bool true)) := by
  have h1 := h.b1
  have h2 := h.b2
  have hset : ∀ k, k ≠ bs → (wr.setCell ⟨bs, n, none⟩ (.bool true)).heap[k]? = wr.heap[k]? := fun k hk => Below.heap_setCell _ _ _ k hk
  refine ⟨⟨h.old.os, h.old.tape, h.old.output, by simpa [World.setCell] using h.old.size, fun k hk _ => (hset k (by omega)).trans (h.old.block k hk (by simp))⟩, h1, h2, (hset _ (by omega)).trans h.bx, (hset _ (by omega)).trans h.be, ?_⟩
  show (wr.heap.modify bs _)[bs]? = _
  rw [Array.getElem?_modify, if_pos rfl, h.sn]
  match n, hn with
  | 0, _ => simp [seenA]
  | 1, _ => simp [seenA]
  | 2, _ => simp [seenA]
  | 3, _ => simp [seenA]
  | 4, _ => simp [seenA]
  | 5, _ => simp [seenA]
  | n + 6, hn => omega

theorem Pick.box {w : World} {x : Opr} {b bs : Nat} {seen : List Int} {wr : World} (h : Pick w x b bs seen wr) :
    wr.cell? ⟨w.heap.size, 0, none⟩ = some (.string ⟨x.I.toArray⟩) ∧ wr.cell? ⟨w.heap.size, 1, none⟩ = some (.int .i64 x.V) ∧ wr.cell? ⟨w.heap.size, 2, none⟩ = some (.int .i64 x.W) ∧ wr.cell? ⟨w.heap.size, 3, none⟩ = some (.string ⟨x.F.toArray⟩) ∧ wr.cell? ⟨w.heap.size, 4, none⟩ = some (.string ⟨x.T.toArray⟩) ∧ wr.cell? ⟨w.heap.size, 5, none⟩ = some (.int .i64 x.E) := by
  simp [World.cell?, h.bx]

/-- the door, where the text is none -/
theorem picked_door {s : Tok} {x : Opr} {w wq : World} {tmps : Array Value} (h4 : tmps[4]?.getD undef = .int .i64 0) (h5 : tmps[5]?.getD undef = .pointer (some ⟨w.heap.size + 1, 0, none⟩))
    (hbe : Boxed wq (w.heap.size + 1) 25 (.int .i64 0)) (hg : w.grownBy wq none) (hp : pickedT s x = (0, 90)) :
    bodyPostD Tryd.prog Tryd.f10 (PickedPost s x w) (.panic wrongC) { tmps := tmps, defers := [{ target := .fn (.func 16) #[], args := #[.pointer (some ⟨w.heap.size + 1, 0, none⟩)] }] } wq := by
  refine leaves_cons (f := 16) (args := #[.pointer (some ⟨w.heap.size + 1, 0, none⟩)]) (by simp) (by simp [go_sem]) ?_
  refine (caught_up ⟨w.heap.size + 1, 0, none⟩ 0 [] wq hbe.cell hbe.frozen hbe.lt).mono ?_
  rintro e u' w'' ⟨rfl, rfl, o, rfl⟩
  have hc : ((wq.alloc o).setCell ⟨w.heap.size + 1, 0, none⟩ (.int .i64 90)).cell? ⟨w.heap.size + 1, 0, none⟩ = some (.int .i64 90) := ((hbe.alloc o).set (.int .i64 90)).cell
  refine ⟨.tuple #[.int .i64 0, .int .i64 90], ?_, by rw [hp], ?_⟩
  · simp [results, Tryd.results10, go_sem, h4, h5, hc]
  · have h1 := (wq.grownBy_alloc o none)
    exact ⟨(h1.os.trans hg.os), h1.tape.trans hg.tape, h1.output.trans hg.output, Nat.le_trans hg.size (by simp [World.setCell]), fun k hk _ => (Below.heap_setCell _ _ _ k (by simp; omega)).trans ((Below.heap_alloc _ _ _ (Nat.lt_of_lt_of_le hk hg.size)).trans (hg.block k hk (by simp)))⟩

/-- the door, where the text is one -/
theorem picked_out {s : Tok} {x : Opr} {w wq : World} {tmps : Array Value} {c : Int} (h4 : tmps[4]?.getD undef = .int .i64 c) (h5 : tmps[5]?.getD undef = .pointer (some ⟨w.heap.size + 1, 0, none⟩))
    (hbe : Boxed wq (w.heap.size + 1) 25 (.int .i64 0)) (hg : w.grownBy wq none) (hp : pickedT s x = (c, 0)) :
    bodyPostD Tryd.prog Tryd.f10 (PickedPost s x w) .ret { tmps := tmps, defers := [{ target := .fn (.func 16) #[], args := #[.pointer (some ⟨w.heap.size + 1, 0, none⟩)] }] } wq := by
  refine leaves_cons (f := 16) (args := #[.pointer (some ⟨w.heap.size + 1, 0, none⟩)]) (by simp) (by simp [go_sem]) ?_
  refine (caught_none ⟨w.heap.size + 1, 0, none⟩ wq).mono ?_
  rintro e u' w'' ⟨rfl, rfl, o, rfl⟩
  have hc : (wq.alloc o).cell? ⟨w.heap.size + 1, 0, none⟩ = some (.int .i64 0) := (hbe.alloc o).cell
  refine ⟨.tuple #[.int .i64 c, .int .i64 0], ?_, by rw [hp], hg.trans (World.grownBy_alloc _ _ none)⟩
  simp [results, Tryd.results10, go_sem, h4, h5, hc]

/-- where the loop over the rules stands -/
def PickRel (R : Option Int) (x : Opr) (w : World) (b bs : Nat) (k : Nat) (s7 s9 : Value) (wr : World) : Prop :=
  ∃ found more seen ts', s7 = .int .i64 found ∧ s9 = .bool more ∧ Rdr wr b ts' ∧ Pick w x b bs seen wr ∧
    ((Hid (more = true) ∧ ts'.length ≤ k ∧ Hid (rulesT (k + 1) x found seen ts' = R)) ∨ (Hid (more = false) ∧ Hid (R = if ts' = [] then some found else none)))

set_option maxHeartbeats 1000000 in
theorem picked_short (s : Tok) (hl : s.length ≤ 1024) (x : Opr) (hx : x.fits) (w : World) (hE : Env w) :
    Calls Tryd.prog 10 #[.string ⟨s.toArray⟩, .agg #[.string ⟨x.I.toArray⟩, .int .i64 x.V, .int .i64 x.W, .string ⟨x.F.toArray⟩, .string ⟨x.T.toArray⟩, .int .i64 x.E]] w (PickedPost s x w) := by
  go_enter_defers Tryd.func10, Tryd.ntmps10
  go_upto_region 7 with (go_at_call 17; refine (read_any s hl _).mono ?_; rintro e w2 (⟨ts, b, hts, rfl, hr, hb, hg⟩ | ⟨hts, rfl, hg⟩))
  · have hP : Pick w x b w2.heap.size [] (w2.alloc (.cells #[Value.bool false, Value.bool false, Value.bool false, Value.bool false, Value.bool false, Value.bool false] 42)) := by
      have hb' : w.heap.size + 2 ≤ b := by simpa using hb
      refine ⟨((((World.grownBy_alloc w _ none).trans (World.grownBy_alloc _ _ none)).trans hg).trans (World.grownBy_alloc _ _ none)), hb', hr.lt, ?_, ?_, ?_⟩
      · refine (Below.heap_alloc _ _ _ (by have := hr.lt; omega)).trans ((hg.block _ (by simp; omega) (by simp)).trans ((Below.heap_alloc _ _ _ (by simp)).trans (World.alloc_heap_new w _)))
      · exact (Boxed.kept (by simpa using Boxed.new (w.alloc (.cells #[.string ⟨x.I.toArray⟩, .int .i64 x.V, .int .i64 x.W, .string ⟨x.F.toArray⟩, .string ⟨x.T.toArray⟩, .int .i64 x.E] 23)) 25 (.int .i64 0)) hg (by simp)).alloc _
      · exact World.alloc_heap_new w2 _
    have hr2 := hr.kept (World.grownBy_alloc w2 (.cells #[Value.bool false, Value.bool false, Value.bool false, Value.bool false, Value.bool false, Value.bool false] 42) none)
    generalize w2.alloc (.cells #[Value.bool false, Value.bool false, Value.bool false, Value.bool false, Value.bool false, Value.bool false] 42) = w3 at hP hr2
    generalize w2.heap.size = bs at hP
    have hpk : pickedT s x = match pickT ts x with
        | none => (0, 90)
        | some c => (c, 0) := by unfold pickedT; rw [if_neg (by omega), hts.out]; rfl
    have hNb : Tryd.prog.globals.size ≤ b := by have := hE.big; have := hP.b1; omega
    have HPK := Lib.hid hpk
    clear hpk hb hr hts
    generalize hR : pickT ts x = R at HPK
    have HR := Lib.hid hR
    clear hR
    have hlk := hr2.look
    have hfi := hr2.first
    go_cut [9] from 16 to 22 (fun s9 wx => s9 = .bool (!ts.isEmpty) ∧ Rdr wx b ts ∧ Pick w x b bs [] wx)
    case first =>
      obtain ⟨g, o, cap, hl1, hl2⟩ := hlk
      go_wp2
      go_meet
      exact ⟨rfl, hr2, hP⟩
    case rest =>
      obtain ⟨rfl, hr3, hP3⟩ := hcut
      clear hr2 hP hlk hfi
      go_wp2
      go_loopg [7, 9, 10] ts.length (fun k s7 s9 s10 wr => PickRel R x w b bs k s7 s9 wr)
      case atStart =>
        refine ⟨5, !ts.isEmpty, [], ts, rfl, rfl, hr3, hP3, ?_⟩
        cases ts with
        | nil => exact .inr ⟨rfl, by have := HR.out; unfold pickT at this; exact this.symm⟩
        | cons t tl => exact .inl ⟨rfl, Nat.le_refl _, by have := HR.out; unfold pickT at this; rw [if_neg (by simp)] at this; exact this⟩
      case round =>
        obtain ⟨found, more, seen, ts1, rfl, rfl, hr4, hP4, ⟨hm, hk, HRR⟩ | ⟨hm, HRR⟩⟩ := hrel
        · obtain rfl := hm.out
          have hno : R = none → pickedT s x = (0, 90) := fun h => by rw [HPK.out, h]
          have HNO := Lib.hid hno
          clear hno
          go_upto_region 11 with (go_at_call 19; refine (category_any _ _ _ hr4).mono ?_; rintro e w5 (⟨c, ts2, hct, rfl, hr5, hg5⟩ | ⟨hct, rfl, hg5⟩))
          · have hP5 := hP4.kept hg5
            obtain ⟨⟨cn, rfl, hcn⟩, hlt2⟩ := catT_in hct.out
            by_cases h5 : cn = 5
            · subst h5
              go_wp2_with (go_at_call 20; refine (must_no _).mono ?_; rintro e w6 ⟨rfl, rfl⟩)
              exact picked_door rfl rfl hP5.be hP5.old (HNO.out (by rw [← HRR.out]; simp only [rulesT, hct.out]; rfl))
            · have h5i : ¬ (cn : Int) = 5 := by omega
              have h5b : ((cn : Int) == 5) = false := by simpa using h5i
              have hsc := (seen_cell hP5.sn cn hcn).1
              rcases hse : seen.contains (cn : Int) with _ | _
              · rw [hse] at hsc
                have HSE := Lib.hid hse
                clear hse
                go_upto_region 13 with (first
                  | (go_at_call 18; refine (take_any [58] rfl _ _ _ hr5).mono ?_; rintro e w6 ⟨y, ts3, htk, rfl, hr6, hg6⟩; have hz6 := seen_cell (hP5.kept hg6).sn cn hcn; have hz7 := hz6.2; have hz8 := hz6.1; clear hz6)
                  | (go_at_call 20; refine (must_any _ _).mono ?_; rintro e w7 ⟨rfl, ⟨HX, rfl⟩ | ⟨HX, rfl⟩⟩))
                · have hy : y = true := by have := HX.out; simp only [Bool.and_eq_true] at this; exact this.2
                  subst hy
                  have hP6 := hP5.kept hg6
                  have hP7 := hP6.mark cn hcn
                  have hr7 := hr6.aside hP6.sn (by have := hP6.b2; omega) cn (.bool true)
                  generalize w6.setCell ⟨bs, cn, none⟩ (.bool true) = w7 at hP7 hr7
                  have hE7 := hE.kept hP7.old (by simp)
                  have hbx := hP7.box
                  have HCT := hct
                  clear hz7 hz8 hsc HX hP6 hP5 hr6 hg6 hr5 hg5 hP4 hr4
                  by_cases hf5 : found = 5
                  · subst hf5
                    have hfb : ((5 : Int) == 5) = true := rfl
                    go_wp2_with (first
                      | (go_at_call 21; refine (condition_any x hx _ _ hNb hE7 _ hr7).mono ?_; rintro e w8 (⟨hh, ts4, hcd, rfl, hr8, hg8⟩ | ⟨hcd, rfl, hg8⟩); cases hh)
                      | (go_at_call 18; refine (take_any [59] rfl _ _ _ hr8).mono ?_; rintro e w9 ⟨y, ts5, htk2, rfl, hr9, hg9⟩))
                    · obtain ⟨hm1, hst⟩ := rules_step hk HRR.out hct.out h5i HSE.out htk.out hcd.out htk2.out 5 (by simp)
                      go_roundg (gk - 1)
                      case measure => exact hm1
                      case rel => exact ⟨5, y, _, ts5, rfl, rfl, hr9, (hP7.kept hg8).kept hg9, hst⟩
                    · obtain ⟨hm1, hst⟩ := rules_step hk HRR.out hct.out h5i HSE.out htk.out hcd.out htk2.out (cn : Int) (by simp)
                      go_roundg (gk - 1)
                      case measure => exact hm1
                      case rel => exact ⟨(cn : Int), y, _, ts5, rfl, rfl, hr9, (hP7.kept hg8).kept hg9, hst⟩
                    · have hP8 := hP7.kept hg8
                      exact picked_door rfl rfl hP8.be hP8.old (HNO.out (by rw [← HRR.out]; simp only [rulesT, hct.out, h5i, HSE.out, htk.out, hcd.out, if_false, Bool.false_eq_true]))
                  · have hfb : (found == 5) = false := by simpa using hf5
                    go_wp2_with (first
                      | (go_at_call 21; refine (condition_any x hx _ _ hNb hE7 _ hr7).mono ?_; rintro e w8 (⟨hh, ts4, hcd, rfl, hr8, hg8⟩ | ⟨hcd, rfl, hg8⟩); cases hh)
                      | (go_at_call 18; refine (take_any [59] rfl _ _ _ hr8).mono ?_; rintro e w9 ⟨y, ts5, htk2, rfl, hr9, hg9⟩))
                    · obtain ⟨hm1, hst⟩ := rules_step hk HRR.out hct.out h5i HSE.out htk.out hcd.out htk2.out found (by simp [hf5])
                      go_roundg (gk - 1)
                      case measure => exact hm1
                      case rel => exact ⟨found, y, _, ts5, rfl, rfl, hr9, (hP7.kept hg8).kept hg9, hst⟩
                    · obtain ⟨hm1, hst⟩ := rules_step hk HRR.out hct.out h5i HSE.out htk.out hcd.out htk2.out found (by simp [hf5])
                      go_roundg (gk - 1)
                      case measure => exact hm1
                      case rel => exact ⟨found, y, _, ts5, rfl, rfl, hr9, (hP7.kept hg8).kept hg9, hst⟩
                    · have hP8 := hP7.kept hg8
                      exact picked_door rfl rfl hP8.be hP8.old (HNO.out (by rw [← HRR.out]; simp only [rulesT, hct.out, h5i, HSE.out, htk.out, hcd.out, if_false, Bool.false_eq_true]))
                · have hy : y = false := by have := HX.out; cases y <;> simp_all
                  subst hy
                  have hP6 := hP5.kept hg6
                  exact picked_door rfl rfl hP6.be hP6.old (HNO.out (by rw [← HRR.out]; simp only [rulesT, hct.out, h5i, HSE.out, htk.out, if_false, Bool.false_eq_true]))
              · rw [hse] at hsc
                have HSE := Lib.hid hse
                clear hse
                go_wp2_with (go_at_call 20; refine (must_no _).mono ?_; rintro e w6 ⟨rfl, rfl⟩)
                exact picked_door rfl rfl hP5.be hP5.old (HNO.out (by rw [← HRR.out]; simp only [rulesT, hct.out, h5i, HSE.out, if_false, if_true]))
          · have hP5 := hP4.kept hg5
            exact picked_door rfl rfl hP5.be hP5.old (HNO.out (by rw [← HRR.out]; simp only [rulesT, hct.out]))
        · obtain rfl := hm.out
          obtain ⟨g, o, cap, hl1, hl2⟩ := hr4.look
          have hfi := hr4.first
          have hno : R = none → pickedT s x = (0, 90) := fun h => by rw [HPK.out, h]
          have HNO := Lib.hid hno
          clear hno
          cases ts1 with
          | nil =>
            simp only [List.getElem?_nil, Option.getD_none] at hl2
            have hpk : pickedT s x = (found, 0) := by rw [HPK.out, HRR.out, if_pos rfl]
            have HPK2 := Lib.hid hpk
            clear hpk hfi
            have hbe := hP4.be.cell
            have hbf := hP4.be.frozen
            go_wp2_with (go_at_call 20; refine (must_ok _).mono ?_; rintro e w6 ⟨rfl, rfl⟩)
            refine picked_out rfl rfl (hP4.be.set _) ⟨hP4.old.os, hP4.old.tape, hP4.old.output, by simpa [World.setCell] using hP4.old.size, fun k hk _ => (Below.heap_setCell _ _ _ k (by simp; omega)).trans (hP4.old.block k hk (by simp))⟩ HPK2.out
          | cons t tl =>
            simp only [List.getElem?_cons_zero, Option.getD_some] at hl2 hfi
            have hte : t.isEmpty = false := hfi
            clear hfi
            go_wp2_with (go_at_call 20; refine (must_no _).mono ?_; rintro e w6 ⟨rfl, rfl⟩)
            exact picked_door rfl rfl hP4.be hP4.old (HNO.out (by rw [HRR.out, if_neg (by simp)]))
  · have hp : pickedT s x = (0, 90) := by unfold pickedT; rw [if_neg (by omega), hts.out]
    have hbe := (Boxed.kept (by simpa using Boxed.new (w.alloc (.cells #[.string ⟨x.I.toArray⟩, .int .i64 x.V, .int .i64 x.W, .string ⟨x.F.toArray⟩, .string ⟨x.T.toArray⟩, .int .i64 x.E] 23)) 25 (.int .i64 0)) hg (by simp) : Boxed w2 (w.heap.size + 1) 25 (.int .i64 0))
    exact picked_door rfl rfl hbe (((World.grownBy_alloc w _ none).trans (World.grownBy_alloc _ _ none)).trans hg) hp

theorem picked_any (s : Tok) (hs : s.length ≤ 140737488351232) (x : Opr) (hx : x.fits) (w : World) (hE : Env w) :
    Calls Tryd.prog 10 #[.string ⟨s.toArray⟩, .agg #[.string ⟨x.I.toArray⟩, .int .i64 x.V, .int .i64 x.W, .string ⟨x.F.toArray⟩, .string ⟨x.T.toArray⟩, .int .i64 x.E]] w (PickedPost s x w) := by
  by_cases h : s.length ≤ 1024
  · exact picked_short s h x hx w hE
  · exact picked_long s (by omega) hs x w
end Go.Proofs.YtmmlnnbnbgaogaaDoor
