/- The small functions of package rule: must, next, take: what each call does, said of tokens. -/
import Derived.Test.YtmmlnnbnbgaogaaDoorRows
import Derived.WalkKit
import Derived.WalkSpells
import Derived.WalkLawsBesides
import Derived.RangeFuncBox
import Derived.Lib.Hide
import Derived.WalkSmall
import Derived.Test.YtmmlnnbnbgaogaaDoorRuP
import Derived.Test.YtmmlnnbnbgaogaaDoorShelf
namespace Go.Proofs.YtmmlnnbnbgaogaaDoor
open Go.RowKit Ru

/-- what rule's 'must' gives up with -/
def wrongC : List PanicEntry := [{ v := .iface 67 (.agg #[]), recovered := false }]

set_option maxHeartbeats 400000 in
theorem must_ok (w : World) : Calls Tryd.prog 20 #[.bool true] w fun e w' => e = .returned (.tuple #[]) ∧ w = w' := by
  go_enter Tryd.func20, Tryd.ntmps20
  go_wp2
  go_end0
  exact ⟨rfl, rfl⟩

set_option maxHeartbeats 400000 in
theorem must_no (w : World) : Calls Tryd.prog 20 #[.bool false] w fun e w' => e = .panicked wrongC ∧ w = w' := by
  go_enter Tryd.func20, Tryd.ntmps20
  go_wp2
  exact ⟨rfl, rfl, rfl⟩

theorem must_any (x : Bool) (w : World) : Calls Tryd.prog 20 #[.bool x] w fun e w' => w = w' ∧ ((Hid (x = true) ∧ e = .returned (.tuple #[])) ∨ (Hid (x = false) ∧ e = .panicked wrongC)) := by
  cases x
  · exact (must_no w).mono fun e w' ⟨he, hw⟩ => ⟨hw, .inr ⟨rfl, he⟩⟩
  · exact (must_ok w).mono fun e w' ⟨he, hw⟩ => ⟨hw, .inl ⟨rfl, he⟩⟩

/-- block b is a reader whose next tokens are ts; the last one, which is empty, is not among them -/
structure Rdr (w : World) (b : Nat) (ts : List Tok) : Prop where
  ne : ∀ t ∈ ts, t ≠ [] ∧ t.length ≤ 1024
  ex : ∃ g o cap, g ≠ b ∧ ts.length + 1 ≤ cap ∧ cap ≤ 9223372036854775807 ∧ g < w.heap.size ∧
    w.heap[b]? = some (.cells #[.slice (some ⟨g, o, none⟩) (ts.length + 1) cap] 45 (0, 0)) ∧
    (∀ i, i ≤ ts.length → w.cell? ⟨g, o + i, none⟩ = some (.string ⟨(ts.getD i []).toArray⟩))

theorem Rdr.lt {w : World} {b : Nat} {ts : List Tok} (h : Rdr w b ts) : b < w.heap.size := by
  obtain ⟨_, g, o, cap, _, _, _, _, hb, _⟩ := h
  exact (Array.getElem?_eq_some_iff.1 hb).1

/-- what leaves the old blocks leaves a reader -/
theorem Rdr.kept {w w' : World} {b : Nat} {ts : List Tok} (h : Rdr w b ts) (hg : w.grownBy w' none) : Rdr w' b ts := by
  obtain ⟨hne, g, o, cap, h1, h2, h3, h4, hb, hc⟩ := h
  have hlt := (Array.getElem?_eq_some_iff.1 hb).1
  refine ⟨hne, g, o, cap, h1, h2, h3, Nat.lt_of_lt_of_le h4 hg.size, (hg.block b hlt (by simp)).trans hb, fun i hi => ?_⟩
  rw [← hc i hi]
  exact World.cell?_of_block (hg.block g h4 (by simp))

theorem Rdr.tail {w : World} {b : Nat} {t : Tok} {ts : List Tok} (h : Rdr w b (t :: ts)) : t ≠ [] ∧ t.length ≤ 1024 := h.ne t (by simp)

theorem grownBy_some {a b : World} {row : Option Nat} (h : a.grownBy b none) : a.grownBy b row := ⟨h.os, h.tape, h.output, h.size, fun k hk _ => h.block k hk (by simp)⟩
theorem grownBy_below {a b : World} (h : Below a.heap.size a b) : a.grownBy b none := ⟨h.os, h.tape, h.output, h.size, fun k hk _ => h.block k hk⟩
theorem grownBy_refl (a : World) (row : Option Nat) : a.grownBy a row := World.grownBy.refl a row

theorem grownBy_set {w : World} {b : Nat} (v : Value) : w.grownBy (w.setCell ⟨b, 0, none⟩ v) (some b) := grownBy_setCell' w b v

set_option maxHeartbeats 400000 in
theorem next_some (w : World) (b : Nat) (t : Tok) (ts : List Tok) (h : Rdr w b (t :: ts)) :
    Calls Tryd.prog 30 #[.pointer (some ⟨b, 0, none⟩)] w fun e w' => e = .returned (.string ⟨t.toArray⟩) ∧ Rdr w' b ts ∧ w.grownBy w' (some b) := by
  obtain ⟨hne, g, o, cap, hgb, hcap, hcap2, hg, hb, hc⟩ := h
  have h0 := hc 0 (by omega)
  have hcb : w.cell? ⟨b, 0, none⟩ = some (.slice (some ⟨g, o, none⟩) ((t :: ts).length + 1) cap) := by simp [World.cell?, hb]
  have hfb : w.frozen? ⟨b, 0, none⟩ = false := by simp [World.frozen?, hb]
  simp only [Nat.add_zero, List.getD_cons_zero, List.length_cons] at h0 hcb hcap
  have ht : t.isEmpty = false := by simpa using (hne t (by simp)).1
  have H1 := Lib.hid hne; clear hne
  have H2 := Lib.hid hc; clear hc
  have H3 := Lib.hid hb; clear hb
  go_enter Tryd.func30, Tryd.ntmps30
  go_wp2
  go_ret
  refine ⟨rfl, ⟨fun t' ht' => H1.out t' (by simp [ht']), g, o + 1, cap - 1, hgb, by omega, by omega, ?_, ?_, fun i hi => ?_⟩, grownBy_set _⟩
  · simpa [World.setCell] using hg
  · have h3 := H3.out
    have hlt := (Array.getElem?_eq_some_iff.1 h3).1
    show (w.heap.modify b _)[b]? = _
    rw [Array.getElem?_modify, if_pos rfl, h3]
    simp [Array.setIfInBounds]
  · have h2 := H2.out (i + 1) (by simp; omega)
    rw [World.cell?_of_block (w := w) (Below.heap_setCell _ _ _ _ (by simpa using hgb))]
    rw [show o + 1 + i = o + (i + 1) from by omega, h2]
    simp

set_option maxHeartbeats 400000 in
theorem next_nil (w : World) (b : Nat) (h : Rdr w b []) :
    Calls Tryd.prog 30 #[.pointer (some ⟨b, 0, none⟩)] w fun e w' => e = .returned (.string ⟨#[]⟩) ∧ w = w' := by
  obtain ⟨hne, g, o, cap, hgb, hcap, hcap2, hg, hb, hc⟩ := h
  have h0 := hc 0 (by omega)
  have hcb : w.cell? ⟨b, 0, none⟩ = some (.slice (some ⟨g, o, none⟩) 1 cap) := by simp [World.cell?, hb]
  simp only [Nat.add_zero, List.getD_nil] at h0
  have H1 := Lib.hid hne; clear hne
  have H2 := Lib.hid hc; clear hc
  have H3 := Lib.hid hb; clear hb
  go_enter Tryd.func30, Tryd.ntmps30
  go_wp2
  go_ret
  exact ⟨rfl, rfl⟩

set_option maxHeartbeats 400000 in
theorem take_yes (w : World) (b : Nat) (t : Tok) (ts : List Tok) (h : Rdr w b (t :: ts)) :
    Calls Tryd.prog 18 #[.pointer (some ⟨b, 0, none⟩), .string ⟨t.toArray⟩] w fun e w' => e = .returned (.bool true) ∧ Rdr w' b ts ∧ w.grownBy w' (some b) := by
  have h' := Lib.hid h
  obtain ⟨hne, g, o, cap, hgb, hcap, hcap2, hg, hb, hc⟩ := h
  have h0 := hc 0 (by omega)
  have hcb : w.cell? ⟨b, 0, none⟩ = some (.slice (some ⟨g, o, none⟩) ((t :: ts).length + 1) cap) := by simp [World.cell?, hb]
  simp only [Nat.add_zero, List.getD_cons_zero, List.length_cons] at h0 hcb hcap
  have ht : t.isEmpty = false := by simpa using (hne t (by simp)).1
  have H1 := Lib.hid hne; clear hne
  have H2 := Lib.hid hc; clear hc
  have H3 := Lib.hid hb; clear hb
  go_enter Tryd.func18, Tryd.ntmps18
  go_wp2_with (go_at_call 30; refine (next_some _ _ _ _ h'.out).mono ?_; rintro e w' ⟨rfl, hr, hgr⟩)
  go_ret
  exact ⟨rfl, hr, hgr⟩

set_option maxHeartbeats 400000 in
theorem take_no (w : World) (b : Nat) (p : Tok) (hp : p.isEmpty = false) (t : Tok) (ts : List Tok) (h : Rdr w b (t :: ts)) (hn : (t == p) = false) :
    Calls Tryd.prog 18 #[.pointer (some ⟨b, 0, none⟩), .string ⟨p.toArray⟩] w fun e w' => e = .returned (.bool false) ∧ w = w' := by
  obtain ⟨hne, g, o, cap, hgb, hcap, hcap2, hg, hb, hc⟩ := h
  have h0 := hc 0 (by omega)
  have hcb : w.cell? ⟨b, 0, none⟩ = some (.slice (some ⟨g, o, none⟩) ((t :: ts).length + 1) cap) := by simp [World.cell?, hb]
  simp only [Nat.add_zero, List.getD_cons_zero, List.length_cons] at h0 hcb hcap
  have H1 := Lib.hid hne; clear hne
  have H2 := Lib.hid hc; clear hc
  have H3 := Lib.hid hb; clear hb
  go_enter Tryd.func18, Tryd.ntmps18
  go_wp2
  go_ret
  exact ⟨rfl, rfl⟩

set_option maxHeartbeats 400000 in
theorem take_end (w : World) (b : Nat) (p : Tok) (hp : p.isEmpty = false) (h : Rdr w b []) :
    Calls Tryd.prog 18 #[.pointer (some ⟨b, 0, none⟩), .string ⟨p.toArray⟩] w fun e w' => e = .returned (.bool false) ∧ w = w' := by
  obtain ⟨hne, g, o, cap, hgb, hcap, hcap2, hg, hb, hc⟩ := h
  have h0 := hc 0 (by omega)
  have hcb : w.cell? ⟨b, 0, none⟩ = some (.slice (some ⟨g, o, none⟩) 1 cap) := by simp [World.cell?, hb]
  simp only [Nat.add_zero, List.getD_nil] at h0
  have hn : (([] : Tok) == p) = false := by cases p <;> simp_all
  have H1 := Lib.hid hne; clear hne
  have H2 := Lib.hid hc; clear hc
  have H3 := Lib.hid hb; clear hb
  go_enter Tryd.func18, Tryd.ntmps18
  go_wp2
  go_ret
  exact ⟨rfl, rfl⟩

/-- what a call does that takes tokens from the reader b: v is what it tells, ts what is left -/
def Takes (b : Nat) (w : World) (v : Value) (ts : List Tok) (e : Ending) (w' : World) : Prop := e = .returned v ∧ Rdr w' b ts ∧ w.grownBy w' (some b)
/-- what a call does that gives up -/
def Gives (b : Nat) (w : World) (e : Ending) (w' : World) : Prop := e = .panicked wrongC ∧ w.grownBy w' (some b)

theorem next_any (w : World) (b : Nat) (ts : List Tok) (h : Rdr w b ts) :
    Calls Tryd.prog 30 #[.pointer (some ⟨b, 0, none⟩)] w (Takes b w (.string ⟨(nextT ts).1.toArray⟩) (nextT ts).2) := by
  cases ts with
  | nil => exact (next_nil w b h).mono fun e w' ⟨he, hw⟩ => ⟨he, hw ▸ h, hw ▸ grownBy_refl _ _⟩
  | cons t ts => exact (next_some w b t ts h).mono fun e w' ⟨he, hr, hg⟩ => ⟨he, hr, hg⟩

theorem take_any (p : Tok) (hp : p.isEmpty = false) (w : World) (b : Nat) (ts : List Tok) (h : Rdr w b ts) :
    Calls Tryd.prog 18 #[.pointer (some ⟨b, 0, none⟩), .string ⟨p.toArray⟩] w fun e w' => ∃ x ts', Hid (takeT p ts = (x, ts')) ∧ Takes b w (.bool x) ts' e w' := by
  cases ts with
  | nil => exact (take_end w b p hp h).mono fun e w' ⟨he, hw⟩ => ⟨false, [], rfl, he, hw ▸ h, hw ▸ grownBy_refl _ _⟩
  | cons t ts =>
    by_cases hn : t = p
    · subst hn
      exact (take_yes w b t ts h).mono fun e w' ⟨he, hr, hg⟩ => ⟨true, ts, by show takeT t (t :: ts) = _; simp [takeT], he, hr, hg⟩
    · exact (take_no w b p hp t ts h (by simpa using hn)).mono fun e w' ⟨he, hw⟩ => ⟨false, t :: ts, by show takeT p (t :: ts) = _; simp [takeT, hn], he, hw ▸ h, hw ▸ grownBy_refl _ _⟩
end Go.Proofs.YtmmlnnbnbgaogaaDoor
