/- CheckRanges, PickRange. -/
import Derived.Test.YtmmlnnbnbgaogaaDoorRuL
import Derived.Deep.WholeRow
namespace Go.Proofs.YtmmlnnbnbgaogaaDoor
open Go.RowKit Ru

set_option maxRecDepth 20000 in
set_option maxHeartbeats 1000000 in
theorem checkRanges_any (s : Tok) (hs : s.length ≤ 140737488351232) (w : World) :
    Calls Tryd.prog 12 #[.string ⟨s.toArray⟩] w fun e w' => e = .returned (.int .i64 (entAns s).1) ∧ w.grownBy w' none := by
  go_enter Tryd.func12, Tryd.ntmps12
  go_wp2_with (first
    | (refine Great.wpList_allocTo rfl _ rfl _ _ (tab_alloc _ _ _ rfl) ?_)
    | (refine wpList_store_row rfl 50 _ _ rfl w1.heap.size (tabC T) rfl rfl 50 (tabC zeroT) (World.alloc_heap_new w1 _) (tab_info T) (by rw [tabC_size, tabC_size]) (tabC_one _) ?_; rw [World.setRow_alloc_new])
    | (go_at_call 22; refine (entries_any s hs _).mono ?_; rintro e w1 ⟨T, hT1, hT2, rfl, hg⟩))
  go_ret
  exact ⟨rfl, hg.trans (World.grownBy_alloc _ _ none)⟩

def RangePost (s : Tok) (a b : Int) (w : World) (e : Ending) (w' : World) : Prop :=
  e = .returned (.tuple #[.int .i64 (rangeAns s a b).1, .int .i64 (rangeAns s a b).2]) ∧ w.grownBy w' none

set_option maxRecDepth 20000 in
set_option maxHeartbeats 1000000 in
theorem pickRange_bad (s : Tok) (hs : s.length ≤ 140737488351232) (a b : Int) (h : (entAns s).1 ≠ 0) (w : World) :
    Calls Tryd.prog 11 #[.string ⟨s.toArray⟩, .int .i64 a, .int .i64 b] w (RangePost s a b w) := by
  have ha : rangeAns s a b = (0, (entAns s).1) := by unfold rangeAns; rw [if_pos h]
  have HA := Lib.hid ha
  clear ha
  have hne : ((entAns s).1 == 0) = false := by simpa using h
  generalize hn : (entAns s).1 = n at hne HA
  have HN := Lib.hid hn
  clear hn h
  go_enter Tryd.func11, Tryd.ntmps11
  go_wp2_with (first
    | (refine Great.wpList_allocTo rfl _ rfl _ _ (tab_alloc _ _ _ rfl) ?_)
    | (refine wpList_store_row rfl 50 _ _ rfl w1.heap.size (tabC T) rfl rfl 50 (tabC zeroT) (World.alloc_heap_new w1 _) (tab_info T) (by rw [tabC_size, tabC_size]) (tabC_one _) ?_; rw [World.setRow_alloc_new])
    | (go_at_call 22; refine (entries_any s hs _).mono ?_; rintro e w1 ⟨T, hT1, hT2, rfl, hg⟩; rw [HN.out]))
  go_ret2
  exact ⟨by rw [HA.out]; rfl, hg.trans (World.grownBy_alloc _ _ none)⟩

set_option maxRecDepth 20000 in
set_option maxHeartbeats 1000000 in
theorem pickRange_out (s : Tok) (hs : s.length ≤ 140737488351232) (a b : Int) (h : (entAns s).1 = 0) (hab : a < 0 ∨ 6 ≤ a ∨ b < 0 ∨ 6 ≤ b) (w : World) :
    Calls Tryd.prog 11 #[.string ⟨s.toArray⟩, .int .i64 a, .int .i64 b] w (RangePost s a b w) := by
  have ha : rangeAns s a b = (0, 1) := by unfold rangeAns; rw [if_neg (by simp [h]), if_pos hab]
  have HA := Lib.hid ha
  clear ha
  have HN := Lib.hid h
  clear h
  go_enter Tryd.func11, Tryd.ntmps11
  go_wp2_with (first
    | (refine Great.wpList_allocTo rfl _ rfl _ _ (tab_alloc _ _ _ rfl) ?_)
    | (refine wpList_store_row rfl 50 _ _ rfl w1.heap.size (tabC T) rfl rfl 50 (tabC zeroT) (World.alloc_heap_new w1 _) (tab_info T) (by rw [tabC_size, tabC_size]) (tabC_one _) ?_; rw [World.setRow_alloc_new])
    | (go_at_call 22; refine (entries_any s hs _).mono ?_; rintro e w1 ⟨T, hT1, hT2, rfl, hg⟩; rw [HN.out]))
  all_goals (go_ret2; exact ⟨by rw [HA.out]; rfl, hg.trans (World.grownBy_alloc _ _ none)⟩)

set_option maxRecDepth 20000 in
set_option maxHeartbeats 1000000 in
theorem pickRange_in (s : Tok) (hs : s.length ≤ 140737488351232) (a b : Nat) (h : (entAns s).1 = 0) (ha : a < 6) (hb : b < 6) (w : World) :
    Calls Tryd.prog 11 #[.string ⟨s.toArray⟩, .int .i64 a, .int .i64 b] w (RangePost s a b w) := by
  have HN := Lib.hid h
  clear h
  have h1 : (a : Int) < 6 := by omega
  have h2 : (b : Int) < 6 := by omega
  have h3 : ¬ (6 : Int) ≤ a := by omega
  have h4 : ¬ (6 : Int) ≤ b := by omega
  go_enter Tryd.func11, Tryd.ntmps11
  go_wp2_with (first
    | (refine Great.wpList_allocTo rfl _ rfl _ _ (tab_alloc _ _ _ rfl) ?_)
    | (refine wpList_store_row rfl 50 _ _ rfl w1.heap.size (tabC T) rfl rfl 50 (tabC zeroT) (World.alloc_heap_new w1 _) (tab_info T) (by rw [tabC_size, tabC_size]) (tabC_one _) ?_; rw [World.setRow_alloc_new]; have hcl := (tab_cell (World.alloc_heap_new w1 (.cells (tabC T) 50)) (a * 6 + b) (by omega)).1; generalize hv : T (a * 6 + b) = v at hcl; have hv6 := hT1 (a * 6 + b); rw [hv] at hv6; have hwr : IntKind.i64.wrap (v - 1) = v - 1 := IntWalk.i64_in _ (by omega); have HV := Lib.hid hv; clear hv)
    | (go_at_call 22; refine (entries_any s hs _).mono ?_; rintro e w1 ⟨T, hT1, hT2, rfl, hg⟩; rw [HN.out]))
  · have ha : rangeAns s a b = (v - 1, 0) := by
      unfold rangeAns
      rw [if_neg (by simp [HN.out]), if_neg (by omega), ← hT2 HN.out, show 6 * (a : Int).toNat + (b : Int).toNat = a * 6 + b by omega, HV.out, if_pos (by assumption)]
    go_ret2
    exact ⟨by rw [ha]; rfl, hg.trans (World.grownBy_alloc _ _ none)⟩
  · have ha : rangeAns s a b = ((b : Int), 0) := by
      unfold rangeAns
      rw [if_neg (by simp [HN.out]), if_neg (by omega), ← hT2 HN.out, show 6 * (a : Int).toNat + (b : Int).toNat = a * 6 + b by omega, HV.out, if_neg (by omega)]
    go_ret2
    exact ⟨by rw [ha]; rfl, hg.trans (World.grownBy_alloc _ _ none)⟩

theorem pickRange_any (s : Tok) (hs : s.length ≤ 140737488351232) (a b : Int) (w : World) :
    Calls Tryd.prog 11 #[.string ⟨s.toArray⟩, .int .i64 a, .int .i64 b] w (RangePost s a b w) := by
  by_cases h : (entAns s).1 = 0
  · by_cases hab : a < 0 ∨ 6 ≤ a ∨ b < 0 ∨ 6 ≤ b
    · exact pickRange_out s hs a b h hab w
    · obtain ⟨n, rfl⟩ := Int.eq_ofNat_of_zero_le (show 0 ≤ a by omega)
      obtain ⟨m, rfl⟩ := Int.eq_ofNat_of_zero_le (show 0 ≤ b by omega)
      exact pickRange_in s hs n m h (by omega) (by omega) w
  · exact pickRange_bad s hs a b h w
end Go.Proofs.YtmmlnnbnbgaogaaDoor
