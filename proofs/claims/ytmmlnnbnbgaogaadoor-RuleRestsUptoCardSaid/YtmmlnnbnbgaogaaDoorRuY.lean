/- RuleRests: the walk. -/
import Derived.Test.YtmmlnnbnbgaogaaDoorRuX
import Derived.Deep.Strs
namespace Go.Proofs.YtmmlnnbnbgaogaaDoor
open Go.RowKit Ru

/-- what stands behind the beginning: the operands' box -/
structure RBox (x : Opr) (w w1 : World) : Prop where
  old : w.grownBy w1 none
  bx : w1.heap[w.heap.size + 1]? = some (.cells #[.string ⟨x.I.toArray⟩, .int .i64 x.V, .int .i64 x.W, .string ⟨x.F.toArray⟩, .string ⟨x.T.toArray⟩, .int .i64 x.E] 23)
  env : Env w1

def restsV (n : Int) (x : Opr) : Value := .agg #[.int .i64 n, .string ⟨x.I.toArray⟩, .int .i64 x.V, .int .i64 x.W, .string ⟨x.F.toArray⟩, .string ⟨x.T.toArray⟩, .int .i64 x.E]

theorem RBox.kept {x : Opr} {w w1 w2 : World} (h : RBox x w w1) (hg : w1.grownBy w2 none) : RBox x w w2 :=
  ⟨h.old.trans hg, (hg.block _ (Array.getElem?_eq_some_iff.1 h.bx).1 (by simp)).trans h.bx, h.env.kept hg (by simp)⟩

theorem RBox.cells {x : Opr} {w w1 : World} (h : RBox x w w1) : w1.cell? ⟨w.heap.size + 1, 0, none⟩ = some (.string ⟨x.I.toArray⟩) ∧ w1.cell? ⟨w.heap.size + 1, 1, none⟩ = some (.int .i64 x.V) ∧ w1.cell? ⟨w.heap.size + 1, 2, none⟩ = some (.int .i64 x.W) ∧ w1.cell? ⟨w.heap.size + 1, 3, none⟩ = some (.string ⟨x.F.toArray⟩) ∧ w1.cell? ⟨w.heap.size + 1, 4, none⟩ = some (.string ⟨x.T.toArray⟩) ∧ w1.cell? ⟨w.heap.size + 1, 5, none⟩ = some (.int .i64 x.E) := by
  simp [World.cell?, h.bx]

theorem rbox_start (n : Int) (x : Opr) (w : World) (hE : Env w) : RBox x w ((w.alloc (.cells #[.int .i64 n, .string ⟨x.I.toArray⟩, .int .i64 x.V, .int .i64 x.W, .string ⟨x.F.toArray⟩, .string ⟨x.T.toArray⟩, .int .i64 x.E] 31)).alloc (.cells #[.string ⟨x.I.toArray⟩, .int .i64 x.V, .int .i64 x.W, .string ⟨x.F.toArray⟩, .string ⟨x.T.toArray⟩, .int .i64 x.E] 23)).drew := by
  have hg : w.grownBy ((w.alloc (.cells #[.int .i64 n, .string ⟨x.I.toArray⟩, .int .i64 x.V, .int .i64 x.W, .string ⟨x.F.toArray⟩, .string ⟨x.T.toArray⟩, .int .i64 x.E] 31)).alloc (.cells #[.string ⟨x.I.toArray⟩, .int .i64 x.V, .int .i64 x.W, .string ⟨x.F.toArray⟩, .string ⟨x.T.toArray⟩, .int .i64 x.E] 23)).drew none := by
    have := (World.grownBy_alloc w (.cells #[.int .i64 n, .string ⟨x.I.toArray⟩, .int .i64 x.V, .int .i64 x.W, .string ⟨x.F.toArray⟩, .string ⟨x.T.toArray⟩, .int .i64 x.E] 31) none).trans (World.grownBy_alloc _ (.cells #[.string ⟨x.I.toArray⟩, .int .i64 x.V, .int .i64 x.W, .string ⟨x.F.toArray⟩, .string ⟨x.T.toArray⟩, .int .i64 x.E] 23) none)
    exact ⟨this.os, this.tape, this.output, this.size, this.block⟩
  refine ⟨hg, ?_, hE.kept hg (by simp)⟩
  have hsz : (w.alloc (.cells #[.int .i64 n, .string ⟨x.I.toArray⟩, .int .i64 x.V, .int .i64 x.W, .string ⟨x.F.toArray⟩, .string ⟨x.T.toArray⟩, .int .i64 x.E] 31)).heap.size = w.heap.size + 1 := by simp
  have := World.alloc_heap_new (w.alloc (.cells #[.int .i64 n, .string ⟨x.I.toArray⟩, .int .i64 x.V, .int .i64 x.W, .string ⟨x.F.toArray⟩, .string ⟨x.T.toArray⟩, .int .i64 x.E] 31)) (.cells #[.string ⟨x.I.toArray⟩, .int .i64 x.V, .int .i64 x.W, .string ⟨x.F.toArray⟩, .string ⟨x.T.toArray⟩, .int .i64 x.E] 23)
  rw [hsz] at this
  exact this

theorem list_nat (c : UInt8) : listB c = decide (¬ ((c.toNat < 48 ∨ 57 < c.toNat) ∧ c.toNat ≠ 44 ∧ c.toNat ≠ 46 ∧ c.toNat ≠ 32)) := by
  have hd : digits.contains c = decide (48 ≤ c.toNat ∧ c.toNat ≤ 57) := by
    rw [Bool.eq_iff_iff]
    simp only [List.contains_iff_mem, digits, List.mem_cons, List.not_mem_nil, or_false, decide_eq_true_eq, ← UInt8.toNat_inj]
    constructor
    · rintro (h | h | h | h | h | h | h | h | h | h) <;> rw [h] <;> decide
    · intro h
      simp only [UInt8.reduceToNat]
      omega
  have h : listB c = (digits.contains c || c == 44 || c == 46 || c == 32) := rfl
  have e44 := u8_nat c 44 (by omega)
  have e46 := u8_nat c 46 (by omega)
  have e32 := u8_nat c 32 (by omega)
  rw [h, hd, show (44 : UInt8) = UInt8.ofNat 44 from rfl, show (46 : UInt8) = UInt8.ofNat 46 from rfl, show (32 : UInt8) = UInt8.ofNat 32 from rfl, e44, e46, e32, Bool.eq_iff_iff]
  simp only [Bool.or_eq_true, decide_eq_true_eq]
  omega

theorem listB_snoc (s : Tok) (i : Nat) (h : i < s.length) (h1 : (s.take i).all listB = true) (h2 : listB s[i] = true) : (s.take (i + 1)).all listB = true := by
  rw [List.take_succ_eq_append_getElem h, List.all_append, h1]
  simp [h2]

theorem str_app (a b : Tok) : (⟨a.toArray⟩ : ByteArray) ++ ⟨b.toArray⟩ = ⟨(a ++ b).toArray⟩ := by
  apply ByteArray.ext
  simp

theorem ten_next (j : Nat) : (⟨(tenN j).toArray⟩ : ByteArray) ++ ⟨#[48]⟩ = ⟨(tenN (j + 1)).toArray⟩ := by
  have : tenN (j + 1) = tenN j ++ [48] := by
    unfold tenN
    rw [List.cons_append, ← List.replicate_succ']
  rw [this]
  exact str_app (tenN j) [48]

theorem RBox.size {x : Opr} {w w1 : World} (h : RBox x w w1) : w.heap.size + 1 < w1.heap.size := (Array.getElem?_eq_some_iff.1 h.bx).1

/-- the operands and their twin in block b, whose whole number is l -/
structure YBox (x : Opr) (w : World) (b : Nat) (l : Tok) (wr : World) : Prop where
  r : RBox x w wr
  low : w.heap.size + 1 < b
  big : Tryd.prog.globals.size ≤ b
  bx : wr.heap[b]? = some (.cells #[.string ⟨l.toArray⟩, .int .i64 x.V, .int .i64 x.W, .string ⟨x.F.toArray⟩, .string ⟨x.T.toArray⟩, .int .i64 x.E] 23)

theorem YBox.kept {x : Opr} {w w1 w2 : World} {b : Nat} {l : Tok} (h : YBox x w b l w1) (hg : w1.grownBy w2 none) : YBox x w b l w2 :=
  ⟨h.r.kept hg, h.low, h.big, (hg.block _ (Array.getElem?_eq_some_iff.1 h.bx).1 (by simp)).trans h.bx⟩

theorem YBox.cells {x : Opr} {w w1 : World} {b : Nat} {l : Tok} (h : YBox x w b l w1) : w1.cell? ⟨b, 0, none⟩ = some (.string ⟨l.toArray⟩) ∧ w1.cell? ⟨b, 1, none⟩ = some (.int .i64 x.V) ∧ w1.cell? ⟨b, 2, none⟩ = some (.int .i64 x.W) ∧ w1.cell? ⟨b, 3, none⟩ = some (.string ⟨x.F.toArray⟩) ∧ w1.cell? ⟨b, 4, none⟩ = some (.string ⟨x.T.toArray⟩) ∧ w1.cell? ⟨b, 5, none⟩ = some (.int .i64 x.E) := by
  simp [World.cell?, h.bx]

theorem YBox.free {x : Opr} {w w1 : World} {b : Nat} {l : Tok} (h : YBox x w b l w1) (i : Nat) : w1.frozen? ⟨b, i, none⟩ = false := by
  simp [World.frozen?, h.bx]

theorem RBox.laid {x : Opr} {w w1 : World} (l : Tok) (h : RBox x w w1) : YBox x w w1.heap.size l (w1.alloc (.cells #[.string ⟨l.toArray⟩, .int .i64 x.V, .int .i64 x.W, .string ⟨x.F.toArray⟩, .string ⟨x.T.toArray⟩, .int .i64 x.E] 23)) :=
  ⟨h.kept (World.grownBy_alloc w1 _ none), h.size, h.env.big, World.alloc_heap_new w1 _⟩

/-- the whole number's text is stored -/
theorem YBox.put {x : Opr} {w w1 : World} {b : Nat} {l : Tok} (l' : Tok) (h : YBox x w b l w1) : YBox x w b l' (w1.setCell ⟨b, 0, none⟩ (.string ⟨l'.toArray⟩)) := by
  have e := setCell_eq_setRow w1 b 0 _ _ _ (.string ⟨l'.toArray⟩) h.bx
  have hg : w1.grownBy (w1.setCell ⟨b, 0, none⟩ (.string ⟨l'.toArray⟩)) (some b) := by
    rw [e]
    exact ⟨rfl, rfl, rfl, by simp, fun k _ hk => setRow_other w1 b k _ (fun e => hk (by rw [e]))⟩
  have hlow := h.low
  refine ⟨⟨?_, ?_, h.r.env.kept hg (fun k hk => by cases hk; exact h.big)⟩, hlow, h.big, ?_⟩
  · refine ⟨hg.os.trans h.r.old.os, hg.tape.trans h.r.old.tape, hg.output.trans h.r.old.output, Nat.le_trans h.r.old.size hg.size, fun k hk _ => ?_⟩
    exact (hg.block k (Nat.lt_of_lt_of_le hk h.r.old.size) (by simp; omega)).trans (h.r.old.block k hk (by simp))
  · exact (hg.block _ h.r.size (by simp; omega)).trans h.r.bx
  · rw [e]
    exact setRow_heap w1 b _ _ _ _ h.bx

theorem few_text (j : Nat) (c : UInt8) (s : Tok) : ((((((⟨#[102, 101, 119, 58, 32]⟩ : ByteArray) ++ ⟨#[c]⟩) ++ ⟨#[32, 37, 32]⟩) ++ ⟨(tenN j).toArray⟩) ++ ⟨#[32, 61, 32]⟩) ++ ⟨s.toArray⟩) = ⟨(fewText j c s).toArray⟩ := by
  have h1 := str_app [102, 101, 119, 58, 32] [c]
  have h2 := str_app ([102, 101, 119, 58, 32] ++ [c]) [32, 37, 32]
  have h3 := str_app ([102, 101, 119, 58, 32] ++ [c] ++ [32, 37, 32]) (tenN j)
  have h4 := str_app ([102, 101, 119, 58, 32] ++ [c] ++ [32, 37, 32] ++ tenN j) [32, 61, 32]
  have h5 := str_app ([102, 101, 119, 58, 32] ++ [c] ++ [32, 37, 32] ++ tenN j ++ [32, 61, 32]) s
  rw [← h4, ← h3, ← h2, ← h1] at h5
  exact h5

theorem few_len (j : Nat) (c : UInt8) (s : Tok) : (fewText j c s).length = s.length + j + 13 := by
  unfold fewText tenN
  simp only [List.length_append, List.length_cons, List.length_nil, List.length_replicate]
  omega

set_option maxRecDepth 20000 in
set_option maxHeartbeats 4000000 in
theorem rests_main (s more : Tok) (hs : s.length ≤ 1048576) (n : Nat) (hn1 : 1 ≤ n) (hn8 : n ≤ 8) (x : Opr) (hx : x.fits) (w : World) (hE : Env w)
    (hmay : mayT x = true) (hI4 : x.I.length ≤ 4000) (hM4 : more.length ≤ 4000) (hne : ¬ more = []) (hhd : ¬ more.head? = some 48) :
    Calls Tryd.prog 4 #[.string ⟨s.toArray⟩, .string ⟨more.toArray⟩, restsV n x] w fun e w' => e = .returned (.bool true) ∧ w.grownBy w' none := by
  unfold restsV
  have HB0 := Lib.hid (rbox_start n x w hE)
  have hpos : 0 < more.length := List.length_pos_iff.2 hne
  have hh0 : ¬ (({ data := more.toArray } : ByteArray)[0]'hpos).toNat = 48 := fun h => hhd (by
    have e2 : more[0] = 48 := by rw [← UInt8.toNat_inj]; exact h
    cases more with
    | nil => exact absurd rfl hne
    | cons d r => simpa using e2)
  have hhb : (((({ data := more.toArray } : ByteArray)[0]'hpos).toNat : Int) == 48) = false := by
    rw [beq_eq_false_iff_ne]; omega
  have hneb : (more == []) = false := by simpa using hne
  have HMAY := Lib.hid hmay
  have HHD := Lib.hid hhd
  clear hmay hhd hh0
  go_enter Tryd.func4, Tryd.ntmps4
  go_upto_region 1 with fail
  go_region
  go_wp2_with (first
      | (go_at_call 6; refine (awake_any _ HB0.out.env).mono ?_; rintro e w2 ⟨rfl, hg2⟩; have HB := Lib.hid (HB0.out.kept hg2); have hbx := HB.out.cells)
      | (go_at_call 7; refine (refmay_any x hx _).mono ?_; rintro e w3 ⟨rfl, hg3⟩; rw [HMAY.out]; have HB3 := Lib.hid (HB.out.kept hg3); clear hbx; have hbx3 := HB3.out.cells))
  clear hhb
  go_loop [9] (fun i => ∃ k : Nat, k ≤ more.length ∧ i = .int .i64 k ∧ Hid ((more.take k).all dig = true)) (fun i => more.length - (intOf i).toNat)
  case atStart => exact ⟨0, Nat.zero_le _, rfl, rfl⟩
  case round =>
    obtain ⟨k, hk, rfl, hall⟩ := hrel
    by_cases hlt : k < more.length
    · have hcb : (({ data := more.toArray } : ByteArray)[k]'hlt).toNat = more[k].toNat := rfl
      have Hcb := Lib.hid hcb
      clear hcb
      go_wp2
      · go_ret
        exact ⟨rfl, HB3.out.old⟩
      · have hcb := Hcb.out
        exact ⟨⟨k + 1, by omega, by go_num, all_snoc more k hlt hall.out (by unfold dig; simp only [Bool.and_eq_true, decide_eq_true_eq]; omega)⟩, by simp [intOf]; omega⟩
      · go_ret
        exact ⟨rfl, HB3.out.old⟩
    · have hal : more.all dig = true := by
        have := hall.out
        rwa [List.take_of_length_le (by omega)] at this
      have HAL := Lib.hid hal
      clear hal hall
      obtain rfl : k = more.length := by omega
      go_wp2
      go_loop [10] (fun i => ∃ k : Nat, k ≤ s.length ∧ i = .int .i64 k ∧ Hid ((s.take k).all listB = true)) (fun i => s.length - (intOf i).toNat)
      case atStart => exact ⟨0, Nat.zero_le _, rfl, rfl⟩
      case round =>
        obtain ⟨k, hk, rfl, hall⟩ := hrel
        by_cases hlt : k < s.length
        · have hcb : (({ data := s.toArray } : ByteArray)[k]'hlt).toNat = s[k].toNat := rfl
          have Hcb := Lib.hid hcb
          clear hcb
          go_wp2
          all_goals first
            | (go_ret; exact ⟨rfl, HB3.out.old⟩)
            | (have hcb := Hcb.out; exact ⟨⟨k + 1, by omega, by go_num, listB_snoc s k hlt hall.out (by rw [list_nat, decide_eq_true_eq, ← hcb]; simp only [bne_eq_false_iff_eq] at *; omega)⟩, by simp [intOf]; omega⟩)
        · have hal : s.all listB = true := by
            have := hall.out
            rwa [List.take_of_length_le (by omega)] at this
          have HSL := Lib.hid hal
          clear hal hall
          obtain rfl : k = s.length := by omega
          go_wp2
          go_loop [11, 12] (fun s11 s12 => ∃ j : Nat, j ≤ n ∧ s12 = .int .i64 j ∧ s11 = .string ⟨(tenN j).toArray⟩) (fun s11 s12 => n - (intOf s12).toNat)
          case atStart => exact ⟨0, Nat.zero_le _, rfl, rfl⟩
          case round =>
            obtain ⟨j, hj, rfl, rfl⟩ := hrel
            by_cases hjn : j < n
            · have hln : (tenN j).length = j + 1 := by simp [tenN]
              go_wp2
              exact ⟨⟨j + 1, by omega, by go_num, congrArg _ (ten_next j)⟩, by simp [intOf]; omega⟩
            · obtain rfl : j = n := by omega
              have hsz := HB3.out.size
              go_upto_if 117 with fail
              go_cut [13] from 117 to 118 (fun s13 wx => s13 = .pointer (some ⟨w3.heap.size, 0, none⟩) ∧ YBox x w w3.heap.size (if x.I = [48] then [] else x.I) wx)
              case first =>
                go_wp2
                all_goals go_meet
                · rename_i hc _
                  refine ⟨rfl, ?_⟩
                  rw [if_pos (by simpa using hc)]
                  exact HB3.out.laid []
                · rename_i hc _
                  refine ⟨rfl, ?_⟩
                  rw [if_neg (by simpa using hc)]
                  exact HB3.out.laid x.I
              case rest =>
                obtain ⟨rfl, hY⟩ := hcut
                have HY := Lib.hid hY
                clear hY hbx3
                go_wp2
                generalize hb : w3.heap.size = b at HY ⊢
                generalize hI0 : (if x.I = [48] then [] else x.I) = I0 at HY
                have hI0l : I0.length ≤ 4000 := by rw [← hI0]; split <;> simp_all
                have HMI := Lib.hid (show moreI j more x.I = more ++ padN j I0 from by unfold moreI; rw [hI0])
                clear hI0 hsz hb
                go_loopg [] (j - I0.length) (fun k wr => ∃ i : Nat, (i = 0 ∨ i + I0.length ≤ j) ∧ k = j - (i + I0.length) ∧ YBox x w b (List.replicate i 48 ++ I0) wr)
                case atStart => exact ⟨0, .inl rfl, by omega, by simpa using HY.out⟩
                case round =>
                  obtain ⟨i, hi, hk, hY⟩ := hrel
                  have hcl := hY.cells
                  have hfr := hY.free 0
                  have hll : (List.replicate i (48 : UInt8) ++ I0).length = i + I0.length := by simp
                  have hsm : i ≤ 8 := by omega
                  have HY2 := Lib.hid hY
                  clear hY
                  generalize hl : List.replicate i (48 : UInt8) ++ I0 = l at HY2 hcl hll
                  by_cases hlt : i + I0.length < j
                  · go_wp2
                    have hY3 : YBox x w b (48 :: l) (wr.setCell ⟨b, 0, none⟩ (.string (⟨#[48]⟩ ++ ⟨l.toArray⟩))) := by
                      have := HY2.out.put (48 :: l)
                      rwa [show (48 :: l : Tok) = [48] ++ l from rfl, ← str_app [48] l] at this
                    go_roundg (gk - 1)
                    case measure => omega
                    case rel =>
                      refine ⟨i + 1, by omega, by omega, ?_⟩
                      rw [List.replicate_succ, List.cons_append, hl]
                      exact hY3
                  · have hpad : padN j I0 = l := by
                      unfold padN
                      rw [← hl]
                      congr 2
                      omega
                    rw [hpad] at HMI
                    clear hl hpad
                    go_wp2
                    have hY3 : YBox x w b (moreI j more x.I) (wr.setCell ⟨b, 0, none⟩ (.string (⟨more.toArray⟩ ++ ⟨l.toArray⟩))) := by
                      have := HY2.out.put (more ++ l)
                      rw [← str_app more l] at this
                      rw [HMI.out]
                      exact this
                    have hyl : (moreI j more x.I).length ≤ 8100 := by rw [HMI.out, List.length_append]; omega
                    have HY3 := Lib.hid hY3
                    have hpk : ∀ c : UInt8, c = 105 ∨ c = 110 → pickAns (fewText j c s) { x with I := moreI j more x.I } = pickAns (fewText j c s) x := fun c hc =>
                      rests_pick j ⟨hn1, hn8⟩ c hc s more (fun d hd => by have := HSL.out; rw [List.all_eq_true] at this; exact this d hd) x HMAY.out HAL.out hne HHD.out hM4 hI4
                    have HPK := Lib.hid hpk
                    generalize moreI j more x.I = yI at HY3 hyl HPK
                    clear hY3 hpk HMI HY2 hcl hfr hll
                    have hfy : ({ x with I := yI } : Opr).fits := ⟨by simp only; omega, hx.F, hx.T, hx.V, hx.W, hx.E⟩
                    go_loopg [14] 2 (fun k s14 wr => ∃ i : Nat, i + k = 2 ∧ s14 = .int .i64 i ∧ YBox x w b yI wr)
                    case atStart => exact ⟨0, by omega, rfl, HY3.out⟩
                    case round =>
                      obtain ⟨i, hi, rfl, hY⟩ := hrel
                      have hbx := hY.r.cells
                      have hby := hY.cells
                      have HY4 := Lib.hid hY
                      clear hY
                      have hi3 : i = 0 ∨ i = 1 ∨ i = 2 := by omega
                      rcases hi3 with rfl | rfl | rfl
                      · have hln : (tenN j).length = j + 1 := by simp [tenN]
                        have hu : Utf8.encode (((⟨#[105, 110]⟩ : ByteArray)[0]'(by decide)).toNat : Int) = ⟨#[105]⟩ := by decide +kernel
                        have htx := few_text j 105 s
                        have hpk := HPK.out 105 (by decide)
                        have HPK2 := Lib.hid hpk
                        clear hpk
                        generalize hft : fewText j 105 s = ft at htx HPK2
                        have hfl : ft.length ≤ 140737488351232 := by rw [← hft, few_len]; omega
                        clear hft
                        go_wp2_with (first
                          | (go_at_call 5; (with_reducible refine Calls.mono (pick_any ft hfl x hx _ HY4.out.r.env) ?_); rintro e w5 ⟨rfl, hg5⟩; have HY5 := Lib.hid (HY4.out.kept hg5); clear hbx hby; have hby := HY5.out.cells)
                          | (go_at_call 5; (with_reducible refine Calls.mono (pick_any ft hfl { x with I := yI } hfy _ HY5.out.r.env) ?_); rintro e w6 ⟨rfl, hg6⟩; rw [HPK2.out]; have HY6 := Lib.hid (HY5.out.kept hg6); clear hby))
                        go_roundg (gk - 1)
                        case measure => omega
                        case rel => exact ⟨1, by omega, by go_num, HY6.out⟩
                      · have hln : (tenN j).length = j + 1 := by simp [tenN]
                        have hu : Utf8.encode (((⟨#[105, 110]⟩ : ByteArray)[1]'(by decide)).toNat : Int) = ⟨#[110]⟩ := by decide +kernel
                        have htx := few_text j 110 s
                        have hpk := HPK.out 110 (by decide)
                        have HPK2 := Lib.hid hpk
                        clear hpk
                        generalize hft : fewText j 110 s = ft at htx HPK2
                        have hfl : ft.length ≤ 140737488351232 := by rw [← hft, few_len]; omega
                        clear hft
                        go_wp2_with (first
                          | (go_at_call 5; (with_reducible refine Calls.mono (pick_any ft hfl x hx _ HY4.out.r.env) ?_); rintro e w5 ⟨rfl, hg5⟩; have HY5 := Lib.hid (HY4.out.kept hg5); clear hbx hby; have hby := HY5.out.cells)
                          | (go_at_call 5; (with_reducible refine Calls.mono (pick_any ft hfl { x with I := yI } hfy _ HY5.out.r.env) ?_); rintro e w6 ⟨rfl, hg6⟩; rw [HPK2.out]; have HY6 := Lib.hid (HY5.out.kept hg6); clear hby))
                        go_roundg (gk - 1)
                        case measure => omega
                        case rel => exact ⟨2, by omega, by go_num, HY6.out⟩
                      · go_wp2
                        go_ret
                        exact ⟨rfl, HY4.out.r.old⟩

set_option maxRecDepth 20000 in
set_option maxHeartbeats 1000000 in
theorem rests_early (s more : Tok) (n : Int) (x : Opr) (hx : x.fits) (hm : more.length ≤ 1048576) (w : World) (hE : Env w)
    (hbad : ¬ (1 ≤ n ∧ n ≤ 8 ∧ mayT x = true ∧ x.I.length ≤ 4000 ∧ more.length ≤ 4000 ∧ ¬ more = [] ∧ ¬ more.head? = some 48)) :
    Calls Tryd.prog 4 #[.string ⟨s.toArray⟩, .string ⟨more.toArray⟩, restsV n x] w fun e w' => e = .returned (.bool true) ∧ w.grownBy w' none := by
  unfold restsV
  have HB0 := Lib.hid (rbox_start n x w hE)
  have hcb : ∀ h : 0 < more.length, more.head? = some 48 → ((((({ data := more.toArray } : ByteArray)[0]'h).toNat : Int) == 48) = true) := fun h h48 => by
    have e2 : more[0] = 48 := by
      cases more with
      | nil => simp at h
      | cons d r => simpa using h48
    have e3 : (({ data := more.toArray } : ByteArray)[0]'h).toNat = 48 := by
      show more[0].toNat = 48
      rw [e2]; rfl
    rw [e3]; rfl
  have Hcb := Lib.hid hcb
  have HBAD := Lib.hid hbad
  clear hcb hbad
  have hmay : mayT x = false ∨ mayT x = true := by cases mayT x <;> simp
  rcases hmay with hmay | hmay
  · have HMAY := Lib.hid hmay
    clear hmay
    go_enter Tryd.func4, Tryd.ntmps4
    go_upto_region 1 with fail
    go_region
    go_wp2_with (first
      | (go_at_call 6; refine (awake_any _ HB0.out.env).mono ?_; rintro e w2 ⟨rfl, hg2⟩; have HB := Lib.hid (HB0.out.kept hg2); have hbx := HB.out.cells)
      | (go_at_call 7; refine (refmay_any x hx _).mono ?_; rintro e w3 ⟨rfl, hg3⟩; rw [HMAY.out]; have HB3 := Lib.hid (HB.out.kept hg3)))
    all_goals (go_ret; first | exact ⟨rfl, HB3.out.old⟩ | exact ⟨rfl, HB.out.old⟩)
  · have HMAY := Lib.hid hmay
    clear hmay
    go_enter Tryd.func4, Tryd.ntmps4
    go_upto_region 1 with fail
    go_region
    go_wp2_with (first
      | (go_at_call 6; refine (awake_any _ HB0.out.env).mono ?_; rintro e w2 ⟨rfl, hg2⟩; have HB := Lib.hid (HB0.out.kept hg2); have hbx := HB.out.cells)
      | (go_at_call 7; refine (refmay_any x hx _).mono ?_; rintro e w3 ⟨rfl, hg3⟩; rw [HMAY.out]; have HB3 := Lib.hid (HB.out.kept hg3); have hbx3 := HB3.out.cells; clear hbx))
    all_goals first
      | (go_ret; first | exact ⟨rfl, HB3.out.old⟩ | exact ⟨rfl, HB.out.old⟩)
      | (exfalso
         rename_i h6 h5 h4 h3 h2 h1 h0
         exact HBAD.out ⟨h2.1.1.1.1.1, h2.1.1.1.1.2, HMAY.out, by omega, by omega, h4, fun hh => by have e := Hcb.out h3 hh; rw [h2.2] at e; cases e⟩)
      | exact absurd (List.length_pos_iff.2 (show more ≠ [] by assumption)) (show ¬ 0 < more.length by assumption)

theorem rests_any (s more : Tok) (hs : s.length ≤ 1048576) (hm : more.length ≤ 1048576) (n : Int) (x : Opr) (hx : x.fits) (w : World) (hE : Env w) :
    Calls Tryd.prog 4 #[.string ⟨s.toArray⟩, .string ⟨more.toArray⟩, restsV n x] w fun e w' => e = .returned (.bool true) ∧ w.grownBy w' none := by
  by_cases hok : 1 ≤ n ∧ n ≤ 8 ∧ mayT x = true ∧ x.I.length ≤ 4000 ∧ more.length ≤ 4000 ∧ ¬ more = [] ∧ ¬ more.head? = some 48
  · obtain ⟨h1, h2, h3, h4, h5, h6, h7⟩ := hok
    obtain ⟨k, rfl⟩ : ∃ k : Nat, n = k := ⟨n.toNat, by omega⟩
    exact rests_main s more hs k (by omega) (by omega) x hx w hE h3 h4 h5 h6 h7
  · exact rests_early s more n x hx hm w hE hok
end Go.Proofs.YtmmlnnbnbgaogaaDoor
