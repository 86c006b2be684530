/- number, category, value, rest: what each call does. -/
import Derived.Test.YtmmlnnbnbgaogaaDoorRuA
import Derived.Deep.QuietTactic
import Derived.BigQuiet
namespace Go.Proofs.YtmmlnnbnbgaogaaDoor
open Go.RowKit Ru

/-- what the calls below read of the package-level variables -/
structure Env (w : World) : Prop where
  big : Tryd.prog.globals.size ≤ w.heap.size
  syn : ∃ tp p, w.var? Tryd.prog "strconv.ErrSyntax" = some #[.iface tp p]
  rng : ∃ tp p, w.var? Tryd.prog "strconv.ErrRange" = some #[.iface tp p]
  pow : Lib.TabIs Tryd.prog w "internal/strconv.uint64pow10" .u64 Lib.pow10Tab

theorem Env.below {w w' : World} (h : Env w) (hb : Below Tryd.prog.globals.size w w') : Env w' := by
  obtain ⟨h0, ⟨t1, p1, h1⟩, ⟨t2, p2, h2⟩, h3⟩ := h
  refine ⟨Nat.le_trans h0 hb.size, ⟨t1, p1, var?_below hb (g := 3) (by kernel_rfl) (of_decide_eq_true (by kernel_rfl)) h1⟩, ⟨t2, p2, var?_below hb (g := 4) (by kernel_rfl) (of_decide_eq_true (by kernel_rfl)) h2⟩, ?_⟩
  exact var?_below hb (g := 5) (by kernel_rfl) (of_decide_eq_true (by kernel_rfl)) h3

theorem Env.kept {w w' : World} {row : Option Nat} (h : Env w) (hg : w.grownBy w' row) (hr : ∀ k, row = some k → Tryd.prog.globals.size ≤ k) : Env w' :=
  h.below ⟨hg.os, hg.tape, hg.output, hg.size, fun k hk => hg.block k (Nat.lt_of_lt_of_le hk h.big) (fun e => by have := hr k e.symm; omega)⟩

theorem grown_bytes (w : World) (e : TypeId) (s : ByteArray) : w.grownBy (Lib.bytesWorld w e s) none :=
  ⟨rfl, rfl, rfl, by rw [Lib.bytesWorld_size]; omega, fun k hk _ => Lib.bytesWorld_at_old w e s k hk⟩

/-- strconv.Atoi: a number and a nil error just where the token is one -/
def AtoiDoes (t : Tok) (w : World) (e : Ending) (w' : World) : Prop :=
  w.grownBy w' none ∧ ((∃ v, Lib.atoiAll t = .ok v ∧ e = .returned (.tuple #[.int .i64 v, .nilIface])) ∨
    ((∀ v, Lib.atoiAll t ≠ .ok v) ∧ ∃ v p, e = .returned (.tuple #[.int .i64 v, .iface 108 p])))

theorem atoi_any (t : Tok) (ht : t.length ≤ 1024) (w : World) (hE : Env w) :
    Calls Tryd.prog 52 #[.string ⟨t.toArray⟩] w (AtoiDoes t w) := by
  have hs : (⟨t.toArray⟩ : ByteArray).size = t.length := by simp [ByteArray.size]
  obtain ⟨_, ⟨t1, p1, h1⟩, ⟨t2, p2, h2⟩, _⟩ := hE
  rcases hr : Lib.atoiAll t with v | _ | _
  · exact (Tryd.strconv_Atoi_ok ⟨t.toArray⟩ (by omega) v hr w).mono fun e w' ⟨he, hw⟩ =>
      ⟨hw.elim (fun h => h ▸ grownBy_refl _ _) (fun ⟨s, h⟩ => h ▸ grown_bytes _ _ _), .inl ⟨v, hr, he⟩⟩
  · exact (Tryd.strconv_Atoi_syntax_var ⟨t.toArray⟩ (by omega) hr t1 p1 w h1).mono fun e w' ⟨N, he, _, _, hb⟩ =>
      ⟨grownBy_below hb, .inr ⟨fun v => by simp [hr], 0, _, he⟩⟩
  · exact (Tryd.strconv_Atoi_range_var ⟨t.toArray⟩ (by omega) hr t2 p2 w h2).mono fun e w' ⟨N, he, _, _, hb⟩ =>
      ⟨grownBy_below hb, .inr ⟨fun v => by simp [hr], _, _, he⟩⟩

/-- the number of a token lies between these -/
theorem parseUint_len : ∀ (l : List UInt8) (acc u : Nat), Lib.parseUint10 acc l = .ok u → u < (acc + 1) * 10 ^ l.length
  | [], acc, u, h => by simp only [Lib.parseUint10] at h; injection h with h; subst h; simp
  | c :: r, acc, u, h => by
    simp only [Lib.parseUint10] at h
    split at h
    · rename_i hc
      split at h
      · cases h
      · split at h
        · cases h
        · have := parseUint_len r _ u h
          have h2 : (acc * 10 + (c.toNat - 48) + 1) * 10 ^ r.length ≤ ((acc + 1) * 10) * 10 ^ r.length := Nat.mul_le_mul_right _ (by omega)
          rw [List.length_cons, Nat.pow_succ]
          calc u < _ := this
            _ ≤ _ := h2
            _ = (acc + 1) * (10 ^ r.length * 10) := by rw [Nat.mul_assoc, Nat.mul_comm 10]
    · cases h

theorem numT_in {ts ts' : List Tok} {v : Int} (h : numT ts = some (v, ts')) : -1000000000 ≤ v ∧ v ≤ 1000000000 := by
  unfold numT at h
  split at h
  · cases h
  rename_i t tl
  split at h
  · rename_i v' hv
    split at h
    · rename_i hl
      cases h
      unfold Lib.atoiAll at hv
      split at hv
      · cases hv
      rename_i c r
      simp only at hv
      split at hv
      · cases hv
      · cases hv
      rename_i u hu
      have h3 : (if c.toNat = 43 ∨ c.toNat = 45 then r else c :: r).length ≤ 9 := by
        split
        · simp at hl; omega
        · exact hl
      have hb : u < 1000000000 := by
        unfold Lib.parseMag at hu
        generalize (if c.toNat = 43 ∨ c.toNat = 45 then r else c :: r) = q at hu h3
        split at hu
        · cases hu
        · have h1 := parseUint_len _ 0 u hu
          have h2 : 10 ^ q.length ≤ 10 ^ 9 := Nat.pow_le_pow_right (by omega) h3
          omega
      split at hv
      · cases hv
      split at hv
      · cases hv
      injection hv with hv
      subst hv
      split <;> omega
    · cases h
  · cases h

set_option maxHeartbeats 400000 in
theorem number_any (w : World) (b : Nat) (hNb : Tryd.prog.globals.size ≤ b) (hE : Env w) (ts : List Tok) (h : Rdr w b ts) :
    Calls Tryd.prog 42 #[.pointer (some ⟨b, 0, none⟩)] w fun e w' =>
      (∃ n ts', Hid (numT ts = some (n, ts')) ∧ Takes b w (.int .i64 n) ts' e w') ∨ (Hid (numT ts = none) ∧ Gives b w e w') := by
  have h' := Lib.hid h
  have hlen : (nextT ts).1.length ≤ 1024 := by
    cases ts with
    | nil => simp [nextT]
    | cons t ts => exact h.tail.2
  clear h
  go_enter Tryd.func42, Tryd.ntmps42
  go_wp2_with (go_at_call 30; refine (next_any _ _ _ h'.out).mono ?_; rintro e w1 ⟨rfl, hr, hg⟩)
  have hE1 : Env w1 := hE.kept hg (fun k hk => by cases hk; exact hNb)
  go_wp2_with (go_at_call 52; refine (atoi_any _ hlen _ hE1).mono ?_; rintro e w2 ⟨hg2, ⟨v, hv, rfl⟩ | ⟨hv, v, p, rfl⟩⟩)
  · have HV := Lib.hid hv; clear hv
    go_wp2_with (go_at_call 20; refine (must_any _ _).mono ?_; rintro e w3 ⟨rfl, ⟨HX, rfl⟩ | ⟨HX, rfl⟩⟩)
    · go_ret
      refine .inl ⟨v, (nextT ts).2, ?_, rfl, hr.kept hg2, hg.trans (grownBy_some hg2)⟩
      have hx := of_decide_eq_true HX.out
      cases ts with
      | nil => exact absurd HV.out (by simp [nextT, Lib.atoiAll])
      | cons t ts => have hv := HV.out; simp only [nextT] at hv hx ⊢; show numT _ = _; simp only [numT, hv]; rw [if_pos (by omega)]
    · refine ⟨rfl, .inr ⟨?_, rfl, hg.trans (grownBy_some hg2)⟩⟩
      have hx := of_decide_eq_false HX.out
      cases ts with
      | nil => exact absurd HV.out (by simp [nextT, Lib.atoiAll])
      | cons t ts => have hv := HV.out; simp only [nextT] at hv hx ⊢; show numT _ = _; simp only [numT, hv]; rw [if_neg (by omega)]
  · have HV := Lib.hid hv; clear hv
    go_wp2_with (go_at_call 20; refine (must_no _).mono ?_; rintro e w3 ⟨rfl, rfl⟩)
    refine ⟨rfl, .inr ⟨?_, rfl, hg.trans (grownBy_some hg2)⟩⟩
    cases ts with
    | nil => rfl
    | cons t ts =>
      have hv := HV.out
      simp only [nextT] at hv
      show numT _ = _
      unfold numT
      dsimp only
      split
      · rename_i v' h'; exact absurd h' (hv v')
      · rfl

theorem ret_int {k : IntKind} {a b : Int} (h : a = b) : Ending.returned (.int k a) = .returned (.int k b) := by rw [h]
theorem words_len : words.length = 6 := rfl

set_option maxHeartbeats 400000 in
theorem category_any (w : World) (b : Nat) (ts : List Tok) (h : Rdr w b ts) :
    Calls Tryd.prog 19 #[.pointer (some ⟨b, 0, none⟩)] w fun e w' =>
      (∃ n ts', Hid (catT ts = some (n, ts')) ∧ Takes b w (.int .i64 n) ts' e w') ∨ (Hid (catT ts = none) ∧ Gives b w e w') := by
  have h' := Lib.hid h
  have hlt := h.lt
  clear h
  go_enter Tryd.func19, Tryd.ntmps19
  go_wp2_with (go_at_call 30; refine (next_any _ _ _ (h'.out.kept (World.grownBy_alloc _ _ _))).mono ?_; rintro e w1 ⟨rfl, hr, hg⟩)
  have HC : Hid (∀ j, j < words.length → w1.cell? ⟨w.heap.size, 0 + j, none⟩ = some (.string (words.getD j ByteArray.empty))) := fun j hj => by
    refine hg.cell ?_ (by simp; omega)
    match j, hj with
    | 0, _ => simp [words]
    | 1, _ => simp [words]
    | 2, _ => simp [words]
    | 3, _ => simp [words]
    | 4, _ => simp [words]
    | 5, _ => simp [words]
    | j + 6, hj => exact absurd hj (by show ¬ j + 6 < 6; omega)
  have hgw : w.grownBy w1 (some b) := (World.grownBy_alloc w _ _).trans hg
  go_wp2_with (go_at_call 31; refine (Tryd.slices_Index_string _ 0 6 6 words _ _ (by decide) (by decide) HC.out).mono ?_; rintro e w2 ⟨rfl, rfl⟩)
  go_wp2_with (go_at_call 20; refine (must_any _ _).mono ?_; rintro e w3 ⟨rfl, ⟨HX, rfl⟩ | ⟨HX, rfl⟩⟩)
  · go_ret
    refine .inl ⟨_, (nextT ts).2, ?_, rfl, hr, hgw⟩
    show catT ts = _
    unfold catT
    exact if_pos (of_decide_eq_true HX.out)
  · refine ⟨rfl, .inr ⟨?_, rfl, hgw⟩⟩
    show catT ts = _
    unfold catT
    exact if_neg (of_decide_eq_false HX.out)

set_option maxHeartbeats 400000 in
theorem rest_any (ds : Tok) (m : Int) (hm : 0 ≤ m) (hm2 : m ≤ 1000000000) (hd : ds.length ≤ 140737488351232) (w : World) :
    Calls Tryd.prog 43 #[.string ⟨ds.toArray⟩, .int .i64 m] w fun e w' => e = .returned (.int .i64 (restT ds m)) ∧ w = w' := by
  go_enter Tryd.func43, Tryd.ntmps43
  go_wp2
  go_loop [5, 9] (fun n i => ∃ k : Nat, k ≤ ds.length ∧ i = .int .i64 k ∧ n = .int .i64 (restT (ds.take k) m)) (fun _ i => ds.length - (intOf i).toNat)
  case atStart => exact ⟨0, Nat.zero_le _, rfl, rfl⟩
  case round =>
    obtain ⟨k, hk, rfl, rfl⟩ := hrel
    have hb := rest_in m (ds.take k) 0 ⟨by omega, by omega⟩
    have hb1 : 0 ≤ restT (ds.take k) m := hb.1
    have hb2 : restT (ds.take k) m ≤ 1000000000 := hb.2
    clear hb
    by_cases hlt : k < ds.length
    · have HS := Lib.hid (restT_snoc ds m k hlt)
      by_cases hm0 : 0 < m
      · go_wp2
        go_round
        case rel => exact ⟨k + 1, by omega, by go_num, congrArg _ (by rw [HS.out, restStep, if_pos hm0]; rfl)⟩
        case measure => simp [intOf]; omega
      · go_wp2
        go_round
        case rel => exact ⟨k + 1, by omega, by go_num, congrArg _ (by rw [HS.out, restStep, if_neg hm0]; rfl)⟩
        case measure => simp [intOf]; omega
    · go_wp2
      go_ret
      exact ⟨ret_int (by rw [List.take_of_length_le (by omega)]), rfl⟩

/-- the operands may be held -/
structure Ru.Opr.fits (x : Opr) : Prop where
  I : x.I.length ≤ 140737488351232
  F : x.F.length ≤ 140737488351232
  T : x.T.length ≤ 140737488351232
  V : -9223372036854775808 ≤ x.V ∧ x.V ≤ 9223372036854775807
  W : -9223372036854775808 ≤ x.W ∧ x.W ≤ 9223372036854775807
  E : -9223372036854775808 ≤ x.E ∧ x.E ≤ 9223372036854775807

theorem grown_drewN (w : World) (n : Nat) : w.grownBy (w.drewN n) none := ⟨rfl, rfl, rfl, Nat.le_refl _, fun _ _ _ => rfl⟩
theorem grown_grow (w : World) (n : Nat) (os : Array Obj) : w.grownBy (Sort.grow (w.drewN n) os) none :=
  ⟨rfl, rfl, rfl, by simp [Sort.grow, World.drewN], fun k hk _ => by simp [Sort.grow, World.drewN, Array.getElem?_append, hk]⟩

theorem itoa_any (n : Int) (hn : -9223372036854775808 ≤ n ∧ n ≤ 9223372036854775807) (w : World) (hE : Env w) :
    Calls Tryd.prog 51 #[.int .i64 n] w fun e w' => e = .returned (.string ⟨(Lib.itoa n).toArray⟩) ∧ w.grownBy w' none :=
  (Tryd.strconv_Itoa n hn.1 hn.2 w hE.pow).mono fun _ _ ⟨he, k, os, hw⟩ => ⟨he, hw ▸ grown_grow w k os⟩

set_option maxHeartbeats 400000 in
theorem value_n (x : Opr) (w : World) :
    Calls Tryd.prog 41 #[.string ⟨#[110]⟩, .agg #[.string ⟨x.I.toArray⟩, .int .i64 x.V, .int .i64 x.W, .string ⟨x.F.toArray⟩, .string ⟨x.T.toArray⟩, .int .i64 x.E]] w fun e w' => e = .returned (.tuple #[.string ⟨x.I.toArray⟩, .bool (!(x.T == [48]))]) ∧ w.grownBy w' none := by
  go_enter Tryd.func41, Tryd.ntmps41
  go_wp2
  go_quiet (fail)
  go_wp2
  go_ret2
  exact ⟨rfl, (World.grownBy_alloc w _ none).trans (grown_drewN _ _)⟩

set_option maxHeartbeats 400000 in
theorem value_i (x : Opr) (w : World) :
    Calls Tryd.prog 41 #[.string ⟨#[105]⟩, .agg #[.string ⟨x.I.toArray⟩, .int .i64 x.V, .int .i64 x.W, .string ⟨x.F.toArray⟩, .string ⟨x.T.toArray⟩, .int .i64 x.E]] w fun e w' => e = .returned (.tuple #[.string ⟨x.I.toArray⟩, .bool false]) ∧ w.grownBy w' none := by
  go_enter Tryd.func41, Tryd.ntmps41
  go_wp2
  go_ret2
  exact ⟨rfl, World.grownBy_alloc w _ none⟩

set_option maxHeartbeats 400000 in
theorem value_f (x : Opr) (w : World) :
    Calls Tryd.prog 41 #[.string ⟨#[102]⟩, .agg #[.string ⟨x.I.toArray⟩, .int .i64 x.V, .int .i64 x.W, .string ⟨x.F.toArray⟩, .string ⟨x.T.toArray⟩, .int .i64 x.E]] w fun e w' => e = .returned (.tuple #[.string ⟨x.F.toArray⟩, .bool false]) ∧ w.grownBy w' none := by
  go_enter Tryd.func41, Tryd.ntmps41
  go_wp2
  go_ret2
  exact ⟨rfl, World.grownBy_alloc w _ none⟩

set_option maxHeartbeats 400000 in
theorem value_t (x : Opr) (w : World) :
    Calls Tryd.prog 41 #[.string ⟨#[116]⟩, .agg #[.string ⟨x.I.toArray⟩, .int .i64 x.V, .int .i64 x.W, .string ⟨x.F.toArray⟩, .string ⟨x.T.toArray⟩, .int .i64 x.E]] w fun e w' => e = .returned (.tuple #[.string ⟨x.T.toArray⟩, .bool false]) ∧ w.grownBy w' none := by
  go_enter Tryd.func41, Tryd.ntmps41
  go_wp2
  go_ret2
  exact ⟨rfl, World.grownBy_alloc w _ none⟩

set_option maxHeartbeats 400000 in
theorem value_v (x : Opr) (w : World) (hx : x.fits) (hE : Env w) :
    Calls Tryd.prog 41 #[.string ⟨#[118]⟩, .agg #[.string ⟨x.I.toArray⟩, .int .i64 x.V, .int .i64 x.W, .string ⟨x.F.toArray⟩, .string ⟨x.T.toArray⟩, .int .i64 x.E]] w fun e w' => e = .returned (.tuple #[.string ⟨(Lib.itoa x.V).toArray⟩, .bool false]) ∧ w.grownBy w' none := by
  go_enter Tryd.func41, Tryd.ntmps41
  go_wp2_with (go_at_call 51; refine (itoa_any _ hx.V _ (hE.kept (World.grownBy_alloc _ _ none) (by simp))).mono ?_; rintro e w1 ⟨rfl, hg⟩)
  go_ret2
  exact ⟨rfl, (World.grownBy_alloc w _ none).trans hg⟩

set_option maxHeartbeats 400000 in
theorem value_w (x : Opr) (w : World) (hx : x.fits) (hE : Env w) :
    Calls Tryd.prog 41 #[.string ⟨#[119]⟩, .agg #[.string ⟨x.I.toArray⟩, .int .i64 x.V, .int .i64 x.W, .string ⟨x.F.toArray⟩, .string ⟨x.T.toArray⟩, .int .i64 x.E]] w fun e w' => e = .returned (.tuple #[.string ⟨(Lib.itoa x.W).toArray⟩, .bool false]) ∧ w.grownBy w' none := by
  go_enter Tryd.func41, Tryd.ntmps41
  go_wp2_with (go_at_call 51; refine (itoa_any _ hx.W _ (hE.kept (World.grownBy_alloc _ _ none) (by simp))).mono ?_; rintro e w1 ⟨rfl, hg⟩)
  go_ret2
  exact ⟨rfl, (World.grownBy_alloc w _ none).trans hg⟩

set_option maxHeartbeats 400000 in
theorem value_c (x : Opr) (w : World) (hx : x.fits) (hE : Env w) :
    Calls Tryd.prog 41 #[.string ⟨#[99]⟩, .agg #[.string ⟨x.I.toArray⟩, .int .i64 x.V, .int .i64 x.W, .string ⟨x.F.toArray⟩, .string ⟨x.T.toArray⟩, .int .i64 x.E]] w fun e w' => e = .returned (.tuple #[.string ⟨(Lib.itoa x.E).toArray⟩, .bool false]) ∧ w.grownBy w' none := by
  go_enter Tryd.func41, Tryd.ntmps41
  go_wp2_with (go_at_call 51; refine (itoa_any _ hx.E _ (hE.kept (World.grownBy_alloc _ _ none) (by simp))).mono ?_; rintro e w1 ⟨rfl, hg⟩)
  go_ret2
  exact ⟨rfl, (World.grownBy_alloc w _ none).trans hg⟩

set_option maxHeartbeats 400000 in
theorem value_e (x : Opr) (w : World) (hx : x.fits) (hE : Env w) :
    Calls Tryd.prog 41 #[.string ⟨#[101]⟩, .agg #[.string ⟨x.I.toArray⟩, .int .i64 x.V, .int .i64 x.W, .string ⟨x.F.toArray⟩, .string ⟨x.T.toArray⟩, .int .i64 x.E]] w fun e w' => e = .returned (.tuple #[.string ⟨(Lib.itoa x.E).toArray⟩, .bool false]) ∧ w.grownBy w' none := by
  go_enter Tryd.func41, Tryd.ntmps41
  go_wp2_with (go_at_call 51; refine (itoa_any _ hx.E _ (hE.kept (World.grownBy_alloc _ _ none) (by simp))).mono ?_; rintro e w1 ⟨rfl, hg⟩)
  go_ret2
  exact ⟨rfl, (World.grownBy_alloc w _ none).trans hg⟩

set_option maxHeartbeats 400000 in
theorem value_no (t : Tok) (h1 : (t == [110]) = false) (h2 : (t == [105]) = false) (h3 : (t == [102]) = false) (h4 : (t == [116]) = false) (h5 : (t == [118]) = false) (h6 : (t == [119]) = false) (h7 : (t == [99]) = false) (h8 : (t == [101]) = false) (x : Opr) (w : World) :
    Calls Tryd.prog 41 #[.string ⟨t.toArray⟩, .agg #[.string ⟨x.I.toArray⟩, .int .i64 x.V, .int .i64 x.W, .string ⟨x.F.toArray⟩, .string ⟨x.T.toArray⟩, .int .i64 x.E]] w fun e w' => e = .panicked wrongC ∧ w.grownBy w' none := by
  go_enter Tryd.func41, Tryd.ntmps41
  go_wp2
  exact ⟨rfl, rfl, World.grownBy_alloc w _ none⟩

theorem value_any (t : Tok) (x : Opr) (hx : x.fits) (w : World) (hE : Env w) :
    Calls Tryd.prog 41 #[.string ⟨t.toArray⟩, .agg #[.string ⟨x.I.toArray⟩, .int .i64 x.V, .int .i64 x.W, .string ⟨x.F.toArray⟩, .string ⟨x.T.toArray⟩, .int .i64 x.E]] w fun e w' =>
      (∃ ds br, Hid (valueT t x = some (ds, br)) ∧ e = .returned (.tuple #[.string ⟨ds.toArray⟩, .bool br]) ∧ w.grownBy w' none) ∨ (Hid (valueT t x = none) ∧ e = .panicked wrongC ∧ w.grownBy w' none) := by
  by_cases h1 : t = [110]
  · subst h1; exact (value_n x w).mono fun e w' ⟨he, hg⟩ => .inl ⟨_, _, rfl, he, hg⟩
  by_cases h2 : t = [105]
  · subst h2; exact (value_i x w).mono fun e w' ⟨he, hg⟩ => .inl ⟨_, _, rfl, he, hg⟩
  by_cases h3 : t = [102]
  · subst h3; exact (value_f x w).mono fun e w' ⟨he, hg⟩ => .inl ⟨_, _, rfl, he, hg⟩
  by_cases h4 : t = [116]
  · subst h4; exact (value_t x w).mono fun e w' ⟨he, hg⟩ => .inl ⟨_, _, rfl, he, hg⟩
  by_cases h5 : t = [118]
  · subst h5; exact (value_v x w hx hE).mono fun e w' ⟨he, hg⟩ => .inl ⟨_, _, rfl, he, hg⟩
  by_cases h6 : t = [119]
  · subst h6; exact (value_w x w hx hE).mono fun e w' ⟨he, hg⟩ => .inl ⟨_, _, rfl, he, hg⟩
  by_cases h7 : t = [99]
  · subst h7; exact (value_c x w hx hE).mono fun e w' ⟨he, hg⟩ => .inl ⟨_, _, rfl, he, hg⟩
  by_cases h8 : t = [101]
  · subst h8; exact (value_e x w hx hE).mono fun e w' ⟨he, hg⟩ => .inl ⟨_, _, rfl, he, hg⟩
  · refine (value_no t (by simpa using h1) (by simpa using h2) (by simpa using h3) (by simpa using h4) (by simpa using h5) (by simpa using h6) (by simpa using h7) (by simpa using h8) x w).mono fun e w' ⟨he, hg⟩ => .inr ⟨?_, he, hg⟩
    show valueT t x = none
    simp only [valueT, h1, h2, h3, h4, h5, h6, h7, h8, if_false, or_self]

theorem value_yes (t : Tok) (x : Opr) (hx : x.fits) (ds : Tok) (br : Bool) (hv : Hid (valueT t x = some (ds, br))) (w : World) (hE : Env w) :
    Calls Tryd.prog 41 #[.string ⟨t.toArray⟩, .agg #[.string ⟨x.I.toArray⟩, .int .i64 x.V, .int .i64 x.W, .string ⟨x.F.toArray⟩, .string ⟨x.T.toArray⟩, .int .i64 x.E]] w fun e w' => e = .returned (.tuple #[.string ⟨ds.toArray⟩, .bool br]) ∧ w.grownBy w' none :=
  (value_any t x hx w hE).mono fun e w' h => by
    rcases h with ⟨ds', br', hv', he, hg⟩ | ⟨hv', he, hg⟩
    · have := hv.out.symm.trans hv'.out; simp only [Option.some.injEq, Prod.mk.injEq] at this; obtain ⟨rfl, rfl⟩ := this; exact ⟨he, hg⟩
    · have := hv.out.symm.trans hv'.out; cases this

theorem value_none (t : Tok) (x : Opr) (hx : x.fits) (hv : Hid (valueT t x = none)) (w : World) (hE : Env w) :
    Calls Tryd.prog 41 #[.string ⟨t.toArray⟩, .agg #[.string ⟨x.I.toArray⟩, .int .i64 x.V, .int .i64 x.W, .string ⟨x.F.toArray⟩, .string ⟨x.T.toArray⟩, .int .i64 x.E]] w fun e w' => e = .panicked wrongC ∧ w.grownBy w' none :=
  (value_any t x hx w hE).mono fun e w' h => by
    rcases h with ⟨ds', br', hv', he, hg⟩ | ⟨hv', he, hg⟩
    · have := hv.out.symm.trans hv'.out; cases this
    · exact ⟨he, hg⟩
end Go.Proofs.YtmmlnnbnbgaogaaDoor
