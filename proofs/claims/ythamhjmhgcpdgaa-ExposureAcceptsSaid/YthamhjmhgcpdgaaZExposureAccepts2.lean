/- Lemmas and contracts for the law ExposureAccepts: words of the print, contracts of the functions that the law reaches, and what these compute, as far as the law needs them; packed by a program of this session. -/
import Derived.Test.YthamhjmhgcpdgaaZExposureAccepts1
section
namespace Go.Proofs.Ythamhjmhgcpdgaa.Q
open Go.RowKit Go.Proofs.YthamhjmhgcpdgaaW.PrintWords Go.Proofs.YthamhjmhgcpdgaaW.PrintLast Go.Proofs.YthamhjmhgcpdgaaW.PrintMore Go.Proofs.Ythamhjmhgcpdgaa.MyWords
attribute [local go_sem] max2_int max_two
set_option linter.unusedVariables false
set_option linter.unusedSimpArgs false
set_option maxHeartbeats 8000000 in
set_option maxRecDepth 100000 in
theorem integer_Cmp.calls (k : Nat) (a0_0 : Bool) (A0_1 : Option Addr) (c0_1 : Nat) (l0_1 : List Int) (a1_0 : Bool) (A1_1 : Option Addr) (c1_1 : Nat) (l1_1 : List Int) (r : Int) (w : World) (hr0_1 : Kd.C (Kd.int .u32) w A0_1 l0_1.length l0_1) (hc0_1 : l0_1.length ≤ c0_1) (hr1_1 : Kd.C (Kd.int .u32) w A1_1 l1_1.length l1_1) (hc1_1 : l1_1.length ≤ c1_1) (h : integer_Cmp.f k a0_0 l0_1 a1_0 l1_1 = some r) :
  Calls Try.prog 51 #[.agg #[.bool a0_0, .slice A0_1 l0_1.length c0_1], .agg #[.bool a1_0, .slice A1_1 l1_1.length c1_1]] w fun e w' => e = .returned (.int .i64 r) ∧ Below w.heap.size w w' := by
 have hu27 := Try.underlying27
 have HR0_1 := mk0 hr0_1
 have HC0_1 := mk0 hc0_1
 clear hr0_1 hc0_1
 have HR1_1 := mk0 hr1_1
 have HC1_1 := mk0 hc1_1
 clear hr1_1 hc1_1
 have HB := mk0 (Below.refl w.heap.size w)
 have H : ((integer_Sign.f k a0_0 l0_1).bind fun t348 => ((integer_Sign.f k a1_0 l1_1).bind fun t349 => (if t348 < t349 then (some (-1)) else (if t348 > t349 then (some 1) else (if t348 < 0 then ((nat_Cmp.f k l1_1 l0_1).bind fun t350 => (some t350)) else ((nat_Cmp.f k l0_1 l1_1).bind fun t351 => (some t351))))))) = some r := h
 clear h
 obtain ⟨t348, A3, H⟩ := bindA H
 obtain ⟨t349, A4, H⟩ := bindA H
 by_cases c5 : t348 < t349
 ·rw [if_pos c5] at H
  have c5b0 : decide (t348 < t349) = true := decide_eq_true c5
  clear c5
  obtain rfl := Option.some.inj H
  go_enter Try.func51, Try.ntmps51
  try go_wp2_with (first | ((with_reducible refine gate_dst (N := 2) rfl ?_); refine box_event rfl (N := 2) rfl (cs := #[.bool a0_0, .slice A0_1 l0_1.length c0_1]) (t := 27) (by first | (go_simp; done) | (go_simp; rfl)) ?_; intro gb346 hg w6 hbox hb; have BK346 := mk0 (hbox); have GE346 := geB hg HB; replace HB := hbS HB hb; clear hb hbox hg) | ((with_reducible refine gate_dst (N := 3) rfl ?_); refine box_event rfl (N := 3) rfl (cs := #[.bool a1_0, .slice A1_1 l1_1.length c1_1]) (t := 27) (by first | (go_simp; done) | (go_simp; rfl)) ?_; intro gb347 hg w7 hbox hb; have BK347 := mk0 (hbox); have GE347 := geB hg HB; replace HB := hbS HB hb; have NB346_347 := nbA hg BK346; have NB347_346 := nbB hg BK346; replace BK346 := bkB BK346 hb; clear hb hbox hg))
  replace BK346 := mk0 (blk_drew BK346.out)
  replace BK347 := mk0 (blk_drew BK347.out)
  replace HB := mk0 (below_drew1 HB.out)
  refine start_ (n := 6) (S := fun w' => w'.cell? ⟨gb346, 0, none⟩ = some (.bool a0_0) ∧ w'.cell? ⟨gb346, 1, none⟩ = some (.slice A0_1 l0_1.length c0_1) ∧ w'.cell? ⟨gb347, 0, none⟩ = some (.bool a1_0) ∧ w'.cell? ⟨gb347, 1, none⟩ = some (.slice A1_1 l1_1.length c1_1)) (ds := []) (bv 6 0) (by kernel_rfl) rfl rfl ⟨(blk_cell BK346.out 0).trans rfl, (blk_cell BK346.out 1).trans rfl, (blk_cell BK347.out 0).trans rfl, (blk_cell BK347.out 1).trans rfl⟩ (fun hHeld => ?_)
  generalize w7.drew = w8 at BK346 BK347 HB hHeld ⊢
  refine take_ (i := 0) (N := some 7) (v := ?_) (a' := ?_) (bv 6 1) rfl rfl (by kernel_rfl) (fun _ _ _ h => h) (Or.inl ⟨by rfl, ?_⟩) hHeld ?_ ?_; rotate_left; (rintro w' ⟨s0, s1, s2, s3⟩; go_simp; with_reducible rfl); rotate_left; (simp only [Act.put, List.setIfInBounds_toArray, List.set_cons_zero, List.set_cons_succ, i64_w, i32_w]; rfl)
  refine take_ (i := 2) (N := some 9) (v := ?_) (a' := ?_) (bv 6 5) rfl rfl (by kernel_rfl) (fun _ _ _ h => h) (Or.inl ⟨by rfl, ?_⟩) hHeld ?_ ?_; rotate_left; (rintro w' ⟨s0, s1, s2, s3⟩; go_simp; with_reducible rfl); rotate_left; (simp only [Act.put, List.setIfInBounds_toArray, List.set_cons_zero, List.set_cons_succ, i64_w, i32_w]; rfl)
  refine one_ (i := 1) (N := some 8) (bv 6 7) rfl rfl (by kernel_rfl) (by decide) (fun K hK => ?_)
  refine goes_ Try.func37 (by kernel_rfl) rfl #[.agg #[.bool a0_0, .slice A0_1 l0_1.length c0_1]] (by rfl) rfl rfl (by first | (go_simp; done) | (go_simp; rfl)) ?_
  with_reducible refine (integer_Sign.calls k a0_0 _ _ l0_1 t348 _ ?side1 ?side2 A3.out).mono ?_
  (case side1 => repeat (first | exact (Kd.C_below HR0_1.out HB.out) | (with_reducible refine Kd.C_alloc ?_ _) | (with_reducible refine Kd.C_drewN ?_ _) | (with_reducible refine Kd.C_drew ?_)))
  (case side2 => exact HC0_1.out)
  rintro e w9 ⟨rfl, hb⟩
  refine ⟨_, rfl, ?_⟩
  replace BK346 := bkB BK346 hb
  replace BK347 := bkB BK347 hb
  replace HB := mk0 (below_step (by repeat (first | exact HB.out | refine below_set ?_ GE346.out | refine below_set ?_ GE347.out)) hb)
  refine hK.out _ _ ⟨(blk_cell BK346.out 0).trans rfl, (blk_cell BK346.out 1).trans rfl, (blk_cell BK347.out 0).trans rfl, (blk_cell BK347.out 1).trans rfl⟩ (fun hHeld => ?_)
  clear hK K
  refine norm_ (a' := ?_) ?_ ?_
  rotate_left
  ·show Act.put _ (some 8) _ = _
   simp only [Act.put, List.setIfInBounds_toArray, List.set_cons_zero, List.set_cons_succ, i64_w, i32_w]
   rfl
  refine one_ (i := 3) (N := some 10) (bv 6 15) rfl rfl (by kernel_rfl) (by decide) (fun K hK => ?_)
  refine goes_ Try.func37 (by kernel_rfl) rfl #[.agg #[.bool a1_0, .slice A1_1 l1_1.length c1_1]] (by rfl) rfl rfl (by first | (go_simp; done) | (go_simp; rfl)) ?_
  with_reducible refine (integer_Sign.calls k a1_0 _ _ l1_1 t349 _ ?side1 ?side2 A4.out).mono ?_
  (case side1 => repeat (first | exact (Kd.C_below HR1_1.out HB.out) | (with_reducible refine Kd.C_alloc ?_ _) | (with_reducible refine Kd.C_drewN ?_ _) | (with_reducible refine Kd.C_drew ?_)))
  (case side2 => exact HC1_1.out)
  rintro e w10 ⟨rfl, hb⟩
  refine ⟨_, rfl, ?_⟩
  replace BK346 := bkB BK346 hb
  replace BK347 := bkB BK347 hb
  replace HB := mk0 (below_step (by repeat (first | exact HB.out | refine below_set ?_ GE346.out | refine below_set ?_ GE347.out)) hb)
  refine hK.out _ _ ⟨(blk_cell BK346.out 0).trans rfl, (blk_cell BK346.out 1).trans rfl, (blk_cell BK347.out 0).trans rfl, (blk_cell BK347.out 1).trans rfl⟩ (fun hHeld => ?_)
  clear hK K
  refine norm_ (a' := ?_) ?_ ?_
  rotate_left
  ·show Act.put _ (some 10) _ = _
   simp only [Act.put, List.setIfInBounds_toArray, List.set_cons_zero, List.set_cons_succ, i64_w, i32_w]
   rfl
  refine pure_ (i := 4) (N := some 5) (v := ?_) (a' := ?_) (bv 6 31) rfl rfl (by kernel_rfl) (fun _ _ _ h => h) (Or.inl ⟨by rfl, ?_⟩) ?_ ?_; rotate_left; (intro w'; go_simp; with_reducible rfl); rotate_left; (simp only [Act.put, List.setIfInBounds_toArray, List.set_cons_zero, List.set_cons_succ, i64_w, i32_w]; rfl)
  refine pure_ (i := 5) (N := some 6) (v := ?_) (a' := ?_) (bv 6 63) rfl rfl (by kernel_rfl) (fun _ _ _ h => h) (Or.inl ⟨by rfl, ?_⟩) ?_ ?_; rotate_left; (intro w'; go_simp; with_reducible rfl); rotate_left; (simp only [Act.put, List.setIfInBounds_toArray, List.set_cons_zero, List.set_cons_succ, i64_w, i32_w]; rfl)
  refine done_ (by kernel_rfl) ?_
  try go_wp2
  go_ret
  exact ⟨by first | rfl | (simp [errW_none, errW_some] <;> rfl) | (simp [*, errW_none, errW_some] <;> rfl), by repeat (first | exact HB.out | refine below_set ?_ GE346.out | refine below_set ?_ GE347.out)⟩
 ·rw [if_neg c5] at H
  have c5b0 : decide (t348 < t349) = false := decide_eq_false c5
  clear c5
  by_cases c11 : t348 > t349
  ·rw [if_pos c11] at H
   have c11b0 : decide (t349 < t348) = true := decide_eq_true c11
   clear c11
   obtain rfl := Option.some.inj H
   go_enter Try.func51, Try.ntmps51
   try go_wp2_with (first | ((with_reducible refine gate_dst (N := 2) rfl ?_); refine box_event rfl (N := 2) rfl (cs := #[.bool a0_0, .slice A0_1 l0_1.length c0_1]) (t := 27) (by first | (go_simp; done) | (go_simp; rfl)) ?_; intro gb346 hg w12 hbox hb; have BK346 := mk0 (hbox); have GE346 := geB hg HB; replace HB := hbS HB hb; clear hb hbox hg) | ((with_reducible refine gate_dst (N := 3) rfl ?_); refine box_event rfl (N := 3) rfl (cs := #[.bool a1_0, .slice A1_1 l1_1.length c1_1]) (t := 27) (by first | (go_simp; done) | (go_simp; rfl)) ?_; intro gb347 hg w13 hbox hb; have BK347 := mk0 (hbox); have GE347 := geB hg HB; replace HB := hbS HB hb; have NB346_347 := nbA hg BK346; have NB347_346 := nbB hg BK346; replace BK346 := bkB BK346 hb; clear hb hbox hg))
   replace BK346 := mk0 (blk_drew BK346.out)
   replace BK347 := mk0 (blk_drew BK347.out)
   replace HB := mk0 (below_drew1 HB.out)
   refine start_ (n := 6) (S := fun w' => w'.cell? ⟨gb346, 0, none⟩ = some (.bool a0_0) ∧ w'.cell? ⟨gb346, 1, none⟩ = some (.slice A0_1 l0_1.length c0_1) ∧ w'.cell? ⟨gb347, 0, none⟩ = some (.bool a1_0) ∧ w'.cell? ⟨gb347, 1, none⟩ = some (.slice A1_1 l1_1.length c1_1)) (ds := []) (bv 6 0) (by kernel_rfl) rfl rfl ⟨(blk_cell BK346.out 0).trans rfl, (blk_cell BK346.out 1).trans rfl, (blk_cell BK347.out 0).trans rfl, (blk_cell BK347.out 1).trans rfl⟩ (fun hHeld => ?_)
   generalize w13.drew = w14 at BK346 BK347 HB hHeld ⊢
   refine take_ (i := 0) (N := some 7) (v := ?_) (a' := ?_) (bv 6 1) rfl rfl (by kernel_rfl) (fun _ _ _ h => h) (Or.inl ⟨by rfl, ?_⟩) hHeld ?_ ?_; rotate_left; (rintro w' ⟨s0, s1, s2, s3⟩; go_simp; with_reducible rfl); rotate_left; (simp only [Act.put, List.setIfInBounds_toArray, List.set_cons_zero, List.set_cons_succ, i64_w, i32_w]; rfl)
   refine take_ (i := 2) (N := some 9) (v := ?_) (a' := ?_) (bv 6 5) rfl rfl (by kernel_rfl) (fun _ _ _ h => h) (Or.inl ⟨by rfl, ?_⟩) hHeld ?_ ?_; rotate_left; (rintro w' ⟨s0, s1, s2, s3⟩; go_simp; with_reducible rfl); rotate_left; (simp only [Act.put, List.setIfInBounds_toArray, List.set_cons_zero, List.set_cons_succ, i64_w, i32_w]; rfl)
   refine one_ (i := 1) (N := some 8) (bv 6 7) rfl rfl (by kernel_rfl) (by decide) (fun K hK => ?_)
   refine goes_ Try.func37 (by kernel_rfl) rfl #[.agg #[.bool a0_0, .slice A0_1 l0_1.length c0_1]] (by rfl) rfl rfl (by first | (go_simp; done) | (go_simp; rfl)) ?_
   with_reducible refine (integer_Sign.calls k a0_0 _ _ l0_1 t348 _ ?side1 ?side2 A3.out).mono ?_
   (case side1 => repeat (first | exact (Kd.C_below HR0_1.out HB.out) | (with_reducible refine Kd.C_alloc ?_ _) | (with_reducible refine Kd.C_drewN ?_ _) | (with_reducible refine Kd.C_drew ?_)))
   (case side2 => exact HC0_1.out)
   rintro e w15 ⟨rfl, hb⟩
   refine ⟨_, rfl, ?_⟩
   replace BK346 := bkB BK346 hb
   replace BK347 := bkB BK347 hb
   replace HB := mk0 (below_step (by repeat (first | exact HB.out | refine below_set ?_ GE346.out | refine below_set ?_ GE347.out)) hb)
   refine hK.out _ _ ⟨(blk_cell BK346.out 0).trans rfl, (blk_cell BK346.out 1).trans rfl, (blk_cell BK347.out 0).trans rfl, (blk_cell BK347.out 1).trans rfl⟩ (fun hHeld => ?_)
   clear hK K
   refine norm_ (a' := ?_) ?_ ?_
   rotate_left
   ·show Act.put _ (some 8) _ = _
    simp only [Act.put, List.setIfInBounds_toArray, List.set_cons_zero, List.set_cons_succ, i64_w, i32_w]
    rfl
   refine one_ (i := 3) (N := some 10) (bv 6 15) rfl rfl (by kernel_rfl) (by decide) (fun K hK => ?_)
   refine goes_ Try.func37 (by kernel_rfl) rfl #[.agg #[.bool a1_0, .slice A1_1 l1_1.length c1_1]] (by rfl) rfl rfl (by first | (go_simp; done) | (go_simp; rfl)) ?_
   with_reducible refine (integer_Sign.calls k a1_0 _ _ l1_1 t349 _ ?side1 ?side2 A4.out).mono ?_
   (case side1 => repeat (first | exact (Kd.C_below HR1_1.out HB.out) | (with_reducible refine Kd.C_alloc ?_ _) | (with_reducible refine Kd.C_drewN ?_ _) | (with_reducible refine Kd.C_drew ?_)))
   (case side2 => exact HC1_1.out)
   rintro e w16 ⟨rfl, hb⟩
   refine ⟨_, rfl, ?_⟩
   replace BK346 := bkB BK346 hb
   replace BK347 := bkB BK347 hb
   replace HB := mk0 (below_step (by repeat (first | exact HB.out | refine below_set ?_ GE346.out | refine below_set ?_ GE347.out)) hb)
   refine hK.out _ _ ⟨(blk_cell BK346.out 0).trans rfl, (blk_cell BK346.out 1).trans rfl, (blk_cell BK347.out 0).trans rfl, (blk_cell BK347.out 1).trans rfl⟩ (fun hHeld => ?_)
   clear hK K
   refine norm_ (a' := ?_) ?_ ?_
   rotate_left
   ·show Act.put _ (some 10) _ = _
    simp only [Act.put, List.setIfInBounds_toArray, List.set_cons_zero, List.set_cons_succ, i64_w, i32_w]
    rfl
   refine pure_ (i := 4) (N := some 5) (v := ?_) (a' := ?_) (bv 6 31) rfl rfl (by kernel_rfl) (fun _ _ _ h => h) (Or.inl ⟨by rfl, ?_⟩) ?_ ?_; rotate_left; (intro w'; go_simp; with_reducible rfl); rotate_left; (simp only [Act.put, List.setIfInBounds_toArray, List.set_cons_zero, List.set_cons_succ, i64_w, i32_w]; rfl)
   refine pure_ (i := 5) (N := some 6) (v := ?_) (a' := ?_) (bv 6 63) rfl rfl (by kernel_rfl) (fun _ _ _ h => h) (Or.inl ⟨by rfl, ?_⟩) ?_ ?_; rotate_left; (intro w'; go_simp; with_reducible rfl); rotate_left; (simp only [Act.put, List.setIfInBounds_toArray, List.set_cons_zero, List.set_cons_succ, i64_w, i32_w]; rfl)
   refine done_ (by kernel_rfl) ?_
   try go_wp2
   go_ret
   exact ⟨by first | rfl | (simp [errW_none, errW_some] <;> rfl) | (simp [*, errW_none, errW_some] <;> rfl), by repeat (first | exact HB.out | refine below_set ?_ GE346.out | refine below_set ?_ GE347.out)⟩
  ·rw [if_neg c11] at H
   have c11b0 : decide (t349 < t348) = false := decide_eq_false c11
   clear c11
   by_cases c17 : t348 < 0
   ·rw [if_pos c17] at H
    have c17b0 : decide (t348 < 0) = true := decide_eq_true c17
    clear c17
    obtain ⟨t350, A18, H⟩ := bindA H
    obtain rfl := Option.some.inj H
    go_enter Try.func51, Try.ntmps51
    try go_wp2_with (first | ((with_reducible refine gate_dst (N := 2) rfl ?_); refine box_event rfl (N := 2) rfl (cs := #[.bool a0_0, .slice A0_1 l0_1.length c0_1]) (t := 27) (by first | (go_simp; done) | (go_simp; rfl)) ?_; intro gb346 hg w19 hbox hb; have BK346 := mk0 (hbox); have GE346 := geB hg HB; replace HB := hbS HB hb; clear hb hbox hg) | ((with_reducible refine gate_dst (N := 3) rfl ?_); refine box_event rfl (N := 3) rfl (cs := #[.bool a1_0, .slice A1_1 l1_1.length c1_1]) (t := 27) (by first | (go_simp; done) | (go_simp; rfl)) ?_; intro gb347 hg w20 hbox hb; have BK347 := mk0 (hbox); have GE347 := geB hg HB; replace HB := hbS HB hb; have NB346_347 := nbA hg BK346; have NB347_346 := nbB hg BK346; replace BK346 := bkB BK346 hb; clear hb hbox hg))
    replace BK346 := mk0 (blk_drew BK346.out)
    replace BK347 := mk0 (blk_drew BK347.out)
    replace HB := mk0 (below_drew1 HB.out)
    refine start_ (n := 6) (S := fun w' => w'.cell? ⟨gb346, 0, none⟩ = some (.bool a0_0) ∧ w'.cell? ⟨gb346, 1, none⟩ = some (.slice A0_1 l0_1.length c0_1) ∧ w'.cell? ⟨gb347, 0, none⟩ = some (.bool a1_0) ∧ w'.cell? ⟨gb347, 1, none⟩ = some (.slice A1_1 l1_1.length c1_1)) (ds := []) (bv 6 0) (by kernel_rfl) rfl rfl ⟨(blk_cell BK346.out 0).trans rfl, (blk_cell BK346.out 1).trans rfl, (blk_cell BK347.out 0).trans rfl, (blk_cell BK347.out 1).trans rfl⟩ (fun hHeld => ?_)
    generalize w20.drew = w21 at BK346 BK347 HB hHeld ⊢
    refine take_ (i := 0) (N := some 7) (v := ?_) (a' := ?_) (bv 6 1) rfl rfl (by kernel_rfl) (fun _ _ _ h => h) (Or.inl ⟨by rfl, ?_⟩) hHeld ?_ ?_; rotate_left; (rintro w' ⟨s0, s1, s2, s3⟩; go_simp; with_reducible rfl); rotate_left; (simp only [Act.put, List.setIfInBounds_toArray, List.set_cons_zero, List.set_cons_succ, i64_w, i32_w]; rfl)
    refine take_ (i := 2) (N := some 9) (v := ?_) (a' := ?_) (bv 6 5) rfl rfl (by kernel_rfl) (fun _ _ _ h => h) (Or.inl ⟨by rfl, ?_⟩) hHeld ?_ ?_; rotate_left; (rintro w' ⟨s0, s1, s2, s3⟩; go_simp; with_reducible rfl); rotate_left; (simp only [Act.put, List.setIfInBounds_toArray, List.set_cons_zero, List.set_cons_succ, i64_w, i32_w]; rfl)
    refine one_ (i := 1) (N := some 8) (bv 6 7) rfl rfl (by kernel_rfl) (by decide) (fun K hK => ?_)
    refine goes_ Try.func37 (by kernel_rfl) rfl #[.agg #[.bool a0_0, .slice A0_1 l0_1.length c0_1]] (by rfl) rfl rfl (by first | (go_simp; done) | (go_simp; rfl)) ?_
    with_reducible refine (integer_Sign.calls k a0_0 _ _ l0_1 t348 _ ?side1 ?side2 A3.out).mono ?_
    (case side1 => repeat (first | exact (Kd.C_below HR0_1.out HB.out) | (with_reducible refine Kd.C_alloc ?_ _) | (with_reducible refine Kd.C_drewN ?_ _) | (with_reducible refine Kd.C_drew ?_)))
    (case side2 => exact HC0_1.out)
    rintro e w22 ⟨rfl, hb⟩
    refine ⟨_, rfl, ?_⟩
    replace BK346 := bkB BK346 hb
    replace BK347 := bkB BK347 hb
    replace HB := mk0 (below_step (by repeat (first | exact HB.out | refine below_set ?_ GE346.out | refine below_set ?_ GE347.out)) hb)
    refine hK.out _ _ ⟨(blk_cell BK346.out 0).trans rfl, (blk_cell BK346.out 1).trans rfl, (blk_cell BK347.out 0).trans rfl, (blk_cell BK347.out 1).trans rfl⟩ (fun hHeld => ?_)
    clear hK K
    refine norm_ (a' := ?_) ?_ ?_
    rotate_left
    ·show Act.put _ (some 8) _ = _
     simp only [Act.put, List.setIfInBounds_toArray, List.set_cons_zero, List.set_cons_succ, i64_w, i32_w]
     rfl
    refine one_ (i := 3) (N := some 10) (bv 6 15) rfl rfl (by kernel_rfl) (by decide) (fun K hK => ?_)
    refine goes_ Try.func37 (by kernel_rfl) rfl #[.agg #[.bool a1_0, .slice A1_1 l1_1.length c1_1]] (by rfl) rfl rfl (by first | (go_simp; done) | (go_simp; rfl)) ?_
    with_reducible refine (integer_Sign.calls k a1_0 _ _ l1_1 t349 _ ?side1 ?side2 A4.out).mono ?_
    (case side1 => repeat (first | exact (Kd.C_below HR1_1.out HB.out) | (with_reducible refine Kd.C_alloc ?_ _) | (with_reducible refine Kd.C_drewN ?_ _) | (with_reducible refine Kd.C_drew ?_)))
    (case side2 => exact HC1_1.out)
    rintro e w23 ⟨rfl, hb⟩
    refine ⟨_, rfl, ?_⟩
    replace BK346 := bkB BK346 hb
    replace BK347 := bkB BK347 hb
    replace HB := mk0 (below_step (by repeat (first | exact HB.out | refine below_set ?_ GE346.out | refine below_set ?_ GE347.out)) hb)
    refine hK.out _ _ ⟨(blk_cell BK346.out 0).trans rfl, (blk_cell BK346.out 1).trans rfl, (blk_cell BK347.out 0).trans rfl, (blk_cell BK347.out 1).trans rfl⟩ (fun hHeld => ?_)
    clear hK K
    refine norm_ (a' := ?_) ?_ ?_
    rotate_left
    ·show Act.put _ (some 10) _ = _
     simp only [Act.put, List.setIfInBounds_toArray, List.set_cons_zero, List.set_cons_succ, i64_w, i32_w]
     rfl
    refine pure_ (i := 4) (N := some 5) (v := ?_) (a' := ?_) (bv 6 31) rfl rfl (by kernel_rfl) (fun _ _ _ h => h) (Or.inl ⟨by rfl, ?_⟩) ?_ ?_; rotate_left; (intro w'; go_simp; with_reducible rfl); rotate_left; (simp only [Act.put, List.setIfInBounds_toArray, List.set_cons_zero, List.set_cons_succ, i64_w, i32_w]; rfl)
    refine pure_ (i := 5) (N := some 6) (v := ?_) (a' := ?_) (bv 6 63) rfl rfl (by kernel_rfl) (fun _ _ _ h => h) (Or.inl ⟨by rfl, ?_⟩) ?_ ?_; rotate_left; (intro w'; go_simp; with_reducible rfl); rotate_left; (simp only [Act.put, List.setIfInBounds_toArray, List.set_cons_zero, List.set_cons_succ, i64_w, i32_w]; rfl)
    refine done_ (by kernel_rfl) ?_
    have hnb24 := NB347_346.out
    have hnc24 := NB346_347.out
    have hcz25_0 : w23.cell? ⟨gb347, 0, none⟩ = some (.bool a1_0) := (blk_cell BK347.out 0).trans rfl
    have hcz25_1 : w23.cell? ⟨gb347, 1, none⟩ = some (.slice A1_1 l1_1.length c1_1) := (blk_cell BK347.out 1).trans rfl
    have hfz25_0 := blk_frozen BK347.out 0
    have hfz25_1 := blk_frozen BK347.out 1
    have hcz26_0 : w23.cell? ⟨gb346, 0, none⟩ = some (.bool a0_0) := (blk_cell BK346.out 0).trans rfl
    have hcz26_1 : w23.cell? ⟨gb346, 1, none⟩ = some (.slice A0_1 l0_1.length c0_1) := (blk_cell BK346.out 1).trans rfl
    have hfz26_0 := blk_frozen BK346.out 0
    have hfz26_1 := blk_frozen BK346.out 1
    try go_wp2_with (first | ((with_reducible refine gate_callee (f := 77) rfl ?_); refine goesL_ (some 26) rfl rfl Try.func77 (by kernel_rfl) rfl #[.slice A1_1 l1_1.length c1_1, .slice A0_1 l0_1.length c0_1] rfl (by first | (go_simp; done) | (go_simp; rfl)) ?_; (with_reducible refine (nat_Cmp.calls k _ _ l1_1 _ _ l0_1 t350 _ (by exact Kd.C_below HR1_1.out HB.out) HC1_1.out (by exact Kd.C_below HR0_1.out HB.out) HC0_1.out A18.out).mono ?_); rintro e w27 ⟨rfl, hb⟩; refine ⟨_, rfl, ?_⟩; replace BK346 := bkB BK346 hb; replace BK347 := bkB BK347 hb; replace HB := hbS HB hb))
    go_ret
    exact ⟨by first | rfl | (simp [errW_none, errW_some] <;> rfl) | (simp [*, errW_none, errW_some] <;> rfl), by repeat (first | exact HB.out | refine below_set ?_ GE346.out | refine below_set ?_ GE347.out)⟩
   ·rw [if_neg c17] at H
    have c17b0 : decide (t348 < 0) = false := decide_eq_false c17
    clear c17
    obtain ⟨t351, A28, H⟩ := bindA H
    obtain rfl := Option.some.inj H
    go_enter Try.func51, Try.ntmps51
    try go_wp2_with (first | ((with_reducible refine gate_dst (N := 2) rfl ?_); refine box_event rfl (N := 2) rfl (cs := #[.bool a0_0, .slice A0_1 l0_1.length c0_1]) (t := 27) (by first | (go_simp; done) | (go_simp; rfl)) ?_; intro gb346 hg w29 hbox hb; have BK346 := mk0 (hbox); have GE346 := geB hg HB; replace HB := hbS HB hb; clear hb hbox hg) | ((with_reducible refine gate_dst (N := 3) rfl ?_); refine box_event rfl (N := 3) rfl (cs := #[.bool a1_0, .slice A1_1 l1_1.length c1_1]) (t := 27) (by first | (go_simp; done) | (go_simp; rfl)) ?_; intro gb347 hg w30 hbox hb; have BK347 := mk0 (hbox); have GE347 := geB hg HB; replace HB := hbS HB hb; have NB346_347 := nbA hg BK346; have NB347_346 := nbB hg BK346; replace BK346 := bkB BK346 hb; clear hb hbox hg))
    replace BK346 := mk0 (blk_drew BK346.out)
    replace BK347 := mk0 (blk_drew BK347.out)
    replace HB := mk0 (below_drew1 HB.out)
    refine start_ (n := 6) (S := fun w' => w'.cell? ⟨gb346, 0, none⟩ = some (.bool a0_0) ∧ w'.cell? ⟨gb346, 1, none⟩ = some (.slice A0_1 l0_1.length c0_1) ∧ w'.cell? ⟨gb347, 0, none⟩ = some (.bool a1_0) ∧ w'.cell? ⟨gb347, 1, none⟩ = some (.slice A1_1 l1_1.length c1_1)) (ds := []) (bv 6 0) (by kernel_rfl) rfl rfl ⟨(blk_cell BK346.out 0).trans rfl, (blk_cell BK346.out 1).trans rfl, (blk_cell BK347.out 0).trans rfl, (blk_cell BK347.out 1).trans rfl⟩ (fun hHeld => ?_)
    generalize w30.drew = w31 at BK346 BK347 HB hHeld ⊢
    refine take_ (i := 0) (N := some 7) (v := ?_) (a' := ?_) (bv 6 1) rfl rfl (by kernel_rfl) (fun _ _ _ h => h) (Or.inl ⟨by rfl, ?_⟩) hHeld ?_ ?_; rotate_left; (rintro w' ⟨s0, s1, s2, s3⟩; go_simp; with_reducible rfl); rotate_left; (simp only [Act.put, List.setIfInBounds_toArray, List.set_cons_zero, List.set_cons_succ, i64_w, i32_w]; rfl)
    refine take_ (i := 2) (N := some 9) (v := ?_) (a' := ?_) (bv 6 5) rfl rfl (by kernel_rfl) (fun _ _ _ h => h) (Or.inl ⟨by rfl, ?_⟩) hHeld ?_ ?_; rotate_left; (rintro w' ⟨s0, s1, s2, s3⟩; go_simp; with_reducible rfl); rotate_left; (simp only [Act.put, List.setIfInBounds_toArray, List.set_cons_zero, List.set_cons_succ, i64_w, i32_w]; rfl)
    refine one_ (i := 1) (N := some 8) (bv 6 7) rfl rfl (by kernel_rfl) (by decide) (fun K hK => ?_)
    refine goes_ Try.func37 (by kernel_rfl) rfl #[.agg #[.bool a0_0, .slice A0_1 l0_1.length c0_1]] (by rfl) rfl rfl (by first | (go_simp; done) | (go_simp; rfl)) ?_
    with_reducible refine (integer_Sign.calls k a0_0 _ _ l0_1 t348 _ ?side1 ?side2 A3.out).mono ?_
    (case side1 => repeat (first | exact (Kd.C_below HR0_1.out HB.out) | (with_reducible refine Kd.C_alloc ?_ _) | (with_reducible refine Kd.C_drewN ?_ _) | (with_reducible refine Kd.C_drew ?_)))
    (case side2 => exact HC0_1.out)
    rintro e w32 ⟨rfl, hb⟩
    refine ⟨_, rfl, ?_⟩
    replace BK346 := bkB BK346 hb
    replace BK347 := bkB BK347 hb
    replace HB := mk0 (below_step (by repeat (first | exact HB.out | refine below_set ?_ GE346.out | refine below_set ?_ GE347.out)) hb)
    refine hK.out _ _ ⟨(blk_cell BK346.out 0).trans rfl, (blk_cell BK346.out 1).trans rfl, (blk_cell BK347.out 0).trans rfl, (blk_cell BK347.out 1).trans rfl⟩ (fun hHeld => ?_)
    clear hK K
    refine norm_ (a' := ?_) ?_ ?_
    rotate_left
    ·show Act.put _ (some 8) _ = _
     simp only [Act.put, List.setIfInBounds_toArray, List.set_cons_zero, List.set_cons_succ, i64_w, i32_w]
     rfl
    refine one_ (i := 3) (N := some 10) (bv 6 15) rfl rfl (by kernel_rfl) (by decide) (fun K hK => ?_)
    refine goes_ Try.func37 (by kernel_rfl) rfl #[.agg #[.bool a1_0, .slice A1_1 l1_1.length c1_1]] (by rfl) rfl rfl (by first | (go_simp; done) | (go_simp; rfl)) ?_
    with_reducible refine (integer_Sign.calls k a1_0 _ _ l1_1 t349 _ ?side1 ?side2 A4.out).mono ?_
    (case side1 => repeat (first | exact (Kd.C_below HR1_1.out HB.out) | (with_reducible refine Kd.C_alloc ?_ _) | (with_reducible refine Kd.C_drewN ?_ _) | (with_reducible refine Kd.C_drew ?_)))
    (case side2 => exact HC1_1.out)
    rintro e w33 ⟨rfl, hb⟩
    refine ⟨_, rfl, ?_⟩
    replace BK346 := bkB BK346 hb
    replace BK347 := bkB BK347 hb
    replace HB := mk0 (below_step (by repeat (first | exact HB.out | refine below_set ?_ GE346.out | refine below_set ?_ GE347.out)) hb)
    refine hK.out _ _ ⟨(blk_cell BK346.out 0).trans rfl, (blk_cell BK346.out 1).trans rfl, (blk_cell BK347.out 0).trans rfl, (blk_cell BK347.out 1).trans rfl⟩ (fun hHeld => ?_)
    clear hK K
    refine norm_ (a' := ?_) ?_ ?_
    rotate_left
    ·show Act.put _ (some 10) _ = _
     simp only [Act.put, List.setIfInBounds_toArray, List.set_cons_zero, List.set_cons_succ, i64_w, i32_w]
     rfl
    refine pure_ (i := 4) (N := some 5) (v := ?_) (a' := ?_) (bv 6 31) rfl rfl (by kernel_rfl) (fun _ _ _ h => h) (Or.inl ⟨by rfl, ?_⟩) ?_ ?_; rotate_left; (intro w'; go_simp; with_reducible rfl); rotate_left; (simp only [Act.put, List.setIfInBounds_toArray, List.set_cons_zero, List.set_cons_succ, i64_w, i32_w]; rfl)
    refine pure_ (i := 5) (N := some 6) (v := ?_) (a' := ?_) (bv 6 63) rfl rfl (by kernel_rfl) (fun _ _ _ h => h) (Or.inl ⟨by rfl, ?_⟩) ?_ ?_; rotate_left; (intro w'; go_simp; with_reducible rfl); rotate_left; (simp only [Act.put, List.setIfInBounds_toArray, List.set_cons_zero, List.set_cons_succ, i64_w, i32_w]; rfl)
    refine done_ (by kernel_rfl) ?_
    have hnb34 := NB346_347.out
    have hnc34 := NB347_346.out
    have hcz35_0 : w33.cell? ⟨gb346, 0, none⟩ = some (.bool a0_0) := (blk_cell BK346.out 0).trans rfl
    have hcz35_1 : w33.cell? ⟨gb346, 1, none⟩ = some (.slice A0_1 l0_1.length c0_1) := (blk_cell BK346.out 1).trans rfl
    have hfz35_0 := blk_frozen BK346.out 0
    have hfz35_1 := blk_frozen BK346.out 1
    have hcz36_0 : w33.cell? ⟨gb347, 0, none⟩ = some (.bool a1_0) := (blk_cell BK347.out 0).trans rfl
    have hcz36_1 : w33.cell? ⟨gb347, 1, none⟩ = some (.slice A1_1 l1_1.length c1_1) := (blk_cell BK347.out 1).trans rfl
    have hfz36_0 := blk_frozen BK347.out 0
    have hfz36_1 := blk_frozen BK347.out 1
    try go_wp2_with (first | ((with_reducible refine gate_callee (f := 77) rfl ?_); refine goesL_ (some 31) rfl rfl Try.func77 (by kernel_rfl) rfl #[.slice A0_1 l0_1.length c0_1, .slice A1_1 l1_1.length c1_1] rfl (by first | (go_simp; done) | (go_simp; rfl)) ?_; (with_reducible refine (nat_Cmp.calls k _ _ l0_1 _ _ l1_1 t351 _ (by exact Kd.C_below HR0_1.out HB.out) HC0_1.out (by exact Kd.C_below HR1_1.out HB.out) HC1_1.out A28.out).mono ?_); rintro e w37 ⟨rfl, hb⟩; refine ⟨_, rfl, ?_⟩; replace BK346 := bkB BK346 hb; replace BK347 := bkB BK347 hb; replace HB := hbS HB hb))
    go_ret
    exact ⟨by first | rfl | (simp [errW_none, errW_some] <;> rfl) | (simp [*, errW_none, errW_some] <;> rfl), by repeat (first | exact HB.out | refine below_set ?_ GE346.out | refine below_set ?_ GE347.out)⟩
set_option maxHeartbeats 8000000 in
set_option maxRecDepth 100000 in
theorem nat_Mul.calls (k : Nat) (P0_ : Nat → Prop) (A0 : Option Addr) (c0 : Nat) (l0 : List Int) (P1_ : Nat → Prop) (A1 : Option Addr) (c1 : Nat) (l1 : List Int) (r : List Int) (w : World) (hs0 : Kd.V (Kd.int .u32) 87 w w.heap.size (fun k_ => P0_ k_) (.slice A0 l0.length c0) l0) (hs1 : Kd.V (Kd.int .u32) 87 w w.heap.size (fun k_ => P1_ k_) (.slice A1 l1.length c1) l1) (h : nat_Mul.f k l0 l1 = some r) :
  Calls Try.prog 54 #[.slice A0 l0.length c0, .slice A1 l1.length c1] w fun e w' => ∃ v0_ : Value, e = .returned (v0_) ∧ Kd.V (Kd.int .u32) 87 w' w.heap.size (fun k_ => ((P0_ k_ ∨ P1_ k_) ∨ w.heap.size ≤ k_)) v0_ r ∧ Below w.heap.size w w' := by
 have HO0 := mk0 (show Kd.V (Kd.int .u32) 87 w w.heap.size (fun k_ => ((P0_ k_ ∨ P1_ k_) ∨ w.heap.size ≤ k_)) (.slice A0 l0.length c0) l0 from Kd.V_mono hs0 (fun k_ hk => .inl (.inl hk)))
 have HO1 := mk0 (show Kd.V (Kd.int .u32) 87 w w.heap.size (fun k_ => ((P0_ k_ ∨ P1_ k_) ∨ w.heap.size ≤ k_)) (.slice A1 l1.length c1) l1 from Kd.V_mono hs1 (fun k_ hk => .inl (.inr hk)))
 have HB := mk0 (Below.refl w.heap.size w)
 have H : ((nat_trim.f k l0).bind fun t352 => ((nat_trim.f k l1).bind fun t355 => (if (t352.length : Int) = 0 then (nat_Mul.j0 k t352 t355 true) else (nat_Mul.j0 k t352 t355 ((t355.length : Int) == 0))))) = some r := h
 clear h
 obtain ⟨t352, A3, H⟩ := bindA H
 obtain ⟨t355, A4, H⟩ := bindA H
 have HC5 := mk0 H
 clear H
 go_enter Try.func54, Try.ntmps54
 go_upto_region 2 with (first | ((with_reducible refine gate_callee (f := 81) rfl ?_); refine goesL_ (some 14) rfl rfl Try.func81 (by kernel_rfl) rfl #[.slice A0 l0.length c0] rfl (by first | (go_simp; done) | (go_simp; rfl)) ?_; (with_reducible refine (nat_trim.calls k (fun k_ => ((P0_ k_ ∨ P1_ k_) ∨ w.heap.size ≤ k_)) _ _ l0 t352 _ HO0.out A3.out).mono ?_); rintro e w6 ⟨v353, rfl, ho0, hb⟩; refine ⟨_, rfl, ?_⟩; replace HO0 := mk0 (Kd.V_below HO0.out hb); replace HO1 := mk0 (Kd.V_below HO1.out hb); have HO354 := mk0 (Kd.V_lower (Kd.V_mono (ok' := fun k_ => ((P0_ k_ ∨ P1_ k_) ∨ w.heap.size ≤ k_)) ho0 (fun k_ hk_ => Or.elim hk_ (fun hs_ => hs_) (fun hn_ => (.inr (Nat.le_trans (below_size HB.out) hn_))))) (below_size HB.out)); replace HB := hbS HB hb) | ((with_reducible refine gate_callee (f := 81) rfl ?_); refine goesL_ (some 16) rfl rfl Try.func81 (by kernel_rfl) rfl #[.slice A1 l1.length c1] rfl (by first | (go_simp; done) | (go_simp; rfl)) ?_; (with_reducible refine (nat_trim.calls k (fun k_ => ((P0_ k_ ∨ P1_ k_) ∨ w.heap.size ≤ k_)) _ _ l1 t355 _ HO1.out A4.out).mono ?_); rintro e w7 ⟨v356, rfl, ho0, hb⟩; refine ⟨_, rfl, ?_⟩; replace HO0 := mk0 (Kd.V_below HO0.out hb); replace HO1 := mk0 (Kd.V_below HO1.out hb); replace HO354 := mk0 (Kd.V_below HO354.out hb); have HO357 := mk0 (Kd.V_lower (Kd.V_mono (ok' := fun k_ => ((P0_ k_ ∨ P1_ k_) ∨ w.heap.size ≤ k_)) ho0 (fun k_ hk_ => Or.elim hk_ (fun hs_ => hs_) (fun hn_ => (.inr (Nat.le_trans (below_size HB.out) hn_))))) (below_size HB.out)); replace HB := hbS HB hb))
 (try simp only [Act.put, List.setIfInBounds_toArray, List.set_cons_zero, List.set_cons_succ])
 go_cut [24] (fun v24 wc => ∃ (kq : Nat) (x24_4 : Bool), v24 = .bool x24_4 ∧ Aside0 (nat_Mul.j0 kq t352 t355 x24_4 = some r) ∧ Aside0 (kq ≤ k) ∧ Aside0 (Kd.V (Kd.int .u32) 87 wc w.heap.size (fun k_ => ((P0_ k_ ∨ P1_ k_) ∨ w.heap.size ≤ k_)) v353 t352) ∧ Aside0 (Kd.V (Kd.int .u32) 87 wc w.heap.size (fun k_ => ((P0_ k_ ∨ P1_ k_) ∨ w.heap.size ≤ k_)) v356 t355) ∧ Aside0 (Below w.heap.size w wc))
 case first =>
  have H := HC5.out
  clear HC5
  by_cases c8 : (t352.length : Int) = 0
  ·rw [if_pos c8] at H
   have c8b0 : ((t352.length : Int) == 0) = true := beq_iff_eq.mpr c8
   have c8b1 : ((t352.length : Int) != 0) = false := bne_eq_false_iff_eq.mpr c8
   clear c8
   (first | rw [c8b0] | (simp only [i64_w, i32_w]; rw [c8b0]) | skip)
   have H' := mk0 H
   clear H
   obtain ⟨Ao9, co9, eo9⟩ := Kd.V_slice HO354.out
   subst eo9
   go_wp2
   go_meet
   case rel => exact ⟨_, (true), (by first | rfl | (simp; done) | (simp [*]; done)), H', ⟨by first | omega | exact Nat.le_refl _⟩, ⟨HO354.out⟩, ⟨HO357.out⟩, ⟨HB.out⟩⟩
  ·rw [if_neg c8] at H
   have c8b0 : ((t352.length : Int) == 0) = false := beq_eq_false_iff_ne.mpr c8
   have c8b1 : ((t352.length : Int) != 0) = true := bne_iff_ne.mpr c8
   have c8b2 : ¬ (t352 = []) := fun h_ => c8 (by rw [h_]; rfl)
   (first | rw [c8b0] | (simp only [i64_w, i32_w]; rw [c8b0]) | skip)
   have H' := mk0 H
   clear H
   obtain ⟨Ao10, co10, eo10⟩ := Kd.V_slice HO354.out
   subst eo10
   obtain ⟨Ao11, co11, eo11⟩ := Kd.V_slice HO357.out
   subst eo11
   go_wp2
   go_meet
   case rel => exact ⟨_, (((t355.length : Int) == 0)), (by first | rfl | (simp; done) | (simp [*]; done)), H', ⟨by first | omega | exact Nat.le_refl _⟩, ⟨HO354.out⟩, ⟨HO357.out⟩, ⟨HB.out⟩⟩
 case rest =>
  clear HC5
  try clear c1
  try clear p2
  try clear c5
  try clear c8
  try clear c8b0
  try clear c8b1
  try clear c8b2
  obtain ⟨kq, x24_4, rfl, HA, HJ4, HO_5, HO_6, HB⟩ := hcut
  cases kq with
  | zero => exact absurd HA.out (by simp [nat_Mul.j0])
  | succ kj4 =>
   have H := HA.out
   clear HA
   simp only [nat_Mul.j0] at H
   by_cases c12 : x24_4 = true
   ·subst c12
    have H1 : (some ([] : List Int)) = some r := by rw [if_pos rfl] at H; exact H
    clear H
    have H := H1
    clear H1
    obtain rfl := Option.some.inj H
    go_wp2
    go_ret
    exact ⟨_, by first | rfl | (simp [errW_none, errW_some] <;> rfl) | (simp [*, errW_none, errW_some] <;> rfl), (Kd.V_nil _ _ _ _ _), HB.out⟩
   ·replace c12 := Bool.eq_false_iff.mpr c12
    subst c12
    have H1 : (if 0 ≤ (wrap64 ((t352.length : Int) + (t355.length : Int))) then (if (wrap64 ((t352.length : Int) + (t355.length : Int)) : Int).toNat ≤ 70368744177664 then (nat_Mul.l0 kj4 t355 (List.replicate (wrap64 ((t352.length : Int) + (t355.length : Int)) : Int).toNat 0) t352 (t352.length : Int) 0) else (none)) else (none)) = some r := by rw [if_neg (show ¬ (false = true) by decide)] at H; exact H
    clear H
    have H := H1
    clear H1
    obtain ⟨ji13, hji13⟩ : ∃ j_ : Int, (wrap64 ((t352.length : Int) + (t355.length : Int))) = j_ := ⟨_, rfl⟩
    replace H : (if 0 ≤ (ji13) then (if (ji13 : Int).toNat ≤ 70368744177664 then (nat_Mul.l0 kj4 t355 (List.replicate (ji13 : Int).toNat 0) t352 (t352.length : Int) 0) else (none)) else (none)) = some r := by first | (rw [hji13] at H; exact H) | (simp only [hji13] at H ⊢; exact H)
    have hji13w : (IntKind.i64.wrap ((t352.length : Int) + (t355.length : Int))) = ji13 := (i64_w _).trans hji13
    by_cases c14 : 0 ≤ (ji13)
    ·rw [if_pos c14] at H
     have c14b0 := eq_true c14
     have c14b1 : decide (0 ≤ (ji13)) = true := decide_eq_true c14
     clear c14
     by_cases c15 : (ji13 : Int).toNat ≤ 70368744177664
     ·rw [if_pos c15] at H
      have c15b0 := eq_true c15
      have c15b1 : decide ((ji13 : Int).toNat ≤ 70368744177664) = true := decide_eq_true c15
      clear c15
      obtain ⟨y358, hy358⟩ : ∃ y_ : List Int, y_ = (List.replicate (ji13 : Int).toNat 0) := ⟨_, rfl⟩
      replace H : (nat_Mul.l0 kj4 t355 y358 t352 (t352.length : Int) 0) = some r := by first | (rw [hy358]; with_reducible exact H) | (have H2_ := (Option.bind_some _ _).symm.trans H; rw [hy358]; with_reducible exact H2_) | (have H2_ := (Option.bind_some _ _).symm.trans H; with_reducible exact H2_) | with_reducible exact H | (rw [hy358]; exact H) | exact H
      have Ny358 := mk0 hy358
      clear hy358
      have H' := mk0 H
      clear H
      obtain ⟨Ao16, co16, eo16⟩ := Kd.V_slice HO_5.out
      subst eo16
      obtain ⟨Ao17, co17, eo17⟩ := Kd.V_slice HO_6.out
      subst eo17
      go_wp2_with (first | ((with_reducible refine gate_dst (N := 30) rfl ?_); (try (refine gate_guard (by rfl) ?_; dsimp only)); refine Kd.R_make (Kd.int .u32) _ 87 rfl (N := 30) rfl 25 _ _ rfl ji13 rfl rfl Try.underlying25 (.int .u32 0) 4 info87 rfl (by decide) (by omega) 0 (ok := fun _ => True) (okp := fun _ => True) rfl (fun _ hk => hk) trivial (of_decide_eq_true (by assumption)) (Nat.le_trans (Nat.mul_le_mul_right _ (of_decide_eq_true (by assumption) : ji13.toNat ≤ 70368744177664)) (by omega)) (Below.refl _ _) (Nat.le_refl _) ?_; intro v359 w18 ho19 hb hg_ hnew_; clear hg_ hnew_; (first | rw [← Ny358.out] at ho19 | (simp only [Int.reduceToNat] at ho19; rw [← Ny358.out] at ho19)); replace HO_5 := mk0 (Kd.V_elder' HO_5.out (Kd.R_base ho19) hb); replace HO_6 := mk0 (Kd.V_elder' HO_6.out (Kd.R_base ho19) hb); have HO360 := mk0 (Kd.R_lower (Kd.R_newM (M := fun k_ => (w.heap.size ≤ k_)) ho19 (below_size HB.out) (fun k_ h_ => h_)) (below_size HB.out)); replace HB := hbS HB hb; clear hb ho19))
      go_loopg [33] kj4 (fun kq v33 w' => ∃ (x7_2 : List Int) (x33_2 : Int), v33 = .int .i64 x33_2 ∧ Aside0 (nat_Mul.l0 kq t355 x7_2 t352 (t352.length : Int) x33_2 = some r) ∧ Aside0 (kq ≤ kj4) ∧ Aside0 (Kd.V (Kd.int .u32) 87 w' w.heap.size (fun k_ => ((P0_ k_ ∨ P1_ k_) ∨ w.heap.size ≤ k_) ∧ some k_ ≠ (v359 : Value).ownBlock) (.slice Ao17 t355.length co17) t355) ∧ Aside0 (Kd.R (Kd.int .u32) 87 w' w.heap.size (fun k_ => (w.heap.size ≤ k_)) v359 x7_2) ∧ Aside0 (Kd.V (Kd.int .u32) 87 w' w.heap.size (fun k_ => ((P0_ k_ ∨ P1_ k_) ∨ w.heap.size ≤ k_) ∧ some k_ ≠ (v359 : Value).ownBlock) (.slice Ao16 t352.length co16) t352) ∧ Aside0 (Below w.heap.size w w'))
      case atStart => exact ⟨(y358), (0), (by first | rfl | (simp; done) | (simp [*]; done)), H', ⟨Nat.le_refl _⟩, ⟨HO_6.out⟩, ⟨Kd.R_mono HO360.out (fun _ hk => hk.1)⟩, ⟨HO_5.out⟩, ⟨HB.out⟩⟩
      case round =>
       clear H'
       try clear c1
       try clear p2
       try clear c5
       try clear p6
       try clear c8
       try clear c8b0
       try clear c8b1
       try clear c8b2
       try clear c12
       try clear c14
       try clear c14b0
       try clear c14b1
       try clear c15
       try clear c15b0
       try clear c15b1
       try clear p2
       obtain ⟨x7_2, x33_2, rfl, HA, HK2, HO_6, HO_7, HO_31, HB⟩ := hrel
       cases gk with
       | zero => exact absurd HA.out (by simp [nat_Mul.l0])
       | succ k2 =>
        have H := HA.out
        clear HA
        simp only [nat_Mul.l0] at H
        by_cases c20 : x33_2 < (t352.length : Int)
        ·rw [if_pos c20] at H
         have c20b0 : decide (x33_2 < (t352.length : Int)) = true := decide_eq_true c20
         clear c20
         by_cases c21 : 0 ≤ x33_2
         ·rw [if_pos c21] at H
          have c21b0 : decide (0 ≤ x33_2) = true := decide_eq_true c21
          clear c21
          by_cases c22 : x33_2 < (t352.length : Int)
          ·rw [if_pos c22] at H
           have c22b0 : decide (x33_2 < (t352.length : Int)) = true := decide_eq_true c22
           clear c22
           have H' := mk0 H
           clear H
           have p364 : 0 ≤ (x33_2 : Int) := of_decide_eq_true (by assumption)
           have q364 : x33_2 < (t352.length : Int) := of_decide_eq_true (by assumption)
           obtain ⟨ad364, e364, hx364_0⟩ := Kd.at_int (Kd.V_reads' HO_31.out).2.2 x33_2 p364 q364
           cases e364
           replace p364 := eq_true p364
           replace q364 := eq_true q364
           go_wp2
           go_loopg [10, 40] k2 (fun kq v10 v40 w' => ∃ (x7_3 : List Int) (x10_3 : Int) (x40_3 : Int), v10 = .int .u64 x10_3 ∧ v40 = .int .i64 x40_3 ∧ Aside0 (nat_Mul.l1 kq t355 x7_3 x33_2 (rd t352 x33_2) x10_3 t352 (t352.length : Int) x33_2 t355 (t355.length : Int) x40_3 = some r) ∧ Aside0 (kq ≤ k2) ∧ Aside0 (Kd.V (Kd.int .u32) 87 w' w.heap.size (fun k_ => ((P0_ k_ ∨ P1_ k_) ∨ w.heap.size ≤ k_) ∧ some k_ ≠ (v359 : Value).ownBlock) (.slice Ao17 t355.length co17) t355) ∧ Aside0 (Kd.R (Kd.int .u32) 87 w' w.heap.size (fun k_ => (w.heap.size ≤ k_)) v359 x7_3) ∧ Aside0 (Kd.V (Kd.int .u32) 87 w' w.heap.size (fun k_ => ((P0_ k_ ∨ P1_ k_) ∨ w.heap.size ≤ k_) ∧ some k_ ≠ (v359 : Value).ownBlock) (.slice (some ad364) t352.length co16) t352) ∧ Aside0 (Kd.V (Kd.int .u32) 87 w' w.heap.size (fun k_ => ((P0_ k_ ∨ P1_ k_) ∨ w.heap.size ≤ k_) ∧ some k_ ≠ (v359 : Value).ownBlock) (.slice Ao17 t355.length co17) t355) ∧ Aside0 (Below w.heap.size w w'))
           case atStart => exact ⟨(x7_2), (0), (0), (by first | rfl | (simp; done) | (simp [*]; done)), (by first | rfl | (simp; done) | (simp [*]; done)), H', ⟨Nat.le_refl _⟩, ⟨HO_6.out⟩, ⟨HO_7.out⟩, ⟨HO_31.out⟩, ⟨HO_6.out⟩, ⟨HB.out⟩⟩
           case round =>
            clear H'
            try clear c1
            try clear c2
            try clear p2
            try clear p3
            try clear q3
            try clear hx3
            try clear c5
            try clear p6
            try clear c8
            try clear c8b0
            try clear c8b1
            try clear c8b2
            try clear c12
            try clear c14
            try clear c14b0
            try clear c14b1
            try clear c15
            try clear c15b0
            try clear c15b1
            try clear c20
            try clear c20b0
            try clear c21
            try clear c21b0
            try clear c22
            try clear c22b0
            try clear hx364_0
            try clear p2
            try clear p364
            try clear p6
            try clear q364
            obtain ⟨x7_3, x10_3, x40_3, rfl, rfl, HA, HK3, HO_6, HO_7, HO_31, HO_38, HB⟩ := hrel
            cases gk with
            | zero => exact absurd HA.out (by simp [nat_Mul.l1])
            | succ k3 =>
             have H := HA.out
             clear HA
             simp only [nat_Mul.l1] at H
             by_cases c23 : x40_3 < (t355.length : Int)
             ·rw [if_pos c23] at H
              have c23b0 : decide (x40_3 < (t355.length : Int)) = true := decide_eq_true c23
              clear c23
              by_cases c24 : 0 ≤ x40_3
              ·rw [if_pos c24] at H
               have c24b0 : decide (0 ≤ x40_3) = true := decide_eq_true c24
               clear c24
               by_cases c25 : x40_3 < (t355.length : Int)
               ·rw [if_pos c25] at H
                have c25b0 : decide (x40_3 < (t355.length : Int)) = true := decide_eq_true c25
                clear c25
                obtain ⟨ji26, hji26⟩ : ∃ j_ : Int, (wrap64 (x33_2 + x40_3)) = j_ := ⟨_, rfl⟩
                replace H : (if 0 ≤ (ji26) then (if (ji26) < (x7_3.length : Int) then (nat_Mul.l1 k3 t355 (x7_3.set ((ji26) : Int).toNat ((Go.bits .and .u64 (IntKind.u64.wrap (x10_3 + (IntKind.u64.wrap ((IntKind.u64.wrap ((IntKind.u64.wrap ((rd t352 x33_2))) * (IntKind.u64.wrap (rd t355 x40_3)))) + (IntKind.u64.wrap (rd x7_3 (ji26))))))) 4294967295) % 4294967296)) x33_2 (rd t352 x33_2) ((IntKind.u64.wrap (x10_3 + (IntKind.u64.wrap ((IntKind.u64.wrap ((IntKind.u64.wrap ((rd t352 x33_2))) * (IntKind.u64.wrap (rd t355 x40_3)))) + (IntKind.u64.wrap (rd x7_3 (ji26))))))) / 4294967296) t352 (t352.length : Int) x33_2 t355 (t355.length : Int) (wrap64 (x40_3 + 1))) else (none)) else (none)) = some r := by first | (rw [hji26] at H; exact H) | (simp only [hji26] at H ⊢; exact H)
                have hji26w : (IntKind.i64.wrap (x33_2 + x40_3)) = ji26 := (i64_w _).trans hji26
                by_cases c27 : 0 ≤ (ji26)
                ·rw [if_pos c27] at H
                 have c27b0 : decide (0 ≤ (ji26)) = true := decide_eq_true c27
                 clear c27
                 by_cases c28 : (ji26) < (x7_3.length : Int)
                 ·rw [if_pos c28] at H
                  have c28b0 : decide ((ji26) < (x7_3.length : Int)) = true := decide_eq_true c28
                  clear c28
                  obtain ⟨y367, hy367⟩ : ∃ y_ : List Int, y_ = (x7_3.set ((ji26) : Int).toNat ((Go.bits .and .u64 (IntKind.u64.wrap (x10_3 + (IntKind.u64.wrap ((IntKind.u64.wrap ((IntKind.u64.wrap ((rd t352 x33_2))) * (IntKind.u64.wrap (rd t355 x40_3)))) + (IntKind.u64.wrap (rd x7_3 (ji26))))))) 4294967295) % 4294967296)) := ⟨_, rfl⟩
                  replace H : (nat_Mul.l1 k3 t355 y367 x33_2 (rd t352 x33_2) ((IntKind.u64.wrap (x10_3 + (IntKind.u64.wrap ((IntKind.u64.wrap ((IntKind.u64.wrap ((rd t352 x33_2))) * (IntKind.u64.wrap (rd t355 x40_3)))) + (IntKind.u64.wrap (rd x7_3 (ji26))))))) / 4294967296) t352 (t352.length : Int) x33_2 t355 (t355.length : Int) (wrap64 (x40_3 + 1))) = some r := by first | (rw [hy367]; with_reducible exact H) | (have H2_ := (Option.bind_some _ _).symm.trans H; rw [hy367]; with_reducible exact H2_) | (have H2_ := (Option.bind_some _ _).symm.trans H; with_reducible exact H2_) | with_reducible exact H | (rw [hy367]; exact H) | exact H
                  have Ny367 := mk0 hy367
                  clear hy367
                  have H' := mk0 H
                  clear H
                  have p365 : 0 ≤ (x40_3 : Int) := of_decide_eq_true (by assumption)
                  have q365 : x40_3 < (t355.length : Int) := of_decide_eq_true (by assumption)
                  obtain ⟨ad365, e365, hx365_0⟩ := Kd.at_int (Kd.V_reads' HO_38.out).2.2 x40_3 p365 q365
                  cases e365
                  replace p365 := eq_true p365
                  replace q365 := eq_true q365
                  obtain ⟨Ao30, co30, eo30⟩ := Kd.R_slice HO_7.out
                  subst eo30
                  have p366 : 0 ≤ ((ji26) : Int) := of_decide_eq_true (by assumption)
                  have q366 : (ji26) < (x7_3.length : Int) := of_decide_eq_true (by assumption)
                  obtain ⟨ad366, e366, hx366_0⟩ := Kd.at_int (Kd.R_reads' HO_7.out).2.2 (ji26) p366 q366
                  cases e366
                  replace p366 := eq_true p366
                  replace q366 := eq_true q366
                  have p29 : 0 ≤ ((ji26) : Int) := of_decide_eq_true (by assumption)
                  have q29 : ((ji26) : Int) < ((x7_3.length : Int) : Int) := of_decide_eq_true (by assumption)
                  obtain ⟨go29, co29, eo29, gb29, gl29, cl29, HG29⟩ := Kd.R_form HO_7.out (by omega)
                  (first | cases eo29 | (injection eo29 with ea_ en_ ec_; (first | subst ea_ | (injection ea_ with ea_; subst ea_)); subst ec_; clear en_))
                  have GB29 := mk0 gb29
                  have GG29 := mk0 HG29
                  clear gb29 gl29 HG29
                  (first | simp only [add_plain] at hx366_0 | skip)
                  obtain ⟨hx29_0, hf29_0⟩ := Kd.R_celln 0 HO_7.out ((ji26) : Int) p29 q29
                  replace p29 := eq_true p29
                  replace q29 := eq_true q29
                  have HP31 := Kd.R_putg HO_7.out ((ji26) : Int) ((Go.bits .and .u64 (IntKind.u64.wrap (x10_3 + (IntKind.u64.wrap ((IntKind.u64.wrap ((IntKind.u64.wrap ((rd t352 x33_2))) * (IntKind.u64.wrap (rd t355 x40_3)))) + (IntKind.u64.wrap (rd x7_3 (ji26))))))) 4294967295) % 4294967296)
                  go_wp2_with (first | ((with_reducible refine gate_store (t := 87) (p := 67) rfl ?_); refine store_event (t := 87) (p := 67) (v := ?vo_w32) (w1 := (wr.setCell ⟨go29, ((ji26) : Int).toNat, none⟩ (.int .u32 ((Go.bits .and .u64 (IntKind.u64.wrap (x10_3 + (IntKind.u64.wrap ((IntKind.u64.wrap ((IntKind.u64.wrap ((rd t352 x33_2))) * (IntKind.u64.wrap (rd t355 x40_3)))) + (IntKind.u64.wrap (rd x7_3 (ji26))))))) 4294967295) % 4294967296)))) ?hg ?ho ?hn ?hr ?_; (case ho => rfl); (case hg => rfl); (case hn => rfl); (case hr => first | (go_simp; done) | (go_simp; rfl)); intro w32 hw; have hg : wr.grownBy w32 (some go29) := (by rw [hw]; exact HP31.2); have hp_ : Kd.R (Kd.int .u32) 87 w32 w.heap.size (fun k_ => (w.heap.size ≤ k_)) (.slice (some ⟨go29, 0, none⟩) x7_3.length co30) y367 := (by rw [hw, Ny367.out]; exact HP31.1); clear HP31; replace HO_6 := mk0 (Kd.V_afterv (v := (.slice (some ⟨go29, 0, none⟩) x7_3.length co30)) (v1 := (.slice (some ⟨go29, 0, none⟩) x7_3.length co30)) (ok := (fun k_ => ((P0_ k_ ∨ P1_ k_) ∨ w.heap.size ≤ k_))) HO_6.out hg (.inl rfl)); replace HO_7 := mk0 (hp_); replace HO_31 := mk0 (Kd.V_afterv (v := (.slice (some ⟨go29, 0, none⟩) x7_3.length co30)) (v1 := (.slice (some ⟨go29, 0, none⟩) x7_3.length co30)) (ok := (fun k_ => ((P0_ k_ ∨ P1_ k_) ∨ w.heap.size ≤ k_))) HO_31.out hg (.inl rfl)); replace HO_38 := mk0 (Kd.V_afterv (v := (.slice (some ⟨go29, 0, none⟩) x7_3.length co30)) (v1 := (.slice (some ⟨go29, 0, none⟩) x7_3.length co30)) (ok := (fun k_ => ((P0_ k_ ∨ P1_ k_) ∨ w.heap.size ≤ k_))) HO_38.out hg (.inl rfl)); replace HB := mk0 ((by rw [hw]; exact below_set (HB.out) GB29.out : Below w.heap.size w w32)); clear hg hw hp_))
                  go_roundg k3
                  case measure => have := HJ4.out; have := HK2.out; have := HK3.out; omega
                  case rel => exact ⟨(y367), ((IntKind.u64.wrap (x10_3 + (IntKind.u64.wrap ((IntKind.u64.wrap ((IntKind.u64.wrap ((rd t352 x33_2))) * (IntKind.u64.wrap (rd t355 x40_3)))) + (IntKind.u64.wrap (rd x7_3 (ji26))))))) / 4294967296), (wrap64 (x40_3 + 1)), (by first | rfl | (simp; done) | (simp only [← hji26] <;> (first | rfl | simp)) | (simp [*]; done)), (by first | rfl | (simp; done) | (simp [*]; done)), H', ⟨by have := HJ4.out; have := HK2.out; have := HK3.out; omega⟩, ⟨HO_6.out⟩, ⟨HO_7.out⟩, ⟨HO_31.out⟩, ⟨HO_38.out⟩, ⟨HB.out⟩⟩
                 ·rw [if_neg c28] at H
                  exact absurd H (by simp)
                ·rw [if_neg c27] at H
                 exact absurd H (by simp)
               ·rw [if_neg c25] at H
                exact absurd H (by simp)
              ·rw [if_neg c24] at H
               exact absurd H (by simp)
             ·rw [if_neg c23] at H
              have c23b0 : decide (x40_3 < (t355.length : Int)) = false := decide_eq_false c23
              clear c23
              obtain ⟨ji33, hji33⟩ : ∃ j_ : Int, (wrap64 (x33_2 + (t355.length : Int))) = j_ := ⟨_, rfl⟩
              replace H : (if 0 ≤ (ji33) then (if (ji33) < (x7_3.length : Int) then (nat_Mul.l0 k3 t355 (x7_3.set ((ji33) : Int).toNat ((x10_3) % 4294967296)) t352 (t352.length : Int) (wrap64 (x33_2 + 1))) else (none)) else (none)) = some r := by first | (rw [hji33] at H; exact H) | (simp only [hji33] at H ⊢; exact H)
              have hji33w : (IntKind.i64.wrap (x33_2 + (t355.length : Int))) = ji33 := (i64_w _).trans hji33
              by_cases c34 : 0 ≤ (ji33)
              ·rw [if_pos c34] at H
               have c34b0 : decide (0 ≤ (ji33)) = true := decide_eq_true c34
               clear c34
               by_cases c35 : (ji33) < (x7_3.length : Int)
               ·rw [if_pos c35] at H
                have c35b0 : decide ((ji33) < (x7_3.length : Int)) = true := decide_eq_true c35
                clear c35
                obtain ⟨y368, hy368⟩ : ∃ y_ : List Int, y_ = (x7_3.set ((ji33) : Int).toNat ((x10_3) % 4294967296)) := ⟨_, rfl⟩
                replace H : (nat_Mul.l0 k3 t355 y368 t352 (t352.length : Int) (wrap64 (x33_2 + 1))) = some r := by first | (rw [hy368]; with_reducible exact H) | (have H2_ := (Option.bind_some _ _).symm.trans H; rw [hy368]; with_reducible exact H2_) | (have H2_ := (Option.bind_some _ _).symm.trans H; with_reducible exact H2_) | with_reducible exact H | (rw [hy368]; exact H) | exact H
                have Ny368 := mk0 hy368
                clear hy368
                have H' := mk0 H
                clear H
                have p36 : 0 ≤ ((ji33) : Int) := of_decide_eq_true (by assumption)
                have q36 : ((ji33) : Int) < ((x7_3.length : Int) : Int) := of_decide_eq_true (by assumption)
                obtain ⟨go36, co36, eo36, gb36, gl36, cl36, HG36⟩ := Kd.R_form HO_7.out (by omega)
                (first | cases eo36 | (injection eo36 with ea_ en_ ec_; (first | subst ea_ | (injection ea_ with ea_; subst ea_)); subst ec_; clear en_))
                have GB36 := mk0 gb36
                have GG36 := mk0 HG36
                clear gb36 gl36 HG36
                obtain ⟨hx36_0, hf36_0⟩ := Kd.R_celln 0 HO_7.out ((ji33) : Int) p36 q36
                replace p36 := eq_true p36
                replace q36 := eq_true q36
                have HP37 := Kd.R_putg HO_7.out ((ji33) : Int) ((x10_3) % 4294967296)
                go_wp2_with (first | ((with_reducible refine gate_store (t := 87) (p := 78) rfl ?_); refine store_event (t := 87) (p := 78) (v := ?vo_w38) (w1 := (wr.setCell ⟨go36, ((ji33) : Int).toNat, none⟩ (.int .u32 ((x10_3) % 4294967296)))) ?hg ?ho ?hn ?hr ?_; (case ho => rfl); (case hg => rfl); (case hn => rfl); (case hr => first | (go_simp; done) | (go_simp; rfl)); intro w38 hw; have hg : wr.grownBy w38 (some go36) := (by rw [hw]; exact HP37.2); have hp_ : Kd.R (Kd.int .u32) 87 w38 w.heap.size (fun k_ => (w.heap.size ≤ k_)) (.slice (some ⟨go36, 0, none⟩) x7_3.length co36) y368 := (by rw [hw, Ny368.out]; exact HP37.1); clear HP37; replace HO_6 := mk0 (Kd.V_afterv (v := (.slice (some ⟨go36, 0, none⟩) x7_3.length co36)) (v1 := (.slice (some ⟨go36, 0, none⟩) x7_3.length co36)) (ok := (fun k_ => ((P0_ k_ ∨ P1_ k_) ∨ w.heap.size ≤ k_))) HO_6.out hg (.inl rfl)); replace HO_7 := mk0 (hp_); replace HO_31 := mk0 (Kd.V_afterv (v := (.slice (some ⟨go36, 0, none⟩) x7_3.length co36)) (v1 := (.slice (some ⟨go36, 0, none⟩) x7_3.length co36)) (ok := (fun k_ => ((P0_ k_ ∨ P1_ k_) ∨ w.heap.size ≤ k_))) HO_31.out hg (.inl rfl)); replace HO_38 := mk0 (Kd.V_afterv (v := (.slice (some ⟨go36, 0, none⟩) x7_3.length co36)) (v1 := (.slice (some ⟨go36, 0, none⟩) x7_3.length co36)) (ok := (fun k_ => ((P0_ k_ ∨ P1_ k_) ∨ w.heap.size ≤ k_))) HO_38.out hg (.inl rfl)); replace HB := mk0 ((by rw [hw]; exact below_set (HB.out) GB36.out : Below w.heap.size w w38)); clear hg hw hp_))
                go_roundg k3
                case measure => have := HJ4.out; have := HK2.out; have := HK3.out; omega
                case rel => exact ⟨(y368), (wrap64 (x33_2 + 1)), (by first | rfl | (simp; done) | (simp [*]; done)), H', ⟨by have := HJ4.out; have := HK2.out; have := HK3.out; omega⟩, ⟨HO_6.out⟩, ⟨HO_7.out⟩, ⟨HO_31.out⟩, ⟨HB.out⟩⟩
               ·rw [if_neg c35] at H
                exact absurd H (by simp)
              ·rw [if_neg c34] at H
               exact absurd H (by simp)
          ·rw [if_neg c22] at H
           exact absurd H (by simp)
         ·rw [if_neg c21] at H
          exact absurd H (by simp)
        ·rw [if_neg c20] at H
         have c20b0 : decide (x33_2 < (t352.length : Int)) = false := decide_eq_false c20
         clear c20
         obtain ⟨t361, A39, H⟩ := bindA H
         obtain rfl := Option.some.inj H
         obtain ⟨Ao40, co40, eo40⟩ := Kd.R_slice HO_7.out
         subst eo40
         go_wp2_with (first | ((with_reducible refine gate_callee (f := 81) rfl ?_); refine goesL_ (some 81) rfl rfl Try.func81 (by kernel_rfl) rfl #[.slice Ao40 x7_2.length co40] rfl (by first | (go_simp; done) | (go_simp; rfl)) ?_; (with_reducible refine (nat_trim.calls k2 (fun k_ => some k_ = (.slice Ao40 x7_2.length co40 : Value).ownBlock) _ _ x7_2 t361 _ (by exact Kd.R_V (Kd.R_tight rfl (HO_7.out))) A39.out).mono ?_); rintro e w41 ⟨v362, rfl, ho0, hb⟩; refine ⟨_, rfl, ?_⟩; replace HO_6 := mk0 (Kd.V_below HO_6.out hb); replace HO_31 := mk0 (Kd.V_below HO_31.out hb); have HO363 := mk0 (Kd.V_lower (Kd.V_mono (ok' := fun k_ => ((P0_ k_ ∨ P1_ k_) ∨ w.heap.size ≤ k_)) ho0 (fun k_ hk_ => Or.elim hk_ (fun hs_ => (.inr (((HO_7.out).1 k_ hs_.symm)))) (fun hn_ => (.inr (Nat.le_trans (below_size HB.out) hn_))))) (below_size HB.out)); replace HO_7 := rB HO_7 hb; replace HB := hbS HB hb))
         go_ret
         exact ⟨_, by first | rfl | (simp [errW_none, errW_some] <;> rfl) | (simp only [← hji13]; first | rfl | (simp [errW_none, errW_some] <;> rfl)) | (simp [*, errW_none, errW_some] <;> rfl), HO363.out, HB.out⟩
     ·rw [if_neg c15] at H
      exact absurd H (by simp)
    ·rw [if_neg c14] at H
     exact absurd H (by simp)
def integer_Mul.T1 : Bool × List (List Nat × List Nat) := (true, [([], []), ([0], [0]), ([], []), ([2], [2]), ([1, 3], [1, 3]), ([], []), ([5], [5]), ([], []), ([7], [7]), ([6, 8], [6, 8]), ([4, 9, 9], [4, 9]), ([10, 10, 0, 1, 2, 3, 4, 5, 6, 7, 8, 9, 10], [10])])
def integer_Mul.B1 : List Nat := [0, 1, 0, 4, 15, 0, 32, 0, 128, 480, 1023, 2047]
theorem integer_Mul.tab1 : rtab .any (opsOf Try.f52 1) = integer_Mul.T1 := by kernel_rfl
theorem integer_Mul.bits1 : waitsOk integer_Mul.T1.2 integer_Mul.B1 = true := by kernel_rfl
set_option maxHeartbeats 8000000 in
set_option maxRecDepth 100000 in
theorem integer_Mul.calls (k : Nat) (a0_0 : Bool) (A0_1 : Option Addr) (c0_1 : Nat) (l0_1 : List Int) (a1_0 : Bool) (A1_1 : Option Addr) (c1_1 : Nat) (l1_1 : List Int) (r1 : Bool) (r2 : List Int) (w : World) (hr0_1 : Kd.C (Kd.int .u32) w A0_1 l0_1.length l0_1) (hc0_1 : l0_1.length ≤ c0_1) (hr1_1 : Kd.C (Kd.int .u32) w A1_1 l1_1.length l1_1) (hc1_1 : l1_1.length ≤ c1_1) (h : integer_Mul.f k a0_0 l0_1 a1_0 l1_1 = some (r1, r2)) :
  Calls Try.prog 52 #[.agg #[.bool a0_0, .slice A0_1 l0_1.length c0_1], .agg #[.bool a1_0, .slice A1_1 l1_1.length c1_1]] w fun e w' => ∃ v1_ : Value, e = .returned (.agg #[.bool r1, v1_]) ∧ Kd.R (Kd.int .u32) 87 w' w.heap.size (fun _ => True) v1_ r2 ∧ Below w.heap.size w w' := by
 have hu27 := Try.underlying27
 have HR0_1 := mk0 hr0_1
 have HC0_1 := mk0 hc0_1
 clear hr0_1 hc0_1
 have HR1_1 := mk0 hr1_1
 have HC1_1 := mk0 hc1_1
 clear hr1_1 hc1_1
 have HB := mk0 (Below.refl w.heap.size w)
 have H : ((nat_Mul.f k l0_1 l1_1).bind fun t372 => ((integer_Make.f k (a0_0 != a1_0) t372).bind fun bt375 => (some (bt375.1, bt375.2)))) = some (r1, r2) := h
 clear h
 obtain ⟨t372, A3, H⟩ := bindA H
 obtain ⟨⟨t375, t376⟩, A4, H⟩ := bindA H
 simp only [Option.some.injEq, Prod.mk.injEq] at H
 obtain ⟨rfl, rfl⟩ := H
 go_enter Try.func52, Try.ntmps52
 try go_wp2_with (first | ((with_reducible refine gate_dst (N := 2) rfl ?_); refine box_event rfl (N := 2) rfl (cs := #[.bool a0_0, .slice A0_1 l0_1.length c0_1]) (t := 27) (by first | (go_simp; done) | (go_simp; rfl)) ?_; intro gb369 hg w5 hbox hb; have BK369 := mk0 (hbox); have GW369 := geB hg HB; have GE369 := geB hg HB; replace HB := hbS HB hb; clear hb hbox hg) | ((with_reducible refine gate_dst (N := 3) rfl ?_); refine box_event rfl (N := 3) rfl (cs := #[.bool a1_0, .slice A1_1 l1_1.length c1_1]) (t := 27) (by first | (go_simp; done) | (go_simp; rfl)) ?_; intro gb370 hg w6 hbox hb; have BK370 := mk0 (hbox); have GW370 := geB hg HB; have GE370 := geB hg HB; replace HB := hbS HB hb; replace BK369 := bkB BK369 hb; clear hb hbox hg) | ((with_reducible refine gate_dst (N := 4) rfl ?_); refine box_event rfl (N := 4) rfl (cs := #[.bool false, .slice none 0 0]) (t := 27) (by first | (go_simp; done) | (go_simp; rfl)) ?_; intro gb371 hg w7 hbox hb; have BK371 := mk0 (hbox); have GW371 := geB hg HB; have GE371 := geB hg HB; replace HB := hbS HB hb; have NB369_371 := nbA hg BK369; have NB371_369 := nbB hg BK369; replace BK369 := bkB BK369 hb; have NB370_371 := nbA hg BK370; have NB371_370 := nbB hg BK370; replace BK370 := bkB BK370 hb; clear hb hbox hg))
 replace BK369 := mk0 (blk_drew BK369.out)
 replace BK370 := mk0 (blk_drew BK370.out)
 replace BK371 := mk0 (blk_drew BK371.out)
 replace HB := mk0 (below_drew1 HB.out)
 refine start_ (n := 12) (S := fun w' => w'.cell? ⟨gb369, 0, none⟩ = some (.bool a0_0) ∧ w'.cell? ⟨gb369, 1, none⟩ = some (.slice A0_1 l0_1.length c0_1) ∧ w'.cell? ⟨gb370, 0, none⟩ = some (.bool a1_0) ∧ w'.cell? ⟨gb370, 1, none⟩ = some (.slice A1_1 l1_1.length c1_1)) (ds := []) (bv 12 0) (by kernel_rfl) rfl rfl ⟨(blk_cell BK369.out 0).trans rfl, (blk_cell BK369.out 1).trans rfl, (blk_cell BK370.out 0).trans rfl, (blk_cell BK370.out 1).trans rfl⟩ (fun hHeld => ?_); refine with_tabW integer_Mul.tab1 integer_Mul.bits1 (fun HT_ HW_ => ?_)
 generalize w7.drew = w8 at BK369 BK370 BK371 HB hHeld ⊢
 refine pure_ (i := 0) (N := some 5) (v := ?_) (a' := ?_) (bv 12 1) rfl rfl (any_of HT_.out (by kernel_rfl)) (fun _ _ _ h => h) (Or.inl ⟨by rfl, ?_⟩) ?_ ?_; rotate_left; (intro w'; go_simp; with_reducible rfl); rotate_left; (simp only [Act.put, List.setIfInBounds_toArray, List.set_cons_zero, List.set_cons_succ, i64_w, i32_w]; rfl)
 refine pure_ (i := 2) (N := some 7) (v := ?_) (a' := ?_) (bv 12 5) rfl rfl (any_of HT_.out (by kernel_rfl)) (fun _ _ _ h => h) (Or.inl ⟨by rfl, ?_⟩) ?_ ?_; rotate_left; (intro w'; go_simp; with_reducible rfl); rotate_left; (simp only [Act.put, List.setIfInBounds_toArray, List.set_cons_zero, List.set_cons_succ, i64_w, i32_w]; rfl)
 refine pure_ (i := 5) (N := some 10) (v := ?_) (a' := ?_) (bv 12 37) rfl rfl (any_of HT_.out (by kernel_rfl)) (fun _ _ _ h => h) (Or.inl ⟨by rfl, ?_⟩) ?_ ?_; rotate_left; (intro w'; go_simp; with_reducible rfl); rotate_left; (simp only [Act.put, List.setIfInBounds_toArray, List.set_cons_zero, List.set_cons_succ, i64_w, i32_w]; rfl)
 refine pure_ (i := 7) (N := some 12) (v := ?_) (a' := ?_) (bv 12 165) rfl rfl (any_of HT_.out (by kernel_rfl)) (fun _ _ _ h => h) (Or.inl ⟨by rfl, ?_⟩) ?_ ?_; rotate_left; (intro w'; go_simp; with_reducible rfl); rotate_left; (simp only [Act.put, List.setIfInBounds_toArray, List.set_cons_zero, List.set_cons_succ, i64_w, i32_w]; rfl)
 refine take_ (i := 1) (N := some 6) (v := ?_) (a' := ?_) (bv 12 167) rfl rfl (take_ofW HT_.out HW_.out (by kernel_rfl)) (fun _ _ _ h => h) (Or.inl ⟨by rfl, ?_⟩) hHeld ?_ ?_; rotate_left; (rintro w' ⟨s0, s1, s2, s3⟩; go_simp; with_reducible rfl); rotate_left; (simp only [Act.put, List.setIfInBounds_toArray, List.set_cons_zero, List.set_cons_succ, i64_w, i32_w]; rfl)
 refine take_ (i := 3) (N := some 8) (v := ?_) (a' := ?_) (bv 12 175) rfl rfl (take_ofW HT_.out HW_.out (by kernel_rfl)) (fun _ _ _ h => h) (Or.inl ⟨by rfl, ?_⟩) hHeld ?_ ?_; rotate_left; (rintro w' ⟨s0, s1, s2, s3⟩; go_simp; with_reducible rfl); rotate_left; (simp only [Act.put, List.setIfInBounds_toArray, List.set_cons_zero, List.set_cons_succ, i64_w, i32_w]; rfl)
 refine pure_ (i := 4) (N := some 9) (v := ?_) (a' := ?_) (bv 12 191) rfl rfl (any_of HT_.out (by kernel_rfl)) (fun _ _ _ h => h) (Or.inl ⟨by rfl, ?_⟩) ?_ ?_; rotate_left; (intro w'; go_simp; with_reducible rfl); rotate_left; (simp only [Act.put, List.setIfInBounds_toArray, List.set_cons_zero, List.set_cons_succ, i64_w, i32_w]; rfl)
 refine take_ (i := 6) (N := some 11) (v := ?_) (a' := ?_) (bv 12 255) rfl rfl (take_ofW HT_.out HW_.out (by kernel_rfl)) (fun _ _ _ h => h) (Or.inl ⟨by rfl, ?_⟩) hHeld ?_ ?_; rotate_left; (rintro w' ⟨s0, s1, s2, s3⟩; go_simp; with_reducible rfl); rotate_left; (simp only [Act.put, List.setIfInBounds_toArray, List.set_cons_zero, List.set_cons_succ, i64_w, i32_w]; rfl)
 refine take_ (i := 8) (N := some 13) (v := ?_) (a' := ?_) (bv 12 511) rfl rfl (take_ofW HT_.out HW_.out (by kernel_rfl)) (fun _ _ _ h => h) (Or.inl ⟨by rfl, ?_⟩) hHeld ?_ ?_; rotate_left; (rintro w' ⟨s0, s1, s2, s3⟩; go_simp; with_reducible rfl); rotate_left; (simp only [Act.put, List.setIfInBounds_toArray, List.set_cons_zero, List.set_cons_succ, i64_w, i32_w]; rfl)
 refine one_ (i := 9) (N := some 14) (bv 12 1023) rfl rfl (one_of HT_.out (by kernel_rfl)) (by decide) (fun K hK => ?_)
 refine goes_ Try.func54 (by kernel_rfl) rfl #[.slice A0_1 l0_1.length c0_1, .slice A1_1 l1_1.length c1_1] (by rfl) rfl rfl (by (try simp only [List.map_toArray, List.map_cons, List.map_nil]); first | done | rfl | (simp only [List.length_drop, List.length_take]; rfl)) ?_
 with_reducible refine (nat_Mul.calls k (fun k_ => k_ < w.heap.size) _ _ l0_1 (fun k_ => k_ < w.heap.size) _ _ l1_1 t372 _ ?side1 ?side2 A3.out).mono ?_
 (case side1 => exact Kd.V_mk HC0_1.out (Kd.F_below (Kd.C_F (Kd.heap_int .u32) HR0_1.out) (by repeat (first | exact HB.out | refine below_set ?_ GE369.out | refine below_set ?_ GE370.out | refine below_set ?_ GE371.out))))
 (case side2 => exact Kd.V_mk HC1_1.out (Kd.F_below (Kd.C_F (Kd.heap_int .u32) HR1_1.out) (by repeat (first | exact HB.out | refine below_set ?_ GE369.out | refine below_set ?_ GE370.out | refine below_set ?_ GE371.out))))
 rintro e w9 ⟨v373, rfl, ho0, hb⟩
 refine ⟨_, rfl, ?_⟩
 have HO374 := mk0 (Kd.V_lower (Kd.V_mono (ok' := fun k_ => k_ ≠ gb369 ∧ k_ ≠ gb370 ∧ k_ ≠ gb371) ho0 (fun k_ hk_ => ⟨Or.elim hk_ (fun hs_ => Or.elim hs_ (fun hs_ => fun e_ => Nat.not_le.2 hs_ (by rw [e_]; exact GW369.out)) (fun hs_ => fun e_ => Nat.not_le.2 hs_ (by rw [e_]; exact GW369.out))) (fun hn_ => (Kd.freshB BK369.out k_ hn_)), Or.elim hk_ (fun hs_ => Or.elim hs_ (fun hs_ => fun e_ => Nat.not_le.2 hs_ (by rw [e_]; exact GW370.out)) (fun hs_ => fun e_ => Nat.not_le.2 hs_ (by rw [e_]; exact GW370.out))) (fun hn_ => (Kd.freshB BK370.out k_ hn_)), Or.elim hk_ (fun hs_ => Or.elim hs_ (fun hs_ => fun e_ => Nat.not_le.2 hs_ (by rw [e_]; exact GW371.out)) (fun hs_ => fun e_ => Nat.not_le.2 hs_ (by rw [e_]; exact GW371.out))) (fun hn_ => (Kd.freshB BK371.out k_ hn_))⟩)) (below_size (by repeat (first | exact HB.out | refine below_set ?_ GE369.out | refine below_set ?_ GE370.out | refine below_set ?_ GE371.out))))
 replace BK369 := bkB BK369 hb
 replace BK370 := bkB BK370 hb
 replace BK371 := bkB BK371 hb
 replace HB := mk0 (below_step (by repeat (first | exact HB.out | refine below_set ?_ GE369.out | refine below_set ?_ GE370.out | refine below_set ?_ GE371.out)) hb)
 obtain ⟨Ao10, co10, eo10⟩ := Kd.V_slice HO374.out
 (first | subst eo10 | (injection eo10 with f1_ f2_ f3_; have f4_ := f1_.symm; have f5_ := f3_.symm; clear f1_ f2_ f3_; subst f4_; subst f5_))
 refine hK.out _ _ ⟨(blk_cell BK369.out 0).trans rfl, (blk_cell BK369.out 1).trans rfl, (blk_cell BK370.out 0).trans rfl, (blk_cell BK370.out 1).trans rfl⟩ (fun hHeld => ?_)
 clear hK K
 refine norm_ (a' := ?_) ?_ ?_
 rotate_left
 ·show Act.put _ (some 14) _ = _
  simp only [Act.put, List.setIfInBounds_toArray, List.set_cons_zero, List.set_cons_succ, i64_w, i32_w]
  rfl
 refine one_ (i := 10) (N := some 15) (bv 12 2047) rfl rfl (one_of HT_.out (by kernel_rfl)) (by decide) (fun K hK => ?_)
 refine goes_ Try.func78 (by kernel_rfl) rfl #[.bool (a0_0 != a1_0), .slice Ao10 t372.length co10] (by rfl) rfl rfl (by (try simp only [List.map_toArray, List.map_cons, List.map_nil]); first | done | rfl | (simp only [List.length_drop, List.length_take]; rfl)) ?_
 with_reducible refine (integer_Make.calls k (a0_0 != a1_0) _ _ t372 t375 t376 _ ?side1 ?side2 A4.out).mono ?_
 (case side1 => repeat (first | exact (Kd.V_reads' HO374.out).2.2 | (with_reducible refine Kd.C_alloc ?_ _) | (with_reducible refine Kd.C_drewN ?_ _) | (with_reducible refine Kd.C_drew ?_)))
 (case side2 => exact (Kd.V_reads' HO374.out).2.1)
 rintro e w11 ⟨v377, rfl, ho0, hb⟩
 refine ⟨_, rfl, ?_⟩
 replace HO374 := mk0 (Kd.V_elder' HO374.out (Kd.R_base ho0) hb)
 have HO378 := mk0 (Kd.R_lower ho0 (below_size (by repeat (first | exact HB.out | refine below_set ?_ GE369.out | refine below_set ?_ GE370.out | refine below_set ?_ GE371.out))))
 replace BK369 := bkB BK369 hb
 replace BK370 := bkB BK370 hb
 replace BK371 := bkB BK371 hb
 replace HB := mk0 (below_step (by repeat (first | exact HB.out | refine below_set ?_ GE369.out | refine below_set ?_ GE370.out | refine below_set ?_ GE371.out)) hb)
 obtain ⟨Ao13, co13, eo13⟩ := Kd.R_slice HO378.out
 (first | subst eo13 | (injection eo13 with f1_ f2_ f3_; have f4_ := f1_.symm; have f5_ := f3_.symm; clear f1_ f2_ f3_; subst f4_; subst f5_))
 refine hK.out _ _ ⟨(blk_cell BK369.out 0).trans rfl, (blk_cell BK369.out 1).trans rfl, (blk_cell BK370.out 0).trans rfl, (blk_cell BK370.out 1).trans rfl⟩ (fun hHeld => ?_)
 clear hK K
 refine norm_ (a' := ?_) ?_ ?_
 rotate_left
 ·show Act.put _ (some 15) _ = _
  simp only [Act.put, List.setIfInBounds_toArray, List.set_cons_zero, List.set_cons_succ, i64_w, i32_w]
  rfl
 refine one_ (i := 11) (N := none) (bv 12 4095) rfl rfl (one_of HT_.out (by kernel_rfl)) (by decide) (fun K hK => ?_)
 have hs12 : w11.cell? ⟨gb371, 0, none⟩ = some (.bool false) := (blk_cell BK371.out 0).trans rfl
 have hfs12 := blk_frozen BK371.out 0
 have hns12_0 := NB369_371.out
 have hns12_1 := NB370_371.out
 have hms12_0 := NB371_369.out
 have hms12_1 := NB371_370.out
 have hs14 : w11.cell? ⟨gb371, 1, none⟩ = some (.slice none 0 0) := (blk_cell BK371.out 1).trans rfl
 have hfs14 := blk_frozen BK371.out 1
 have hns14_0 := NB369_371.out
 have hns14_1 := NB370_371.out
 have hms14_0 := NB371_369.out
 have hms14_1 := NB371_370.out
 refine skip_ (w1 := ?_) (by rfl) rfl ?_ ?_
 rotate_left
 ·go_simp
  rfl
 refine hK.out _ _ ⟨((cell_far (p := ⟨gb371, _, none⟩) NB369_371.out _).trans (((cell_far (p := ⟨gb371, _, none⟩) NB369_371.out _).trans (hHeld.1)))), ((cell_far (p := ⟨gb371, _, none⟩) NB369_371.out _).trans (((cell_far (p := ⟨gb371, _, none⟩) NB369_371.out _).trans (hHeld.2.1)))), ((cell_far (p := ⟨gb371, _, none⟩) NB370_371.out _).trans (((cell_far (p := ⟨gb371, _, none⟩) NB370_371.out _).trans (hHeld.2.2.1)))), ((cell_far (p := ⟨gb371, _, none⟩) NB370_371.out _).trans (((cell_far (p := ⟨gb371, _, none⟩) NB370_371.out _).trans (hHeld.2.2.2))))⟩ (fun hHeld => ?_)
 clear hK K
 refine done_ (done_of HT_.out (by kernel_rfl)) ?_
 try go_wp2
 refine bodyPost_ret (results_cell_row rfl _ _ gb371 27 #[.bool t375, .slice Ao13 t376.length co13] (0, 0) _ rfl (by refine blk_put (cs := #[.bool t375, .slice none 0 0]) ?_ 1 _ rfl; refine blk_put (cs := #[.bool false, .slice none 0 0]) ?_ 0 _ rfl; exact BK371.out) Try.underlying27 rfl (by kernel_rfl)) rfl ?_
 exact ⟨_, by first | rfl | (simp [errW_none, errW_some] <;> rfl) | (simp [*, errW_none, errW_some] <;> rfl), Kd.R_mono (Kd.R_far (p := ⟨gb371, 1, none⟩) (Kd.R_far (p := ⟨gb371, 0, none⟩) (Kd.R_types HO378.out BK371.out (by decide)) (fun _ hk => hk.2) (.bool t375)) (fun _ hk => hk.2) (.slice Ao13 t376.length co13)) (fun _ hk => trivial), by repeat (first | exact HB.out | refine below_set ?_ GE369.out | refine below_set ?_ GE370.out | refine below_set ?_ GE371.out)⟩
def ratio_Cmp.T3 : Bool × List (List Nat × List Nat) := (true, [([], []), ([], []), ([0, 1], [0, 1]), ([], []), ([], []), ([3, 4, 2], [3, 4]), ([2, 5, 5], [2, 5]), ([6, 6, 0, 1, 2, 3, 4, 5, 6], [6])])
def ratio_Cmp.B3 : List Nat := [0, 0, 3, 0, 0, 31, 63, 127]
theorem ratio_Cmp.tab3 : rtab .any (opsOf Try.f26 3) = ratio_Cmp.T3 := by kernel_rfl
theorem ratio_Cmp.bits3 : waitsOk ratio_Cmp.T3.2 ratio_Cmp.B3 = true := by kernel_rfl
set_option maxHeartbeats 8000000 in
set_option maxRecDepth 100000 in
theorem ratio_Cmp.calls (k : Nat) (a0_0 : Bool) (A0_1 : Option Addr) (c0_1 : Nat) (l0_1 : List Int) (A0_2 : Option Addr) (c0_2 : Nat) (l0_2 : List Int) (a1_0 : Bool) (A1_1 : Option Addr) (c1_1 : Nat) (l1_1 : List Int) (A1_2 : Option Addr) (c1_2 : Nat) (l1_2 : List Int) (r : Int) (w : World) (hr0_1 : Kd.C (Kd.int .u32) w A0_1 l0_1.length l0_1) (hc0_1 : l0_1.length ≤ c0_1) (hr0_2 : Kd.C (Kd.int .u32) w A0_2 l0_2.length l0_2) (hc0_2 : l0_2.length ≤ c0_2) (hr1_1 : Kd.C (Kd.int .u32) w A1_1 l1_1.length l1_1) (hc1_1 : l1_1.length ≤ c1_1) (hr1_2 : Kd.C (Kd.int .u32) w A1_2 l1_2.length l1_2) (hc1_2 : l1_2.length ≤ c1_2) (h : ratio_Cmp.f k a0_0 l0_1 l0_2 a1_0 l1_1 l1_2 = some r) :
  Calls Try.prog 26 #[.agg #[.bool a0_0, .slice A0_1 l0_1.length c0_1, .slice A0_2 l0_2.length c0_2], .agg #[.bool a1_0, .slice A1_1 l1_1.length c1_1, .slice A1_2 l1_2.length c1_2]] w fun e w' => e = .returned (.int .i64 r) ∧ Below w.heap.size w w' := by
 have hu29 := Try.underlying29
 have hu27 := Try.underlying27
 have HR0_1 := mk0 hr0_1
 have HC0_1 := mk0 hc0_1
 clear hr0_1 hc0_1
 have HR0_2 := mk0 hr0_2
 have HC0_2 := mk0 hc0_2
 clear hr0_2 hc0_2
 have HR1_1 := mk0 hr1_1
 have HC1_1 := mk0 hc1_1
 clear hr1_1 hc1_1
 have HR1_2 := mk0 hr1_2
 have HC1_2 := mk0 hc1_2
 clear hr1_2 hc1_2
 have HB := mk0 (Below.refl w.heap.size w)
 have H : ((ratio_parts.f k a0_0 l0_1 l0_2).bind fun bt381 => ((ratio_parts.f k a1_0 l1_1 l1_2).bind fun bt391 => ((integer_Mul.f k bt381.1 bt381.2.1 bt391.2.2.1 bt391.2.2.2).bind fun bt401 => ((integer_Mul.f k bt391.1 bt391.2.1 bt381.2.2.1 bt381.2.2.2).bind fun bt405 => ((integer_Cmp.f k bt401.1 bt401.2 bt405.1 bt405.2).bind fun t409 => (some t409)))))) = some r := h
 clear h
 obtain ⟨⟨t381, t382, t385, t386⟩, A3, H⟩ := bindA H
 obtain ⟨⟨t391, t392, t395, t396⟩, A4, H⟩ := bindA H
 obtain ⟨⟨t401, t402⟩, A5, H⟩ := bindA H
 obtain ⟨⟨t405, t406⟩, A6, H⟩ := bindA H
 obtain ⟨t409, A7, H⟩ := bindA H
 obtain rfl := Option.some.inj H
 go_enter Try.func26, Try.ntmps26
 try go_wp2_with (first | ((with_reducible refine gate_dst (N := 2) rfl ?_); refine box_event rfl (N := 2) rfl (cs := #[.bool a0_0, .slice A0_1 l0_1.length c0_1, .slice A0_2 l0_2.length c0_2]) (t := 29) (by first | (go_simp; done) | (go_simp; rfl)) ?_; intro gb379 hg w8 hbox hb; have BK379 := mk0 (hbox); have GW379 := geB hg HB; have GE379 := geB hg HB; replace HB := hbS HB hb; clear hb hbox hg) | ((with_reducible refine gate_dst (N := 3) rfl ?_); refine box_event rfl (N := 3) rfl (cs := #[.bool a1_0, .slice A1_1 l1_1.length c1_1, .slice A1_2 l1_2.length c1_2]) (t := 29) (by first | (go_simp; done) | (go_simp; rfl)) ?_; intro gb380 hg w9 hbox hb; have BK380 := mk0 (hbox); have GW380 := geB hg HB; have GE380 := geB hg HB; replace HB := hbS HB hb; have NB379_380 := nbA hg BK379; have NB380_379 := nbB hg BK379; replace BK379 := bkB BK379 hb; clear hb hbox hg; have hnb10 := NB379_380.out; have hnc10 := NB380_379.out; have hcz11_0 : w9.cell? ⟨gb379, 0, none⟩ = some (.bool a0_0) := (blk_cell BK379.out 0).trans rfl; have hcz11_1 : w9.cell? ⟨gb379, 1, none⟩ = some (.slice A0_1 l0_1.length c0_1) := (blk_cell BK379.out 1).trans rfl; have hcz11_2 : w9.cell? ⟨gb379, 2, none⟩ = some (.slice A0_2 l0_2.length c0_2) := (blk_cell BK379.out 2).trans rfl; have hfz11_0 := blk_frozen BK379.out 0; have hfz11_1 := blk_frozen BK379.out 1; have hfz11_2 := blk_frozen BK379.out 2) | ((with_reducible refine gate_callee (f := 36) rfl ?_); refine goesL_ (some 11) rfl rfl Try.func36 (by kernel_rfl) rfl #[.agg #[.bool a0_0, .slice A0_1 l0_1.length c0_1, .slice A0_2 l0_2.length c0_2]] rfl (by first | (go_simp; done) | (go_simp; rfl)) ?_; (with_reducible refine (ratio_parts.calls k a0_0 (fun k_ => k_ < w.heap.size) _ _ l0_1 _ _ l0_2 t381 t382 t385 t386 _ (by exact Kd.V_mk HC0_1.out (Kd.F_below (Kd.C_F (Kd.heap_int .u32) HR0_1.out) HB.out)) (by exact Kd.C_below HR0_2.out HB.out) HC0_2.out A3.out).mono ?_); rintro e w12 ⟨v383, v387, rfl, ho0, ho1, hb⟩; refine ⟨_, rfl, ?_⟩; have HO384 := mk0 (Kd.V_lower (Kd.V_mono (ok' := fun k_ => some k_ ≠ (v387 : Value).ownBlock ∧ k_ ≠ gb379 ∧ k_ ≠ gb380) ho0 (fun k_ hk_ => ⟨hk_.2, Or.elim hk_.1 (fun hs_ => fun e_ => Nat.not_le.2 hs_ (by rw [e_]; exact GW379.out)) (fun hn_ => (Kd.freshB BK379.out k_ hn_)), Or.elim hk_.1 (fun hs_ => fun e_ => Nat.not_le.2 hs_ (by rw [e_]; exact GW380.out)) (fun hn_ => (Kd.freshB BK380.out k_ hn_))⟩)) (below_size HB.out)); have HO388 := mk0 (Kd.R_lower (Kd.R_mono (ok' := fun k_ => True) ho1 (fun _ hk_ => trivial)) (below_size HB.out)); replace BK379 := bkB BK379 hb; replace BK380 := bkB BK380 hb; replace HB := hbS HB hb) | ((with_reducible refine gate_dst (N := 5) rfl ?_); refine box_event rfl (N := 5) rfl (cs := #[.bool false, .slice none 0 0]) (t := 27) (by first | (go_simp; done) | (go_simp; rfl)) ?_; intro gb389 hg w13 hbox hb; replace HO384 := vB HO384 hg hb; replace HO388 := rB HO388 hb; have BK389 := mk0 (hbox); have GW389 := geB hg HB; have GE389 := geB hg HB; replace HB := hbS HB hb; have NB379_389 := nbA hg BK379; have NB389_379 := nbB hg BK379; replace BK379 := bkB BK379 hb; have NB380_389 := nbA hg BK380; have NB389_380 := nbB hg BK380; replace BK380 := bkB BK380 hb; clear hb hbox hg) | ((with_reducible refine gate_dst (N := 6) rfl ?_); refine box_event rfl (N := 6) rfl (cs := #[.bool false, .slice none 0 0]) (t := 27) (by first | (go_simp; done) | (go_simp; rfl)) ?_; intro gb390 hg w14 hbox hb; replace HO384 := vB HO384 hg hb; replace HO388 := rB HO388 hb; have BK390 := mk0 (hbox); have GW390 := geB hg HB; have GE390 := geB hg HB; replace HB := hbS HB hb; have NB379_390 := nbA hg BK379; have NB390_379 := nbB hg BK379; replace BK379 := bkB BK379 hb; have NB380_390 := nbA hg BK380; have NB390_380 := nbB hg BK380; replace BK380 := bkB BK380 hb; have NB389_390 := nbA hg BK389; have NB390_389 := nbB hg BK389; replace BK389 := bkB BK389 hb; clear hb hbox hg; have hnb15 := NB389_379.out; have hnc15 := NB379_389.out; have hnb16 := NB389_380.out; have hnc16 := NB380_389.out; have hnb17 := NB389_390.out; have hnc17 := NB390_389.out; have hcz18_0 : w14.cell? ⟨gb389, 0, none⟩ = some (.bool false) := (blk_cell BK389.out 0).trans rfl; have hcz18_1 : w14.cell? ⟨gb389, 1, none⟩ = some (.slice none 0 0) := (blk_cell BK389.out 1).trans rfl; have hfz18_0 := blk_frozen BK389.out 0; have hfz18_1 := blk_frozen BK389.out 1; obtain ⟨Ao19, co19, eo19⟩ := Kd.V_slice HO384.out; subst eo19) | ((with_reducible refine gate_store (t := 27) (p := 5) rfl ?_); refine store_event (t := 27) (p := 5) (v := ?vo_w20) (w1 := ((w14.setCell ⟨gb389, 0, none⟩ (.bool t381)).setCell ⟨gb389, 1, none⟩ (.slice Ao19 t382.length co19))) ?hg ?ho ?hn ?hr ?_; (case ho => rfl); (case hg => rfl); (case hn => rfl); (case hr => first | (go_simp; done) | (go_simp; rfl)); intro w20 hw; replace HO384 : Aside0 (Kd.V (Kd.int .u32) 87 w20 w.heap.size (fun k_ => some k_ ≠ (v387 : Value).ownBlock ∧ k_ ≠ gb379 ∧ k_ ≠ gb380 ∧ k_ ≠ gb389 ∧ k_ ≠ gb390) (.slice Ao19 t382.length co19) t382) := ⟨(by rw [hw]; exact (Kd.V_mono (Kd.V_far (p := ⟨gb389, 1, none⟩) (Kd.V_far (p := ⟨gb389, 0, none⟩) (Kd.V_mono HO384.out (fun k_ hk => (⟨hk, hk.1.2⟩ : _ ∧ k_ ≠ gb389))) (fun _ hk => hk.2) (.bool t381)) (fun _ hk => hk.2) (.slice Ao19 t382.length co19)) (fun _ hk => ⟨hk.1.1.1.1, ⟨hk.1.1.1.2.1, ⟨hk.1.1.1.2.2, ⟨hk.1.1.2, hk.1.2⟩⟩⟩⟩)))⟩; replace HO388 : Aside0 (Kd.R (Kd.int .u32) 87 w20 w.heap.size (fun _ => True) v387 t386) := ⟨(by rw [hw]; exact (Kd.R_mono (Kd.R_far (p := ⟨gb389, 1, none⟩) (Kd.R_far (p := ⟨gb389, 0, none⟩) (Kd.R_types HO388.out BK389.out (by decide)) (fun _ hk => hk.2) (.bool t381)) (fun _ hk => hk.2) (.slice Ao19 t382.length co19)) (fun _ hk => trivial)))⟩; replace BK379 : Aside0 (w20.heap[gb379]? = some (.cells #[.bool a0_0, .slice A0_1 l0_1.length c0_1, .slice A0_2 l0_2.length c0_2] 29 (0, 0))) := ⟨(by rw [hw]; exact (by refine blk_far ?_ NB379_389.out _; refine blk_far ?_ NB379_389.out _; exact BK379.out))⟩; replace BK380 : Aside0 (w20.heap[gb380]? = some (.cells #[.bool a1_0, .slice A1_1 l1_1.length c1_1, .slice A1_2 l1_2.length c1_2] 29 (0, 0))) := ⟨(by rw [hw]; exact (by refine blk_far ?_ NB380_389.out _; refine blk_far ?_ NB380_389.out _; exact BK380.out))⟩; replace BK389 : Aside0 (w20.heap[gb389]? = some (.cells #[.bool t381, .slice Ao19 t382.length co19] 27 (0, 0))) := ⟨(by rw [hw]; exact (by refine blk_put (cs := #[.bool t381, .slice none 0 0]) ?_ 1 _ rfl; refine blk_put (cs := #[.bool false, .slice none 0 0]) ?_ 0 _ rfl; exact BK389.out))⟩; replace BK390 : Aside0 (w20.heap[gb390]? = some (.cells #[.bool false, .slice none 0 0] 27 (0, 0))) := ⟨(by rw [hw]; exact (by refine blk_far ?_ NB390_389.out _; refine blk_far ?_ NB390_389.out _; exact BK390.out))⟩; replace HB : Aside0 (Below w.heap.size w w20) := ⟨(by rw [hw]; exact (by repeat (first | exact HB.out | refine below_set ?_ GE389.out | refine below_set ?_ GE390.out)))⟩; clear hw; have hnb21 := NB390_379.out; have hnc21 := NB379_390.out; have hnb22 := NB390_380.out; have hnc22 := NB380_390.out; have hcz23_0 : w20.cell? ⟨gb390, 0, none⟩ = some (.bool false) := (blk_cell BK390.out 0).trans rfl; have hcz23_1 : w20.cell? ⟨gb390, 1, none⟩ = some (.slice none 0 0) := (blk_cell BK390.out 1).trans rfl; have hfz23_0 := blk_frozen BK390.out 0; have hfz23_1 := blk_frozen BK390.out 1; obtain ⟨Ao24, co24, eo24⟩ := Kd.R_slice HO388.out; subst eo24) | ((with_reducible refine gate_store (t := 27) (p := 6) rfl ?_); refine store_event (t := 27) (p := 6) (v := ?vo_w25) (w1 := ((w20.setCell ⟨gb390, 0, none⟩ (.bool t385)).setCell ⟨gb390, 1, none⟩ (.slice Ao24 t386.length co24))) ?hg ?ho ?hn ?hr ?_; (case ho => rfl); (case hg => rfl); (case hn => rfl); (case hr => first | (go_simp; done) | (go_simp; rfl)); intro w25 hw; replace HO384 : Aside0 (Kd.V (Kd.int .u32) 87 w25 w.heap.size (fun k_ => some k_ ≠ (.slice Ao24 t386.length co24 : Value).ownBlock ∧ k_ ≠ gb379 ∧ k_ ≠ gb380 ∧ k_ ≠ gb389 ∧ k_ ≠ gb390) (.slice Ao19 t382.length co19) t382) := ⟨(by rw [hw]; exact (Kd.V_mono (Kd.V_far (p := ⟨gb390, 1, none⟩) (Kd.V_far (p := ⟨gb390, 0, none⟩) (Kd.V_mono HO384.out (fun k_ hk => (⟨hk, hk.2.2.2.2⟩ : _ ∧ k_ ≠ gb390))) (fun _ hk => hk.2) (.bool t385)) (fun _ hk => hk.2) (.slice Ao24 t386.length co24)) (fun _ hk => ⟨hk.1.1, ⟨hk.1.2.1, ⟨hk.1.2.2.1, ⟨hk.1.2.2.2.1, hk.1.2.2.2.2⟩⟩⟩⟩)))⟩; replace HO388 : Aside0 (Kd.R (Kd.int .u32) 87 w25 w.heap.size (fun _ => True) (.slice Ao24 t386.length co24) t386) := ⟨(by rw [hw]; exact (Kd.R_mono (Kd.R_far (p := ⟨gb390, 1, none⟩) (Kd.R_far (p := ⟨gb390, 0, none⟩) (Kd.R_types HO388.out BK390.out (by decide)) (fun _ hk => hk.2) (.bool t385)) (fun _ hk => hk.2) (.slice Ao24 t386.length co24)) (fun _ hk => trivial)))⟩; replace BK379 : Aside0 (w25.heap[gb379]? = some (.cells #[.bool a0_0, .slice A0_1 l0_1.length c0_1, .slice A0_2 l0_2.length c0_2] 29 (0, 0))) := ⟨(by rw [hw]; exact (by refine blk_far ?_ NB379_390.out _; refine blk_far ?_ NB379_390.out _; exact BK379.out))⟩; replace BK380 : Aside0 (w25.heap[gb380]? = some (.cells #[.bool a1_0, .slice A1_1 l1_1.length c1_1, .slice A1_2 l1_2.length c1_2] 29 (0, 0))) := ⟨(by rw [hw]; exact (by refine blk_far ?_ NB380_390.out _; refine blk_far ?_ NB380_390.out _; exact BK380.out))⟩; replace BK389 : Aside0 (w25.heap[gb389]? = some (.cells #[.bool t381, .slice Ao19 t382.length co19] 27 (0, 0))) := ⟨(by rw [hw]; exact (by refine blk_far ?_ NB389_390.out _; refine blk_far ?_ NB389_390.out _; exact BK389.out))⟩; replace BK390 : Aside0 (w25.heap[gb390]? = some (.cells #[.bool t385, .slice Ao24 t386.length co24] 27 (0, 0))) := ⟨(by rw [hw]; exact (by refine blk_put (cs := #[.bool t385, .slice none 0 0]) ?_ 1 _ rfl; refine blk_put (cs := #[.bool false, .slice none 0 0]) ?_ 0 _ rfl; exact BK390.out))⟩; replace HB : Aside0 (Below w.heap.size w w25) := ⟨(by rw [hw]; exact (by repeat (first | exact HB.out | refine below_set ?_ GE389.out | refine below_set ?_ GE390.out)))⟩; clear hw; have hcz26_0 : w25.cell? ⟨gb380, 0, none⟩ = some (.bool a1_0) := (blk_cell BK380.out 0).trans rfl; have hcz26_1 : w25.cell? ⟨gb380, 1, none⟩ = some (.slice A1_1 l1_1.length c1_1) := (blk_cell BK380.out 1).trans rfl; have hcz26_2 : w25.cell? ⟨gb380, 2, none⟩ = some (.slice A1_2 l1_2.length c1_2) := (blk_cell BK380.out 2).trans rfl; have hfz26_0 := blk_frozen BK380.out 0; have hfz26_1 := blk_frozen BK380.out 1; have hfz26_2 := blk_frozen BK380.out 2) | ((with_reducible refine gate_callee (f := 36) rfl ?_); refine goesL_ (some 16) rfl rfl Try.func36 (by kernel_rfl) rfl #[.agg #[.bool a1_0, .slice A1_1 l1_1.length c1_1, .slice A1_2 l1_2.length c1_2]] rfl (by first | (go_simp; done) | (go_simp; rfl)) ?_; (with_reducible refine (ratio_parts.calls k a1_0 (fun k_ => k_ < w.heap.size) _ _ l1_1 _ _ l1_2 t391 t392 t395 t396 _ (by exact Kd.V_mk HC1_1.out (Kd.F_below (Kd.C_F (Kd.heap_int .u32) HR1_1.out) HB.out)) (by exact Kd.C_below HR1_2.out HB.out) HC1_2.out A4.out).mono ?_); rintro e w27 ⟨v393, v397, rfl, ho0, ho1, hb⟩; refine ⟨_, rfl, ?_⟩; replace HO384 := mk0 (Kd.V_elder' HO384.out (Kd.R_base ho1) hb); have HO394 := mk0 (Kd.V_lower (Kd.V_mono (ok' := fun k_ => some k_ ≠ (v397 : Value).ownBlock ∧ some k_ ≠ (.slice Ao24 t386.length co24 : Value).ownBlock ∧ k_ ≠ gb379 ∧ k_ ≠ gb380 ∧ k_ ≠ gb389 ∧ k_ ≠ gb390) ho0 (fun k_ hk_ => ⟨hk_.2, Or.elim hk_.1 (fun hs_ => fun e_ => Nat.not_le.2 hs_ (Kd.R_base HO388.out k_ e_.symm)) (fun hn_ => (Kd.fresh' (Kd.R_lt HO388.out) k_ hn_)), Or.elim hk_.1 (fun hs_ => fun e_ => Nat.not_le.2 hs_ (by rw [e_]; exact GW379.out)) (fun hn_ => (Kd.freshB BK379.out k_ hn_)), Or.elim hk_.1 (fun hs_ => fun e_ => Nat.not_le.2 hs_ (by rw [e_]; exact GW380.out)) (fun hn_ => (Kd.freshB BK380.out k_ hn_)), Or.elim hk_.1 (fun hs_ => fun e_ => Nat.not_le.2 hs_ (by rw [e_]; exact GW389.out)) (fun hn_ => (Kd.freshB BK389.out k_ hn_)), Or.elim hk_.1 (fun hs_ => fun e_ => Nat.not_le.2 hs_ (by rw [e_]; exact GW390.out)) (fun hn_ => (Kd.freshB BK390.out k_ hn_))⟩)) (below_size HB.out)); have HO398 := mk0 (Kd.R_lower (Kd.R_new' (Kd.R_mono (ok' := fun k_ => True) ho1 (fun _ hk_ => trivial)) (Kd.R_lt HO388.out)) (below_size HB.out)); replace HO388 := mk0 (Kd.R_elder' HO388.out (Kd.R_base ho1) hb); replace BK379 := bkB BK379 hb; replace BK380 := bkB BK380 hb; replace BK389 := bkB BK389 hb; replace BK390 := bkB BK390 hb; replace HB := hbS HB hb) | ((with_reducible refine gate_dst (N := 7) rfl ?_); refine box_event rfl (N := 7) rfl (cs := #[.bool false, .slice none 0 0]) (t := 27) (by first | (go_simp; done) | (go_simp; rfl)) ?_; intro gb399 hg w28 hbox hb; replace HO384 := vB HO384 hg hb; replace HO388 := rB HO388 hb; replace HO394 := vB HO394 hg hb; replace HO398 := rB HO398 hb; have BK399 := mk0 (hbox); have GE399 := geB hg HB; replace HB := hbS HB hb; have NB379_399 := nbA hg BK379; have NB399_379 := nbB hg BK379; replace BK379 := bkB BK379 hb; have NB380_399 := nbA hg BK380; have NB399_380 := nbB hg BK380; replace BK380 := bkB BK380 hb; have NB389_399 := nbA hg BK389; have NB399_389 := nbB hg BK389; replace BK389 := bkB BK389 hb; have NB390_399 := nbA hg BK390; have NB399_390 := nbB hg BK390; replace BK390 := bkB BK390 hb; clear hb hbox hg) | ((with_reducible refine gate_dst (N := 8) rfl ?_); refine box_event rfl (N := 8) rfl (cs := #[.bool false, .slice none 0 0]) (t := 27) (by first | (go_simp; done) | (go_simp; rfl)) ?_; intro gb400 hg w29 hbox hb; replace HO384 := vB HO384 hg hb; replace HO388 := rB HO388 hb; replace HO394 := vB HO394 hg hb; replace HO398 := rB HO398 hb; have BK400 := mk0 (hbox); have GE400 := geB hg HB; replace HB := hbS HB hb; have NB379_400 := nbA hg BK379; have NB400_379 := nbB hg BK379; replace BK379 := bkB BK379 hb; have NB380_400 := nbA hg BK380; have NB400_380 := nbB hg BK380; replace BK380 := bkB BK380 hb; have NB389_400 := nbA hg BK389; have NB400_389 := nbB hg BK389; replace BK389 := bkB BK389 hb; have NB390_400 := nbA hg BK390; have NB400_390 := nbB hg BK390; replace BK390 := bkB BK390 hb; have NB399_400 := nbA hg BK399; have NB400_399 := nbB hg BK399; replace BK399 := bkB BK399 hb; clear hb hbox hg; have hnb30 := NB399_379.out; have hnc30 := NB379_399.out; have hnb31 := NB399_380.out; have hnc31 := NB380_399.out; have hnb32 := NB399_389.out; have hnc32 := NB389_399.out; have hnb33 := NB399_390.out; have hnc33 := NB390_399.out; have hnb34 := NB399_400.out; have hnc34 := NB400_399.out; have hcz35_0 : w29.cell? ⟨gb399, 0, none⟩ = some (.bool false) := (blk_cell BK399.out 0).trans rfl; have hcz35_1 : w29.cell? ⟨gb399, 1, none⟩ = some (.slice none 0 0) := (blk_cell BK399.out 1).trans rfl; have hfz35_0 := blk_frozen BK399.out 0; have hfz35_1 := blk_frozen BK399.out 1; obtain ⟨Ao36, co36, eo36⟩ := Kd.V_slice HO394.out; subst eo36; have hnb37 := NB400_379.out; have hnc37 := NB379_400.out; have hnb38 := NB400_380.out; have hnc38 := NB380_400.out; have hnb39 := NB400_389.out; have hnc39 := NB389_400.out; have hnb40 := NB400_390.out; have hnc40 := NB390_400.out; have hcz41_0 : w29.cell? ⟨gb400, 0, none⟩ = some (.bool false) := (blk_cell BK400.out 0).trans rfl; have hcz41_1 : w29.cell? ⟨gb400, 1, none⟩ = some (.slice none 0 0) := (blk_cell BK400.out 1).trans rfl; have hfz41_0 := blk_frozen BK400.out 0; have hfz41_1 := blk_frozen BK400.out 1; obtain ⟨Ao42, co42, eo42⟩ := Kd.R_slice HO398.out; subst eo42))
 have n0_ : Aside0 (Kd.V (Kd.int .u32) 87 ((((w29.setCell ⟨gb399, 0, none⟩ (.bool t391)).setCell ⟨gb399, 1, none⟩ (.slice Ao36 t392.length co36)).setCell ⟨gb400, 0, none⟩ (.bool t395)).setCell ⟨gb400, 1, none⟩ (.slice Ao42 t396.length co42)) w.heap.size (fun k_ => some k_ ≠ (.slice Ao24 t386.length co24 : Value).ownBlock ∧ some k_ ≠ (.slice Ao42 t396.length co42 : Value).ownBlock ∧ k_ ≠ gb379 ∧ k_ ≠ gb380 ∧ k_ ≠ gb389 ∧ k_ ≠ gb390 ∧ k_ ≠ gb399 ∧ k_ ≠ gb400) (.slice Ao19 t382.length co19) t382) := ⟨Kd.V_mono (Kd.V_far (p := ⟨gb400, 1, none⟩) (Kd.V_far (p := ⟨gb400, 0, none⟩) (Kd.V_far (p := ⟨gb399, 1, none⟩) (Kd.V_far (p := ⟨gb399, 0, none⟩) (Kd.V_mono (Kd.V_mono HO384.out (fun k_ hk => (⟨hk, hk.1.2⟩ : _ ∧ k_ ≠ gb399))) (fun k_ hk => (⟨hk, hk.1.2⟩ : _ ∧ k_ ≠ gb400))) (fun _ hk => hk.1.2) (.bool t391)) (fun _ hk => hk.1.2) (.slice Ao36 t392.length co36)) (fun _ hk => hk.2) (.bool t395)) (fun _ hk => hk.2) (.slice Ao42 t396.length co42)) (fun _ hk => ⟨hk.1.1.1.1.1.1, ⟨hk.1.1.1.1.2, ⟨hk.1.1.1.1.1.2.1, ⟨hk.1.1.1.1.1.2.2.1, ⟨hk.1.1.1.1.1.2.2.2.1, ⟨hk.1.1.1.1.1.2.2.2.2, ⟨hk.1.1.1.2, hk.1.1.2⟩⟩⟩⟩⟩⟩⟩)⟩
 have n1_ : Aside0 (Kd.R (Kd.int .u32) 87 ((((w29.setCell ⟨gb399, 0, none⟩ (.bool t391)).setCell ⟨gb399, 1, none⟩ (.slice Ao36 t392.length co36)).setCell ⟨gb400, 0, none⟩ (.bool t395)).setCell ⟨gb400, 1, none⟩ (.slice Ao42 t396.length co42)) w.heap.size (fun k_ => some k_ ≠ (.slice Ao42 t396.length co42 : Value).ownBlock) (.slice Ao24 t386.length co24) t386) := ⟨Kd.R_mono (Kd.R_far (p := ⟨gb400, 1, none⟩) (Kd.R_far (p := ⟨gb400, 0, none⟩) (Kd.R_far (p := ⟨gb399, 1, none⟩) (Kd.R_far (p := ⟨gb399, 0, none⟩) (Kd.R_types (Kd.R_types HO388.out BK399.out (by decide)) BK400.out (by decide)) (fun _ hk => hk.1.2) (.bool t391)) (fun _ hk => hk.1.2) (.slice Ao36 t392.length co36)) (fun _ hk => hk.2) (.bool t395)) (fun _ hk => hk.2) (.slice Ao42 t396.length co42)) (fun _ hk => hk.1.1.2)⟩
 have n2_ : Aside0 (Kd.V (Kd.int .u32) 87 ((((w29.setCell ⟨gb399, 0, none⟩ (.bool t391)).setCell ⟨gb399, 1, none⟩ (.slice Ao36 t392.length co36)).setCell ⟨gb400, 0, none⟩ (.bool t395)).setCell ⟨gb400, 1, none⟩ (.slice Ao42 t396.length co42)) w.heap.size (fun k_ => some k_ ≠ (.slice Ao24 t386.length co24 : Value).ownBlock ∧ some k_ ≠ (.slice Ao42 t396.length co42 : Value).ownBlock ∧ k_ ≠ gb379 ∧ k_ ≠ gb380 ∧ k_ ≠ gb389 ∧ k_ ≠ gb390 ∧ k_ ≠ gb399 ∧ k_ ≠ gb400) (.slice Ao36 t392.length co36) t392) := ⟨Kd.V_mono (Kd.V_far (p := ⟨gb400, 1, none⟩) (Kd.V_far (p := ⟨gb400, 0, none⟩) (Kd.V_far (p := ⟨gb399, 1, none⟩) (Kd.V_far (p := ⟨gb399, 0, none⟩) (Kd.V_mono (Kd.V_mono HO394.out (fun k_ hk => (⟨hk, hk.1.2⟩ : _ ∧ k_ ≠ gb399))) (fun k_ hk => (⟨hk, hk.1.2⟩ : _ ∧ k_ ≠ gb400))) (fun _ hk => hk.1.2) (.bool t391)) (fun _ hk => hk.1.2) (.slice Ao36 t392.length co36)) (fun _ hk => hk.2) (.bool t395)) (fun _ hk => hk.2) (.slice Ao42 t396.length co42)) (fun _ hk => ⟨hk.1.1.1.1.2.1, ⟨hk.1.1.1.1.1, ⟨hk.1.1.1.1.2.2.1, ⟨hk.1.1.1.1.2.2.2.1, ⟨hk.1.1.1.1.2.2.2.2.1, ⟨hk.1.1.1.1.2.2.2.2.2, ⟨hk.1.1.1.2, hk.1.1.2⟩⟩⟩⟩⟩⟩⟩)⟩
 have n3_ : Aside0 (Kd.R (Kd.int .u32) 87 ((((w29.setCell ⟨gb399, 0, none⟩ (.bool t391)).setCell ⟨gb399, 1, none⟩ (.slice Ao36 t392.length co36)).setCell ⟨gb400, 0, none⟩ (.bool t395)).setCell ⟨gb400, 1, none⟩ (.slice Ao42 t396.length co42)) w.heap.size (fun k_ => some k_ ≠ (.slice Ao24 t386.length co24 : Value).ownBlock) (.slice Ao42 t396.length co42) t396) := ⟨Kd.R_mono (Kd.R_far (p := ⟨gb400, 1, none⟩) (Kd.R_far (p := ⟨gb400, 0, none⟩) (Kd.R_far (p := ⟨gb399, 1, none⟩) (Kd.R_far (p := ⟨gb399, 0, none⟩) (Kd.R_types (Kd.R_types HO398.out BK399.out (by decide)) BK400.out (by decide)) (fun _ hk => hk.1.2) (.bool t391)) (fun _ hk => hk.1.2) (.slice Ao36 t392.length co36)) (fun _ hk => hk.2) (.bool t395)) (fun _ hk => hk.2) (.slice Ao42 t396.length co42)) (fun _ hk => hk.1.1.2)⟩
 have n4_ : Aside0 (((((w29.setCell ⟨gb399, 0, none⟩ (.bool t391)).setCell ⟨gb399, 1, none⟩ (.slice Ao36 t392.length co36)).setCell ⟨gb400, 0, none⟩ (.bool t395)).setCell ⟨gb400, 1, none⟩ (.slice Ao42 t396.length co42)).heap[gb379]? = some (.cells #[.bool a0_0, .slice A0_1 l0_1.length c0_1, .slice A0_2 l0_2.length c0_2] 29 (0, 0))) := ⟨by refine blk_far ?_ NB379_400.out _; refine blk_far ?_ NB379_400.out _; refine blk_far ?_ NB379_399.out _; refine blk_far ?_ NB379_399.out _; exact BK379.out⟩
 have n5_ : Aside0 (((((w29.setCell ⟨gb399, 0, none⟩ (.bool t391)).setCell ⟨gb399, 1, none⟩ (.slice Ao36 t392.length co36)).setCell ⟨gb400, 0, none⟩ (.bool t395)).setCell ⟨gb400, 1, none⟩ (.slice Ao42 t396.length co42)).heap[gb380]? = some (.cells #[.bool a1_0, .slice A1_1 l1_1.length c1_1, .slice A1_2 l1_2.length c1_2] 29 (0, 0))) := ⟨by refine blk_far ?_ NB380_400.out _; refine blk_far ?_ NB380_400.out _; refine blk_far ?_ NB380_399.out _; refine blk_far ?_ NB380_399.out _; exact BK380.out⟩
 have n6_ : Aside0 (((((w29.setCell ⟨gb399, 0, none⟩ (.bool t391)).setCell ⟨gb399, 1, none⟩ (.slice Ao36 t392.length co36)).setCell ⟨gb400, 0, none⟩ (.bool t395)).setCell ⟨gb400, 1, none⟩ (.slice Ao42 t396.length co42)).heap[gb389]? = some (.cells #[.bool t381, .slice Ao19 t382.length co19] 27 (0, 0))) := ⟨by refine blk_far ?_ NB389_400.out _; refine blk_far ?_ NB389_400.out _; refine blk_far ?_ NB389_399.out _; refine blk_far ?_ NB389_399.out _; exact BK389.out⟩
 have n7_ : Aside0 (((((w29.setCell ⟨gb399, 0, none⟩ (.bool t391)).setCell ⟨gb399, 1, none⟩ (.slice Ao36 t392.length co36)).setCell ⟨gb400, 0, none⟩ (.bool t395)).setCell ⟨gb400, 1, none⟩ (.slice Ao42 t396.length co42)).heap[gb390]? = some (.cells #[.bool t385, .slice Ao24 t386.length co24] 27 (0, 0))) := ⟨by refine blk_far ?_ NB390_400.out _; refine blk_far ?_ NB390_400.out _; refine blk_far ?_ NB390_399.out _; refine blk_far ?_ NB390_399.out _; exact BK390.out⟩
 have n8_ : Aside0 (((((w29.setCell ⟨gb399, 0, none⟩ (.bool t391)).setCell ⟨gb399, 1, none⟩ (.slice Ao36 t392.length co36)).setCell ⟨gb400, 0, none⟩ (.bool t395)).setCell ⟨gb400, 1, none⟩ (.slice Ao42 t396.length co42)).heap[gb399]? = some (.cells #[.bool t391, .slice Ao36 t392.length co36] 27 (0, 0))) := ⟨by refine blk_far ?_ NB399_400.out _; refine blk_far ?_ NB399_400.out _; refine blk_put (cs := #[.bool t391, .slice none 0 0]) ?_ 1 _ rfl; refine blk_put (cs := #[.bool false, .slice none 0 0]) ?_ 0 _ rfl; exact BK399.out⟩
 have n9_ : Aside0 (((((w29.setCell ⟨gb399, 0, none⟩ (.bool t391)).setCell ⟨gb399, 1, none⟩ (.slice Ao36 t392.length co36)).setCell ⟨gb400, 0, none⟩ (.bool t395)).setCell ⟨gb400, 1, none⟩ (.slice Ao42 t396.length co42)).heap[gb400]? = some (.cells #[.bool t395, .slice Ao42 t396.length co42] 27 (0, 0))) := ⟨by refine blk_put (cs := #[.bool t395, .slice none 0 0]) ?_ 1 _ rfl; refine blk_put (cs := #[.bool false, .slice none 0 0]) ?_ 0 _ rfl; refine blk_far ?_ NB400_399.out _; refine blk_far ?_ NB400_399.out _; exact BK400.out⟩
 have n10_ : Aside0 (Below w.heap.size w ((((w29.setCell ⟨gb399, 0, none⟩ (.bool t391)).setCell ⟨gb399, 1, none⟩ (.slice Ao36 t392.length co36)).setCell ⟨gb400, 0, none⟩ (.bool t395)).setCell ⟨gb400, 1, none⟩ (.slice Ao42 t396.length co42))) := ⟨by repeat (first | exact HB.out | refine below_set ?_ GE379.out | refine below_set ?_ GE380.out | refine below_set ?_ GE389.out | refine below_set ?_ GE390.out | refine below_set ?_ GE399.out | refine below_set ?_ GE400.out)⟩
 (try clear HO384)
 (try clear HO388)
 (try clear HO394)
 (try clear HO398)
 (try clear BK379)
 (try clear BK380)
 (try clear BK389)
 (try clear BK390)
 (try clear BK399)
 (try clear BK400)
 (try clear HB)
 generalize ((((w29.setCell ⟨gb399, 0, none⟩ (.bool t391)).setCell ⟨gb399, 1, none⟩ (.slice Ao36 t392.length co36)).setCell ⟨gb400, 0, none⟩ (.bool t395)).setCell ⟨gb400, 1, none⟩ (.slice Ao42 t396.length co42)) = w43 at n0_ n1_ n2_ n3_ n4_ n5_ n6_ n7_ n8_ n9_ n10_ ⊢
 have HO384 := n0_
 have HO388 := n1_
 have HO394 := n2_
 have HO398 := n3_
 have BK379 := n4_
 have BK380 := n5_
 have BK389 := n6_
 have BK390 := n7_
 have BK399 := n8_
 have BK400 := n9_
 have HB := n10_
 clear n0_ n1_ n2_ n3_ n4_ n5_ n6_ n7_ n8_ n9_ n10_
 replace HO384 := mk0 (Kd.V_drew HO384.out)
 replace HO388 := mk0 (Kd.R_drew HO388.out)
 replace HO394 := mk0 (Kd.V_drew HO394.out)
 replace HO398 := mk0 (Kd.R_drew HO398.out)
 replace BK379 := mk0 (blk_drew BK379.out)
 replace BK380 := mk0 (blk_drew BK380.out)
 replace BK389 := mk0 (blk_drew BK389.out)
 replace BK390 := mk0 (blk_drew BK390.out)
 replace BK399 := mk0 (blk_drew BK399.out)
 replace BK400 := mk0 (blk_drew BK400.out)
 replace HB := mk0 (below_drew1 HB.out)
 refine start_ (n := 8) (S := fun w' => w'.cell? ⟨gb389, 0, none⟩ = some (.bool t381) ∧ w'.cell? ⟨gb389, 1, none⟩ = some (.slice Ao19 t382.length co19) ∧ w'.cell? ⟨gb400, 0, none⟩ = some (.bool t395) ∧ w'.cell? ⟨gb400, 1, none⟩ = some (.slice Ao42 t396.length co42) ∧ w'.cell? ⟨gb399, 0, none⟩ = some (.bool t391) ∧ w'.cell? ⟨gb399, 1, none⟩ = some (.slice Ao36 t392.length co36) ∧ w'.cell? ⟨gb390, 0, none⟩ = some (.bool t385) ∧ w'.cell? ⟨gb390, 1, none⟩ = some (.slice Ao24 t386.length co24)) (ds := []) (bv 8 0) (by kernel_rfl) rfl rfl ⟨(blk_cell BK389.out 0).trans rfl, (blk_cell BK389.out 1).trans rfl, (blk_cell BK400.out 0).trans rfl, (blk_cell BK400.out 1).trans rfl, (blk_cell BK399.out 0).trans rfl, (blk_cell BK399.out 1).trans rfl, (blk_cell BK390.out 0).trans rfl, (blk_cell BK390.out 1).trans rfl⟩ (fun hHeld => ?_); refine with_tabW ratio_Cmp.tab3 ratio_Cmp.bits3 (fun HT_ HW_ => ?_)
 generalize w43.drew = w44 at HO384 HO388 HO394 HO398 BK379 BK380 BK389 BK390 BK399 BK400 HB hHeld ⊢
 refine take_ (i := 0) (N := some 19) (v := ?_) (a' := ?_) (bv 8 1) rfl rfl (take_ofW HT_.out HW_.out (by kernel_rfl)) (fun _ _ _ h => h) (Or.inl ⟨by rfl, ?_⟩) hHeld ?_ ?_; rotate_left; (rintro w' ⟨s0, s1, s2, s3, s4, s5, s6, s7⟩; go_simp; with_reducible rfl); rotate_left; (simp only [Act.put, List.setIfInBounds_toArray, List.set_cons_zero, List.set_cons_succ, i64_w, i32_w]; rfl)
 refine take_ (i := 1) (N := some 20) (v := ?_) (a' := ?_) (bv 8 3) rfl rfl (take_ofW HT_.out HW_.out (by kernel_rfl)) (fun _ _ _ h => h) (Or.inl ⟨by rfl, ?_⟩) hHeld ?_ ?_; rotate_left; (rintro w' ⟨s0, s1, s2, s3, s4, s5, s6, s7⟩; go_simp; with_reducible rfl); rotate_left; (simp only [Act.put, List.setIfInBounds_toArray, List.set_cons_zero, List.set_cons_succ, i64_w, i32_w]; rfl)
 refine take_ (i := 3) (N := some 22) (v := ?_) (a' := ?_) (bv 8 11) rfl rfl (take_ofW HT_.out HW_.out (by kernel_rfl)) (fun _ _ _ h => h) (Or.inl ⟨by rfl, ?_⟩) hHeld ?_ ?_; rotate_left; (rintro w' ⟨s0, s1, s2, s3, s4, s5, s6, s7⟩; go_simp; with_reducible rfl); rotate_left; (simp only [Act.put, List.setIfInBounds_toArray, List.set_cons_zero, List.set_cons_succ, i64_w, i32_w]; rfl)
 refine take_ (i := 4) (N := some 23) (v := ?_) (a' := ?_) (bv 8 27) rfl rfl (take_ofW HT_.out HW_.out (by kernel_rfl)) (fun _ _ _ h => h) (Or.inl ⟨by rfl, ?_⟩) hHeld ?_ ?_; rotate_left; (rintro w' ⟨s0, s1, s2, s3, s4, s5, s6, s7⟩; go_simp; with_reducible rfl); rotate_left; (simp only [Act.put, List.setIfInBounds_toArray, List.set_cons_zero, List.set_cons_succ, i64_w, i32_w]; rfl)
 refine one_ (i := 2) (N := some 21) (bv 8 31) rfl rfl (one_of HT_.out (by kernel_rfl)) (by decide) (fun K hK => ?_)
 refine goes_ Try.func52 (by kernel_rfl) rfl #[.agg #[.bool t381, .slice Ao19 t382.length co19], .agg #[.bool t395, .slice Ao42 t396.length co42]] (by rfl) rfl rfl (by first | (go_simp; done) | (go_simp; rfl)) ?_
 with_reducible refine (integer_Mul.calls k t381 _ _ t382 t395 _ _ t396 t401 t402 _ ?side1 ?side2 ?side3 ?side4 A5.out).mono ?_
 (case side1 => repeat (first | exact (Kd.V_reads' HO384.out).2.2 | (with_reducible refine Kd.C_alloc ?_ _) | (with_reducible refine Kd.C_drewN ?_ _) | (with_reducible refine Kd.C_drew ?_)))
 (case side2 => exact (Kd.V_reads' HO384.out).2.1)
 (case side3 => repeat (first | exact (Kd.R_reads' HO398.out).2.2 | (with_reducible refine Kd.C_alloc ?_ _) | (with_reducible refine Kd.C_drewN ?_ _) | (with_reducible refine Kd.C_drew ?_)))
 (case side4 => exact (Kd.R_reads' HO398.out).2.1)
 rintro e w45 ⟨v403, rfl, ho0, hb⟩
 refine ⟨_, rfl, ?_⟩
 replace HO384 := mk0 (Kd.V_elder' HO384.out (Kd.R_base ho0) hb)
 replace HO394 := mk0 (Kd.V_elder' HO394.out (Kd.R_base ho0) hb)
 have HO404 := mk0 (Kd.R_lower (Kd.R_new' (Kd.R_new' ho0 (Kd.R_lt HO388.out)) (Kd.R_lt HO398.out)) (below_size (by repeat (first | exact HB.out | refine below_set ?_ GE379.out | refine below_set ?_ GE380.out | refine below_set ?_ GE389.out | refine below_set ?_ GE390.out | refine below_set ?_ GE399.out | refine below_set ?_ GE400.out))))
 replace HO388 := mk0 (Kd.R_elder' HO388.out (Kd.R_base ho0) hb)
 replace HO398 := mk0 (Kd.R_elder' HO398.out (Kd.R_base ho0) hb)
 replace BK379 := bkB BK379 hb
 replace BK380 := bkB BK380 hb
 replace BK389 := bkB BK389 hb
 replace BK390 := bkB BK390 hb
 replace BK399 := bkB BK399 hb
 replace BK400 := bkB BK400 hb
 replace HB := mk0 (below_step (by repeat (first | exact HB.out | refine below_set ?_ GE379.out | refine below_set ?_ GE380.out | refine below_set ?_ GE389.out | refine below_set ?_ GE390.out | refine below_set ?_ GE399.out | refine below_set ?_ GE400.out)) hb)
 refine hK.out _ _ ⟨(blk_cell BK389.out 0).trans rfl, (blk_cell BK389.out 1).trans rfl, (blk_cell BK400.out 0).trans rfl, (blk_cell BK400.out 1).trans rfl, (blk_cell BK399.out 0).trans rfl, (blk_cell BK399.out 1).trans rfl, (blk_cell BK390.out 0).trans rfl, (blk_cell BK390.out 1).trans rfl⟩ (fun hHeld => ?_)
 clear hK K
 refine norm_ (a' := ?_) ?_ ?_
 rotate_left
 ·show Act.put _ (some 21) _ = _
  simp only [Act.put, List.setIfInBounds_toArray, List.set_cons_zero, List.set_cons_succ, i64_w, i32_w]
  rfl
 refine one_ (i := 5) (N := some 24) (bv 8 63) rfl rfl (one_of HT_.out (by kernel_rfl)) (by decide) (fun K hK => ?_)
 refine goes_ Try.func52 (by kernel_rfl) rfl #[.agg #[.bool t391, .slice Ao36 t392.length co36], .agg #[.bool t385, .slice Ao24 t386.length co24]] (by rfl) rfl rfl (by first | (go_simp; done) | (go_simp; rfl)) ?_
 with_reducible refine (integer_Mul.calls k t391 _ _ t392 t385 _ _ t386 t405 t406 _ ?side1 ?side2 ?side3 ?side4 A6.out).mono ?_
 (case side1 => repeat (first | exact (Kd.V_reads' HO394.out).2.2 | (with_reducible refine Kd.C_alloc ?_ _) | (with_reducible refine Kd.C_drewN ?_ _) | (with_reducible refine Kd.C_drew ?_)))
 (case side2 => exact (Kd.V_reads' HO394.out).2.1)
 (case side3 => repeat (first | exact (Kd.R_reads' HO388.out).2.2 | (with_reducible refine Kd.C_alloc ?_ _) | (with_reducible refine Kd.C_drewN ?_ _) | (with_reducible refine Kd.C_drew ?_)))
 (case side4 => exact (Kd.R_reads' HO388.out).2.1)
 rintro e w46 ⟨v407, rfl, ho0, hb⟩
 refine ⟨_, rfl, ?_⟩
 replace HO384 := mk0 (Kd.V_elder' HO384.out (Kd.R_base ho0) hb)
 replace HO394 := mk0 (Kd.V_elder' HO394.out (Kd.R_base ho0) hb)
 have HO408 := mk0 (Kd.R_lower (Kd.R_new' (Kd.R_new' (Kd.R_new' ho0 (Kd.R_lt HO388.out)) (Kd.R_lt HO398.out)) (Kd.R_lt HO404.out)) (below_size (by repeat (first | exact HB.out | refine below_set ?_ GE379.out | refine below_set ?_ GE380.out | refine below_set ?_ GE389.out | refine below_set ?_ GE390.out | refine below_set ?_ GE399.out | refine below_set ?_ GE400.out))))
 replace HO388 := mk0 (Kd.R_elder' HO388.out (Kd.R_base ho0) hb)
 replace HO398 := mk0 (Kd.R_elder' HO398.out (Kd.R_base ho0) hb)
 replace HO404 := mk0 (Kd.R_elder' HO404.out (Kd.R_base ho0) hb)
 replace BK379 := bkB BK379 hb
 replace BK380 := bkB BK380 hb
 replace BK389 := bkB BK389 hb
 replace BK390 := bkB BK390 hb
 replace BK399 := bkB BK399 hb
 replace BK400 := bkB BK400 hb
 replace HB := mk0 (below_step (by repeat (first | exact HB.out | refine below_set ?_ GE379.out | refine below_set ?_ GE380.out | refine below_set ?_ GE389.out | refine below_set ?_ GE390.out | refine below_set ?_ GE399.out | refine below_set ?_ GE400.out)) hb)
 obtain ⟨Ao47, co47, eo47⟩ := Kd.R_slice HO404.out
 (first | subst eo47 | (injection eo47 with f1_ f2_ f3_; have f4_ := f1_.symm; have f5_ := f3_.symm; clear f1_ f2_ f3_; subst f4_; subst f5_))
 obtain ⟨Ao48, co48, eo48⟩ := Kd.R_slice HO408.out
 (first | subst eo48 | (injection eo48 with f1_ f2_ f3_; have f4_ := f1_.symm; have f5_ := f3_.symm; clear f1_ f2_ f3_; subst f4_; subst f5_))
 refine hK.out _ _ ⟨(blk_cell BK389.out 0).trans rfl, (blk_cell BK389.out 1).trans rfl, (blk_cell BK400.out 0).trans rfl, (blk_cell BK400.out 1).trans rfl, (blk_cell BK399.out 0).trans rfl, (blk_cell BK399.out 1).trans rfl, (blk_cell BK390.out 0).trans rfl, (blk_cell BK390.out 1).trans rfl⟩ (fun hHeld => ?_)
 clear hK K
 refine norm_ (a' := ?_) ?_ ?_
 rotate_left
 ·show Act.put _ (some 24) _ = _
  simp only [Act.put, List.setIfInBounds_toArray, List.set_cons_zero, List.set_cons_succ, i64_w, i32_w]
  rfl
 refine one_ (i := 6) (N := some 25) (bv 8 127) rfl rfl (one_of HT_.out (by kernel_rfl)) (by decide) (fun K hK => ?_)
 refine goes_ Try.func51 (by kernel_rfl) rfl #[.agg #[.bool t401, .slice Ao47 t402.length co47], .agg #[.bool t405, .slice Ao48 t406.length co48]] (by rfl) rfl rfl (by first | (go_simp; done) | (go_simp; rfl)) ?_
 with_reducible refine (integer_Cmp.calls k t401 _ _ t402 t405 _ _ t406 t409 _ ?side1 ?side2 ?side3 ?side4 A7.out).mono ?_
 (case side1 => repeat (first | exact (Kd.R_reads' HO404.out).2.2 | (with_reducible refine Kd.C_alloc ?_ _) | (with_reducible refine Kd.C_drewN ?_ _) | (with_reducible refine Kd.C_drew ?_)))
 (case side2 => exact (Kd.R_reads' HO404.out).2.1)
 (case side3 => repeat (first | exact (Kd.R_reads' HO408.out).2.2 | (with_reducible refine Kd.C_alloc ?_ _) | (with_reducible refine Kd.C_drewN ?_ _) | (with_reducible refine Kd.C_drew ?_)))
 (case side4 => exact (Kd.R_reads' HO408.out).2.1)
 rintro e w49 ⟨rfl, hb⟩
 refine ⟨_, rfl, ?_⟩
 replace HO384 := mk0 (Kd.V_below HO384.out hb)
 replace HO388 := rB HO388 hb
 replace HO394 := mk0 (Kd.V_below HO394.out hb)
 replace HO398 := rB HO398 hb
 replace HO404 := rB HO404 hb
 replace HO408 := rB HO408 hb
 replace BK379 := bkB BK379 hb
 replace BK380 := bkB BK380 hb
 replace BK389 := bkB BK389 hb
 replace BK390 := bkB BK390 hb
 replace BK399 := bkB BK399 hb
 replace BK400 := bkB BK400 hb
 replace HB := mk0 (below_step (by repeat (first | exact HB.out | refine below_set ?_ GE379.out | refine below_set ?_ GE380.out | refine below_set ?_ GE389.out | refine below_set ?_ GE390.out | refine below_set ?_ GE399.out | refine below_set ?_ GE400.out)) hb)
 refine hK.out _ _ ⟨(blk_cell BK389.out 0).trans rfl, (blk_cell BK389.out 1).trans rfl, (blk_cell BK400.out 0).trans rfl, (blk_cell BK400.out 1).trans rfl, (blk_cell BK399.out 0).trans rfl, (blk_cell BK399.out 1).trans rfl, (blk_cell BK390.out 0).trans rfl, (blk_cell BK390.out 1).trans rfl⟩ (fun hHeld => ?_)
 clear hK K
 refine norm_ (a' := ?_) ?_ ?_
 rotate_left
 ·show Act.put _ (some 25) _ = _
  simp only [Act.put, List.setIfInBounds_toArray, List.set_cons_zero, List.set_cons_succ, i64_w, i32_w]
  rfl
 refine pure_ (i := 7) (N := some 4) (v := ?_) (a' := ?_) (bv 8 255) rfl rfl (any_of HT_.out (by kernel_rfl)) (fun _ _ _ h => h) (Or.inl ⟨by rfl, ?_⟩) ?_ ?_; rotate_left; (intro w'; go_simp; with_reducible rfl); rotate_left; (simp only [Act.put, List.setIfInBounds_toArray, List.set_cons_zero, List.set_cons_succ, i64_w, i32_w]; rfl)
 refine done_ (done_of HT_.out (by kernel_rfl)) ?_
 try go_wp2
 go_ret
 exact ⟨by first | rfl | (simp [errW_none, errW_some] <;> rfl) | (simp [*, errW_none, errW_some] <;> rfl), by repeat (first | exact HB.out | refine below_set ?_ GE379.out | refine below_set ?_ GE380.out | refine below_set ?_ GE389.out | refine below_set ?_ GE390.out | refine below_set ?_ GE399.out | refine below_set ?_ GE400.out)⟩
set_option maxHeartbeats 8000000 in
set_option maxRecDepth 100000 in
theorem draws_step.calls (a0 : Int) (r : Int) (w : World) (h : draws_step.f a0 = some r) :
  Calls Try.prog 82 #[.int .u64 a0] w fun e w' => e = .returned (.int .u64 r) ∧ Drawn0 w w' := by
 have H : (some (IntKind.u64.wrap ((IntKind.u64.wrap (a0 * 6364136223846793005)) + 1442695040888963407))) = some r := h
 clear h
 obtain rfl := Option.some.inj H
 go_enter Try.func82, Try.ntmps82
 go_wp2
 go_ret
 exact ⟨by first | rfl | (simp; done) | (simp [*]; done), by repeat (first | exact Drawn0.refl _ | apply Drawn0.step)⟩
set_option maxHeartbeats 8000000 in
set_option maxRecDepth 100000 in
theorem draws_Next.calls (a0 : Int) (r1 : Int) (r2 : Int) (w : World) (h : draws_Next.f a0 = some (r1, r2)) :
  Calls Try.prog 55 #[.int .u64 a0] w fun e w' => e = .returned (.tuple #[.int .u32 r1, .int .u64 r2]) ∧ Drawn0 w w' := by
 have H : ((draws_step.f a0).bind fun t410 => (some ((t410 / 4294967296) % 4294967296, t410))) = some (r1, r2) := h
 clear h
 obtain ⟨t410, A2, H⟩ := bindA H
 simp only [Option.some.injEq, Prod.mk.injEq] at H
 obtain ⟨rfl, rfl⟩ := H
 go_enter Try.func55, Try.ntmps55
 go_wp2_with (first | ((with_reducible refine gate_callee (f := 82) rfl ?_); refine goesL_ (some 6) rfl rfl Try.func82 (by kernel_rfl) rfl #[.int .u64 a0] rfl (by first | (go_simp; done) | (go_simp; rfl)) ?_; (with_reducible refine (draws_step.calls a0 t410 _ A2.out).mono ?_); rintro e w' ⟨rfl, ⟨nd, rfl⟩⟩; refine ⟨_, rfl, ?_⟩))
 go_ret2
 exact ⟨by first | rfl | (simp; done) | (simp [*]; done), by repeat (first | exact Drawn0.refl _ | apply Drawn0.step)⟩
set_option maxHeartbeats 8000000 in
set_option maxRecDepth 100000 in
theorem draws_Chance.calls (k : Nat) (a0 : Int) (a1_0 : Bool) (A1_1 : Option Addr) (c1_1 : Nat) (l1_1 : List Int) (A1_2 : Option Addr) (c1_2 : Nat) (l1_2 : List Int) (r1 : Bool) (r2 : Int) (w : World) (hr1_1 : Kd.C (Kd.int .u32) w A1_1 l1_1.length l1_1) (hc1_1 : l1_1.length ≤ c1_1) (hr1_2 : Kd.C (Kd.int .u32) w A1_2 l1_2.length l1_2) (hc1_2 : l1_2.length ≤ c1_2) (h : draws_Chance.f k a0 a1_0 l1_1 l1_2 = some (r1, r2)) :
  Calls Try.prog 28 #[.int .u64 a0, .agg #[.bool a1_0, .slice A1_1 l1_1.length c1_1, .slice A1_2 l1_2.length c1_2]] w fun e w' => e = .returned (.tuple #[.bool r1, .int .u64 r2]) ∧ Below w.heap.size w w' := by
 have hu29 := Try.underlying29
 have HR1_1 := mk0 hr1_1
 have HC1_1 := mk0 hc1_1
 clear hr1_1 hc1_1
 have HR1_2 := mk0 hr1_2
 have HC1_2 := mk0 hc1_2
 clear hr1_2 hc1_2
 have HB := mk0 (Below.refl w.heap.size w)
 have H : ((draws_Next.f a0).bind fun bt412 => ((ratio_Of.f k (wrap64 (bt412.1)) 4294967296).bind fun bt414 => ((ratio_Cmp.f k bt414.1 bt414.2.1 bt414.2.2.1 a1_0 l1_1 l1_2).bind fun t423 => (some (decide (t423 < 0), bt412.2))))) = some (r1, r2) := h
 clear h
 obtain ⟨⟨t412, t413⟩, A3, H⟩ := bindA H
 obtain ⟨⟨t414, t415, t418, t421⟩, A4, H⟩ := bindA H
 obtain ⟨t423, A5, H⟩ := bindA H
 simp only [Option.some.injEq, Prod.mk.injEq] at H
 obtain ⟨rfl, rfl⟩ := H
 go_enter Try.func28, Try.ntmps28
 go_wp2_with (first | ((with_reducible refine gate_dst (N := 3) rfl ?_); refine box_event rfl (N := 3) rfl (cs := #[.bool a1_0, .slice A1_1 l1_1.length c1_1, .slice A1_2 l1_2.length c1_2]) (t := 29) (by first | (go_simp; done) | (go_simp; rfl)) ?_; intro gb411 hg w6 hbox hb; have BK411 := mk0 (hbox); have GE411 := mk0 ((by rw [hg]; exact (below_size (by repeat (first | (with_reducible first | exact HB.out | apply below_alloc | apply pw_below_drewN | apply below_drew1) | exact HB.out))) : w.heap.size ≤ gb411)); replace HB := mk0 (below_step (by repeat (first | (with_reducible first | exact HB.out | apply below_alloc | apply pw_below_drewN | apply below_drew1) | exact HB.out)) hb); clear hb hbox hg) | ((with_reducible refine gate_callee (f := 55) rfl ?_); refine goesL_ (some 11) rfl rfl Try.func55 (by kernel_rfl) rfl #[.int .u64 a0] rfl (by (try simp only [List.map_toArray, List.map_cons, List.map_nil]); first | done | rfl | (simp only [List.length_drop, List.length_take]; rfl)) ?_; (with_reducible refine (draws_Next.calls a0 t412 t413 _ A3.out).mono ?_); rintro e w' ⟨rfl, ⟨nd, rfl⟩⟩; refine ⟨_, rfl, ?_⟩; (try (rw [drewN_self w6]; generalize hq_ : World.drewN w6 _ = w6; replace BK411 : Aside0 (w6.heap[gb411]? = some (.cells #[.bool a1_0, .slice A1_1 l1_1.length c1_1, .slice A1_2 l1_2.length c1_2] 29 (0, 0))) := ⟨by rw [← hq_]; exact (by (with_reducible repeat (first | refine blk_drewN ?_ _ | refine blk_drew ?_ | refine blk_alloc ?_ _)); exact BK411.out)⟩; replace HB : Aside0 (Below w.heap.size w w6) := ⟨by rw [← hq_]; exact (by repeat (first | (with_reducible first | exact HB.out | apply below_alloc | apply pw_below_drewN | apply below_drew1 | refine below_set ?_ GE411.out) | exact HB.out))⟩; clear hq_))) | ((with_reducible refine gate_callee (f := 16) rfl ?_); refine goesL_ (some 17) rfl rfl Try.func16 (by kernel_rfl) rfl #[.int .i64 (wrap64 (t412)), .int .i64 4294967296] rfl (by (try simp only [List.map_toArray, List.map_cons, List.map_nil]); first | done | rfl | (simp only [List.length_drop, List.length_take]; rfl)) ?_; (with_reducible refine (ratio_Of.calls k (wrap64 (t412)) 4294967296 t414 t415 t418 t421 _ A4.out).mono ?_); rintro e w7 ⟨v416, v419, rfl, ho0, ho1, hb⟩; refine ⟨_, rfl, ?_⟩; have HO417 := mk0 (Kd.R_lower (Kd.R_mono (ok' := fun k_ => True) ho0 (fun _ hk_ => trivial)) (below_size (by repeat (first | (with_reducible first | exact HB.out | apply below_alloc | apply pw_below_drewN | apply below_drew1 | refine below_set ?_ GE411.out) | exact HB.out)))); have HO420 := mk0 (Kd.V_lower (Kd.V_mono (ok' := fun k_ => some k_ ≠ (v416 : Value).ownBlock ∧ k_ ≠ gb411) ho1 (fun k_ hk_ => ⟨hk_.2, (Kd.freshB (g := gb411) (o := .cells #[.bool a1_0, .slice A1_1 l1_1.length c1_1, .slice A1_2 l1_2.length c1_2] 29 (0, 0)) (by (with_reducible repeat (first | refine blk_drewN ?_ _ | refine blk_drew ?_ | refine blk_alloc ?_ _)); exact BK411.out) k_ hk_.1)⟩)) (below_size (by repeat (first | (with_reducible first | exact HB.out | apply below_alloc | apply pw_below_drewN | apply below_drew1 | refine below_set ?_ GE411.out) | exact HB.out)))); replace BK411 := mk0 (blk_below (g := gb411) (o := .cells #[.bool a1_0, .slice A1_1 l1_1.length c1_1, .slice A1_2 l1_2.length c1_2] 29 (0, 0)) (by (with_reducible repeat (first | refine blk_drewN ?_ _ | refine blk_drew ?_ | refine blk_alloc ?_ _)); exact BK411.out) hb); replace HB := mk0 (below_step (by repeat (first | (with_reducible first | exact HB.out | apply below_alloc | apply pw_below_drewN | apply below_drew1 | refine below_set ?_ GE411.out) | exact HB.out)) hb)) | ((with_reducible refine gate_dst (N := 7) rfl ?_); refine box_event rfl (N := 7) rfl (cs := #[.bool false, .slice none 0 0, .slice none 0 0]) (t := 29) (by first | (go_simp; done) | (go_simp; rfl)) ?_; intro gb422 hg w8 hbox hb; replace HO417 := mk0 (Kd.R_below (by (with_reducible repeat (first | apply Kd.R_alloc | apply Kd.R_drewN | apply Kd.R_drew)); exact HO417.out) hb); replace HO420 := mk0 (Kd.V_below (Kd.V_elderB (by (with_reducible repeat (first | apply Kd.V_alloc | apply Kd.V_drewN | apply Kd.V_drew)); exact HO420.out) gb422 (Nat.le_of_eq hg.symm)) hb); have BK422 := mk0 (hbox); have GE422 := mk0 ((by rw [hg]; exact (below_size (by repeat (first | (with_reducible first | exact HB.out | apply below_alloc | apply pw_below_drewN | apply below_drew1 | refine below_set ?_ GE411.out) | exact HB.out))) : w.heap.size ≤ gb422)); replace HB := mk0 (below_step (by repeat (first | (with_reducible first | exact HB.out | apply below_alloc | apply pw_below_drewN | apply below_drew1 | refine below_set ?_ GE411.out) | exact HB.out)) hb); have NB411_422 := mk0 ((by rw [hg]; exact Nat.ne_of_lt (blk_lt (g := gb411) (o := .cells #[.bool a1_0, .slice A1_1 l1_1.length c1_1, .slice A1_2 l1_2.length c1_2] 29 (0, 0)) (by (with_reducible repeat (first | refine blk_drewN ?_ _ | refine blk_drew ?_ | refine blk_alloc ?_ _)); exact BK411.out)) : gb411 ≠ gb422)); have NB422_411 := mk0 ((by rw [hg]; exact Nat.ne_of_gt (blk_lt (g := gb411) (o := .cells #[.bool a1_0, .slice A1_1 l1_1.length c1_1, .slice A1_2 l1_2.length c1_2] 29 (0, 0)) (by (with_reducible repeat (first | refine blk_drewN ?_ _ | refine blk_drew ?_ | refine blk_alloc ?_ _)); exact BK411.out)) : gb422 ≠ gb411)); replace BK411 := mk0 (blk_below (g := gb411) (o := .cells #[.bool a1_0, .slice A1_1 l1_1.length c1_1, .slice A1_2 l1_2.length c1_2] 29 (0, 0)) (by (with_reducible repeat (first | refine blk_drewN ?_ _ | refine blk_drew ?_ | refine blk_alloc ?_ _)); exact BK411.out) hb); clear hb hbox hg; have hnb9 := NB422_411.out; have hnc9 := NB411_422.out; have hcz10_0 : w8.cell? ⟨gb422, 0, none⟩ = some (.bool false) := (blk_cell BK422.out 0).trans rfl; have hcz10_1 : w8.cell? ⟨gb422, 1, none⟩ = some (.slice none 0 0) := (blk_cell BK422.out 1).trans rfl; have hcz10_2 : w8.cell? ⟨gb422, 2, none⟩ = some (.slice none 0 0) := (blk_cell BK422.out 2).trans rfl; have hfz10_0 := blk_frozen BK422.out 0; have hfz10_1 := blk_frozen BK422.out 1; have hfz10_2 := blk_frozen BK422.out 2; obtain ⟨Ao11, co11, eo11⟩ := Kd.R_slice HO417.out; subst eo11; obtain ⟨Ao12, co12, eo12⟩ := Kd.V_slice HO420.out; subst eo12; have hcz13_0 : w8.cell? ⟨gb411, 0, none⟩ = some (.bool a1_0) := (blk_cell BK411.out 0).trans rfl; have hcz13_1 : w8.cell? ⟨gb411, 1, none⟩ = some (.slice A1_1 l1_1.length c1_1) := (blk_cell BK411.out 1).trans rfl; have hcz13_2 : w8.cell? ⟨gb411, 2, none⟩ = some (.slice A1_2 l1_2.length c1_2) := (blk_cell BK411.out 2).trans rfl; have hfz13_0 := blk_frozen BK411.out 0; have hfz13_1 := blk_frozen BK411.out 1; have hfz13_2 := blk_frozen BK411.out 2) | ((with_reducible refine gate_callee (f := 26) rfl ?_); refine goesL_ (some 22) rfl rfl Try.func26 (by kernel_rfl) rfl #[.agg #[.bool t414, .slice Ao11 t415.length co11, .slice Ao12 t418.length co12], .agg #[.bool a1_0, .slice A1_1 l1_1.length c1_1, .slice A1_2 l1_2.length c1_2]] rfl (by (try simp only [List.map_toArray, List.map_cons, List.map_nil]); first | done | rfl | (simp only [List.length_drop, List.length_take]; rfl)) ?_; (with_reducible refine (ratio_Cmp.calls k t414 _ _ t415 _ _ t418 a1_0 _ _ l1_1 _ _ l1_2 t423 _ (by refine (Kd.R_reads' (e := 87) (base := w.heap.size) (ok := fun k_ => True) (n := t415.length) (c := co11) ?_).2.2; exact (by (with_reducible repeat (first | apply Kd.R_alloc | apply Kd.R_drewN | apply Kd.R_drew)); exact (Kd.R_mono (Kd.R_far (p := ⟨gb422, 2, none⟩) (Kd.R_far (p := ⟨gb422, 1, none⟩) (Kd.R_far (p := ⟨gb422, 0, none⟩) (Kd.R_types HO417.out BK422.out (by decide)) (fun _ hk => hk.2) (.bool t414)) (fun _ hk => hk.2) (.slice Ao11 t415.length co11)) (fun _ hk => hk.2) (.slice Ao12 t418.length co12)) (fun _ h_ => h_.1)))) (by exact (Kd.R_reads' HO417.out).2.1) (by refine (Kd.V_reads' (e := 87) (base := w.heap.size) (ok := fun k_ => ((some k_ ≠ (.slice Ao11 t415.length co11 : Value).ownBlock ∧ k_ ≠ gb411) ∧ k_ ≠ gb422)) (n := t418.length) (c := co12) ?_).2.2; exact (by (with_reducible repeat (first | apply Kd.V_alloc | apply Kd.V_drewN | apply Kd.V_drew)); exact (Kd.V_mono (Kd.V_far (p := ⟨gb422, 2, none⟩) (Kd.V_far (p := ⟨gb422, 1, none⟩) (Kd.V_far (p := ⟨gb422, 0, none⟩) (Kd.V_mono HO420.out (fun k_ hk => (⟨hk, hk.2⟩ : _ ∧ k_ ≠ gb422))) (fun _ hk => hk.2) (.bool t414)) (fun _ hk => hk.2) (.slice Ao11 t415.length co11)) (fun _ hk => hk.2) (.slice Ao12 t418.length co12)) (fun _ h_ => h_.1)))) (by exact (Kd.V_reads' HO420.out).2.1) (by exact Kd.C_below HR1_1.out (by repeat (first | (with_reducible first | exact HB.out | apply below_alloc | apply pw_below_drewN | apply below_drew1 | refine below_set ?_ GE411.out | refine below_set ?_ GE422.out) | exact HB.out))) HC1_1.out (by exact Kd.C_below HR1_2.out (by repeat (first | (with_reducible first | exact HB.out | apply below_alloc | apply pw_below_drewN | apply below_drew1 | refine below_set ?_ GE411.out | refine below_set ?_ GE422.out) | exact HB.out))) HC1_2.out A5.out).mono ?_); rintro e w14 ⟨rfl, hb⟩; refine ⟨_, rfl, ?_⟩; replace HO417 := mk0 (Kd.R_below (by (with_reducible repeat (first | apply Kd.R_alloc | apply Kd.R_drewN | apply Kd.R_drew)); exact (Kd.R_mono (Kd.R_far (p := ⟨gb422, 2, none⟩) (Kd.R_far (p := ⟨gb422, 1, none⟩) (Kd.R_far (p := ⟨gb422, 0, none⟩) (Kd.R_types HO417.out BK422.out (by decide)) (fun _ hk => hk.2) (.bool t414)) (fun _ hk => hk.2) (.slice Ao11 t415.length co11)) (fun _ hk => hk.2) (.slice Ao12 t418.length co12)) (fun _ h_ => h_.1))) hb); replace HO420 := mk0 (Kd.V_below (by (with_reducible repeat (first | apply Kd.V_alloc | apply Kd.V_drewN | apply Kd.V_drew)); exact (Kd.V_mono (Kd.V_far (p := ⟨gb422, 2, none⟩) (Kd.V_far (p := ⟨gb422, 1, none⟩) (Kd.V_far (p := ⟨gb422, 0, none⟩) (Kd.V_mono HO420.out (fun k_ hk => (⟨hk, hk.2⟩ : _ ∧ k_ ≠ gb422))) (fun _ hk => hk.2) (.bool t414)) (fun _ hk => hk.2) (.slice Ao11 t415.length co11)) (fun _ hk => hk.2) (.slice Ao12 t418.length co12)) (fun _ h_ => h_.1))) hb); replace BK411 := mk0 (blk_below (g := gb411) (o := .cells #[.bool a1_0, .slice A1_1 l1_1.length c1_1, .slice A1_2 l1_2.length c1_2] 29 (0, 0)) (by (with_reducible repeat (first | refine blk_drewN ?_ _ | refine blk_drew ?_ | refine blk_alloc ?_ _)); refine blk_far ?_ NB411_422.out _; (with_reducible repeat (first | refine blk_drewN ?_ _ | refine blk_drew ?_ | refine blk_alloc ?_ _)); refine blk_far ?_ NB411_422.out _; (with_reducible repeat (first | refine blk_drewN ?_ _ | refine blk_drew ?_ | refine blk_alloc ?_ _)); refine blk_far ?_ NB411_422.out _; (with_reducible repeat (first | refine blk_drewN ?_ _ | refine blk_drew ?_ | refine blk_alloc ?_ _)); exact BK411.out) hb); replace BK422 := mk0 (blk_below (g := gb422) (o := .cells #[.bool t414, .slice Ao11 t415.length co11, .slice Ao12 t418.length co12] 29 (0, 0)) (by (with_reducible repeat (first | refine blk_drewN ?_ _ | refine blk_drew ?_ | refine blk_alloc ?_ _)); refine blk_put (cs := #[.bool t414, .slice Ao11 t415.length co11, .slice none 0 0]) ?_ 2 _ rfl; (with_reducible repeat (first | refine blk_drewN ?_ _ | refine blk_drew ?_ | refine blk_alloc ?_ _)); refine blk_put (cs := #[.bool t414, .slice none 0 0, .slice none 0 0]) ?_ 1 _ rfl; (with_reducible repeat (first | refine blk_drewN ?_ _ | refine blk_drew ?_ | refine blk_alloc ?_ _)); refine blk_put (cs := #[.bool false, .slice none 0 0, .slice none 0 0]) ?_ 0 _ rfl; (with_reducible repeat (first | refine blk_drewN ?_ _ | refine blk_drew ?_ | refine blk_alloc ?_ _)); exact BK422.out) hb); replace HB := mk0 (below_step (by repeat (first | (with_reducible first | exact HB.out | apply below_alloc | apply pw_below_drewN | apply below_drew1 | refine below_set ?_ GE411.out | refine below_set ?_ GE422.out) | exact HB.out)) hb)))
 go_ret2
 exact ⟨by first | rfl | (simp [errW_none, errW_some] <;> rfl) | (simp [*, errW_none, errW_some] <;> rfl), by repeat (first | (with_reducible first | exact HB.out | apply below_alloc | apply pw_below_drewN | apply below_drew1 | refine below_set ?_ GE411.out | refine below_set ?_ GE422.out) | exact HB.out)⟩
set_option maxHeartbeats 8000000 in
set_option maxRecDepth 100000 in
theorem exposure_Accept.calls (k : Nat) (a0 : Int) (a1_0 : Bool) (A1_1 : Option Addr) (c1_1 : Nat) (l1_1 : List Int) (A1_2 : Option Addr) (c1_2 : Nat) (l1_2 : List Int) (r1 : Bool) (r2 : Int) (w : World) (hr1_1 : Kd.C (Kd.int .u32) w A1_1 l1_1.length l1_1) (hc1_1 : l1_1.length ≤ c1_1) (hr1_2 : Kd.C (Kd.int .u32) w A1_2 l1_2.length l1_2) (hc1_2 : l1_2.length ≤ c1_2) (h : exposure_Accept.f k a0 a1_0 l1_1 l1_2 = some (r1, r2)) :
  Calls Try.prog 11 #[.int .u64 a0, .agg #[.bool a1_0, .slice A1_1 l1_1.length c1_1, .slice A1_2 l1_2.length c1_2]] w fun e w' => e = .returned (.tuple #[.bool r1, .int .u64 r2]) ∧ Below w.heap.size w w' := by
 have hu29 := Try.underlying29
 have HR1_1 := mk0 hr1_1
 have HC1_1 := mk0 hc1_1
 clear hr1_1 hc1_1
 have HR1_2 := mk0 hr1_2
 have HC1_2 := mk0 hc1_2
 clear hr1_2 hc1_2
 have HB := mk0 (Below.refl w.heap.size w)
 have H : ((draws_Chance.f k a0 a1_0 l1_1 l1_2).bind fun bt425 => (some (bt425.1, bt425.2))) = some (r1, r2) := h
 clear h
 obtain ⟨⟨t425, t426⟩, A3, H⟩ := bindA H
 simp only [Option.some.injEq, Prod.mk.injEq] at H
 obtain ⟨rfl, rfl⟩ := H
 go_enter Try.func11, Try.ntmps11
 go_wp2_with (first | ((with_reducible refine gate_dst (N := 3) rfl ?_); refine box_event rfl (N := 3) rfl (cs := #[.bool a1_0, .slice A1_1 l1_1.length c1_1, .slice A1_2 l1_2.length c1_2]) (t := 29) (by first | (go_simp; done) | (go_simp; rfl)) ?_; intro gb424 hg w4 hbox hb; have BK424 := mk0 (hbox); have GE424 := geB hg HB; replace HB := hbS HB hb; clear hb hbox hg; have hcz5_0 : w4.cell? ⟨gb424, 0, none⟩ = some (.bool a1_0) := (blk_cell BK424.out 0).trans rfl; have hcz5_1 : w4.cell? ⟨gb424, 1, none⟩ = some (.slice A1_1 l1_1.length c1_1) := (blk_cell BK424.out 1).trans rfl; have hcz5_2 : w4.cell? ⟨gb424, 2, none⟩ = some (.slice A1_2 l1_2.length c1_2) := (blk_cell BK424.out 2).trans rfl; have hfz5_0 := blk_frozen BK424.out 0; have hfz5_1 := blk_frozen BK424.out 1; have hfz5_2 := blk_frozen BK424.out 2) | ((with_reducible refine gate_callee (f := 28) rfl ?_); refine goesL_ (some 8) rfl rfl Try.func28 (by kernel_rfl) rfl #[.int .u64 a0, .agg #[.bool a1_0, .slice A1_1 l1_1.length c1_1, .slice A1_2 l1_2.length c1_2]] rfl (by first | (go_simp; done) | (go_simp; rfl)) ?_; (with_reducible refine (draws_Chance.calls k a0 a1_0 _ _ l1_1 _ _ l1_2 t425 t426 _ (by exact Kd.C_below HR1_1.out HB.out) HC1_1.out (by exact Kd.C_below HR1_2.out HB.out) HC1_2.out A3.out).mono ?_); rintro e w6 ⟨rfl, hb⟩; refine ⟨_, rfl, ?_⟩; replace BK424 := bkB BK424 hb; replace HB := hbS HB hb))
 go_ret2
 exact ⟨by first | rfl | (simp [errW_none, errW_some] <;> rfl) | (simp [*, errW_none, errW_some] <;> rfl), by repeat (first | exact HB.out | refine below_set ?_ GE424.out)⟩
set_option maxHeartbeats 8000000 in
set_option maxRecDepth 100000 in
theorem examboardref01_Norm.calls (k : Nat) (A0 : Option Addr) (c0 : Nat) (l0 : List Int) (r : List Int) (w : World) (hr0 : Kd.C (Kd.int .u32) w A0 l0.length l0) (hc0 : l0.length ≤ c0) (h : examboardref01_Norm.f k l0 = some r) :
  Calls Try.prog 89 #[.slice A0 l0.length c0] w fun e w' => ∃ v0_ : Value, e = .returned (v0_) ∧ Kd.R (Kd.int .u32) 87 w' w.heap.size (fun _ => True) v0_ r ∧ Below w.heap.size w w' := by
 have HR0 := mk0 hr0
 have HC0 := mk0 hc0
 clear hr0 hc0
 have HB := mk0 (Below.refl w.heap.size w)
 have H : (examboardref01_Norm.l0 k l0 (l0.length : Int)) = some r := h
 clear h
 have H' := mk0 H
 clear H
 go_enter Try.func89, Try.ntmps89
 go_wp2
 go_loopg [3] k (fun kq v3 w' => ∃ (x3_1 : Int), v3 = .int .i64 x3_1 ∧ Aside0 (examboardref01_Norm.l0 kq l0 x3_1 = some r) ∧ Aside0 (kq ≤ k) ∧ Aside0 (Below w.heap.size w w'))
 case atStart => exact ⟨((l0.length : Int)), (by first | rfl | (simp; done) | (simp [*]; done)), H', ⟨Nat.le_refl _⟩, ⟨HB.out⟩⟩
 case round =>
  clear H'
  obtain ⟨x3_1, rfl, HA, HK1, HB⟩ := hrel
  cases gk with
  | zero => exact absurd HA.out (by simp [examboardref01_Norm.l0])
  | succ k1 =>
   have H := HA.out
   clear HA
   simp only [examboardref01_Norm.l0] at H
   by_cases c2 : x3_1 > 0
   ·rw [if_pos c2] at H
    have c2b0 : decide (0 < x3_1) = true := decide_eq_true c2
    clear c2
    obtain ⟨ji3, hji3⟩ : ∃ j_ : Int, (wrap64 (x3_1 - 1)) = j_ := ⟨_, rfl⟩
    replace H : (if 0 ≤ (ji3) then (if (ji3) < (l0.length : Int) then (if (rd l0 (ji3)) = 0 then (examboardref01_Norm.l0 k1 l0 ji3) else (if 0 ≤ x3_1 then (if (x3_1 : Int).toNat ≤ 70368744177664 then (if (x3_1 : Int).toNat ≤ l0.length then (some (l0.take (x3_1 : Int).toNat)) else (none)) else (none)) else (none))) else (none)) else (none)) = some r := by first | (rw [hji3] at H; exact H) | (simp only [hji3] at H ⊢; exact H)
    have hji3w : (IntKind.i64.wrap (x3_1 - 1)) = ji3 := (i64_w _).trans hji3
    by_cases c4 : 0 ≤ (ji3)
    ·rw [if_pos c4] at H
     have c4b0 : decide (0 ≤ (ji3)) = true := decide_eq_true c4
     clear c4
     by_cases c5 : (ji3) < (l0.length : Int)
     ·rw [if_pos c5] at H
      have c5b0 : decide ((ji3) < (l0.length : Int)) = true := decide_eq_true c5
      clear c5
      by_cases c6 : (rd l0 (ji3)) = 0
      ·rw [if_pos c6] at H
       have c6b0 : ((rd l0 (ji3)) == 0) = true := beq_iff_eq.mpr c6
       have c6b1 : ((rd l0 (ji3)) != 0) = false := bne_eq_false_iff_eq.mpr c6
       clear c6
       have H' := mk0 H
       clear H
       have p101 : 0 ≤ ((ji3) : Int) := of_decide_eq_true (by assumption)
       have q101 : (ji3) < (l0.length : Int) := of_decide_eq_true (by assumption)
       obtain ⟨ad101, e101, hx101_0⟩ := Kd.at_int HR0.out (ji3) p101 q101
       cases e101
       replace hx101_0 := (HB.out.cell (World.block_lt_of_cell? w _ hx101_0)).trans hx101_0
       replace p101 := eq_true p101
       replace q101 := eq_true q101
       go_wp2
       go_roundg k1
       case measure => have := HK1.out; omega
       case rel => exact ⟨(ji3), (by first | rfl | (simp; done) | (simp only [← hji3] <;> (first | rfl | simp)) | (simp [*]; done)), H', ⟨by have := HK1.out; omega⟩, ⟨HB.out⟩⟩
      ·rw [if_neg c6] at H
       have c6b0 : ((rd l0 (ji3)) == 0) = false := beq_eq_false_iff_ne.mpr c6
       have c6b1 : ((rd l0 (ji3)) != 0) = true := bne_iff_ne.mpr c6
       by_cases c7 : 0 ≤ x3_1
       ·rw [if_pos c7] at H
        have c7b0 := eq_true c7
        have c7b1 : decide (0 ≤ x3_1) = true := decide_eq_true c7
        clear c7
        by_cases c8 : (x3_1 : Int).toNat ≤ 70368744177664
        ·rw [if_pos c8] at H
         have c8b0 := eq_true c8
         have c8b1 : decide ((x3_1 : Int).toNat ≤ 70368744177664) = true := decide_eq_true c8
         clear c8
         by_cases cL : (x3_1 : Int).toNat ≤ l0.length
         case neg => rw [if_neg cL] at H; exact absurd H (by simp)
         rw [if_pos cL] at H
         have HCL := mk0 cL
         clear cL
         obtain ⟨y102, hy102⟩ : ∃ y_ : List Int, y_ = (List.replicate (x3_1 : Int).toNat 0) := ⟨_, rfl⟩
         have Ny102 := mk0 hy102
         clear hy102
         obtain rfl := Option.some.inj H
         have p101 : 0 ≤ ((ji3) : Int) := of_decide_eq_true (by assumption)
         have q101 : (ji3) < (l0.length : Int) := of_decide_eq_true (by assumption)
         obtain ⟨ad101, e101, hx101_0⟩ := Kd.at_int HR0.out (ji3) p101 q101
         cases e101
         replace hx101_0 := (HB.out.cell (World.block_lt_of_cell? w _ hx101_0)).trans hx101_0
         replace p101 := eq_true p101
         replace q101 := eq_true q101
         go_wp2_with (first | ((with_reducible refine gate_dst (N := 20) rfl ?_); refine Kd.R_make (Kd.int .u32) _ 87 rfl (N := 20) rfl 25 _ _ rfl x3_1 rfl rfl Try.underlying25 (.int .u32 0) 4 info87 rfl (by decide) (by omega) 0 (ok := fun _ => True) (okp := fun _ => True) rfl (fun _ hk => hk) trivial (of_decide_eq_true (by assumption)) (Nat.le_trans (Nat.mul_le_mul_right _ (of_decide_eq_true (by assumption) : x3_1.toNat ≤ 70368744177664)) (by omega)) (Below.refl _ _) (Nat.le_refl _) ?_; intro v103 w9 ho10 hb hg_ hnew_; clear hg_ hnew_; (first | rw [← Ny102.out] at ho10 | (simp only [Int.reduceToNat] at ho10; rw [← Ny102.out] at ho10)); have HO104 := mk0 (Kd.R_lower ho10 (below_size HB.out)); replace HB := hbS HB hb; clear hb ho10) | (with_reducible refine gate_builtin (b := .copy) (xs := #[.tmp 21, .tmp 22]) rfl ?_; refine copy_event (p := 21) (q := 22) (dT := 25) (e := 87) rfl rfl Try.underlying25 info87 rfl rfl HO104.out (Kd.C_below HR0.out HB.out) (by rw [Ny102.out, List.length_replicate]; exact HCL.out) HB.out ?_; intro n_ w_ hc_ hb_; have HO104c := mk0 hc_; replace HB := mk0 hb_))
         go_ret
         exact ⟨_, by first | rfl | (simp [errW_none, errW_some] <;> rfl) | (simp only [← hji3]; first | rfl | (simp [errW_none, errW_some] <;> rfl)) | (simp [*, errW_none, errW_some] <;> rfl), by (with_reducible repeat (first | apply Kd.R_alloc | apply Kd.R_drewN | apply Kd.R_drew)); have z_ := HO104c.out; rw [Ny102.out, List.length_replicate] at z_; exact z_, HB.out⟩
        ·rw [if_neg c8] at H
         exact absurd H (by simp)
       ·rw [if_neg c7] at H
        exact absurd H (by simp)
     ·rw [if_neg c5] at H
      exact absurd H (by simp)
    ·rw [if_neg c4] at H
     exact absurd H (by simp)
   ·rw [if_neg c2] at H
    have c2b0 : decide (0 < x3_1) = false := decide_eq_false c2
    clear c2
    by_cases c11 : 0 ≤ x3_1
    ·rw [if_pos c11] at H
     have c11b0 := eq_true c11
     have c11b1 : decide (0 ≤ x3_1) = true := decide_eq_true c11
     clear c11
     by_cases c12 : (x3_1 : Int).toNat ≤ 70368744177664
     ·rw [if_pos c12] at H
      have c12b0 := eq_true c12
      have c12b1 : decide ((x3_1 : Int).toNat ≤ 70368744177664) = true := decide_eq_true c12
      clear c12
      by_cases cL : (x3_1 : Int).toNat ≤ l0.length
      case neg => rw [if_neg cL] at H; exact absurd H (by simp)
      rw [if_pos cL] at H
      have HCL := mk0 cL
      clear cL
      obtain ⟨y105, hy105⟩ : ∃ y_ : List Int, y_ = (List.replicate (x3_1 : Int).toNat 0) := ⟨_, rfl⟩
      have Ny105 := mk0 hy105
      clear hy105
      obtain rfl := Option.some.inj H
      go_wp2_with (first | ((with_reducible refine gate_dst (N := 20) rfl ?_); refine Kd.R_make (Kd.int .u32) _ 87 rfl (N := 20) rfl 25 _ _ rfl x3_1 rfl rfl Try.underlying25 (.int .u32 0) 4 info87 rfl (by decide) (by omega) 0 (ok := fun _ => True) (okp := fun _ => True) rfl (fun _ hk => hk) trivial (of_decide_eq_true (by assumption)) (Nat.le_trans (Nat.mul_le_mul_right _ (of_decide_eq_true (by assumption) : x3_1.toNat ≤ 70368744177664)) (by omega)) (Below.refl _ _) (Nat.le_refl _) ?_; intro v106 w13 ho14 hb hg_ hnew_; clear hg_ hnew_; (first | rw [← Ny105.out] at ho14 | (simp only [Int.reduceToNat] at ho14; rw [← Ny105.out] at ho14)); have HO107 := mk0 (Kd.R_lower ho14 (below_size HB.out)); replace HB := hbS HB hb; clear hb ho14) | (with_reducible refine gate_builtin (b := .copy) (xs := #[.tmp 21, .tmp 22]) rfl ?_; refine copy_event (p := 21) (q := 22) (dT := 25) (e := 87) rfl rfl Try.underlying25 info87 rfl rfl HO107.out (Kd.C_below HR0.out HB.out) (by rw [Ny105.out, List.length_replicate]; exact HCL.out) HB.out ?_; intro n_ w_ hc_ hb_; have HO107c := mk0 hc_; replace HB := mk0 hb_))
      go_ret
      exact ⟨_, by first | rfl | (simp [errW_none, errW_some] <;> rfl) | (simp [*, errW_none, errW_some] <;> rfl), by (with_reducible repeat (first | apply Kd.R_alloc | apply Kd.R_drewN | apply Kd.R_drew)); have z_ := HO107c.out; rw [Ny105.out, List.length_replicate] at z_; exact z_, HB.out⟩
     ·rw [if_neg c12] at H
      exact absurd H (by simp)
    ·rw [if_neg c11] at H
     exact absurd H (by simp)
set_option maxHeartbeats 8000000 in
set_option maxRecDepth 100000 in
theorem examboardref02_Norm.calls (k : Nat) (a0_0 : Bool) (A0_1 : Option Addr) (c0_1 : Nat) (l0_1 : List Int) (r1 : Bool) (r2 : List Int) (w : World) (hr0_1 : Kd.C (Kd.int .u32) w A0_1 l0_1.length l0_1) (hc0_1 : l0_1.length ≤ c0_1) (h : examboardref02_Norm.f k a0_0 l0_1 = some (r1, r2)) :
  Calls Try.prog 84 #[.agg #[.bool a0_0, .slice A0_1 l0_1.length c0_1]] w fun e w' => ∃ v1_ : Value, e = .returned (.agg #[.bool r1, v1_]) ∧ Kd.R (Kd.int .u32) 87 w' w.heap.size (fun _ => True) v1_ r2 ∧ Below w.heap.size w w' := by
 have hu27 := Try.underlying27
 have HR0_1 := mk0 hr0_1
 have HC0_1 := mk0 hc0_1
 clear hr0_1 hc0_1
 have HB := mk0 (Below.refl w.heap.size w)
 have H : ((examboardref01_Norm.f k l0_1).bind fun t429 => (if a0_0 = true then (some (decide (0 < t429.length), t429)) else (some (false, t429)))) = some (r1, r2) := h
 clear h
 obtain ⟨t429, A2, H⟩ := bindA H
 by_cases c3 : a0_0 = true
 ·subst c3
  have H1 : (some (decide (0 < t429.length), t429)) = some (r1, r2) := by rw [if_pos rfl] at H; exact H
  clear H
  have H := H1
  clear H1
  simp only [Option.some.injEq, Prod.mk.injEq] at H
  obtain ⟨rfl, rfl⟩ := H
  go_enter Try.func84, Try.ntmps84
  go_wp2_with (first | ((with_reducible refine gate_dst (N := 1) rfl ?_); (try (refine gate_guard (by rfl) ?_; dsimp only)); refine box_event rfl (N := 1) rfl (cs := #[.bool true, .slice A0_1 l0_1.length c0_1]) (t := 27) (by first | (go_simp; done) | (go_simp; rfl)) ?_; intro gb427 hg w4 hbox hb; have BK427 := mk0 (hbox); have GE427 := geB hg HB; replace HB := hbS HB hb; clear hb hbox hg) | ((with_reducible refine gate_dst (N := 2) rfl ?_); (try (refine gate_guard (by rfl) ?_; dsimp only)); refine box_event rfl (N := 2) rfl (cs := #[.bool false, .slice none 0 0]) (t := 27) (by first | (go_simp; done) | (go_simp; rfl)) ?_; intro gb428 hg w5 hbox hb; have BK428 := mk0 (hbox); have GE428 := geB hg HB; replace HB := hbS HB hb; have NB427_428 := nbA hg BK427; have NB428_427 := nbB hg BK427; replace BK427 := bkB BK427 hb; clear hb hbox hg; have hnb6 := NB427_428.out; have hnc6 := NB428_427.out; have hcz7_0 : w5.cell? ⟨gb427, 0, none⟩ = some (.bool true) := (blk_cell BK427.out 0).trans rfl; have hcz7_1 : w5.cell? ⟨gb427, 1, none⟩ = some (.slice A0_1 l0_1.length c0_1) := (blk_cell BK427.out 1).trans rfl; have hfz7_0 := blk_frozen BK427.out 0; have hfz7_1 := blk_frozen BK427.out 1) | ((with_reducible refine gate_callee (f := 89) rfl ?_); refine goesL_ (some 6) rfl rfl Try.func89 (by kernel_rfl) rfl #[.slice A0_1 l0_1.length c0_1] rfl (by first | (go_simp; done) | (go_simp; rfl)) ?_; (with_reducible refine (examboardref01_Norm.calls k _ _ l0_1 t429 _ (by exact Kd.C_below HR0_1.out HB.out) HC0_1.out A2.out).mono ?_); rintro e w8 ⟨v430, rfl, ho0, hb⟩; refine ⟨_, rfl, ?_⟩; have HO431 := mk0 (Kd.R_lower ho0 (below_size HB.out)); replace BK427 := bkB BK427 hb; replace BK428 := bkB BK428 hb; replace HB := hbS HB hb; have hcz9_0 : w8.cell? ⟨gb427, 0, none⟩ = some (.bool true) := (blk_cell BK427.out 0).trans rfl; have hcz9_1 : w8.cell? ⟨gb427, 1, none⟩ = some (.slice A0_1 l0_1.length c0_1) := (blk_cell BK427.out 1).trans rfl; have hfz9_0 := blk_frozen BK427.out 0; have hfz9_1 := blk_frozen BK427.out 1; obtain ⟨Ao10, co10, eo10⟩ := Kd.R_slice HO431.out; subst eo10; have hcz11_0 : w8.cell? ⟨gb428, 0, none⟩ = some (.bool false) := (blk_cell BK428.out 0).trans rfl; have hcz11_1 : w8.cell? ⟨gb428, 1, none⟩ = some (.slice none 0 0) := (blk_cell BK428.out 1).trans rfl; have hfz11_0 := blk_frozen BK428.out 0; have hfz11_1 := blk_frozen BK428.out 1))
  refine bodyPost_ret (results_cell_row rfl _ _ gb428 27 #[.bool (decide (0 < t429.length)), .slice Ao10 t429.length co10] (0, 0) _ rfl (by refine blk_put (cs := #[.bool (decide (0 < t429.length)), .slice none 0 0]) ?_ 1 _ rfl; refine blk_put (cs := #[.bool false, .slice none 0 0]) ?_ 0 _ rfl; exact BK428.out) Try.underlying27 rfl (by kernel_rfl)) rfl ?_
  exact ⟨_, by first | rfl | (simp [errW_none, errW_some] <;> rfl) | (simp [*, errW_none, errW_some] <;> rfl), Kd.R_mono (Kd.R_far (p := ⟨gb428, 1, none⟩) (Kd.R_far (p := ⟨gb428, 0, none⟩) (Kd.R_types HO431.out BK428.out (by decide)) (fun _ hk => hk.2) (.bool (decide (0 < t429.length)))) (fun _ hk => hk.2) (.slice Ao10 t429.length co10)) (fun _ hk => trivial), by repeat (first | exact HB.out | refine below_set ?_ GE427.out | refine below_set ?_ GE428.out)⟩
 ·replace c3 := Bool.eq_false_iff.mpr c3
  subst c3
  have H1 : (some (false, t429)) = some (r1, r2) := by rw [if_neg (show ¬ (false = true) by decide)] at H; exact H
  clear H
  have H := H1
  clear H1
  simp only [Option.some.injEq, Prod.mk.injEq] at H
  obtain ⟨rfl, rfl⟩ := H
  go_enter Try.func84, Try.ntmps84
  go_wp2_with (first | ((with_reducible refine gate_dst (N := 1) rfl ?_); (try (refine gate_guard (by rfl) ?_; dsimp only)); refine box_event rfl (N := 1) rfl (cs := #[.bool false, .slice A0_1 l0_1.length c0_1]) (t := 27) (by first | (go_simp; done) | (go_simp; rfl)) ?_; intro gb427 hg w12 hbox hb; have BK427 := mk0 (hbox); have GE427 := geB hg HB; replace HB := hbS HB hb; clear hb hbox hg) | ((with_reducible refine gate_dst (N := 2) rfl ?_); (try (refine gate_guard (by rfl) ?_; dsimp only)); refine box_event rfl (N := 2) rfl (cs := #[.bool false, .slice none 0 0]) (t := 27) (by first | (go_simp; done) | (go_simp; rfl)) ?_; intro gb428 hg w13 hbox hb; have BK428 := mk0 (hbox); have GE428 := geB hg HB; replace HB := hbS HB hb; have NB427_428 := nbA hg BK427; have NB428_427 := nbB hg BK427; replace BK427 := bkB BK427 hb; clear hb hbox hg; have hnb14 := NB427_428.out; have hnc14 := NB428_427.out; have hcz15_0 : w13.cell? ⟨gb427, 0, none⟩ = some (.bool false) := (blk_cell BK427.out 0).trans rfl; have hcz15_1 : w13.cell? ⟨gb427, 1, none⟩ = some (.slice A0_1 l0_1.length c0_1) := (blk_cell BK427.out 1).trans rfl; have hfz15_0 := blk_frozen BK427.out 0; have hfz15_1 := blk_frozen BK427.out 1) | ((with_reducible refine gate_callee (f := 89) rfl ?_); refine goesL_ (some 6) rfl rfl Try.func89 (by kernel_rfl) rfl #[.slice A0_1 l0_1.length c0_1] rfl (by first | (go_simp; done) | (go_simp; rfl)) ?_; (with_reducible refine (examboardref01_Norm.calls k _ _ l0_1 t429 _ (by exact Kd.C_below HR0_1.out HB.out) HC0_1.out A2.out).mono ?_); rintro e w16 ⟨v430, rfl, ho0, hb⟩; refine ⟨_, rfl, ?_⟩; have HO431 := mk0 (Kd.R_lower ho0 (below_size HB.out)); replace BK427 := bkB BK427 hb; replace BK428 := bkB BK428 hb; replace HB := hbS HB hb; have hcz17_0 : w16.cell? ⟨gb427, 0, none⟩ = some (.bool false) := (blk_cell BK427.out 0).trans rfl; have hcz17_1 : w16.cell? ⟨gb427, 1, none⟩ = some (.slice A0_1 l0_1.length c0_1) := (blk_cell BK427.out 1).trans rfl; have hfz17_0 := blk_frozen BK427.out 0; have hfz17_1 := blk_frozen BK427.out 1; obtain ⟨Ao18, co18, eo18⟩ := Kd.R_slice HO431.out; subst eo18; have hcz19_0 : w16.cell? ⟨gb428, 0, none⟩ = some (.bool false) := (blk_cell BK428.out 0).trans rfl; have hcz19_1 : w16.cell? ⟨gb428, 1, none⟩ = some (.slice none 0 0) := (blk_cell BK428.out 1).trans rfl; have hfz19_0 := blk_frozen BK428.out 0; have hfz19_1 := blk_frozen BK428.out 1))
  refine bodyPost_ret (results_cell_row rfl _ _ gb428 27 #[.bool false, .slice Ao18 t429.length co18] (0, 0) _ rfl (by refine blk_put (cs := #[.bool false, .slice none 0 0]) ?_ 1 _ rfl; refine blk_put (cs := #[.bool false, .slice none 0 0]) ?_ 0 _ rfl; exact BK428.out) Try.underlying27 rfl (by kernel_rfl)) rfl ?_
  exact ⟨_, by first | rfl | (simp [errW_none, errW_some] <;> rfl) | (simp [*, errW_none, errW_some] <;> rfl), Kd.R_mono (Kd.R_far (p := ⟨gb428, 1, none⟩) (Kd.R_far (p := ⟨gb428, 0, none⟩) (Kd.R_types HO431.out BK428.out (by decide)) (fun _ hk => hk.2) (.bool false)) (fun _ hk => hk.2) (.slice Ao18 t429.length co18)) (fun _ hk => trivial), by repeat (first | exact HB.out | refine below_set ?_ GE427.out | refine below_set ?_ GE428.out)⟩
set_option maxHeartbeats 8000000 in
set_option maxRecDepth 100000 in
theorem examboardref02_Make.calls (k : Nat) (a0 : Bool) (A1 : Option Addr) (c1 : Nat) (l1 : List Int) (r1 : Bool) (r2 : List Int) (w : World) (hr1 : Kd.C (Kd.int .u32) w A1 l1.length l1) (hc1 : l1.length ≤ c1) (h : examboardref02_Make.f k a0 l1 = some (r1, r2)) :
  Calls Try.prog 62 #[.bool a0, .slice A1 l1.length c1] w fun e w' => ∃ v1_ : Value, e = .returned (.agg #[.bool r1, v1_]) ∧ Kd.R (Kd.int .u32) 87 w' w.heap.size (fun _ => True) v1_ r2 ∧ Below w.heap.size w w' := by
 have hu27 := Try.underlying27
 have HR1 := mk0 hr1
 have HC1 := mk0 hc1
 clear hr1 hc1
 have HB := mk0 (Below.refl w.heap.size w)
 have H : ((examboardref02_Norm.f k a0 l1).bind fun bt433 => (some (bt433.1, bt433.2))) = some (r1, r2) := h
 clear h
 obtain ⟨⟨t433, t434⟩, A3, H⟩ := bindA H
 simp only [Option.some.injEq, Prod.mk.injEq] at H
 obtain ⟨rfl, rfl⟩ := H
 go_enter Try.func62, Try.ntmps62
 go_wp2_with (first | ((with_reducible refine gate_dst (N := 4) rfl ?_); refine box_event rfl (N := 4) rfl (cs := #[.bool false, .slice none 0 0]) (t := 27) (by first | (go_simp; done) | (go_simp; rfl)) ?_; intro gb432 hg w4 hbox hb; have BK432 := mk0 (hbox); have GE432 := geB hg HB; replace HB := hbS HB hb; clear hb hbox hg) | ((with_reducible refine gate_callee (f := 84) rfl ?_); refine goesL_ (some 8) rfl rfl Try.func84 (by kernel_rfl) rfl #[.agg #[.bool a0, .slice A1 l1.length c1]] rfl (by first | (go_simp; done) | (go_simp; rfl)) ?_; (with_reducible refine (examboardref02_Norm.calls k a0 _ _ l1 t433 t434 _ (by exact Kd.C_below HR1.out HB.out) HC1.out A3.out).mono ?_); rintro e w5 ⟨v435, rfl, ho0, hb⟩; refine ⟨_, rfl, ?_⟩; have HO436 := mk0 (Kd.R_lower ho0 (below_size HB.out)); replace BK432 := bkB BK432 hb; replace HB := hbS HB hb; have hcz6_0 : w5.cell? ⟨gb432, 0, none⟩ = some (.bool false) := (blk_cell BK432.out 0).trans rfl; have hcz6_1 : w5.cell? ⟨gb432, 1, none⟩ = some (.slice none 0 0) := (blk_cell BK432.out 1).trans rfl; have hfz6_0 := blk_frozen BK432.out 0; have hfz6_1 := blk_frozen BK432.out 1; obtain ⟨Ao7, co7, eo7⟩ := Kd.R_slice HO436.out; subst eo7))
 refine bodyPost_ret (results_cell_row rfl _ _ gb432 27 #[.bool t433, .slice Ao7 t434.length co7] (0, 0) _ rfl (by refine blk_put (cs := #[.bool t433, .slice none 0 0]) ?_ 1 _ rfl; refine blk_put (cs := #[.bool false, .slice none 0 0]) ?_ 0 _ rfl; exact BK432.out) Try.underlying27 rfl (by kernel_rfl)) rfl ?_
 exact ⟨_, by first | rfl | (simp [errW_none, errW_some] <;> rfl) | (simp [*, errW_none, errW_some] <;> rfl), Kd.R_mono (Kd.R_far (p := ⟨gb432, 1, none⟩) (Kd.R_far (p := ⟨gb432, 0, none⟩) (Kd.R_types HO436.out BK432.out (by decide)) (fun _ hk => hk.2) (.bool t433)) (fun _ hk => hk.2) (.slice Ao7 t434.length co7)) (fun _ hk => trivial), by repeat (first | exact HB.out | refine below_set ?_ GE432.out)⟩
set_option maxHeartbeats 8000000 in
set_option maxRecDepth 100000 in
theorem examboardref01_Bits.calls (k : Nat) (A0 : Option Addr) (c0 : Nat) (l0 : List Int) (r : Int) (w : World) (hr0 : Kd.C (Kd.int .u32) w A0 l0.length l0) (hc0 : l0.length ≤ c0) (h : examboardref01_Bits.f k l0 = some r) :
  Calls Try.prog 85 #[.slice A0 l0.length c0] w fun e w' => e = .returned (.int .i64 r) ∧ Below w.heap.size w w' := by
 have HR0 := mk0 hr0
 have HC0 := mk0 hc0
 clear hr0 hc0
 have HB := mk0 (Below.refl w.heap.size w)
 have H : ((examboardref01_Norm.f k l0).bind fun t437 => (if (t437.length : Int) = 0 then (some 0) else (if 0 ≤ (wrap64 ((t437.length : Int) - 1)) then (if (wrap64 ((t437.length : Int) - 1)) < (t437.length : Int) then (examboardref01_Bits.l0 k (wrap64 (32 * (wrap64 ((t437.length : Int) - 1)))) (rd t437 (wrap64 ((t437.length : Int) - 1)))) else (none)) else (none)))) = some r := h
 clear h
 obtain ⟨t437, A2, H⟩ := bindA H
 by_cases c3 : (t437.length : Int) = 0
 ·rw [if_pos c3] at H
  have c3b0 : ((t437.length : Int) == 0) = true := beq_iff_eq.mpr c3
  have c3b1 : ((t437.length : Int) != 0) = false := bne_eq_false_iff_eq.mpr c3
  clear c3
  obtain rfl := Option.some.inj H
  go_enter Try.func85, Try.ntmps85
  go_wp2_with (first | ((with_reducible refine gate_callee (f := 89) rfl ?_); refine goesL_ (some 6) rfl rfl Try.func89 (by kernel_rfl) rfl #[.slice A0 l0.length c0] rfl (by first | (go_simp; done) | (go_simp; rfl)) ?_; (with_reducible refine (examboardref01_Norm.calls k _ _ l0 t437 _ HR0.out HC0.out A2.out).mono ?_); rintro e w4 ⟨v438, rfl, ho0, hb⟩; refine ⟨_, rfl, ?_⟩; have HO439 := mk0 (Kd.R_lower ho0 (below_size HB.out)); replace HB := hbS HB hb; obtain ⟨Ao5, co5, eo5⟩ := Kd.R_slice HO439.out; subst eo5))
  go_ret
  exact ⟨by first | rfl | (simp [errW_none, errW_some] <;> rfl) | (simp [*, errW_none, errW_some] <;> rfl), HB.out⟩
 ·rw [if_neg c3] at H
  have c3b0 : ((t437.length : Int) == 0) = false := beq_eq_false_iff_ne.mpr c3
  have c3b1 : ((t437.length : Int) != 0) = true := bne_iff_ne.mpr c3
  have c3b2 : ¬ (t437 = []) := fun h_ => c3 (by rw [h_]; rfl)
  obtain ⟨ji6, hji6⟩ : ∃ j_ : Int, (wrap64 ((t437.length : Int) - 1)) = j_ := ⟨_, rfl⟩
  replace H : (if 0 ≤ (ji6) then (if (ji6) < (t437.length : Int) then (examboardref01_Bits.l0 k (wrap64 (32 * (ji6))) (rd t437 (ji6))) else (none)) else (none)) = some r := by first | (rw [hji6] at H; exact H) | (simp only [hji6] at H ⊢; exact H)
  (try rw [hji6] at A2)
  have hji6w : (IntKind.i64.wrap ((t437.length : Int) - 1)) = ji6 := (i64_w _).trans hji6
  by_cases c7 : 0 ≤ (ji6)
  ·rw [if_pos c7] at H
   have c7b0 : decide (0 ≤ (ji6)) = true := decide_eq_true c7
   clear c7
   by_cases c8 : (ji6) < (t437.length : Int)
   ·rw [if_pos c8] at H
    have c8b0 : decide ((ji6) < (t437.length : Int)) = true := decide_eq_true c8
    clear c8
    have H' := mk0 H
    clear H
    go_enter Try.func85, Try.ntmps85
    go_wp2_with (first | ((with_reducible refine gate_callee (f := 89) rfl ?_); refine goesL_ (some 6) rfl rfl Try.func89 (by kernel_rfl) rfl #[.slice A0 l0.length c0] rfl (by first | (go_simp; done) | (go_simp; rfl)) ?_; (with_reducible refine (examboardref01_Norm.calls k _ _ l0 t437 _ HR0.out HC0.out A2.out).mono ?_); rintro e w9 ⟨v438, rfl, ho0, hb⟩; refine ⟨_, rfl, ?_⟩; have HO439 := mk0 (Kd.R_lower ho0 (below_size HB.out)); replace HB := hbS HB hb; obtain ⟨Ao10, co10, eo10⟩ := Kd.R_slice HO439.out; subst eo10; have p440 : 0 ≤ ((ji6) : Int) := of_decide_eq_true (by assumption); have q440 : (ji6) < (t437.length : Int) := of_decide_eq_true (by assumption); obtain ⟨ad440, e440, hx440_0⟩ := Kd.at_int (Kd.R_reads' HO439.out).2.2 (ji6) p440 q440; cases e440; replace p440 := eq_true p440; replace q440 := eq_true q440))
    go_loopg [3, 4] k (fun kq v3 v4 w' => ∃ (x3_1 : Int) (x4_1 : Int), v3 = .int .i64 x3_1 ∧ v4 = .int .u32 x4_1 ∧ Aside0 (examboardref01_Bits.l0 kq x3_1 x4_1 = some r) ∧ Aside0 (kq ≤ k) ∧ Aside0 (Below w.heap.size w w'))
    case atStart => exact ⟨(wrap64 (32 * (ji6))), (rd t437 (ji6)), (by first | rfl | (simp; done) | (simp only [← hji6] <;> (first | rfl | simp)) | (simp [*]; done)), (by first | rfl | (simp; done) | (simp only [← hji6] <;> (first | rfl | simp)) | (simp [*]; done)), H', ⟨Nat.le_refl _⟩, ⟨HB.out⟩⟩
    case round =>
     clear H'
     try clear p2
     try clear c3
     try clear c3b0
     try clear c3b1
     try clear c3b2
     try clear p4
     try clear q4
     try clear hx4
     try clear p6
     try clear c7
     try clear c7b0
     try clear c8
     try clear c8b0
     try clear hx440_0
     try clear p440
     try clear q440
     obtain ⟨x3_1, x4_1, rfl, rfl, HA, HK1, HB⟩ := hrel
     cases gk with
     | zero => exact absurd HA.out (by simp [examboardref01_Bits.l0])
     | succ k1 =>
      have H := HA.out
      clear HA
      simp only [examboardref01_Bits.l0] at H
      by_cases c11 : x4_1 > 0
      ·rw [if_pos c11] at H
       have c11b0 : decide (0 < x4_1) = true := decide_eq_true c11
       clear c11
       have H' := mk0 H
       clear H
       go_wp2
       go_roundg k1
       case measure => have := HK1.out; omega
       case rel => exact ⟨(wrap64 (x3_1 + 1)), ((Int.tdiv x4_1 2) % 4294967296), (by first | rfl | (simp; done) | (simp [*]; done)), (by first | rfl | (simp; done) | (simp [*]; done)), H', ⟨by have := HK1.out; omega⟩, ⟨HB.out⟩⟩
      ·rw [if_neg c11] at H
       have c11b0 : decide (0 < x4_1) = false := decide_eq_false c11
       clear c11
       obtain rfl := Option.some.inj H
       go_wp2
       go_ret
       exact ⟨by first | rfl | (simp [errW_none, errW_some] <;> rfl) | (simp only [← hji6]; first | rfl | (simp [errW_none, errW_some] <;> rfl)) | (simp [*, errW_none, errW_some] <;> rfl), HB.out⟩
   ·rw [if_neg c8] at H
    exact absurd H (by simp)
  ·rw [if_neg c7] at H
   exact absurd H (by simp)
set_option maxHeartbeats 8000000 in
set_option maxRecDepth 100000 in
theorem examboardref01_Of.calls (k : Nat) (a0 : Int) (r : List Int) (w : World) (h : examboardref01_Of.f k a0 = some r) :
  Calls Try.prog 90 #[.int .u64 a0] w fun e w' => ∃ v0_ : Value, e = .returned (v0_) ∧ Kd.R (Kd.int .u32) 87 w' w.heap.size (fun _ => True) v0_ r ∧ Below w.heap.size w w' := by
 have HB := mk0 (Below.refl w.heap.size w)
 have H : ((examboardref01_Norm.f k (([(a0) % 4294967296, (a0 / 4294967296) % 4294967296] : List Int))).bind fun t444 => (some t444)) = some r := h
 clear h
 obtain ⟨y441, hy441⟩ : ∃ y_ : List Int, y_ = (([(a0) % 4294967296, (a0 / 4294967296) % 4294967296] : List Int)) := ⟨_, rfl⟩
 replace H : ((examboardref01_Norm.f k y441).bind fun t444 => (some t444)) = some r := by first | (rw [hy441]; with_reducible exact H) | (have H2_ := (Option.bind_some _ _).symm.trans H; rw [hy441]; with_reducible exact H2_) | (have H2_ := (Option.bind_some _ _).symm.trans H; with_reducible exact H2_) | with_reducible exact H | (rw [hy441]; exact H) | exact H
 have Ny441 := mk0 hy441
 clear hy441
 obtain ⟨t444, A2, H⟩ := bindA H
 obtain rfl := Option.some.inj H
 go_enter Try.func90, Try.ntmps90
 go_wp2_with (first | ((with_reducible refine gate_dst (N := 8) rfl ?_); refine Kd.R_lit (Kd.int .u32) _ 87 ?hg (N := 8) ?hd (xs := ([(a0) % 4294967296, (a0 / 4294967296) % 4294967296] : List Int)) (inner := [.int .u32 ((a0) % 4294967296), .int .u32 ((a0 / 4294967296) % 4294967296)]) (ok := fun _ => True) (okp := fun _ => True) ?hr ?hp (fun _ hk => hk) trivial (Below.refl _ _) (Nat.le_refl _) (by simp) ?_; (case hd => rfl); (case hg => rfl); (case hr => first | (go_simp; done) | (go_simp; rfl)); (case hp => exact (Reps.one (show Kd.M (Kd.int .u32) _ _ _ ((a0) % 4294967296) [.int .u32 ((a0) % 4294967296)] from rfl) (Reps.one (show Kd.M (Kd.int .u32) _ _ _ ((a0 / 4294967296) % 4294967296) [.int .u32 ((a0 / 4294967296) % 4294967296)] from rfl) (Reps.none _ _)))); intro v442 w3 ho4 hb hg_ hnew_; clear hg_ hnew_; (first | rw [← Ny441.out] at ho4 | (simp only [Int.reduceToNat] at ho4; rw [← Ny441.out] at ho4)); have HO443 := mk0 (Kd.R_lower ho4 (below_size HB.out)); replace HB := hbS HB hb; clear hb ho4; obtain ⟨Ao5, co5, eo5⟩ := Kd.R_slice HO443.out; subst eo5) | ((with_reducible refine gate_callee (f := 89) rfl ?_); refine goesL_ (some 9) rfl rfl Try.func89 (by kernel_rfl) rfl #[.slice Ao5 y441.length co5] rfl (by first | (go_simp; done) | (go_simp; rfl)) ?_; (with_reducible refine (examboardref01_Norm.calls k _ _ y441 t444 _ (by exact (Kd.R_reads' HO443.out).2.2) (by exact (Kd.R_reads' HO443.out).2.1) A2.out).mono ?_); rintro e w6 ⟨v445, rfl, ho0, hb⟩; refine ⟨_, rfl, ?_⟩; have HO446 := mk0 (Kd.R_lower (Kd.R_new' ho0 (Kd.R_lt HO443.out)) (below_size HB.out)); replace HO443 := mk0 (Kd.R_elder' HO443.out (Kd.R_base ho0) hb); replace HB := hbS HB hb))
 go_ret
 exact ⟨_, by first | rfl | (simp [errW_none, errW_some] <;> rfl) | (simp [*, errW_none, errW_some] <;> rfl), Kd.R_mono HO446.out (fun _ hk => trivial), HB.out⟩
set_option maxHeartbeats 8000000 in
set_option maxRecDepth 100000 in
theorem examboardref03_zero.calls (k : Nat)  (r1 : Bool) (r2 : List Int) (r3 : List Int) (w : World) (h : examboardref03_zero.f k  = some (r1, r2, r3)) :
  Calls Try.prog 86 #[] w fun e w' => ∃ v1_ v2_ : Value, e = .returned (.agg #[.bool r1, v1_, v2_]) ∧ Kd.R (Kd.int .u32) 87 w' w.heap.size (fun k_ => some k_ ≠ (v2_ : Value).ownBlock) v1_ r2 ∧ Kd.R (Kd.int .u32) 87 w' w.heap.size (fun k_ => some k_ ≠ (v1_ : Value).ownBlock) v2_ r3 ∧ Below w.heap.size w w' := by
 have hu29 := Try.underlying29
 have HB := mk0 (Below.refl w.heap.size w)
 have H : ((examboardref01_Of.f k 1).bind fun t448 => (some (false, ([] : List Int), t448))) = some (r1, r2, r3) := h
 clear h
 obtain ⟨t448, A1, H⟩ := bindA H
 simp only [Option.some.injEq, Prod.mk.injEq] at H
 obtain ⟨rfl, rfl, rfl⟩ := H
 go_enter Try.func86, Try.ntmps86
 go_wp2_with (first | ((with_reducible refine gate_dst (N := 0) rfl ?_); refine box_event rfl (N := 0) rfl (cs := #[.bool false, .slice none 0 0, .slice none 0 0]) (t := 29) (by first | (go_simp; done) | (go_simp; rfl)) ?_; intro gb447 hg w2 hbox hb; have BK447 := mk0 (hbox); have GE447 := geB hg HB; replace HB := hbS HB hb; clear hb hbox hg) | ((with_reducible refine gate_callee (f := 90) rfl ?_); refine goesL_ (some 1) rfl rfl Try.func90 (by kernel_rfl) rfl #[.int .u64 1] rfl (by first | (go_simp; done) | (go_simp; rfl)) ?_; (with_reducible refine (examboardref01_Of.calls k 1 t448 _ A1.out).mono ?_); rintro e w3 ⟨v449, rfl, ho0, hb⟩; refine ⟨_, rfl, ?_⟩; have HO450 := mk0 (Kd.R_lower ho0 (below_size HB.out)); replace BK447 := bkB BK447 hb; replace HB := hbS HB hb; obtain ⟨Ao4, co4, eo4⟩ := Kd.R_slice HO450.out; subst eo4; have hcz5_0 : w3.cell? ⟨gb447, 0, none⟩ = some (.bool false) := (blk_cell BK447.out 0).trans rfl; have hcz5_1 : w3.cell? ⟨gb447, 1, none⟩ = some (.slice none 0 0) := (blk_cell BK447.out 1).trans rfl; have hcz5_2 : w3.cell? ⟨gb447, 2, none⟩ = some (.slice none 0 0) := (blk_cell BK447.out 2).trans rfl; have hfz5_0 := blk_frozen BK447.out 0; have hfz5_1 := blk_frozen BK447.out 1; have hfz5_2 := blk_frozen BK447.out 2))
 refine bodyPost_ret (results_cell_row rfl _ _ gb447 29 #[.bool false, .slice none 0 0, .slice Ao4 t448.length co4] (0, 0) _ rfl (by refine blk_put (cs := #[.bool false, .slice none 0 0, .slice none 0 0]) ?_ 2 _ rfl; refine blk_put (cs := #[.bool false, .slice none 0 0, .slice none 0 0]) ?_ 1 _ rfl; refine blk_put (cs := #[.bool false, .slice none 0 0, .slice none 0 0]) ?_ 0 _ rfl; exact BK447.out) Try.underlying29 rfl (by kernel_rfl)) rfl ?_
 exact ⟨_, _, by first | rfl | (simp [errW_none, errW_some] <;> rfl) | (simp [*, errW_none, errW_some] <;> rfl), by first | exact Kd.R_nil _ _ _ _ _ | exact Kd.N_nil _ _ _ _ _ | exact Kd.V_nil _ _ _ _ _ | exact Kd.Q_nil _ _ _ _ _ | exact Kd.S_nil _ _ _ _ _, Kd.R_mono (Kd.R_far (p := ⟨gb447, 2, none⟩) (Kd.R_far (p := ⟨gb447, 1, none⟩) (Kd.R_far (p := ⟨gb447, 0, none⟩) (Kd.R_types HO450.out BK447.out (by decide)) (fun _ hk => hk.2) (.bool false)) (fun _ hk => hk.2) (.slice none 0 0)) (fun _ hk => hk.2) (.slice Ao4 t448.length co4)) (fun _ hk => (by simp [Value.ownBlock])), by repeat (first | exact HB.out | refine below_set ?_ GE447.out)⟩
set_option maxHeartbeats 8000000 in
set_option maxRecDepth 100000 in
theorem examboardref01_short.calls (k : Nat) (A0 : Option Addr) (c0 : Nat) (l0 : List Int) (a1 : Int) (r1 : List Int) (r2 : Int) (w : World) (hr0 : Kd.C (Kd.int .u32) w A0 l0.length l0) (hc0 : l0.length ≤ c0) (h : examboardref01_short.f k l0 a1 = some (r1, r2)) :
  Calls Try.prog 114 #[.slice A0 l0.length c0, .int .u64 a1] w fun e w' => ∃ v0_ : Value, e = .returned (.tuple #[v0_, .int .u64 r2]) ∧ Kd.R (Kd.int .u32) 87 w' w.heap.size (fun _ => True) v0_ r1 ∧ Below w.heap.size w w' := by
 have HR0 := mk0 hr0
 have HC0 := mk0 hc0
 clear hr0 hc0
 have HB := mk0 (Below.refl w.heap.size w)
 have H : (if 0 ≤ (l0.length : Int) then (if ((l0.length : Int) : Int).toNat ≤ 70368744177664 then (examboardref01_short.l0 k l0 a1 (List.replicate ((l0.length : Int) : Int).toNat 0) 0 (wrap64 ((l0.length : Int) - 1))) else (none)) else (none)) = some (r1, r2) := h
 clear h
 by_cases c3 : 0 ≤ (l0.length : Int)
 ·rw [if_pos c3] at H
  have c3b0 := eq_true c3
  have c3b1 : decide (0 ≤ (l0.length : Int)) = true := decide_eq_true c3
  clear c3
  by_cases c4 : ((l0.length : Int) : Int).toNat ≤ 70368744177664
  ·rw [if_pos c4] at H
   have c4b0 := eq_true c4
   have c4b1 : decide (((l0.length : Int) : Int).toNat ≤ 70368744177664) = true := decide_eq_true c4
   clear c4
   obtain ⟨y454, hy454⟩ : ∃ y_ : List Int, y_ = (List.replicate ((l0.length : Int) : Int).toNat 0) := ⟨_, rfl⟩
   replace H : (examboardref01_short.l0 k l0 a1 y454 0 (wrap64 ((l0.length : Int) - 1))) = some (r1, r2) := by first | (rw [hy454]; with_reducible exact H) | (have H2_ := (Option.bind_some _ _).symm.trans H; rw [hy454]; with_reducible exact H2_) | (have H2_ := (Option.bind_some _ _).symm.trans H; with_reducible exact H2_) | with_reducible exact H | (rw [hy454]; exact H) | exact H
   have Ny454 := mk0 hy454
   clear hy454
   have H' := mk0 H
   clear H
   go_enter Try.func114, Try.ntmps114
   go_wp2_with (first | ((with_reducible refine gate_dst (N := 12) rfl ?_); refine Kd.R_make (Kd.int .u32) _ 87 rfl (N := 12) rfl 25 _ _ rfl (l0.length : Int) rfl rfl Try.underlying25 (.int .u32 0) 4 info87 rfl (by decide) (by omega) 0 (ok := fun _ => True) (okp := fun _ => True) rfl (fun _ hk => hk) trivial (of_decide_eq_true (by assumption)) (Nat.le_trans (Nat.mul_le_mul_right _ (of_decide_eq_true (by assumption) : (l0.length : Int).toNat ≤ 70368744177664)) (by omega)) (Below.refl _ _) (Nat.le_refl _) ?_; intro v455 w5 ho6 hb hg_ hnew_; clear hg_ hnew_; (first | rw [← Ny454.out] at ho6 | (simp only [Int.reduceToNat] at ho6; rw [← Ny454.out] at ho6)); have HO456 := mk0 (Kd.R_lower ho6 (below_size HB.out)); replace HB := hbS HB hb; clear hb ho6))
   go_loopg [7, 8] k (fun kq v7 v8 w' => ∃ (x6_1 : List Int) (x7_1 : Int) (x8_1 : Int), v7 = .int .u64 x7_1 ∧ v8 = .int .i64 x8_1 ∧ Aside0 (examboardref01_short.l0 kq l0 a1 x6_1 x7_1 x8_1 = some (r1, r2)) ∧ Aside0 (kq ≤ k) ∧ Aside0 (Kd.R (Kd.int .u32) 87 w' w.heap.size (fun _ => True) v455 x6_1) ∧ Aside0 (Below w.heap.size w w'))
   case atStart => exact ⟨(y454), (0), (wrap64 ((l0.length : Int) - 1)), (by first | rfl | (simp; done) | (simp [*]; done)), (by first | rfl | (simp; done) | (simp [*]; done)), H', ⟨Nat.le_refl _⟩, ⟨HO456.out⟩, ⟨HB.out⟩⟩
   case round =>
    clear H'
    try clear c1
    try clear p2
    try clear c3
    try clear c3b0
    try clear c3b1
    try clear c4
    try clear c4b0
    try clear c4b1
    try clear p6
    obtain ⟨x6_1, x7_1, x8_1, rfl, rfl, HA, HK1, HO_6, HB⟩ := hrel
    cases gk with
    | zero => exact absurd HA.out (by simp [examboardref01_short.l0])
    | succ k1 =>
     have H := HA.out
     clear HA
     simp only [examboardref01_short.l0] at H
     by_cases c7 : x8_1 ≥ 0
     ·rw [if_pos c7] at H
      have c7b0 : decide (0 ≤ x8_1) = true := decide_eq_true c7
      clear c7
      by_cases c8 : 0 ≤ x8_1
      ·rw [if_pos c8] at H
       have c8b0 : decide (0 ≤ x8_1) = true := decide_eq_true c8
       clear c8
       by_cases c9 : x8_1 < (l0.length : Int)
       ·rw [if_pos c9] at H
        have c9b0 : decide (x8_1 < (l0.length : Int)) = true := decide_eq_true c9
        clear c9
        by_cases c10 : a1 = 0
        ·rw [if_pos c10] at H
         exact absurd H (by simp)
        ·rw [if_neg c10] at H
         have c10b0 : (a1 == 0) = false := beq_eq_false_iff_ne.mpr c10
         have c10b1 : (a1 != 0) = true := bne_iff_ne.mpr c10
         by_cases c11 : x8_1 < (x6_1.length : Int)
         ·rw [if_pos c11] at H
          have c11b0 : decide (x8_1 < (x6_1.length : Int)) = true := decide_eq_true c11
          clear c11
          obtain ⟨y458, hy458⟩ : ∃ y_ : List Int, y_ = (x6_1.set (x8_1 : Int).toNat ((IntKind.u64.wrap (Int.tdiv (IntKind.u64.wrap ((IntKind.u64.wrap (x7_1 * 4294967296)) + (IntKind.u64.wrap (rd l0 x8_1)))) a1)) % 4294967296)) := ⟨_, rfl⟩
          replace H : (examboardref01_short.l0 k1 l0 a1 y458 (Int.tmod (IntKind.u64.wrap ((IntKind.u64.wrap (x7_1 * 4294967296)) + (IntKind.u64.wrap (rd l0 x8_1)))) a1) (wrap64 (x8_1 - 1))) = some (r1, r2) := by first | (rw [hy458]; with_reducible exact H) | (have H2_ := (Option.bind_some _ _).symm.trans H; rw [hy458]; with_reducible exact H2_) | (have H2_ := (Option.bind_some _ _).symm.trans H; with_reducible exact H2_) | with_reducible exact H | (rw [hy458]; exact H) | exact H
          have Ny458 := mk0 hy458
          clear hy458
          have H' := mk0 H
          clear H
          have p457 : 0 ≤ (x8_1 : Int) := of_decide_eq_true (by assumption)
          have q457 : x8_1 < (l0.length : Int) := of_decide_eq_true (by assumption)
          obtain ⟨ad457, e457, hx457_0⟩ := Kd.at_int HR0.out x8_1 p457 q457
          cases e457
          replace hx457_0 := (HB.out.cell (World.block_lt_of_cell? w _ hx457_0)).trans hx457_0
          replace p457 := eq_true p457
          replace q457 := eq_true q457
          have p12 : 0 ≤ (x8_1 : Int) := of_decide_eq_true (by assumption)
          have q12 : (x8_1 : Int) < ((x6_1.length : Int) : Int) := of_decide_eq_true (by assumption)
          obtain ⟨go12, co12, eo12, gb12, gl12, cl12, HG12⟩ := Kd.R_form HO_6.out (by omega)
          (first | cases eo12 | (injection eo12 with ea_ en_ ec_; (first | subst ea_ | (injection ea_ with ea_; subst ea_)); subst ec_; clear en_))
          have GB12 := mk0 gb12
          have GG12 := mk0 HG12
          clear gb12 gl12 HG12
          obtain ⟨hx12_0, hf12_0⟩ := Kd.R_celln 0 HO_6.out (x8_1 : Int) p12 q12
          replace p12 := eq_true p12
          replace q12 := eq_true q12
          have HP13 := Kd.R_putg HO_6.out (x8_1 : Int) ((IntKind.u64.wrap (Int.tdiv (IntKind.u64.wrap ((IntKind.u64.wrap (x7_1 * 4294967296)) + (IntKind.u64.wrap (rd l0 x8_1)))) a1)) % 4294967296)
          go_wp2_with (first | ((with_reducible refine gate_store (t := 87) (p := 34) rfl ?_); refine store_event (t := 87) (p := 34) (v := ?vo_w14) (w1 := (wr.setCell ⟨go12, (x8_1 : Int).toNat, none⟩ (.int .u32 ((IntKind.u64.wrap (Int.tdiv (IntKind.u64.wrap ((IntKind.u64.wrap (x7_1 * 4294967296)) + (IntKind.u64.wrap (rd l0 x8_1)))) a1)) % 4294967296)))) ?hg ?ho ?hn ?hr ?_; (case ho => rfl); (case hg => rfl); (case hn => rfl); (case hr => first | (go_simp; done) | (go_simp; rfl)); intro w14 hw; have hg : wr.grownBy w14 (some go12) := (by rw [hw]; exact HP13.2); have hp_ : Kd.R (Kd.int .u32) 87 w14 w.heap.size (fun _ => True) (.slice (some ⟨go12, 0, none⟩) x6_1.length co12) y458 := (by rw [hw, Ny458.out]; exact HP13.1); clear HP13; replace HO_6 := mk0 (hp_); replace HB := mk0 ((by rw [hw]; exact below_set (HB.out) GB12.out : Below w.heap.size w w14)); clear hg hw hp_))
          go_roundg k1
          case measure => have := HK1.out; omega
          case rel => exact ⟨(y458), (Int.tmod (IntKind.u64.wrap ((IntKind.u64.wrap (x7_1 * 4294967296)) + (IntKind.u64.wrap (rd l0 x8_1)))) a1), (wrap64 (x8_1 - 1)), (by first | rfl | (simp; done) | (simp [*]; done)), (by first | rfl | (simp; done) | (simp [*]; done)), H', ⟨by have := HK1.out; omega⟩, ⟨HO_6.out⟩, ⟨HB.out⟩⟩
         ·rw [if_neg c11] at H
          exact absurd H (by simp)
       ·rw [if_neg c9] at H
        exact absurd H (by simp)
      ·rw [if_neg c8] at H
       exact absurd H (by simp)
     ·rw [if_neg c7] at H
      have c7b0 : decide (0 ≤ x8_1) = false := decide_eq_false c7
      clear c7
      obtain ⟨t459, A15, H⟩ := bindA H
      simp only [Option.some.injEq, Prod.mk.injEq] at H
      obtain ⟨rfl, rfl⟩ := H
      obtain ⟨Ao16, co16, eo16⟩ := Kd.R_slice HO_6.out
      subst eo16
      go_wp2_with (first | ((with_reducible refine gate_callee (f := 89) rfl ?_); refine goesL_ (some 39) rfl rfl Try.func89 (by kernel_rfl) rfl #[.slice Ao16 x6_1.length co16] rfl (by first | (go_simp; done) | (go_simp; rfl)) ?_; (with_reducible refine (examboardref01_Norm.calls k1 _ _ x6_1 t459 _ (by exact (Kd.R_reads' HO_6.out).2.2) (by exact (Kd.R_reads' HO_6.out).2.1) A15.out).mono ?_); rintro e w17 ⟨v460, rfl, ho0, hb⟩; refine ⟨_, rfl, ?_⟩; have HO461 := mk0 (Kd.R_lower (Kd.R_new' ho0 (Kd.R_lt HO_6.out)) (below_size HB.out)); replace HO_6 := mk0 (Kd.R_elder' HO_6.out (Kd.R_base ho0) hb); replace HB := hbS HB hb))
      go_ret2
      exact ⟨_, by first | rfl | (simp [errW_none, errW_some] <;> rfl) | (simp [*, errW_none, errW_some] <;> rfl), Kd.R_mono HO461.out (fun _ hk => trivial), HB.out⟩
  ·rw [if_neg c4] at H
   exact absurd H (by simp)
 ·rw [if_neg c3] at H
  exact absurd H (by simp)
set_option maxHeartbeats 8000000 in
set_option maxRecDepth 100000 in
theorem examboardref01_Shift.calls (k : Nat) (A0 : Option Addr) (c0 : Nat) (l0 : List Int) (a1 : Int) (r : List Int) (w : World) (hr0 : Kd.C (Kd.int .u32) w A0 l0.length l0) (hc0 : l0.length ≤ c0) (h : examboardref01_Shift.f k l0 a1 = some r) :
  Calls Try.prog 115 #[.slice A0 l0.length c0, .int .i64 a1] w fun e w' => ∃ v0_ : Value, e = .returned (v0_) ∧ Kd.R (Kd.int .u32) 87 w' w.heap.size (fun _ => True) v0_ r ∧ Below w.heap.size w w' := by
 have HR0 := mk0 hr0
 have HC0 := mk0 hc0
 clear hr0 hc0
 have HB := mk0 (Below.refl w.heap.size w)
 have H : (if 0 ≤ (wrap64 ((wrap64 ((l0.length : Int) + (wrap64 (Int.tdiv a1 32)))) + 1)) then (if (wrap64 ((wrap64 ((l0.length : Int) + (wrap64 (Int.tdiv a1 32)))) + 1) : Int).toNat ≤ 70368744177664 then (examboardref01_Shift.l0 k l0 a1 (List.replicate (wrap64 ((wrap64 ((l0.length : Int) + (wrap64 (Int.tdiv a1 32)))) + 1) : Int).toNat 0) 0) else (none)) else (none)) = some r := h
 clear h
 obtain ⟨ji3, hji3⟩ : ∃ j_ : Int, (wrap64 ((wrap64 ((l0.length : Int) + (wrap64 (Int.tdiv a1 32)))) + 1)) = j_ := ⟨_, rfl⟩
 replace H : (if 0 ≤ (ji3) then (if (ji3 : Int).toNat ≤ 70368744177664 then (examboardref01_Shift.l0 k l0 a1 (List.replicate (ji3 : Int).toNat 0) 0) else (none)) else (none)) = some r := by first | (rw [hji3] at H; exact H) | (simp only [hji3] at H ⊢; exact H)
 have hji3w : (IntKind.i64.wrap ((wrap64 ((l0.length : Int) + (wrap64 (Int.tdiv a1 32)))) + 1)) = ji3 := (i64_w _).trans hji3
 by_cases c4 : 0 ≤ (ji3)
 ·rw [if_pos c4] at H
  have c4b0 := eq_true c4
  have c4b1 : decide (0 ≤ (ji3)) = true := decide_eq_true c4
  clear c4
  by_cases c5 : (ji3 : Int).toNat ≤ 70368744177664
  ·rw [if_pos c5] at H
   have c5b0 := eq_true c5
   have c5b1 : decide ((ji3 : Int).toNat ≤ 70368744177664) = true := decide_eq_true c5
   clear c5
   obtain ⟨y462, hy462⟩ : ∃ y_ : List Int, y_ = (List.replicate (ji3 : Int).toNat 0) := ⟨_, rfl⟩
   replace H : (examboardref01_Shift.l0 k l0 a1 y462 0) = some r := by first | (rw [hy462]; with_reducible exact H) | (have H2_ := (Option.bind_some _ _).symm.trans H; rw [hy462]; with_reducible exact H2_) | (have H2_ := (Option.bind_some _ _).symm.trans H; with_reducible exact H2_) | with_reducible exact H | (rw [hy462]; exact H) | exact H
   have Ny462 := mk0 hy462
   clear hy462
   have H' := mk0 H
   clear H
   go_enter Try.func115, Try.ntmps115
   go_wp2_with (first | ((with_reducible refine gate_dst (N := 14) rfl ?_); refine Kd.R_make (Kd.int .u32) _ 87 rfl (N := 14) rfl 25 _ _ rfl ji3 rfl rfl Try.underlying25 (.int .u32 0) 4 info87 rfl (by decide) (by omega) 0 (ok := fun _ => True) (okp := fun _ => True) rfl (fun _ hk => hk) trivial (of_decide_eq_true (by assumption)) (Nat.le_trans (Nat.mul_le_mul_right _ (of_decide_eq_true (by assumption) : ji3.toNat ≤ 70368744177664)) (by omega)) (Below.refl _ _) (Nat.le_refl _) ?_; intro v463 w6 ho7 hb hg_ hnew_; clear hg_ hnew_; (first | rw [← Ny462.out] at ho7 | (simp only [Int.reduceToNat] at ho7; rw [← Ny462.out] at ho7)); have HO464 := mk0 (Kd.R_lower ho7 (below_size HB.out)); replace HB := hbS HB hb; clear hb ho7))
   go_loopg [6] k (fun kq v6 w' => ∃ (x5_1 : List Int) (x6_1 : Int), v6 = .int .i64 x6_1 ∧ Aside0 (examboardref01_Shift.l0 kq l0 a1 x5_1 x6_1 = some r) ∧ Aside0 (kq ≤ k) ∧ Aside0 (Kd.R (Kd.int .u32) 87 w' w.heap.size (fun _ => True) v463 x5_1) ∧ Aside0 (Below w.heap.size w w'))
   case atStart => exact ⟨(y462), (0), (by first | rfl | (simp; done) | (simp [*]; done)), H', ⟨Nat.le_refl _⟩, ⟨HO464.out⟩, ⟨HB.out⟩⟩
   case round =>
    clear H'
    try clear c1
    try clear p2
    try clear c4
    try clear c4b0
    try clear c4b1
    try clear c5
    try clear c5b0
    try clear c5b1
    try clear p6
    obtain ⟨x5_1, x6_1, rfl, HA, HK1, HO_5, HB⟩ := hrel
    cases gk with
    | zero => exact absurd HA.out (by simp [examboardref01_Shift.l0])
    | succ k1 =>
     have H := HA.out
     clear HA
     simp only [examboardref01_Shift.l0] at H
     by_cases c8 : x6_1 < (l0.length : Int)
     ·rw [if_pos c8] at H
      have c8b0 : decide (x6_1 < (l0.length : Int)) = true := decide_eq_true c8
      clear c8
      by_cases c9 : 0 ≤ x6_1
      ·rw [if_pos c9] at H
       have c9b0 : decide (0 ≤ x6_1) = true := decide_eq_true c9
       clear c9
       obtain ⟨ji10, hji10⟩ : ∃ j_ : Int, (IntKind.u64.wrap (Int.tmod a1 32)) = j_ := ⟨_, rfl⟩
       replace H : (if 0 ≤ (ji10) then (if 0 ≤ (wrap64 (x6_1 + (wrap64 (Int.tdiv a1 32)))) then (if (wrap64 (x6_1 + (wrap64 (Int.tdiv a1 32)))) < (x5_1.length : Int) then (if 0 ≤ (wrap64 ((wrap64 (x6_1 + (wrap64 (Int.tdiv a1 32)))) + 1)) then (if (wrap64 ((wrap64 (x6_1 + (wrap64 (Int.tdiv a1 32)))) + 1)) < (x5_1.length : Int) then (examboardref01_Shift.l0 k1 l0 a1 ((x5_1.set ((wrap64 (x6_1 + (wrap64 (Int.tdiv a1 32)))) : Int).toNat (Go.bits .or .u32 (rd x5_1 (wrap64 (x6_1 + (wrap64 (Int.tdiv a1 32))))) ((shl .u64 (IntKind.u64.wrap (rd l0 x6_1)) (ji10)) % 4294967296))).set ((wrap64 ((wrap64 (x6_1 + (wrap64 (Int.tdiv a1 32)))) + 1)) : Int).toNat (((shl .u64 (IntKind.u64.wrap (rd l0 x6_1)) (ji10)) / 4294967296) % 4294967296)) (wrap64 (x6_1 + 1))) else (none)) else (none)) else (none)) else (none)) else (none)) = some r := by first | (rw [hji10] at H; exact H) | (simp only [hji10] at H ⊢; exact H)
       by_cases c11 : 0 ≤ (ji10)
       ·rw [if_pos c11] at H
        have c11b0 := eq_true c11
        have c11b1 : decide (0 ≤ (ji10)) = true := decide_eq_true c11
        clear c11
        obtain ⟨ji12, hji12⟩ : ∃ j_ : Int, (shl .u64 (IntKind.u64.wrap (rd l0 x6_1)) (ji10)) = j_ := ⟨_, rfl⟩
        replace H : (if 0 ≤ (wrap64 (x6_1 + (wrap64 (Int.tdiv a1 32)))) then (if (wrap64 (x6_1 + (wrap64 (Int.tdiv a1 32)))) < (x5_1.length : Int) then (if 0 ≤ (wrap64 ((wrap64 (x6_1 + (wrap64 (Int.tdiv a1 32)))) + 1)) then (if (wrap64 ((wrap64 (x6_1 + (wrap64 (Int.tdiv a1 32)))) + 1)) < (x5_1.length : Int) then (examboardref01_Shift.l0 k1 l0 a1 ((x5_1.set ((wrap64 (x6_1 + (wrap64 (Int.tdiv a1 32)))) : Int).toNat (Go.bits .or .u32 (rd x5_1 (wrap64 (x6_1 + (wrap64 (Int.tdiv a1 32))))) ((ji12) % 4294967296))).set ((wrap64 ((wrap64 (x6_1 + (wrap64 (Int.tdiv a1 32)))) + 1)) : Int).toNat (((ji12) / 4294967296) % 4294967296)) (wrap64 (x6_1 + 1))) else (none)) else (none)) else (none)) else (none)) = some r := by first | (rw [hji12] at H; exact H) | (simp only [hji12] at H ⊢; exact H)
        have hji12_ : (IntKind.u64.wrap ((IntKind.u64.wrap (rd l0 x6_1)) * 2 ^ min (ji10).toNat 64)) = ji12 := hji12
        have hji12z : (ji10) ≤ 64 → (IntKind.u64.wrap ((IntKind.u64.wrap (rd l0 x6_1)) * 2 ^ (ji10).toNat)) = ji12 := shl_small hji12
        obtain ⟨ji13, hji13⟩ : ∃ j_ : Int, (wrap64 (x6_1 + (wrap64 (Int.tdiv a1 32)))) = j_ := ⟨_, rfl⟩
        replace H : (if 0 ≤ (ji13) then (if (ji13) < (x5_1.length : Int) then (if 0 ≤ (wrap64 ((ji13) + 1)) then (if (wrap64 ((ji13) + 1)) < (x5_1.length : Int) then (examboardref01_Shift.l0 k1 l0 a1 ((x5_1.set ((ji13) : Int).toNat (Go.bits .or .u32 (rd x5_1 (ji13)) ((ji12) % 4294967296))).set ((wrap64 ((ji13) + 1)) : Int).toNat (((ji12) / 4294967296) % 4294967296)) (wrap64 (x6_1 + 1))) else (none)) else (none)) else (none)) else (none)) = some r := by first | (rw [hji13] at H; exact H) | (simp only [hji13] at H ⊢; exact H)
        have hji13w : (IntKind.i64.wrap (x6_1 + (wrap64 (Int.tdiv a1 32)))) = ji13 := (i64_w _).trans hji13
        by_cases c14 : 0 ≤ (ji13)
        ·rw [if_pos c14] at H
         have c14b0 : decide (0 ≤ (ji13)) = true := decide_eq_true c14
         clear c14
         by_cases c15 : (ji13) < (x5_1.length : Int)
         ·rw [if_pos c15] at H
          have c15b0 : decide ((ji13) < (x5_1.length : Int)) = true := decide_eq_true c15
          clear c15
          obtain ⟨y467, hy467⟩ : ∃ y_ : List Int, y_ = (x5_1.set ((ji13) : Int).toNat (Go.bits .or .u32 (rd x5_1 (ji13)) ((ji12) % 4294967296))) := ⟨_, rfl⟩
          replace H : (if 0 ≤ (wrap64 ((ji13) + 1)) then (if (wrap64 ((ji13) + 1)) < (x5_1.length : Int) then (examboardref01_Shift.l0 k1 l0 a1 (y467.set ((wrap64 ((ji13) + 1)) : Int).toNat (((ji12) / 4294967296) % 4294967296)) (wrap64 (x6_1 + 1))) else (none)) else (none)) = some r := by first | (rw [hy467]; with_reducible exact H) | (have H2_ := (Option.bind_some _ _).symm.trans H; rw [hy467]; with_reducible exact H2_) | (have H2_ := (Option.bind_some _ _).symm.trans H; with_reducible exact H2_) | with_reducible exact H | (rw [hy467]; exact H) | exact H
          have Ny467 := mk0 hy467
          clear hy467
          obtain ⟨ji17, hji17⟩ : ∃ j_ : Int, (wrap64 ((ji13) + 1)) = j_ := ⟨_, rfl⟩
          replace H : (if 0 ≤ (ji17) then (if (ji17) < (x5_1.length : Int) then (examboardref01_Shift.l0 k1 l0 a1 (y467.set ((ji17) : Int).toNat (((ji12) / 4294967296) % 4294967296)) (wrap64 (x6_1 + 1))) else (none)) else (none)) = some r := by first | (rw [hji17] at H; exact H) | (simp only [hji17] at H ⊢; exact H)
          have hji17w : (IntKind.i64.wrap ((ji13) + 1)) = ji17 := (i64_w _).trans hji17
          by_cases c18 : 0 ≤ (ji17)
          ·rw [if_pos c18] at H
           have c18b0 : decide (0 ≤ (ji17)) = true := decide_eq_true c18
           clear c18
           by_cases c19 : (ji17) < (x5_1.length : Int)
           ·rw [if_pos c19] at H
            have c19b0 : decide ((ji17) < (x5_1.length : Int)) = true := decide_eq_true c19
            clear c19
            obtain ⟨y468, hy468⟩ : ∃ y_ : List Int, y_ = (y467.set ((ji17) : Int).toNat (((ji12) / 4294967296) % 4294967296)) := ⟨_, rfl⟩
            replace H : (examboardref01_Shift.l0 k1 l0 a1 y468 (wrap64 (x6_1 + 1))) = some r := by first | (rw [hy468]; with_reducible exact H) | (have H2_ := (Option.bind_some _ _).symm.trans H; rw [hy468]; with_reducible exact H2_) | (have H2_ := (Option.bind_some _ _).symm.trans H; with_reducible exact H2_) | with_reducible exact H | (rw [hy468]; exact H) | exact H
            have Ny468 := mk0 hy468
            clear hy468
            have H' := mk0 H
            clear H
            have p465 : 0 ≤ (x6_1 : Int) := of_decide_eq_true (by assumption)
            have q465 : x6_1 < (l0.length : Int) := of_decide_eq_true (by assumption)
            obtain ⟨ad465, e465, hx465_0⟩ := Kd.at_int HR0.out x6_1 p465 q465
            cases e465
            replace hx465_0 := (HB.out.cell (World.block_lt_of_cell? w _ hx465_0)).trans hx465_0
            replace p465 := eq_true p465
            replace q465 := eq_true q465
            obtain ⟨Ao21, co21, eo21⟩ := Kd.R_slice HO_5.out
            subst eo21
            have p466 : 0 ≤ ((ji13) : Int) := of_decide_eq_true (by assumption)
            have q466 : (ji13) < (x5_1.length : Int) := of_decide_eq_true (by assumption)
            obtain ⟨ad466, e466, hx466_0⟩ := Kd.at_int (Kd.R_reads' HO_5.out).2.2 (ji13) p466 q466
            cases e466
            replace p466 := eq_true p466
            replace q466 := eq_true q466
            have p16 : 0 ≤ ((ji13) : Int) := of_decide_eq_true (by assumption)
            have q16 : ((ji13) : Int) < ((x5_1.length : Int) : Int) := of_decide_eq_true (by assumption)
            obtain ⟨go16, co16, eo16, gb16, gl16, cl16, HG16⟩ := Kd.R_form HO_5.out (by omega)
            (first | cases eo16 | (injection eo16 with ea_ en_ ec_; (first | subst ea_ | (injection ea_ with ea_; subst ea_)); subst ec_; clear en_))
            have GB16 := mk0 gb16
            have GG16 := mk0 HG16
            clear gb16 gl16 HG16
            (first | simp only [add_plain] at hx466_0 | skip)
            obtain ⟨hx16_0, hf16_0⟩ := Kd.R_celln 0 HO_5.out ((ji13) : Int) p16 q16
            replace p16 := eq_true p16
            replace q16 := eq_true q16
            have HP22 := Kd.R_putg HO_5.out ((ji13) : Int) (Go.bits .or .u32 (rd x5_1 (ji13)) ((ji12) % 4294967296))
            go_wp2_with (first | ((with_reducible refine gate_store (t := 87) (p := 45) rfl ?_); refine store_event (t := 87) (p := 45) (v := ?vo_w23) (w1 := (wr.setCell ⟨go16, ((ji13) : Int).toNat, none⟩ (.int .u32 (Go.bits .or .u32 (rd x5_1 (ji13)) ((ji12) % 4294967296))))) ?hg ?ho ?hn ?hr ?_; (case ho => rfl); (case hg => rfl); (case hn => rfl); (case hr => first | (go_simp; done) | (go_simp; rfl)); intro w23 hw; have hg : wr.grownBy w23 (some go16) := (by rw [hw]; exact HP22.2); have hp_ : Kd.R (Kd.int .u32) 87 w23 w.heap.size (fun _ => True) (.slice (some ⟨go16, 0, none⟩) x5_1.length co21) y467 := (by rw [hw, Ny467.out]; exact HP22.1); clear HP22; replace HO_5 := mk0 (hp_); replace HB := mk0 ((by rw [hw]; exact below_set (HB.out) GB16.out : Below w.heap.size w w23)); clear hg hw hp_; have p20 : 0 ≤ ((ji17) : Int) := of_decide_eq_true (by assumption); have q20 : ((ji17) : Int) < ((x5_1.length : Int) : Int) := of_decide_eq_true (by assumption); obtain ⟨hx20_0, hf20_0⟩ := Kd.R_celln 0 HO_5.out ((ji17) : Int) p20 q20; replace p20 := eq_true p20; replace q20 := eq_true q20; obtain ⟨hy24_, hz24_⟩ := Kd.R_celln 0 HO_5.out ((ji17) : Int) (of_decide_eq_true (by assumption)) (of_decide_eq_true (by assumption)); have HP24 := Kd.R_putg HO_5.out ((ji17) : Int) (((ji12) / 4294967296) % 4294967296)) | ((with_reducible refine gate_store (t := 87) (p := 55) rfl ?_); refine store_event (t := 87) (p := 55) (v := ?vo_w25) (w1 := (w23.setCell ⟨go16, ((ji17) : Int).toNat, none⟩ (.int .u32 (((ji12) / 4294967296) % 4294967296)))) ?hg ?ho ?hn ?hr ?_; (case ho => rfl); (case hg => rfl); (case hn => rfl); (case hr => first | (go_simp; done) | (go_simp; rfl)); intro w25 hw; have hg : w23.grownBy w25 (some go16) := (by rw [hw]; exact HP24.2); have hp_ : Kd.R (Kd.int .u32) 87 w25 w.heap.size (fun _ => True) (.slice (some ⟨go16, 0, none⟩) x5_1.length co21) y468 := (by rw [hw, Ny468.out]; exact HP24.1); clear HP24; replace HO_5 := mk0 (hp_); replace HB := mk0 ((by rw [hw]; exact below_set (HB.out) GB16.out : Below w.heap.size w w25)); clear hg hw hp_))
            go_roundg k1
            case measure => have := HK1.out; omega
            case rel => exact ⟨(y468), (wrap64 (x6_1 + 1)), (by first | rfl | (simp; done) | (simp [*]; done)), H', ⟨by have := HK1.out; omega⟩, ⟨HO_5.out⟩, ⟨HB.out⟩⟩
           ·rw [if_neg c19] at H
            exact absurd H (by simp)
          ·rw [if_neg c18] at H
           exact absurd H (by simp)
         ·rw [if_neg c15] at H
          exact absurd H (by simp)
        ·rw [if_neg c14] at H
         exact absurd H (by simp)
       ·rw [if_neg c11] at H
        exact absurd H (by simp)
      ·rw [if_neg c9] at H
       exact absurd H (by simp)
     ·rw [if_neg c8] at H
      have c8b0 : decide (x6_1 < (l0.length : Int)) = false := decide_eq_false c8
      clear c8
      obtain ⟨t469, A26, H⟩ := bindA H
      obtain rfl := Option.some.inj H
      obtain ⟨Ao27, co27, eo27⟩ := Kd.R_slice HO_5.out
      subst eo27
      go_wp2_with (first | ((with_reducible refine gate_callee (f := 89) rfl ?_); refine goesL_ (some 57) rfl rfl Try.func89 (by kernel_rfl) rfl #[.slice Ao27 x5_1.length co27] rfl (by first | (go_simp; done) | (go_simp; rfl)) ?_; (with_reducible refine (examboardref01_Norm.calls k1 _ _ x5_1 t469 _ (by exact (Kd.R_reads' HO_5.out).2.2) (by exact (Kd.R_reads' HO_5.out).2.1) A26.out).mono ?_); rintro e w28 ⟨v470, rfl, ho0, hb⟩; refine ⟨_, rfl, ?_⟩; have HO471 := mk0 (Kd.R_lower (Kd.R_new' ho0 (Kd.R_lt HO_5.out)) (below_size HB.out)); replace HO_5 := mk0 (Kd.R_elder' HO_5.out (Kd.R_base ho0) hb); replace HB := hbS HB hb))
      go_ret
      exact ⟨_, by first | rfl | (simp [errW_none, errW_some] <;> rfl) | (simp only [← hji3]; first | rfl | (simp [errW_none, errW_some] <;> rfl)) | (simp [*, errW_none, errW_some] <;> rfl), Kd.R_mono HO471.out (fun _ hk => trivial), HB.out⟩
  ·rw [if_neg c5] at H
   exact absurd H (by simp)
 ·rw [if_neg c4] at H
  exact absurd H (by simp)
set_option maxHeartbeats 8000000 in
set_option maxRecDepth 100000 in
theorem examboardref01_limb.calls (A0 : Option Addr) (c0 : Nat) (l0 : List Int) (a1 : Int) (r : Int) (w : World) (hr0 : Kd.C (Kd.int .u32) w A0 l0.length l0) (hc0 : l0.length ≤ c0) (h : examboardref01_limb.f l0 a1 = some r) :
  Calls Try.prog 118 #[.slice A0 l0.length c0, .int .i64 a1] w fun e w' => e = .returned (.int .u64 r) ∧ Drawn0 w w' := by
 have HR0 := mk0 hr0
 have HC0 := mk0 hc0
 clear hr0 hc0
 have H : (if a1 < (l0.length : Int) then (if 0 ≤ a1 then (some (IntKind.u64.wrap (rd l0 a1))) else (none)) else (some 0)) = some r := h
 clear h
 by_cases c3 : a1 < (l0.length : Int)
 ·rw [if_pos c3] at H
  have c3b0 : decide (a1 < (l0.length : Int)) = true := decide_eq_true c3
  clear c3
  by_cases c4 : 0 ≤ a1
  ·rw [if_pos c4] at H
   have c4b0 : decide (0 ≤ a1) = true := decide_eq_true c4
   clear c4
   obtain rfl := Option.some.inj H
   have p451 : 0 ≤ (a1 : Int) := of_decide_eq_true (by assumption)
   have q451 : a1 < (l0.length : Int) := of_decide_eq_true (by assumption)
   obtain ⟨ad451, e451, hx451_0⟩ := Kd.at_int HR0.out a1 p451 q451
   cases e451
   replace p451 := eq_true p451
   replace q451 := eq_true q451
   go_enter Try.func118, Try.ntmps118
   go_wp2
   go_ret
   exact ⟨by first | rfl | (simp; done) | (simp [*]; done), by repeat (first | exact Drawn0.refl _ | apply Drawn0.step)⟩
  ·rw [if_neg c4] at H
   exact absurd H (by simp)
 ·rw [if_neg c3] at H
  have c3b0 : decide (a1 < (l0.length : Int)) = false := decide_eq_false c3
  clear c3
  obtain rfl := Option.some.inj H
  go_enter Try.func118, Try.ntmps118
  go_wp2
  go_ret
  exact ⟨by first | rfl | (simp; done) | (simp [*]; done), by repeat (first | exact Drawn0.refl _ | apply Drawn0.step)⟩
set_option maxHeartbeats 8000000 in
set_option maxRecDepth 100000 in
theorem examboardref01_Cmp.calls (k : Nat) (A0 : Option Addr) (c0 : Nat) (l0 : List Int) (A1 : Option Addr) (c1 : Nat) (l1 : List Int) (r : Int) (w : World) (hr0 : Kd.C (Kd.int .u32) w A0 l0.length l0) (hc0 : l0.length ≤ c0) (hr1 : Kd.C (Kd.int .u32) w A1 l1.length l1) (hc1 : l1.length ≤ c1) (h : examboardref01_Cmp.f k l0 l1 = some r) :
  Calls Try.prog 92 #[.slice A0 l0.length c0, .slice A1 l1.length c1] w fun e w' => e = .returned (.int .i64 r) ∧ Below w.heap.size w w' := by
 have HR0 := mk0 hr0
 have HC0 := mk0 hc0
 clear hr0 hc0
 have HR1 := mk0 hr1
 have HC1 := mk0 hc1
 clear hr1 hc1
 have HB := mk0 (Below.refl w.heap.size w)
 have H : (examboardref01_Cmp.l0 k l0 l1 (wrap64 ((mx (l0.length : Int) (l1.length : Int)) - 1))) = some r := h
 clear h
 obtain ⟨ji3, hji3⟩ : ∃ j_ : Int, (mx (l0.length : Int) (l1.length : Int)) = j_ := ⟨_, rfl⟩
 replace H : (examboardref01_Cmp.l0 k l0 l1 (wrap64 ((ji3) - 1))) = some r := by first | (rw [hji3] at H; exact H) | (simp only [hji3] at H ⊢; exact H)
 (try (have hji3l : 0 ≤ ji3 := by (rw [← hji3]; unfold mx; (repeat' split) <;> omega)))
 (try (have hji3m : 0 ≤ ji3 := by omega))
 have hji3_ : (if (l0.length : Int) < (l1.length : Int) then (l1.length : Int) else (l0.length : Int)) = ji3 := hji3
 have hji3_n : (if l0.length < l1.length then (l1.length : Int) else (l0.length : Int)) = ji3 := (by rw [← hji3_]; simp only [Int.ofNat_lt])
 have H' := mk0 H
 clear H
 go_enter Try.func92, Try.ntmps92
 go_wp2
 go_loopg [5] k (fun kq v5 w' => ∃ (x5_1 : Int), v5 = .int .i64 x5_1 ∧ Aside0 (examboardref01_Cmp.l0 kq l0 l1 x5_1 = some r) ∧ Aside0 (kq ≤ k) ∧ Aside0 (Below w.heap.size w w'))
 case atStart => exact ⟨(wrap64 ((ji3) - 1)), (by first | rfl | (simp; done) | (simp only [← hji3] <;> (first | rfl | simp)) | (simp [*]; done)), H', ⟨Nat.le_refl _⟩, ⟨by repeat (first | (with_reducible first | exact HB.out | apply below_alloc | apply pw_below_drewN | apply below_drew1) | exact HB.out)⟩⟩
 case round =>
  clear H'
  try clear c1
  try clear p2
  obtain ⟨x5_1, rfl, HA, HK1, HB⟩ := hrel
  cases gk with
  | zero => exact absurd HA.out (by simp [examboardref01_Cmp.l0])
  | succ k1 =>
   have H := HA.out
   clear HA
   simp only [examboardref01_Cmp.l0] at H
   by_cases c4 : x5_1 ≥ 0
   ·rw [if_pos c4] at H
    have c4b0 : decide (0 ≤ x5_1) = true := decide_eq_true c4
    clear c4
    obtain ⟨t452, A5, H⟩ := bindA H
    obtain ⟨t453, A6, H⟩ := bindA H
    by_cases c7 : t452 < t453
    ·rw [if_pos c7] at H
     have c7b0 : decide (t452 < t453) = true := decide_eq_true c7
     clear c7
     obtain rfl := Option.some.inj H
     go_wp2_with (first | ((with_reducible refine gate_callee (f := 118) rfl ?_); refine goesL_ (some 20) rfl rfl Try.func118 (by kernel_rfl) rfl #[.slice A0 l0.length c0, .int .i64 x5_1] rfl (by (try simp only [List.map_toArray, List.map_cons, List.map_nil]); first | done | rfl | (simp only [List.length_drop, List.length_take]; rfl)) ?_; (with_reducible refine (examboardref01_limb.calls _ _ l0 x5_1 t452 _ (by exact Kd.C_below HR0.out HB.out) HC0.out A5.out).mono ?_); rintro e w' ⟨rfl, ⟨nd, rfl⟩⟩; refine ⟨_, rfl, ?_⟩) | ((with_reducible refine gate_callee (f := 118) rfl ?_); refine goesL_ (some 23) rfl rfl Try.func118 (by kernel_rfl) rfl #[.slice A1 l1.length c1, .int .i64 x5_1] rfl (by (try simp only [List.map_toArray, List.map_cons, List.map_nil]); first | done | rfl | (simp only [List.length_drop, List.length_take]; rfl)) ?_; (with_reducible refine (examboardref01_limb.calls _ _ l1 x5_1 t453 _ (by repeat (first | exact (Kd.C_below HR1.out (by repeat (first | (with_reducible first | exact HB.out | apply below_alloc | apply pw_below_drewN | apply below_drew1) | exact HB.out))) | (with_reducible refine Kd.C_alloc ?_ _) | (with_reducible refine Kd.C_drewN ?_ _) | (with_reducible refine Kd.C_drew ?_))) HC1.out A6.out).mono ?_); rintro e w' ⟨rfl, ⟨nd, rfl⟩⟩; refine ⟨_, rfl, ?_⟩))
     go_ret
     exact ⟨by first | rfl | (simp [errW_none, errW_some] <;> rfl) | (simp only [← hji3]; first | rfl | (simp [errW_none, errW_some] <;> rfl)) | (simp [*, errW_none, errW_some] <;> rfl), by repeat (first | (with_reducible first | exact HB.out | apply below_alloc | apply pw_below_drewN | apply below_drew1) | exact HB.out)⟩
    ·rw [if_neg c7] at H
     have c7b0 : decide (t452 < t453) = false := decide_eq_false c7
     clear c7
     by_cases c8 : t452 > t453
     ·rw [if_pos c8] at H
      have c8b0 : decide (t453 < t452) = true := decide_eq_true c8
      clear c8
      obtain rfl := Option.some.inj H
      go_wp2_with (first | ((with_reducible refine gate_callee (f := 118) rfl ?_); refine goesL_ (some 20) rfl rfl Try.func118 (by kernel_rfl) rfl #[.slice A0 l0.length c0, .int .i64 x5_1] rfl (by (try simp only [List.map_toArray, List.map_cons, List.map_nil]); first | done | rfl | (simp only [List.length_drop, List.length_take]; rfl)) ?_; (with_reducible refine (examboardref01_limb.calls _ _ l0 x5_1 t452 _ (by exact Kd.C_below HR0.out HB.out) HC0.out A5.out).mono ?_); rintro e w' ⟨rfl, ⟨nd, rfl⟩⟩; refine ⟨_, rfl, ?_⟩) | ((with_reducible refine gate_callee (f := 118) rfl ?_); refine goesL_ (some 23) rfl rfl Try.func118 (by kernel_rfl) rfl #[.slice A1 l1.length c1, .int .i64 x5_1] rfl (by (try simp only [List.map_toArray, List.map_cons, List.map_nil]); first | done | rfl | (simp only [List.length_drop, List.length_take]; rfl)) ?_; (with_reducible refine (examboardref01_limb.calls _ _ l1 x5_1 t453 _ (by repeat (first | exact (Kd.C_below HR1.out (by repeat (first | (with_reducible first | exact HB.out | apply below_alloc | apply pw_below_drewN | apply below_drew1) | exact HB.out))) | (with_reducible refine Kd.C_alloc ?_ _) | (with_reducible refine Kd.C_drewN ?_ _) | (with_reducible refine Kd.C_drew ?_))) HC1.out A6.out).mono ?_); rintro e w' ⟨rfl, ⟨nd, rfl⟩⟩; refine ⟨_, rfl, ?_⟩))
      go_ret
      exact ⟨by first | rfl | (simp [errW_none, errW_some] <;> rfl) | (simp only [← hji3]; first | rfl | (simp [errW_none, errW_some] <;> rfl)) | (simp [*, errW_none, errW_some] <;> rfl), by repeat (first | (with_reducible first | exact HB.out | apply below_alloc | apply pw_below_drewN | apply below_drew1) | exact HB.out)⟩
     ·rw [if_neg c8] at H
      have c8b0 : decide (t453 < t452) = false := decide_eq_false c8
      clear c8
      have H' := mk0 H
      clear H
      go_wp2_with (first | ((with_reducible refine gate_callee (f := 118) rfl ?_); refine goesL_ (some 20) rfl rfl Try.func118 (by kernel_rfl) rfl #[.slice A0 l0.length c0, .int .i64 x5_1] rfl (by (try simp only [List.map_toArray, List.map_cons, List.map_nil]); first | done | rfl | (simp only [List.length_drop, List.length_take]; rfl)) ?_; (with_reducible refine (examboardref01_limb.calls _ _ l0 x5_1 t452 _ (by exact Kd.C_below HR0.out HB.out) HC0.out A5.out).mono ?_); rintro e w' ⟨rfl, ⟨nd, rfl⟩⟩; refine ⟨_, rfl, ?_⟩) | ((with_reducible refine gate_callee (f := 118) rfl ?_); refine goesL_ (some 23) rfl rfl Try.func118 (by kernel_rfl) rfl #[.slice A1 l1.length c1, .int .i64 x5_1] rfl (by (try simp only [List.map_toArray, List.map_cons, List.map_nil]); first | done | rfl | (simp only [List.length_drop, List.length_take]; rfl)) ?_; (with_reducible refine (examboardref01_limb.calls _ _ l1 x5_1 t453 _ (by repeat (first | exact (Kd.C_below HR1.out (by repeat (first | (with_reducible first | exact HB.out | apply below_alloc | apply pw_below_drewN | apply below_drew1) | exact HB.out))) | (with_reducible refine Kd.C_alloc ?_ _) | (with_reducible refine Kd.C_drewN ?_ _) | (with_reducible refine Kd.C_drew ?_))) HC1.out A6.out).mono ?_); rintro e w' ⟨rfl, ⟨nd, rfl⟩⟩; refine ⟨_, rfl, ?_⟩))
      go_roundg k1
      case measure => have := HK1.out; omega
      case rel => exact ⟨(wrap64 (x5_1 - 1)), (by first | rfl | (simp; done) | (simp [*]; done)), H', ⟨by have := HK1.out; omega⟩, ⟨by repeat (first | (with_reducible first | exact HB.out | apply below_alloc | apply pw_below_drewN | apply below_drew1) | exact HB.out)⟩⟩
   ·rw [if_neg c4] at H
    have c4b0 : decide (0 ≤ x5_1) = false := decide_eq_false c4
    clear c4
    obtain rfl := Option.some.inj H
    go_wp2
    go_ret
    exact ⟨by first | rfl | (simp [errW_none, errW_some] <;> rfl) | (simp only [← hji3]; first | rfl | (simp [errW_none, errW_some] <;> rfl)) | (simp [*, errW_none, errW_some] <;> rfl), by repeat (first | (with_reducible first | exact HB.out | apply below_alloc | apply pw_below_drewN | apply below_drew1) | exact HB.out)⟩
set_option maxHeartbeats 8000000 in
set_option maxRecDepth 100000 in
theorem examboardref01_Sub.calls (k : Nat) (A0 : Option Addr) (c0 : Nat) (l0 : List Int) (A1 : Option Addr) (c1 : Nat) (l1 : List Int) (r1 : List Int) (r2 : Bool) (w : World) (hr0 : Kd.C (Kd.int .u32) w A0 l0.length l0) (hc0 : l0.length ≤ c0) (hr1 : Kd.C (Kd.int .u32) w A1 l1.length l1) (hc1 : l1.length ≤ c1) (h : examboardref01_Sub.f k l0 l1 = some (r1, r2)) :
  Calls Try.prog 116 #[.slice A0 l0.length c0, .slice A1 l1.length c1] w fun e w' => ∃ v0_ : Value, e = .returned (.tuple #[v0_, .bool r2]) ∧ Kd.R (Kd.int .u32) 87 w' w.heap.size (fun _ => True) v0_ r1 ∧ Below w.heap.size w w' := by
 have HR0 := mk0 hr0
 have HC0 := mk0 hc0
 clear hr0 hc0
 have HR1 := mk0 hr1
 have HC1 := mk0 hc1
 clear hr1 hc1
 have HB := mk0 (Below.refl w.heap.size w)
 have H : ((examboardref01_Cmp.f k l0 l1).bind fun t472 => (if t472 < 0 then (some (([] : List Int), false)) else (if 0 ≤ (l0.length : Int) then (if ((l0.length : Int) : Int).toNat ≤ 70368744177664 then (examboardref01_Sub.l0 k l0 l1 (List.replicate ((l0.length : Int) : Int).toNat 0) 0 0) else (none)) else (none)))) = some (r1, r2) := h
 clear h
 obtain ⟨t472, A3, H⟩ := bindA H
 by_cases c4 : t472 < 0
 ·rw [if_pos c4] at H
  have c4b0 : decide (t472 < 0) = true := decide_eq_true c4
  clear c4
  simp only [Option.some.injEq, Prod.mk.injEq] at H
  obtain ⟨rfl, rfl⟩ := H
  go_enter Try.func116, Try.ntmps116
  go_wp2_with (first | ((with_reducible refine gate_callee (f := 92) rfl ?_); refine goesL_ (some 13) rfl rfl Try.func92 (by kernel_rfl) rfl #[.slice A0 l0.length c0, .slice A1 l1.length c1] rfl (by (try simp only [List.map_toArray, List.map_cons, List.map_nil]); first | done | rfl | (simp only [List.length_drop, List.length_take]; rfl)) ?_; (with_reducible refine (examboardref01_Cmp.calls k _ _ l0 _ _ l1 t472 _ HR0.out HC0.out HR1.out HC1.out A3.out).mono ?_); rintro e w5 ⟨rfl, hb⟩; refine ⟨_, rfl, ?_⟩; replace HB := mk0 (below_step (by repeat (first | (with_reducible first | exact HB.out | apply below_alloc | apply pw_below_drewN | apply below_drew1) | exact HB.out)) hb)))
  go_ret2
  exact ⟨_, by first | rfl | (simp [errW_none, errW_some] <;> rfl) | (simp [*, errW_none, errW_some] <;> rfl), by first | exact Kd.R_nil _ _ _ _ _ | exact Kd.N_nil _ _ _ _ _ | exact Kd.V_nil _ _ _ _ _ | exact Kd.Q_nil _ _ _ _ _ | exact Kd.S_nil _ _ _ _ _, by repeat (first | (with_reducible first | exact HB.out | apply below_alloc | apply pw_below_drewN | apply below_drew1) | exact HB.out)⟩
 ·rw [if_neg c4] at H
  have c4b0 : decide (t472 < 0) = false := decide_eq_false c4
  clear c4
  by_cases c6 : 0 ≤ (l0.length : Int)
  ·rw [if_pos c6] at H
   have c6b0 := eq_true c6
   have c6b1 : decide (0 ≤ (l0.length : Int)) = true := decide_eq_true c6
   clear c6
   by_cases c7 : ((l0.length : Int) : Int).toNat ≤ 70368744177664
   ·rw [if_pos c7] at H
    have c7b0 := eq_true c7
    have c7b1 : decide (((l0.length : Int) : Int).toNat ≤ 70368744177664) = true := decide_eq_true c7
    clear c7
    obtain ⟨y473, hy473⟩ : ∃ y_ : List Int, y_ = (List.replicate ((l0.length : Int) : Int).toNat 0) := ⟨_, rfl⟩
    replace H : (examboardref01_Sub.l0 k l0 l1 y473 0 0) = some (r1, r2) := by first | (rw [hy473]; with_reducible exact H) | (have H2_ := (Option.bind_some _ _).symm.trans H; rw [hy473]; with_reducible exact H2_) | (have H2_ := (Option.bind_some _ _).symm.trans H; with_reducible exact H2_) | with_reducible exact H | (rw [hy473]; exact H) | exact H
    have Ny473 := mk0 hy473
    clear hy473
    have H' := mk0 H
    clear H
    go_enter Try.func116, Try.ntmps116
    go_wp2_with (first | ((with_reducible refine gate_callee (f := 92) rfl ?_); refine goesL_ (some 13) rfl rfl Try.func92 (by kernel_rfl) rfl #[.slice A0 l0.length c0, .slice A1 l1.length c1] rfl (by (try simp only [List.map_toArray, List.map_cons, List.map_nil]); first | done | rfl | (simp only [List.length_drop, List.length_take]; rfl)) ?_; (with_reducible refine (examboardref01_Cmp.calls k _ _ l0 _ _ l1 t472 _ HR0.out HC0.out HR1.out HC1.out A3.out).mono ?_); rintro e w8 ⟨rfl, hb⟩; refine ⟨_, rfl, ?_⟩; replace HB := mk0 (below_step (by repeat (first | (with_reducible first | exact HB.out | apply below_alloc | apply pw_below_drewN | apply below_drew1) | exact HB.out)) hb)) | ((with_reducible refine gate_dst (N := 17) rfl ?_); refine Kd.R_make (Kd.int .u32) _ 87 rfl (N := 17) rfl 25 _ _ rfl (l0.length : Int) rfl rfl Try.underlying25 (.int .u32 0) 4 info87 rfl (by decide) (by omega) 0 (ok := fun _ => True) (okp := fun _ => True) rfl (fun _ hk => hk) trivial (of_decide_eq_true (by assumption)) (Nat.le_trans (Nat.mul_le_mul_right _ (of_decide_eq_true (by assumption) : (l0.length : Int).toNat ≤ 70368744177664)) (by omega)) (Below.refl _ _) (Nat.le_refl _) ?_; intro v474 w9 ho10 hb hg_ hnew_; clear hg_ hnew_; (first | rw [← Ny473.out] at ho10 | (simp only [Int.reduceToNat] at ho10; rw [← Ny473.out] at ho10)); have HO475 := mk0 (Kd.R_lower ho10 (below_size (by repeat (first | (with_reducible first | exact HB.out | apply below_alloc | apply pw_below_drewN | apply below_drew1) | exact HB.out)))); replace HB := mk0 (below_step (by repeat (first | (with_reducible first | exact HB.out | apply below_alloc | apply pw_below_drewN | apply below_drew1) | exact HB.out)) hb); clear hb ho10))
    go_loopg [7, 8] k (fun kq v7 v8 w' => ∃ (x6_1 : List Int) (x7_1 : Int) (x8_1 : Int), v7 = .int .u64 x7_1 ∧ v8 = .int .i64 x8_1 ∧ Aside0 (examboardref01_Sub.l0 kq l0 l1 x6_1 x7_1 x8_1 = some (r1, r2)) ∧ Aside0 (kq ≤ k) ∧ Aside0 (Kd.R (Kd.int .u32) 87 w' w.heap.size (fun _ => True) v474 x6_1) ∧ Aside0 (Below w.heap.size w w'))
    case atStart => exact ⟨(y473), (0), (0), (by first | rfl | (simp; done) | (simp [*]; done)), (by first | rfl | (simp; done) | (simp [*]; done)), H', ⟨Nat.le_refl _⟩, ⟨by (with_reducible repeat (first | apply Kd.R_alloc | apply Kd.R_drewN | apply Kd.R_drew)); exact HO475.out⟩, ⟨by repeat (first | (with_reducible first | exact HB.out | apply below_alloc | apply pw_below_drewN | apply below_drew1) | exact HB.out)⟩⟩
    case round =>
     clear H'
     try clear c1
     try clear p2
     try clear c4
     try clear c4b0
     try clear c6
     try clear c6b0
     try clear c6b1
     try clear c7
     try clear c7b0
     try clear c7b1
     try clear c9
     obtain ⟨x6_1, x7_1, x8_1, rfl, rfl, HA, HK1, HO_6, HB⟩ := hrel
     cases gk with
     | zero => exact absurd HA.out (by simp [examboardref01_Sub.l0])
     | succ k1 =>
      have H := HA.out
      clear HA
      simp only [examboardref01_Sub.l0] at H
      by_cases c11 : x8_1 < (l0.length : Int)
      ·rw [if_pos c11] at H
       have c11b0 : decide (x8_1 < (l0.length : Int)) = true := decide_eq_true c11
       clear c11
       obtain ⟨t479, A12, H⟩ := bindA H
       obtain ⟨t480, A13, H⟩ := bindA H
       by_cases c14 : t479 < (IntKind.u64.wrap (t480 + x7_1))
       ·rw [if_pos c14] at H
        have c14b0 : decide (t479 < (IntKind.u64.wrap (t480 + x7_1))) = true := decide_eq_true c14
        clear c14
        by_cases c15 : 0 ≤ x8_1
        ·rw [if_pos c15] at H
         have c15b0 : decide (0 ≤ x8_1) = true := decide_eq_true c15
         clear c15
         by_cases c16 : x8_1 < (x6_1.length : Int)
         ·rw [if_pos c16] at H
          have c16b0 : decide (x8_1 < (x6_1.length : Int)) = true := decide_eq_true c16
          clear c16
          obtain ⟨y481, hy481⟩ : ∃ y_ : List Int, y_ = (x6_1.set (x8_1 : Int).toNat ((IntKind.u64.wrap ((IntKind.u64.wrap (t479 + 4294967296)) - (IntKind.u64.wrap (t480 + x7_1)))) % 4294967296)) := ⟨_, rfl⟩
          replace H : (examboardref01_Sub.l0 k1 l0 l1 y481 1 (wrap64 (x8_1 + 1))) = some (r1, r2) := by first | (rw [hy481]; with_reducible exact H) | (have H2_ := (Option.bind_some _ _).symm.trans H; rw [hy481]; with_reducible exact H2_) | (have H2_ := (Option.bind_some _ _).symm.trans H; with_reducible exact H2_) | with_reducible exact H | (rw [hy481]; exact H) | exact H
          have Ny481 := mk0 hy481
          clear hy481
          have H' := mk0 H
          clear H
          go_wp2_with (first | ((with_reducible refine gate_callee (f := 118) rfl ?_); refine goesL_ (some 26) rfl rfl Try.func118 (by kernel_rfl) rfl #[.slice A0 l0.length c0, .int .i64 x8_1] rfl (by (try simp only [List.map_toArray, List.map_cons, List.map_nil]); first | done | rfl | (simp only [List.length_drop, List.length_take]; rfl)) ?_; (with_reducible refine (examboardref01_limb.calls _ _ l0 x8_1 t479 _ (by exact Kd.C_below HR0.out HB.out) HC0.out A12.out).mono ?_); rintro e w' ⟨rfl, ⟨nd, rfl⟩⟩; refine ⟨_, rfl, ?_⟩; (try (rw [drewN_self wr]; generalize hq_ : World.drewN wr _ = wr; replace HO_6 : Aside0 (Kd.R (Kd.int .u32) 87 wr w.heap.size (fun _ => True) v474 x6_1) := ⟨by rw [← hq_]; exact (by (with_reducible repeat (first | apply Kd.R_alloc | apply Kd.R_drewN | apply Kd.R_drew)); exact HO_6.out)⟩; replace HB : Aside0 (Below w.heap.size w wr) := ⟨by rw [← hq_]; exact (by repeat (first | (with_reducible first | exact HB.out | apply below_alloc | apply pw_below_drewN | apply below_drew1) | exact HB.out))⟩; clear hq_))) | ((with_reducible refine gate_callee (f := 118) rfl ?_); refine goesL_ (some 29) rfl rfl Try.func118 (by kernel_rfl) rfl #[.slice A1 l1.length c1, .int .i64 x8_1] rfl (by (try simp only [List.map_toArray, List.map_cons, List.map_nil]); first | done | rfl | (simp only [List.length_drop, List.length_take]; rfl)) ?_; (with_reducible refine (examboardref01_limb.calls _ _ l1 x8_1 t480 _ (by exact Kd.C_below HR1.out HB.out) HC1.out A13.out).mono ?_); rintro e w' ⟨rfl, ⟨nd, rfl⟩⟩; refine ⟨_, rfl, ?_⟩; (try (rw [drewN_self wr]; generalize hq_ : World.drewN wr _ = wr; replace HO_6 : Aside0 (Kd.R (Kd.int .u32) 87 wr w.heap.size (fun _ => True) v474 x6_1) := ⟨by rw [← hq_]; exact (by (with_reducible repeat (first | apply Kd.R_alloc | apply Kd.R_drewN | apply Kd.R_drew)); exact HO_6.out)⟩; replace HB : Aside0 (Below w.heap.size w wr) := ⟨by rw [← hq_]; exact (by repeat (first | (with_reducible first | exact HB.out | apply below_alloc | apply pw_below_drewN | apply below_drew1) | exact HB.out))⟩; clear hq_)); have p17 : 0 ≤ (x8_1 : Int) := of_decide_eq_true (by assumption); have q17 : (x8_1 : Int) < ((x6_1.length : Int) : Int) := of_decide_eq_true (by assumption); obtain ⟨go17, co17, eo17, gb17, gl17, cl17, HG17⟩ := Kd.R_form HO_6.out (by omega); (first | cases eo17 | (injection eo17 with ea_ en_ ec_; (first | subst ea_ | (injection ea_ with ea_; subst ea_)); subst ec_; clear en_)); have GB17 := mk0 gb17; have GG17 := mk0 HG17; clear gb17 gl17 HG17; obtain ⟨hx17_0, hf17_0⟩ := Kd.R_celln 0 HO_6.out (x8_1 : Int) p17 q17; replace p17 := eq_true p17; replace q17 := eq_true q17; obtain ⟨hy18_, hz18_⟩ := Kd.R_celln 0 HO_6.out (x8_1 : Int) (of_decide_eq_true (by assumption)) (of_decide_eq_true (by assumption)); have HP18 := Kd.R_putg HO_6.out (x8_1 : Int) ((IntKind.u64.wrap ((IntKind.u64.wrap (t479 + 4294967296)) - (IntKind.u64.wrap (t480 + x7_1)))) % 4294967296)) | ((with_reducible refine gate_store (t := 87) (p := 43) rfl ?_); refine store_event (t := 87) (p := 43) (v := ?vo_w19) (w1 := (wr.setCell ⟨go17, (x8_1 : Int).toNat, none⟩ (.int .u32 ((IntKind.u64.wrap ((IntKind.u64.wrap (t479 + 4294967296)) - (IntKind.u64.wrap (t480 + x7_1)))) % 4294967296)))) ?hg ?ho ?hn ?hr ?_; (case ho => rfl); (case hg => rfl); (case hn => rfl); (case hr => first | (go_simp; done) | (go_simp; rfl)); intro w19 hw; have hg : wr.grownBy w19 (some go17) := (by rw [hw]; exact HP18.2); have hp_ : Kd.R (Kd.int .u32) 87 w19 w.heap.size (fun _ => True) (.slice (some ⟨go17, 0, none⟩) x6_1.length co17) y481 := (by rw [hw, Ny481.out]; exact HP18.1); clear HP18; replace HO_6 := mk0 (hp_); replace HB := mk0 ((by rw [hw]; exact below_set (HB.out) GB17.out : Below w.heap.size w w19)); clear hg hw hp_))
          go_roundg k1
          case measure => have := HK1.out; omega
          case rel => exact ⟨(y481), (1), (wrap64 (x8_1 + 1)), (by first | rfl | (simp; done) | (simp [*]; done)), (by first | rfl | (simp; done) | (simp [*]; done)), H', ⟨by have := HK1.out; omega⟩, ⟨by (with_reducible repeat (first | apply Kd.R_alloc | apply Kd.R_drewN | apply Kd.R_drew)); exact HO_6.out⟩, ⟨by repeat (first | (with_reducible first | exact HB.out | apply below_alloc | apply pw_below_drewN | apply below_drew1) | exact HB.out)⟩⟩
         ·rw [if_neg c16] at H
          exact absurd H (by simp)
        ·rw [if_neg c15] at H
         exact absurd H (by simp)
       ·rw [if_neg c14] at H
        have c14b0 : decide (t479 < (IntKind.u64.wrap (t480 + x7_1))) = false := decide_eq_false c14
        clear c14
        by_cases c20 : 0 ≤ x8_1
        ·rw [if_pos c20] at H
         have c20b0 : decide (0 ≤ x8_1) = true := decide_eq_true c20
         clear c20
         by_cases c21 : x8_1 < (x6_1.length : Int)
         ·rw [if_pos c21] at H
          have c21b0 : decide (x8_1 < (x6_1.length : Int)) = true := decide_eq_true c21
          clear c21
          obtain ⟨y482, hy482⟩ : ∃ y_ : List Int, y_ = (x6_1.set (x8_1 : Int).toNat ((IntKind.u64.wrap (t479 - (IntKind.u64.wrap (t480 + x7_1)))) % 4294967296)) := ⟨_, rfl⟩
          replace H : (examboardref01_Sub.l0 k1 l0 l1 y482 0 (wrap64 (x8_1 + 1))) = some (r1, r2) := by first | (rw [hy482]; with_reducible exact H) | (have H2_ := (Option.bind_some _ _).symm.trans H; rw [hy482]; with_reducible exact H2_) | (have H2_ := (Option.bind_some _ _).symm.trans H; with_reducible exact H2_) | with_reducible exact H | (rw [hy482]; exact H) | exact H
          have Ny482 := mk0 hy482
          clear hy482
          have H' := mk0 H
          clear H
          go_wp2_with (first | ((with_reducible refine gate_callee (f := 118) rfl ?_); refine goesL_ (some 26) rfl rfl Try.func118 (by kernel_rfl) rfl #[.slice A0 l0.length c0, .int .i64 x8_1] rfl (by (try simp only [List.map_toArray, List.map_cons, List.map_nil]); first | done | rfl | (simp only [List.length_drop, List.length_take]; rfl)) ?_; (with_reducible refine (examboardref01_limb.calls _ _ l0 x8_1 t479 _ (by exact Kd.C_below HR0.out HB.out) HC0.out A12.out).mono ?_); rintro e w' ⟨rfl, ⟨nd, rfl⟩⟩; refine ⟨_, rfl, ?_⟩; (try (rw [drewN_self wr]; generalize hq_ : World.drewN wr _ = wr; replace HO_6 : Aside0 (Kd.R (Kd.int .u32) 87 wr w.heap.size (fun _ => True) v474 x6_1) := ⟨by rw [← hq_]; exact (by (with_reducible repeat (first | apply Kd.R_alloc | apply Kd.R_drewN | apply Kd.R_drew)); exact HO_6.out)⟩; replace HB : Aside0 (Below w.heap.size w wr) := ⟨by rw [← hq_]; exact (by repeat (first | (with_reducible first | exact HB.out | apply below_alloc | apply pw_below_drewN | apply below_drew1) | exact HB.out))⟩; clear hq_))) | ((with_reducible refine gate_callee (f := 118) rfl ?_); refine goesL_ (some 29) rfl rfl Try.func118 (by kernel_rfl) rfl #[.slice A1 l1.length c1, .int .i64 x8_1] rfl (by (try simp only [List.map_toArray, List.map_cons, List.map_nil]); first | done | rfl | (simp only [List.length_drop, List.length_take]; rfl)) ?_; (with_reducible refine (examboardref01_limb.calls _ _ l1 x8_1 t480 _ (by exact Kd.C_below HR1.out HB.out) HC1.out A13.out).mono ?_); rintro e w' ⟨rfl, ⟨nd, rfl⟩⟩; refine ⟨_, rfl, ?_⟩; (try (rw [drewN_self wr]; generalize hq_ : World.drewN wr _ = wr; replace HO_6 : Aside0 (Kd.R (Kd.int .u32) 87 wr w.heap.size (fun _ => True) v474 x6_1) := ⟨by rw [← hq_]; exact (by (with_reducible repeat (first | apply Kd.R_alloc | apply Kd.R_drewN | apply Kd.R_drew)); exact HO_6.out)⟩; replace HB : Aside0 (Below w.heap.size w wr) := ⟨by rw [← hq_]; exact (by repeat (first | (with_reducible first | exact HB.out | apply below_alloc | apply pw_below_drewN | apply below_drew1) | exact HB.out))⟩; clear hq_)); have p22 : 0 ≤ (x8_1 : Int) := of_decide_eq_true (by assumption); have q22 : (x8_1 : Int) < ((x6_1.length : Int) : Int) := of_decide_eq_true (by assumption); obtain ⟨go22, co22, eo22, gb22, gl22, cl22, HG22⟩ := Kd.R_form HO_6.out (by omega); (first | cases eo22 | (injection eo22 with ea_ en_ ec_; (first | subst ea_ | (injection ea_ with ea_; subst ea_)); subst ec_; clear en_)); have GB22 := mk0 gb22; have GG22 := mk0 HG22; clear gb22 gl22 HG22; obtain ⟨hx22_0, hf22_0⟩ := Kd.R_celln 0 HO_6.out (x8_1 : Int) p22 q22; replace p22 := eq_true p22; replace q22 := eq_true q22; obtain ⟨hy23_, hz23_⟩ := Kd.R_celln 0 HO_6.out (x8_1 : Int) (of_decide_eq_true (by assumption)) (of_decide_eq_true (by assumption)); have HP23 := Kd.R_putg HO_6.out (x8_1 : Int) ((IntKind.u64.wrap (t479 - (IntKind.u64.wrap (t480 + x7_1)))) % 4294967296)) | ((with_reducible refine gate_store (t := 87) (p := 43) rfl ?_); refine store_event (t := 87) (p := 43) (v := ?vo_w24) (w1 := (wr.setCell ⟨go22, (x8_1 : Int).toNat, none⟩ (.int .u32 ((IntKind.u64.wrap (t479 - (IntKind.u64.wrap (t480 + x7_1)))) % 4294967296)))) ?hg ?ho ?hn ?hr ?_; (case ho => rfl); (case hg => rfl); (case hn => rfl); (case hr => first | (go_simp; done) | (go_simp; rfl)); intro w24 hw; have hg : wr.grownBy w24 (some go22) := (by rw [hw]; exact HP23.2); have hp_ : Kd.R (Kd.int .u32) 87 w24 w.heap.size (fun _ => True) (.slice (some ⟨go22, 0, none⟩) x6_1.length co22) y482 := (by rw [hw, Ny482.out]; exact HP23.1); clear HP23; replace HO_6 := mk0 (hp_); replace HB := mk0 ((by rw [hw]; exact below_set (HB.out) GB22.out : Below w.heap.size w w24)); clear hg hw hp_))
          go_roundg k1
          case measure => have := HK1.out; omega
          case rel => exact ⟨(y482), (0), (wrap64 (x8_1 + 1)), (by first | rfl | (simp; done) | (simp [*]; done)), (by first | rfl | (simp; done) | (simp [*]; done)), H', ⟨by have := HK1.out; omega⟩, ⟨by (with_reducible repeat (first | apply Kd.R_alloc | apply Kd.R_drewN | apply Kd.R_drew)); exact HO_6.out⟩, ⟨by repeat (first | (with_reducible first | exact HB.out | apply below_alloc | apply pw_below_drewN | apply below_drew1) | exact HB.out)⟩⟩
         ·rw [if_neg c21] at H
          exact absurd H (by simp)
        ·rw [if_neg c20] at H
         exact absurd H (by simp)
      ·rw [if_neg c11] at H
       have c11b0 : decide (x8_1 < (l0.length : Int)) = false := decide_eq_false c11
       clear c11
       obtain ⟨t476, A25, H⟩ := bindA H
       simp only [Option.some.injEq, Prod.mk.injEq] at H
       obtain ⟨rfl, rfl⟩ := H
       obtain ⟨Ao26, co26, eo26⟩ := Kd.R_slice HO_6.out
       subst eo26
       go_wp2_with (first | ((with_reducible refine gate_callee (f := 89) rfl ?_); refine goesL_ (some 45) rfl rfl Try.func89 (by kernel_rfl) rfl #[.slice Ao26 x6_1.length co26] rfl (by (try simp only [List.map_toArray, List.map_cons, List.map_nil]); first | done | rfl | (simp only [List.length_drop, List.length_take]; rfl)) ?_; (with_reducible refine (examboardref01_Norm.calls k1 _ _ x6_1 t476 _ (by exact (Kd.R_reads' HO_6.out).2.2) (by exact (Kd.R_reads' HO_6.out).2.1) A25.out).mono ?_); rintro e w27 ⟨v477, rfl, ho0, hb⟩; refine ⟨_, rfl, ?_⟩; have HO478 := mk0 (Kd.R_lower (Kd.R_new' ho0 (Kd.R_lt (by (with_reducible repeat (first | apply Kd.R_alloc | apply Kd.R_drewN | apply Kd.R_drew)); exact HO_6.out))) (below_size (by repeat (first | (with_reducible first | exact HB.out | apply below_alloc | apply pw_below_drewN | apply below_drew1) | exact HB.out)))); replace HO_6 := mk0 (Kd.R_elder' (by (with_reducible repeat (first | apply Kd.R_alloc | apply Kd.R_drewN | apply Kd.R_drew)); exact HO_6.out) (Kd.R_base ho0) hb); replace HB := mk0 (below_step (by repeat (first | (with_reducible first | exact HB.out | apply below_alloc | apply pw_below_drewN | apply below_drew1) | exact HB.out)) hb)))
       go_ret2
       exact ⟨_, by first | rfl | (simp [errW_none, errW_some] <;> rfl) | (simp [*, errW_none, errW_some] <;> rfl), by (with_reducible repeat (first | apply Kd.R_alloc | apply Kd.R_drewN | apply Kd.R_drew)); exact Kd.R_mono HO478.out (fun _ hk => trivial), by repeat (first | (with_reducible first | exact HB.out | apply below_alloc | apply pw_below_drewN | apply below_drew1) | exact HB.out)⟩
   ·rw [if_neg c7] at H
    exact absurd H (by simp)
  ·rw [if_neg c6] at H
   exact absurd H (by simp)
def examboardref01_half.T5 : Bool × List (List Nat × List Nat) := (true, [([], []), ([], []), ([], []), ([], []), ([3], [3]), ([2, 4], [2, 4]), ([5], [5]), ([], []), ([], []), ([7, 8], [7, 8]), ([9], [9]), ([10], [10]), ([6, 11], [6, 11]), ([12], [12]), ([13], [13]), ([0, 1, 0, 1, 2, 3, 4, 5, 6, 7, 8, 9, 10, 11, 12, 13, 14], [0, 1]), ([15, 14, 5, 0, 1, 2, 3, 4, 5, 6, 7, 8, 9, 10, 11, 12, 13, 14], [14, 15])])
def examboardref01_half.B5 : List Nat := [0, 0, 0, 0, 8, 28, 60, 0, 0, 384, 896, 1920, 4092, 8188, 16380, 32767, 65535]
theorem examboardref01_half.tab5 : rtab .any (opsOf Try.f117 5) = examboardref01_half.T5 := by kernel_rfl
theorem examboardref01_half.bits5 : waitsOk examboardref01_half.T5.2 examboardref01_half.B5 = true := by kernel_rfl
set_option maxHeartbeats 8000000 in
set_option maxRecDepth 100000 in
theorem examboardref01_half.calls (k : Nat) (A0 : Option Addr) (c0 : Nat) (l0 : List Int) (r : List Int) (w : World) (hr0 : Kd.C (Kd.int .u32) w A0 l0.length l0) (hc0 : l0.length ≤ c0) (h : examboardref01_half.f k l0 = some r) :
  Calls Try.prog 117 #[.slice A0 l0.length c0] w fun e w' => ∃ v0_ : Value, e = .returned (v0_) ∧ Kd.R (Kd.int .u32) 87 w' w.heap.size (fun _ => True) v0_ r ∧ Below w.heap.size w w' := by
 have HR0 := mk0 hr0
 have HC0 := mk0 hc0
 clear hr0 hc0
 have HB := mk0 (Below.refl w.heap.size w)
 have H : (if 0 ≤ (l0.length : Int) then (if ((l0.length : Int) : Int).toNat ≤ 70368744177664 then (examboardref01_half.l0 k l0 (List.replicate ((l0.length : Int) : Int).toNat 0) 0) else (none)) else (none)) = some r := h
 clear h
 by_cases c2 : 0 ≤ (l0.length : Int)
 ·rw [if_pos c2] at H
  have c2b0 := eq_true c2
  have c2b1 : decide (0 ≤ (l0.length : Int)) = true := decide_eq_true c2
  clear c2
  by_cases c3 : ((l0.length : Int) : Int).toNat ≤ 70368744177664
  ·rw [if_pos c3] at H
   have c3b0 := eq_true c3
   have c3b1 : decide (((l0.length : Int) : Int).toNat ≤ 70368744177664) = true := decide_eq_true c3
   clear c3
   obtain ⟨y483, hy483⟩ : ∃ y_ : List Int, y_ = (List.replicate ((l0.length : Int) : Int).toNat 0) := ⟨_, rfl⟩
   replace H : (examboardref01_half.l0 k l0 y483 0) = some r := by first | (rw [hy483]; with_reducible exact H) | (have H2_ := (Option.bind_some _ _).symm.trans H; rw [hy483]; with_reducible exact H2_) | (have H2_ := (Option.bind_some _ _).symm.trans H; with_reducible exact H2_) | with_reducible exact H | (rw [hy483]; exact H) | exact H
   have Ny483 := mk0 hy483
   clear hy483
   have H' := mk0 H
   clear H
   go_enter Try.func117, Try.ntmps117
   go_wp2_with (first | ((with_reducible refine gate_dst (N := 7) rfl ?_); refine Kd.R_make (Kd.int .u32) _ 87 rfl (N := 7) rfl 25 _ _ rfl (l0.length : Int) rfl rfl Try.underlying25 (.int .u32 0) 4 info87 rfl (by decide) (by omega) 0 (ok := fun _ => True) (okp := fun _ => True) rfl (fun _ hk => hk) trivial (of_decide_eq_true (by assumption)) (Nat.le_trans (Nat.mul_le_mul_right _ (of_decide_eq_true (by assumption) : (l0.length : Int).toNat ≤ 70368744177664)) (by omega)) (Below.refl _ _) (Nat.le_refl _) ?_; intro v484 w4 ho5 hb hg_ hnew_; clear hg_ hnew_; (first | rw [← Ny483.out] at ho5 | (simp only [Int.reduceToNat] at ho5; rw [← Ny483.out] at ho5)); have HO485 := mk0 (Kd.R_lower ho5 (below_size (by repeat (first | (with_reducible first | exact HB.out | apply below_alloc | apply pw_below_drewN | apply below_drew1) | exact HB.out)))); replace HB := mk0 (below_step (by repeat (first | (with_reducible first | exact HB.out | apply below_alloc | apply pw_below_drewN | apply below_drew1) | exact HB.out)) hb); clear hb ho5))
   go_loopg [4] k (fun kq v4 w' => ∃ (x3_1 : List Int) (x4_1 : Int), v4 = .int .i64 x4_1 ∧ Aside0 (examboardref01_half.l0 kq l0 x3_1 x4_1 = some r) ∧ Aside0 (kq ≤ k) ∧ Aside0 (Kd.R (Kd.int .u32) 87 w' w.heap.size (fun _ => True) v484 x3_1) ∧ Aside0 (Below w.heap.size w w'))
   case atStart => exact ⟨(y483), (0), (by first | rfl | (simp; done) | (simp [*]; done)), H', ⟨Nat.le_refl _⟩, ⟨by (with_reducible repeat (first | apply Kd.R_alloc | apply Kd.R_drewN | apply Kd.R_drew)); exact HO485.out⟩, ⟨by repeat (first | (with_reducible first | exact HB.out | apply below_alloc | apply pw_below_drewN | apply below_drew1) | exact HB.out)⟩⟩
   case round =>
    clear H'
    try clear c1
    try clear c2
    try clear c2b0
    try clear c2b1
    try clear p2
    try clear c3
    try clear c3b0
    try clear c3b1
    obtain ⟨x3_1, x4_1, rfl, HA, HK1, HO_3, HB⟩ := hrel
    cases gk with
    | zero => exact absurd HA.out (by simp [examboardref01_half.l0])
    | succ k1 =>
     have H := HA.out
     clear HA
     simp only [examboardref01_half.l0] at H
     by_cases c6 : x4_1 < (l0.length : Int)
     ·rw [if_pos c6] at H
      have c6b0 : decide (x4_1 < (l0.length : Int)) = true := decide_eq_true c6
      clear c6
      obtain ⟨t486, A7, H⟩ := bindA H
      by_cases c8 : 0 ≤ x4_1
      ·rw [if_pos c8] at H
       have c8b0 : decide (0 ≤ x4_1) = true := decide_eq_true c8
       clear c8
       by_cases c9 : x4_1 < (x3_1.length : Int)
       ·rw [if_pos c9] at H
        have c9b0 : decide (x4_1 < (x3_1.length : Int)) = true := decide_eq_true c9
        clear c9
        obtain ⟨y488, hy488⟩ : ∃ y_ : List Int, y_ = (x3_1.set (x4_1 : Int).toNat (((IntKind.u64.wrap ((IntKind.u64.wrap (t486 * 4294967296)) + (IntKind.u64.wrap (rd l0 x4_1)))) / 2) % 4294967296)) := ⟨_, rfl⟩
        replace H : (examboardref01_half.l0 k1 l0 y488 (wrap64 (x4_1 + 1))) = some r := by first | (rw [hy488]; with_reducible exact H) | (have H2_ := (Option.bind_some _ _).symm.trans H; rw [hy488]; with_reducible exact H2_) | (have H2_ := (Option.bind_some _ _).symm.trans H; with_reducible exact H2_) | with_reducible exact H | (rw [hy488]; exact H) | exact H
        have Ny488 := mk0 hy488
        clear hy488
        have H' := mk0 H
        clear H
        try go_wp2
        replace HO_3 := mk0 (Kd.R_drew HO_3.out)
        replace HB := mk0 (below_drew1 HB.out)
        have p487 : 0 ≤ (x4_1 : Int) := of_decide_eq_true (by assumption)
        have q487 : x4_1 < (l0.length : Int) := of_decide_eq_true (by assumption)
        obtain ⟨ad487, e487, hx487_0⟩ := Kd.at_int HR0.out x4_1 p487 q487
        have hw487_0 := hx487_0
        cases e487
        replace hx487_0 := (HB.out.cell (World.block_lt_of_cell? w _ hx487_0)).trans hx487_0
        replace p487 := eq_true p487
        replace q487 := eq_true q487
        refine start_ (n := 17) (S := fun w' => w'.cell? (ad487.add (x4_1).toNat) = some (.int .u32 (rd l0 x4_1))) (ds := [16]) (bv 17 0) (by kernel_rfl) rfl rfl (((HB.out.cell (World.block_lt_of_cell? w _ hw487_0)).trans hw487_0)) (fun hHeld => ?_); refine with_tabW examboardref01_half.tab5 examboardref01_half.bits5 (fun HT_ HW_ => ?_)
        generalize wr.drew = w11 at HO_3 HB hx487_0 hHeld ⊢
        refine pure_ (i := 0) (N := some 14) (v := ?_) (a' := ?_) (bv 17 1) rfl rfl (any_of HT_.out (by kernel_rfl)) (fun _ _ _ h => h) (Or.inl ⟨by rfl, ?_⟩) ?_ ?_; rotate_left; (intro w'; go_simp; with_reducible rfl); rotate_left; (simp only [Act.put, List.setIfInBounds_toArray, List.set_cons_zero, List.set_cons_succ, i64_w, i32_w]; rfl)
        refine pure_ (i := 1) (N := some 15) (v := ?_) (a' := ?_) (bv 17 3) rfl rfl (any_of HT_.out (by kernel_rfl)) (fun _ _ _ h => h) (Or.inl ⟨by rfl, ?_⟩) ?_ ?_; rotate_left; (intro w'; go_simp; with_reducible rfl); rotate_left; (simp only [Act.put, List.setIfInBounds_toArray, List.set_cons_zero, List.set_cons_succ, i64_w, i32_w]; rfl)
        refine pure_ (i := 2) (N := some 16) (v := ?_) (a' := ?_) (bv 17 7) rfl rfl (any_of HT_.out (by kernel_rfl)) (fun _ _ _ h => h) (Or.inl ⟨by rfl, ?_⟩) ?_ ?_; rotate_left; (intro w'; go_simp; with_reducible rfl); rotate_left; (simp only [Act.put, List.setIfInBounds_toArray, List.set_cons_zero, List.set_cons_succ, i64_w, i32_w]; rfl)
        refine pure_ (i := 3) (N := some 17) (v := ?_) (a' := ?_) (bv 17 15) rfl rfl (any_of HT_.out (by kernel_rfl)) (fun _ _ _ h => h) (Or.inl ⟨by rfl, ?_⟩) ?_ ?_; rotate_left; (intro w'; go_simp; with_reducible rfl); rotate_left; (simp only [Act.put, List.setIfInBounds_toArray, List.set_cons_zero, List.set_cons_succ, i64_w, i32_w]; rfl)
        refine pure_ (i := 4) (N := some 18) (v := ?_) (a' := ?_) (bv 17 31) rfl rfl (any_of HT_.out (by kernel_rfl)) (fun _ _ _ h => h) (Or.inl ⟨by rfl, ?_⟩) ?_ ?_; rotate_left; (intro w'; go_simp; with_reducible rfl); rotate_left; (simp only [Act.put, List.setIfInBounds_toArray, List.set_cons_zero, List.set_cons_succ, i64_w, i32_w]; rfl)
        refine pure_ (i := 7) (N := some 21) (v := ?_) (a' := ?_) (bv 17 159) rfl rfl (any_of HT_.out (by kernel_rfl)) (fun _ _ _ h => h) (Or.inl ⟨by rfl, ?_⟩) ?_ ?_; rotate_left; (intro w'; go_simp; with_reducible rfl); rotate_left; (simp only [Act.put, List.setIfInBounds_toArray, List.set_cons_zero, List.set_cons_succ, i64_w, i32_w]; rfl)
        refine pure_ (i := 8) (N := some 22) (v := ?_) (a' := ?_) (bv 17 415) rfl rfl (any_of HT_.out (by kernel_rfl)) (fun _ _ _ h => h) (Or.inl ⟨by rfl, ?_⟩) ?_ ?_; rotate_left; (intro w'; go_simp; with_reducible rfl); rotate_left; (simp only [Act.put, List.setIfInBounds_toArray, List.set_cons_zero, List.set_cons_succ, i64_w, i32_w]; rfl)
        refine pure_ (i := 9) (N := some 23) (v := ?_) (a' := ?_) (bv 17 927) rfl rfl (any_of HT_.out (by kernel_rfl)) (fun _ _ _ h => h) (Or.inl ⟨by rfl, ?_⟩) ?_ ?_; rotate_left; (intro w'; go_simp; with_reducible rfl); rotate_left; (simp only [Act.put, List.setIfInBounds_toArray, List.set_cons_zero, List.set_cons_succ, i64_w, i32_w]; rfl)
        refine take_ (i := 10) (N := some 24) (v := ?_) (a' := ?_) (bv 17 1951) rfl rfl (take_ofW HT_.out HW_.out (by kernel_rfl)) (fun _ _ _ h => h) (Or.inl ⟨by rfl, ?_⟩) hHeld ?_ ?_
        rotate_left
        ·intro w' s0
         go_simp
         with_reducible rfl
        rotate_left
        ·simp only [Act.put, List.setIfInBounds_toArray, List.set_cons_zero, List.set_cons_succ, i64_w, i32_w]
         rfl
        refine pure_ (i := 11) (N := some 25) (v := ?_) (a' := ?_) (bv 17 3999) rfl rfl (any_of HT_.out (by kernel_rfl)) (fun _ _ _ h => h) (Or.inl ⟨by rfl, ?_⟩) ?_ ?_; rotate_left; (intro w'; go_simp; with_reducible rfl); rotate_left; (simp only [Act.put, List.setIfInBounds_toArray, List.set_cons_zero, List.set_cons_succ, i64_w, i32_w]; rfl)
        refine one_ (i := 5) (N := some 19) (bv 17 4031) rfl rfl (one_of HT_.out (by kernel_rfl)) (by decide) (fun K hK => ?_)
        refine goes_ Try.func118 (by kernel_rfl) rfl #[.slice (some ad487) l0.length c0, .int .i64 (wrap64 (x4_1 + 1))] (by rfl) rfl rfl (by (try simp only [List.map_toArray, List.map_cons, List.map_nil]); first | done | rfl | (simp only [List.length_drop, List.length_take]; rfl)) ?_
        with_reducible refine (examboardref01_limb.calls _ _ l0 (wrap64 (x4_1 + 1)) t486 _ ?side1 ?side2 A7.out).mono ?_
        (case side1 => repeat (first | exact (Kd.C_below HR0.out HB.out) | (with_reducible refine Kd.C_alloc ?_ _) | (with_reducible refine Kd.C_drewN ?_ _) | (with_reducible refine Kd.C_drew ?_)))
        (case side2 => exact HC0.out)
        rintro e w' ⟨rfl, ⟨nd, rfl⟩⟩
        refine ⟨_, rfl, ?_⟩
        have p10 : 0 ≤ (x4_1 : Int) := of_decide_eq_true (by assumption)
        have q10 : (x4_1 : Int) < ((x3_1.length : Int) : Int) := of_decide_eq_true (by assumption)
        obtain ⟨go10, co10, eo10, gb10, gl10, cl10, HG10⟩ := Kd.R_form HO_3.out (by omega)
        (first | cases eo10 | (injection eo10 with ea_ en_ ec_; (first | subst ea_ | (injection ea_ with ea_; subst ea_)); subst ec_; clear en_))
        have GB10 := mk0 gb10
        have GG10 := mk0 HG10
        clear gb10 gl10 HG10
        obtain ⟨hx10_0, hf10_0⟩ := Kd.R_celln 0 HO_3.out (x4_1 : Int) p10 q10
        replace p10 := eq_true p10
        replace q10 := eq_true q10
        have HP12 := Kd.R_putn HO_3.out (x4_1 : Int) (((IntKind.u64.wrap ((IntKind.u64.wrap (t486 * 4294967296)) + (IntKind.u64.wrap (rd l0 x4_1)))) / 2) % 4294967296)
        rw [← Ny488.out] at HP12
        have HQ12 := mk0 HP12
        clear HP12
        refine hK.out _ _ (((HB.out.cell (World.block_lt_of_cell? w _ hw487_0)).trans hw487_0)) (fun hHeld => ?_)
        clear hK K
        refine norm_ (a' := ?_) ?_ ?_
        rotate_left
        ·show Act.put _ (some 19) _ = _
         simp only [Act.put, List.setIfInBounds_toArray, List.set_cons_zero, List.set_cons_succ, i64_w, i32_w]
         rfl
        refine pure_ (i := 6) (N := some 20) (v := ?_) (a' := ?_) (bv 17 4095) rfl rfl (any_of HT_.out (by kernel_rfl)) (fun _ _ _ h => h) (Or.inl ⟨by rfl, ?_⟩) ?_ ?_; rotate_left; (intro w'; go_simp; with_reducible rfl); rotate_left; (simp only [Act.put, List.setIfInBounds_toArray, List.set_cons_zero, List.set_cons_succ, i64_w, i32_w]; rfl)
        refine pure_ (i := 12) (N := some 26) (v := ?_) (a' := ?_) (bv 17 8191) rfl rfl (any_of HT_.out (by kernel_rfl)) (fun _ _ _ h => h) (Or.inl ⟨by rfl, ?_⟩) ?_ ?_; rotate_left; (intro w'; go_simp; with_reducible rfl); rotate_left; (simp only [Act.put, List.setIfInBounds_toArray, List.set_cons_zero, List.set_cons_succ, i64_w, i32_w]; rfl)
        refine pure_ (i := 13) (N := some 27) (v := ?_) (a' := ?_) (bv 17 16383) rfl rfl (any_of HT_.out (by kernel_rfl)) (fun _ _ _ h => h) (Or.inl ⟨by rfl, ?_⟩) ?_ ?_; rotate_left; (intro w'; go_simp; with_reducible rfl); rotate_left; (simp only [Act.put, List.setIfInBounds_toArray, List.set_cons_zero, List.set_cons_succ, i64_w, i32_w]; rfl)
        refine pure_ (i := 14) (N := some 28) (v := ?_) (a' := ?_) (bv 17 32767) rfl rfl (any_of HT_.out (by kernel_rfl)) (fun _ _ _ h => h) (Or.inl ⟨by rfl, ?_⟩) ?_ ?_; rotate_left; (intro w'; go_simp; with_reducible rfl); rotate_left; (simp only [Act.put, List.setIfInBounds_toArray, List.set_cons_zero, List.set_cons_succ, i64_w, i32_w]; rfl)
        refine pure_ (i := 15) (N := some 29) (v := ?_) (a' := ?_) (bv 17 65535) rfl rfl (any_of HT_.out (by kernel_rfl)) (fun _ _ _ h => h) (Or.inl ⟨by rfl, ?_⟩) ?_ ?_; rotate_left; (intro w'; go_simp; with_reducible rfl); rotate_left; (simp only [Act.put, List.setIfInBounds_toArray, List.set_cons_zero, List.set_cons_succ, i64_w, i32_w]; rfl)
        refine last_ (i := 16) (N := none) (bv 17 131071) rfl rfl (one_of HT_.out (by kernel_rfl)) (by decide) (fun K hK => ?_)
        refine skip_ (w1 := ?_) (by rfl) rfl ?_ ?_
        rotate_left
        ·go_simp
         rfl
        refine hK.out _ _ ?_
        clear hK K
        refine done_ (done_of HT_.out (by kernel_rfl)) ?_
        try go_wp2
        go_roundg k1
        case measure => have := HK1.out; omega
        case rel => exact ⟨(y488), (wrap64 (x4_1 + 1)), (by first | rfl | (simp; done) | (simp [*]; done)), H', ⟨by have := HK1.out; omega⟩, ⟨by (with_reducible repeat (first | apply Kd.R_alloc | apply Kd.R_drewN | apply Kd.R_drew)); exact HQ12.out⟩, ⟨by repeat (first | (with_reducible first | exact HB.out | apply below_alloc | apply pw_below_drewN | apply below_drew1 | refine below_set ?_ GB10.out) | exact HB.out)⟩⟩
       ·rw [if_neg c9] at H
        exact absurd H (by simp)
      ·rw [if_neg c8] at H
       exact absurd H (by simp)
     ·rw [if_neg c6] at H
      have c6b0 : decide (x4_1 < (l0.length : Int)) = false := decide_eq_false c6
      clear c6
      obtain ⟨t489, A13, H⟩ := bindA H
      obtain rfl := Option.some.inj H
      obtain ⟨Ao14, co14, eo14⟩ := Kd.R_slice HO_3.out
      subst eo14
      go_wp2_with (first | ((with_reducible refine gate_callee (f := 89) rfl ?_); refine goesL_ (some 31) rfl rfl Try.func89 (by kernel_rfl) rfl #[.slice Ao14 x3_1.length co14] rfl (by (try simp only [List.map_toArray, List.map_cons, List.map_nil]); first | done | rfl | (simp only [List.length_drop, List.length_take]; rfl)) ?_; (with_reducible refine (examboardref01_Norm.calls k1 _ _ x3_1 t489 _ (by exact (Kd.R_reads' HO_3.out).2.2) (by exact (Kd.R_reads' HO_3.out).2.1) A13.out).mono ?_); rintro e w15 ⟨v490, rfl, ho0, hb⟩; refine ⟨_, rfl, ?_⟩; have HO491 := mk0 (Kd.R_lower (Kd.R_new' ho0 (Kd.R_lt (by (with_reducible repeat (first | apply Kd.R_alloc | apply Kd.R_drewN | apply Kd.R_drew)); exact HO_3.out))) (below_size (by repeat (first | (with_reducible first | exact HB.out | apply below_alloc | apply pw_below_drewN | apply below_drew1) | exact HB.out)))); replace HO_3 := mk0 (Kd.R_elder' (by (with_reducible repeat (first | apply Kd.R_alloc | apply Kd.R_drewN | apply Kd.R_drew)); exact HO_3.out) (Kd.R_base ho0) hb); replace HB := mk0 (below_step (by repeat (first | (with_reducible first | exact HB.out | apply below_alloc | apply pw_below_drewN | apply below_drew1) | exact HB.out)) hb)))
      go_ret
      exact ⟨_, by first | rfl | (simp [errW_none, errW_some] <;> rfl) | (simp [*, errW_none, errW_some] <;> rfl), by (with_reducible repeat (first | apply Kd.R_alloc | apply Kd.R_drewN | apply Kd.R_drew)); exact Kd.R_mono HO491.out (fun _ hk => trivial), by repeat (first | (with_reducible first | exact HB.out | apply below_alloc | apply pw_below_drewN | apply below_drew1) | exact HB.out)⟩
  ·rw [if_neg c3] at H
   exact absurd H (by simp)
 ·rw [if_neg c2] at H
  exact absurd H (by simp)
set_option maxHeartbeats 8000000 in
set_option maxRecDepth 100000 in
theorem examboardref01_DivMod.calls (k : Nat) (A0 : Option Addr) (c0 : Nat) (l0 : List Int) (A1 : Option Addr) (c1 : Nat) (l1 : List Int) (r1 : List Int) (r2 : List Int) (r3 : Bool) (w : World) (hr0 : Kd.C (Kd.int .u32) w A0 l0.length l0) (hc0 : l0.length ≤ c0) (hr1 : Kd.C (Kd.int .u32) w A1 l1.length l1) (hc1 : l1.length ≤ c1) (h : examboardref01_DivMod.f k l0 l1 = some (r1, r2, r3)) :
  Calls Try.prog 88 #[.slice A0 l0.length c0, .slice A1 l1.length c1] w fun e w' => ∃ v0_ v1_ : Value, e = .returned (.tuple #[v0_, v1_, .bool r3]) ∧ Kd.R (Kd.int .u32) 87 w' w.heap.size (fun k_ => some k_ ≠ (v1_ : Value).ownBlock) v0_ r1 ∧ Kd.R (Kd.int .u32) 87 w' w.heap.size (fun k_ => some k_ ≠ (v0_ : Value).ownBlock) v1_ r2 ∧ Below w.heap.size w w' := by
 have HR0 := mk0 hr0
 have HC0 := mk0 hc0
 clear hr0 hc0
 have HR1 := mk0 hr1
 have HC1 := mk0 hc1
 clear hr1 hc1
 have HB := mk0 (Below.refl w.heap.size w)
 have H : ((examboardref01_Norm.f k l0).bind fun t492 => ((examboardref01_Norm.f k l1).bind fun t495 => (if (t495.length : Int) = 0 then (some (([] : List Int), ([] : List Int), false)) else (if (t495.length : Int) = 1 then (if 0 < (t495.length : Int) then ((examboardref01_short.f k t492 (IntKind.u64.wrap (rd t495 0))).bind fun bt499 => ((examboardref01_Of.f k bt499.2).bind fun t503 => (some (bt499.1, t503, true)))) else (none)) else ((examboardref01_Bits.f k t492).bind fun t506 => ((examboardref01_Bits.f k t495).bind fun t507 => (if (wrap64 (t506 - t507)) < 0 then (some (([] : List Int), t492, true)) else (if 0 ≤ (wrap64 ((wrap64 (Int.tdiv (wrap64 (t506 - t507)) 32)) + 1)) then (if (wrap64 ((wrap64 (Int.tdiv (wrap64 (t506 - t507)) 32)) + 1) : Int).toNat ≤ 70368744177664 then ((examboardref01_Shift.f k t495 (wrap64 (t506 - t507))).bind fun t511 => (examboardref01_DivMod.l0 k t492 (List.replicate (wrap64 ((wrap64 (Int.tdiv (wrap64 (t506 - t507)) 32)) + 1) : Int).toNat 0) t511 (wrap64 (t506 - t507)))) else (none)) else (none))))))))) = some (r1, r2, r3) := h
 clear h
 obtain ⟨t492, A3, H⟩ := bindA H
 obtain ⟨t495, A4, H⟩ := bindA H
 by_cases c5 : (t495.length : Int) = 0
 ·rw [if_pos c5] at H
  have c5b0 : ((t495.length : Int) == 0) = true := beq_iff_eq.mpr c5
  have c5b1 : ((t495.length : Int) != 0) = false := bne_eq_false_iff_eq.mpr c5
  clear c5
  simp only [Option.some.injEq, Prod.mk.injEq] at H
  obtain ⟨rfl, rfl, rfl⟩ := H
  go_enter Try.func88, Try.ntmps88
  go_wp2_with (first | ((with_reducible refine gate_callee (f := 89) rfl ?_); refine goesL_ (some 14) rfl rfl Try.func89 (by kernel_rfl) rfl #[.slice A0 l0.length c0] rfl (by first | (go_simp; done) | (go_simp; rfl)) ?_; (with_reducible refine (examboardref01_Norm.calls k _ _ l0 t492 _ HR0.out HC0.out A3.out).mono ?_); rintro e w6 ⟨v493, rfl, ho0, hb⟩; refine ⟨_, rfl, ?_⟩; have HO494 := mk0 (Kd.R_lower ho0 (below_size HB.out)); replace HB := hbS HB hb) | ((with_reducible refine gate_callee (f := 89) rfl ?_); refine goesL_ (some 16) rfl rfl Try.func89 (by kernel_rfl) rfl #[.slice A1 l1.length c1] rfl (by first | (go_simp; done) | (go_simp; rfl)) ?_; (with_reducible refine (examboardref01_Norm.calls k _ _ l1 t495 _ (by exact Kd.C_below HR1.out HB.out) HC1.out A4.out).mono ?_); rintro e w7 ⟨v496, rfl, ho0, hb⟩; refine ⟨_, rfl, ?_⟩; have HO497 := mk0 (Kd.R_lower (Kd.R_new' ho0 (Kd.R_lt HO494.out)) (below_size HB.out)); replace HO494 := mk0 (Kd.R_elder' HO494.out (Kd.R_base ho0) hb); replace HB := hbS HB hb; obtain ⟨Ao8, co8, eo8⟩ := Kd.R_slice HO497.out; subst eo8))
  go_ret3
  exact ⟨_, _, by first | rfl | (simp [errW_none, errW_some] <;> rfl) | (simp [*, errW_none, errW_some] <;> rfl), by first | exact Kd.R_nil _ _ _ _ _ | exact Kd.N_nil _ _ _ _ _ | exact Kd.V_nil _ _ _ _ _ | exact Kd.Q_nil _ _ _ _ _ | exact Kd.S_nil _ _ _ _ _, by first | exact Kd.R_nil _ _ _ _ _ | exact Kd.N_nil _ _ _ _ _ | exact Kd.V_nil _ _ _ _ _ | exact Kd.Q_nil _ _ _ _ _ | exact Kd.S_nil _ _ _ _ _, HB.out⟩
 ·rw [if_neg c5] at H
  have c5b0 : ((t495.length : Int) == 0) = false := beq_eq_false_iff_ne.mpr c5
  have c5b1 : ((t495.length : Int) != 0) = true := bne_iff_ne.mpr c5
  have c5b2 : ¬ (t495 = []) := fun h_ => c5 (by rw [h_]; rfl)
  by_cases c9 : (t495.length : Int) = 1
  ·rw [if_pos c9] at H
   have c9b0 : ((t495.length : Int) == 1) = true := beq_iff_eq.mpr c9
   have c9b1 : ((t495.length : Int) != 1) = false := bne_eq_false_iff_eq.mpr c9
   clear c9
   by_cases c10 : 0 < (t495.length : Int)
   ·rw [if_pos c10] at H
    have c10b0 : decide (0 < (t495.length : Int)) = true := decide_eq_true c10
    have c10b1 : decide (0 < t495.length) = true := decide_eq_true (by omega)
    clear c10
    obtain ⟨⟨t499, t500⟩, A11, H⟩ := bindA H
    obtain ⟨t503, A12, H⟩ := bindA H
    simp only [Option.some.injEq, Prod.mk.injEq] at H
    obtain ⟨rfl, rfl, rfl⟩ := H
    go_enter Try.func88, Try.ntmps88
    go_wp2_with (first | ((with_reducible refine gate_callee (f := 89) rfl ?_); refine goesL_ (some 14) rfl rfl Try.func89 (by kernel_rfl) rfl #[.slice A0 l0.length c0] rfl (by first | (go_simp; done) | (go_simp; rfl)) ?_; (with_reducible refine (examboardref01_Norm.calls k _ _ l0 t492 _ HR0.out HC0.out A3.out).mono ?_); rintro e w13 ⟨v493, rfl, ho0, hb⟩; refine ⟨_, rfl, ?_⟩; have HO494 := mk0 (Kd.R_lower ho0 (below_size HB.out)); replace HB := hbS HB hb) | ((with_reducible refine gate_callee (f := 89) rfl ?_); refine goesL_ (some 16) rfl rfl Try.func89 (by kernel_rfl) rfl #[.slice A1 l1.length c1] rfl (by first | (go_simp; done) | (go_simp; rfl)) ?_; (with_reducible refine (examboardref01_Norm.calls k _ _ l1 t495 _ (by exact Kd.C_below HR1.out HB.out) HC1.out A4.out).mono ?_); rintro e w14 ⟨v496, rfl, ho0, hb⟩; refine ⟨_, rfl, ?_⟩; have HO497 := mk0 (Kd.R_lower (Kd.R_new' ho0 (Kd.R_lt HO494.out)) (below_size HB.out)); replace HO494 := mk0 (Kd.R_elder' HO494.out (Kd.R_base ho0) hb); replace HB := hbS HB hb; obtain ⟨Ao15, co15, eo15⟩ := Kd.R_slice HO497.out; subst eo15; have p498 : 0 ≤ (0 : Int) := (by omega); have q498 : 0 < (t495.length : Int) := of_decide_eq_true (by assumption); obtain ⟨ad498, e498, hx498_0⟩ := Kd.at_int (Kd.R_reads' HO497.out).2.2 0 p498 q498; cases e498; have qi498 : (0 < t495.length) = True := eq_true (by omega); (try rw [show ((0 : Int)).toNat = 0 from rfl] at hx498_0); (try rw [Addr.add_zero'] at hx498_0); replace p498 := eq_true p498; replace q498 := eq_true q498; obtain ⟨Ao16, co16, eo16⟩ := Kd.R_slice HO494.out; subst eo16) | ((with_reducible refine gate_callee (f := 114) rfl ?_); refine goesL_ (some 29) rfl rfl Try.func114 (by kernel_rfl) rfl #[.slice Ao16 t492.length co16, .int .u64 (IntKind.u64.wrap (rd t495 0))] rfl (by first | (go_simp; done) | (go_simp; rfl)) ?_; (with_reducible refine (examboardref01_short.calls k _ _ t492 (IntKind.u64.wrap (rd t495 0)) t499 t500 _ (by exact (Kd.R_reads' HO494.out).2.2) (by exact (Kd.R_reads' HO494.out).2.1) A11.out).mono ?_); rintro e w17 ⟨v501, rfl, ho0, hb⟩; refine ⟨_, rfl, ?_⟩; have HO502 := mk0 (Kd.R_lower (Kd.R_new' (Kd.R_new' ho0 (Kd.R_lt HO494.out)) (Kd.R_lt HO497.out)) (below_size HB.out)); replace HO494 := mk0 (Kd.R_elder' HO494.out (Kd.R_base ho0) hb); replace HO497 := mk0 (Kd.R_elder' HO497.out (Kd.R_base ho0) hb); replace HB := hbS HB hb) | ((with_reducible refine gate_callee (f := 90) rfl ?_); refine goesL_ (some 34) rfl rfl Try.func90 (by kernel_rfl) rfl #[.int .u64 t500] rfl (by first | (go_simp; done) | (go_simp; rfl)) ?_; (with_reducible refine (examboardref01_Of.calls k t500 t503 _ A12.out).mono ?_); rintro e w18 ⟨v504, rfl, ho0, hb⟩; refine ⟨_, rfl, ?_⟩; have HO505 := mk0 (Kd.R_lower (Kd.R_new' (Kd.R_new' (Kd.R_new' ho0 (Kd.R_lt HO494.out)) (Kd.R_lt HO497.out)) (Kd.R_lt HO502.out)) (below_size HB.out)); replace HO494 := mk0 (Kd.R_elder' HO494.out (Kd.R_base ho0) hb); replace HO497 := mk0 (Kd.R_elder' HO497.out (Kd.R_base ho0) hb); replace HO502 := mk0 (Kd.R_elder' HO502.out (Kd.R_base ho0) hb); replace HB := hbS HB hb))
    go_ret3
    exact ⟨_, _, by first | rfl | (simp [errW_none, errW_some] <;> rfl) | (simp [*, errW_none, errW_some] <;> rfl), Kd.R_mono HO502.out (fun _ hk => hk.2), Kd.R_mono HO505.out (fun _ hk => hk.2), HB.out⟩
   ·rw [if_neg c10] at H
    exact absurd H (by simp)
  ·rw [if_neg c9] at H
   have c9b0 : ((t495.length : Int) == 1) = false := beq_eq_false_iff_ne.mpr c9
   have c9b1 : ((t495.length : Int) != 1) = true := bne_iff_ne.mpr c9
   obtain ⟨t506, A19, H⟩ := bindA H
   obtain ⟨t507, A20, H⟩ := bindA H
   by_cases c21 : (wrap64 (t506 - t507)) < 0
   ·rw [if_pos c21] at H
    have c21b0 : decide ((wrap64 (t506 - t507)) < 0) = true := decide_eq_true c21
    clear c21
    simp only [Option.some.injEq, Prod.mk.injEq] at H
    obtain ⟨rfl, rfl, rfl⟩ := H
    go_enter Try.func88, Try.ntmps88
    go_wp2_with (first | ((with_reducible refine gate_callee (f := 89) rfl ?_); refine goesL_ (some 14) rfl rfl Try.func89 (by kernel_rfl) rfl #[.slice A0 l0.length c0] rfl (by first | (go_simp; done) | (go_simp; rfl)) ?_; (with_reducible refine (examboardref01_Norm.calls k _ _ l0 t492 _ HR0.out HC0.out A3.out).mono ?_); rintro e w22 ⟨v493, rfl, ho0, hb⟩; refine ⟨_, rfl, ?_⟩; have HO494 := mk0 (Kd.R_lower ho0 (below_size HB.out)); replace HB := hbS HB hb) | ((with_reducible refine gate_callee (f := 89) rfl ?_); refine goesL_ (some 16) rfl rfl Try.func89 (by kernel_rfl) rfl #[.slice A1 l1.length c1] rfl (by first | (go_simp; done) | (go_simp; rfl)) ?_; (with_reducible refine (examboardref01_Norm.calls k _ _ l1 t495 _ (by exact Kd.C_below HR1.out HB.out) HC1.out A4.out).mono ?_); rintro e w23 ⟨v496, rfl, ho0, hb⟩; refine ⟨_, rfl, ?_⟩; have HO497 := mk0 (Kd.R_lower (Kd.R_new' ho0 (Kd.R_lt HO494.out)) (below_size HB.out)); replace HO494 := mk0 (Kd.R_elder' HO494.out (Kd.R_base ho0) hb); replace HB := hbS HB hb; obtain ⟨Ao24, co24, eo24⟩ := Kd.R_slice HO497.out; subst eo24; obtain ⟨Ao25, co25, eo25⟩ := Kd.R_slice HO494.out; subst eo25) | ((with_reducible refine gate_callee (f := 85) rfl ?_); refine goesL_ (some 36) rfl rfl Try.func85 (by kernel_rfl) rfl #[.slice Ao25 t492.length co25] rfl (by first | (go_simp; done) | (go_simp; rfl)) ?_; (with_reducible refine (examboardref01_Bits.calls k _ _ t492 t506 _ (by exact (Kd.R_reads' HO494.out).2.2) (by exact (Kd.R_reads' HO494.out).2.1) A19.out).mono ?_); rintro e w26 ⟨rfl, hb⟩; refine ⟨_, rfl, ?_⟩; replace HO494 := rB HO494 hb; replace HO497 := rB HO497 hb; replace HB := hbS HB hb) | ((with_reducible refine gate_callee (f := 85) rfl ?_); refine goesL_ (some 38) rfl rfl Try.func85 (by kernel_rfl) rfl #[.slice Ao24 t495.length co24] rfl (by first | (go_simp; done) | (go_simp; rfl)) ?_; (with_reducible refine (examboardref01_Bits.calls k _ _ t495 t507 _ (by exact (Kd.R_reads' HO497.out).2.2) (by exact (Kd.R_reads' HO497.out).2.1) A20.out).mono ?_); rintro e w27 ⟨rfl, hb⟩; refine ⟨_, rfl, ?_⟩; replace HO494 := rB HO494 hb; replace HO497 := rB HO497 hb; replace HB := hbS HB hb))
    go_ret3
    exact ⟨_, _, by first | rfl | (simp [errW_none, errW_some] <;> rfl) | (simp [*, errW_none, errW_some] <;> rfl), by first | exact Kd.R_nil _ _ _ _ _ | exact Kd.N_nil _ _ _ _ _ | exact Kd.V_nil _ _ _ _ _ | exact Kd.Q_nil _ _ _ _ _ | exact Kd.S_nil _ _ _ _ _, Kd.R_mono HO494.out (fun _ hk => (by simp [Value.ownBlock])), HB.out⟩
   ·rw [if_neg c21] at H
    have c21b0 : decide ((wrap64 (t506 - t507)) < 0) = false := decide_eq_false c21
    clear c21
    obtain ⟨ji28, hji28⟩ : ∃ j_ : Int, (wrap64 ((wrap64 (Int.tdiv (wrap64 (t506 - t507)) 32)) + 1)) = j_ := ⟨_, rfl⟩
    replace H : (if 0 ≤ (ji28) then (if (ji28 : Int).toNat ≤ 70368744177664 then ((examboardref01_Shift.f k t495 (wrap64 (t506 - t507))).bind fun t511 => (examboardref01_DivMod.l0 k t492 (List.replicate (ji28 : Int).toNat 0) t511 (wrap64 (t506 - t507)))) else (none)) else (none)) = some (r1, r2, r3) := by first | (rw [hji28] at H; exact H) | (simp only [hji28] at H ⊢; exact H)
    (try rw [hji28] at A3)
    (try rw [hji28] at A4)
    (try rw [hji28] at A19)
    (try rw [hji28] at A20)
    have hji28w : (IntKind.i64.wrap ((wrap64 (Int.tdiv (wrap64 (t506 - t507)) 32)) + 1)) = ji28 := (i64_w _).trans hji28
    by_cases c29 : 0 ≤ (ji28)
    ·rw [if_pos c29] at H
     have c29b0 := eq_true c29
     have c29b1 : decide (0 ≤ (ji28)) = true := decide_eq_true c29
     clear c29
     by_cases c30 : (ji28 : Int).toNat ≤ 70368744177664
     ·rw [if_pos c30] at H
      have c30b0 := eq_true c30
      have c30b1 : decide ((ji28 : Int).toNat ≤ 70368744177664) = true := decide_eq_true c30
      clear c30
      obtain ⟨y508, hy508⟩ : ∃ y_ : List Int, y_ = (List.replicate (ji28 : Int).toNat 0) := ⟨_, rfl⟩
      replace H : ((examboardref01_Shift.f k t495 (wrap64 (t506 - t507))).bind fun t511 => (examboardref01_DivMod.l0 k t492 y508 t511 (wrap64 (t506 - t507)))) = some (r1, r2, r3) := by first | (rw [hy508]; with_reducible exact H) | (have H2_ := (Option.bind_some _ _).symm.trans H; rw [hy508]; with_reducible exact H2_) | (have H2_ := (Option.bind_some _ _).symm.trans H; with_reducible exact H2_) | with_reducible exact H | (rw [hy508]; exact H) | exact H
      have Ny508 := mk0 hy508
      clear hy508
      obtain ⟨t511, A31, H⟩ := bindA H
      have H' := mk0 H
      clear H
      go_enter Try.func88, Try.ntmps88
      go_wp2_with (first | ((with_reducible refine gate_callee (f := 89) rfl ?_); refine goesL_ (some 14) rfl rfl Try.func89 (by kernel_rfl) rfl #[.slice A0 l0.length c0] rfl (by first | (go_simp; done) | (go_simp; rfl)) ?_; (with_reducible refine (examboardref01_Norm.calls k _ _ l0 t492 _ HR0.out HC0.out A3.out).mono ?_); rintro e w32 ⟨v493, rfl, ho0, hb⟩; refine ⟨_, rfl, ?_⟩; have HO494 := mk0 (Kd.R_lower ho0 (below_size HB.out)); replace HB := hbS HB hb) | ((with_reducible refine gate_callee (f := 89) rfl ?_); refine goesL_ (some 16) rfl rfl Try.func89 (by kernel_rfl) rfl #[.slice A1 l1.length c1] rfl (by first | (go_simp; done) | (go_simp; rfl)) ?_; (with_reducible refine (examboardref01_Norm.calls k _ _ l1 t495 _ (by exact Kd.C_below HR1.out HB.out) HC1.out A4.out).mono ?_); rintro e w33 ⟨v496, rfl, ho0, hb⟩; refine ⟨_, rfl, ?_⟩; have HO497 := mk0 (Kd.R_lower (Kd.R_new' ho0 (Kd.R_lt HO494.out)) (below_size HB.out)); replace HO494 := mk0 (Kd.R_elder' HO494.out (Kd.R_base ho0) hb); replace HB := hbS HB hb; obtain ⟨Ao34, co34, eo34⟩ := Kd.R_slice HO497.out; subst eo34; obtain ⟨Ao35, co35, eo35⟩ := Kd.R_slice HO494.out; subst eo35) | ((with_reducible refine gate_callee (f := 85) rfl ?_); refine goesL_ (some 36) rfl rfl Try.func85 (by kernel_rfl) rfl #[.slice Ao35 t492.length co35] rfl (by first | (go_simp; done) | (go_simp; rfl)) ?_; (with_reducible refine (examboardref01_Bits.calls k _ _ t492 t506 _ (by exact (Kd.R_reads' HO494.out).2.2) (by exact (Kd.R_reads' HO494.out).2.1) A19.out).mono ?_); rintro e w36 ⟨rfl, hb⟩; refine ⟨_, rfl, ?_⟩; replace HO494 := rB HO494 hb; replace HO497 := rB HO497 hb; replace HB := hbS HB hb) | ((with_reducible refine gate_callee (f := 85) rfl ?_); refine goesL_ (some 38) rfl rfl Try.func85 (by kernel_rfl) rfl #[.slice Ao34 t495.length co34] rfl (by first | (go_simp; done) | (go_simp; rfl)) ?_; (with_reducible refine (examboardref01_Bits.calls k _ _ t495 t507 _ (by exact (Kd.R_reads' HO497.out).2.2) (by exact (Kd.R_reads' HO497.out).2.1) A20.out).mono ?_); rintro e w37 ⟨rfl, hb⟩; refine ⟨_, rfl, ?_⟩; replace HO494 := rB HO494 hb; replace HO497 := rB HO497 hb; replace HB := hbS HB hb) | ((with_reducible refine gate_dst (N := 46) rfl ?_); refine Kd.R_make (Kd.int .u32) _ 87 rfl (N := 46) rfl 25 _ _ rfl ji28 rfl rfl Try.underlying25 (.int .u32 0) 4 info87 rfl (by decide) (by omega) 0 (ok := fun _ => True) (okp := fun _ => True) rfl (fun _ hk => hk) trivial (of_decide_eq_true (by assumption)) (Nat.le_trans (Nat.mul_le_mul_right _ (of_decide_eq_true (by assumption) : ji28.toNat ≤ 70368744177664)) (by omega)) (Below.refl _ _) (Nat.le_refl _) ?_; intro v509 w38 ho39 hb hg_ hnew_; clear hg_ hnew_; (first | rw [← Ny508.out] at ho39 | (simp only [Int.reduceToNat] at ho39; rw [← Ny508.out] at ho39)); have HO510 := mk0 (Kd.R_lower (Kd.R_new' (Kd.R_new' ho39 (Kd.R_lt HO494.out)) (Kd.R_lt HO497.out)) (below_size HB.out)); replace HO494 := mk0 (Kd.R_elder' HO494.out (Kd.R_base ho39) hb); replace HO497 := mk0 (Kd.R_elder' HO497.out (Kd.R_base ho39) hb); replace HB := hbS HB hb; clear hb ho39) | ((with_reducible refine gate_callee (f := 115) rfl ?_); refine goesL_ (some 49) rfl rfl Try.func115 (by kernel_rfl) rfl #[.slice Ao34 t495.length co34, .int .i64 (wrap64 (t506 - t507))] rfl (by first | (go_simp; done) | (go_simp; rfl)) ?_; (with_reducible refine (examboardref01_Shift.calls k _ _ t495 (wrap64 (t506 - t507)) t511 _ (by exact (Kd.R_reads' HO497.out).2.2) (by exact (Kd.R_reads' HO497.out).2.1) A31.out).mono ?_); rintro e w40 ⟨v512, rfl, ho0, hb⟩; refine ⟨_, rfl, ?_⟩; have HO513 := mk0 (Kd.R_lower (Kd.R_new' (Kd.R_new' (Kd.R_new' ho0 (Kd.R_lt HO494.out)) (Kd.R_lt HO497.out)) (Kd.R_lt HO510.out)) (below_size HB.out)); replace HO494 := mk0 (Kd.R_elder' HO494.out (Kd.R_base ho0) hb); replace HO497 := mk0 (Kd.R_elder' HO497.out (Kd.R_base ho0) hb); replace HO510 := mk0 (Kd.R_elder' HO510.out (Kd.R_base ho0) hb); replace HB := hbS HB hb))
      go_loopg [0, 11, 12] k (fun kq v0 v11 v12 w' => ∃ (x0_1 : List Int) (x10_1 : List Int) (x11_1 : List Int) (x12_1 : Int), v12 = .int .i64 x12_1 ∧ Aside0 (examboardref01_DivMod.l0 kq x0_1 x10_1 x11_1 x12_1 = some (r1, r2, r3)) ∧ Aside0 (kq ≤ k) ∧ Aside0 (Kd.R (Kd.int .u32) 87 w' w.heap.size (fun k_ => some k_ ≠ (v509 : Value).ownBlock ∧ some k_ ≠ (v11 : Value).ownBlock) v0 x0_1) ∧ Aside0 (Kd.R (Kd.int .u32) 87 w' w.heap.size (fun k_ => some k_ ≠ (v0 : Value).ownBlock ∧ some k_ ≠ (v11 : Value).ownBlock) v509 x10_1) ∧ Aside0 (Kd.R (Kd.int .u32) 87 w' w.heap.size (fun k_ => some k_ ≠ (v0 : Value).ownBlock ∧ some k_ ≠ (v509 : Value).ownBlock) v11 x11_1) ∧ Aside0 (Below w.heap.size w w'))
      case atStart => exact ⟨(t492), (y508), (t511), (wrap64 (t506 - t507)), (by first | rfl | (simp; done) | (simp [*]; done)), H', ⟨Nat.le_refl _⟩, ⟨Kd.R_mono HO494.out (fun _ hk => ⟨hk.1.2, hk.2⟩)⟩, ⟨Kd.R_mono HO510.out (fun _ hk => ⟨hk.1.1.2, hk.2⟩)⟩, ⟨Kd.R_mono HO513.out (fun _ hk => ⟨hk.1.1.2, hk.2⟩)⟩, ⟨HB.out⟩⟩
      case round =>
       clear H'
       try clear c1
       try clear c2
       try clear p2
       try clear c3
       try clear p4
       try clear q4
       try clear hx4
       try clear qi4
       try clear c5
       try clear c5b0
       try clear c5b1
       try clear c5b2
       try clear p6
       try clear c8
       try clear c9
       try clear c9b0
       try clear c9b1
       try clear c10
       try clear c10b0
       try clear c10b1
       try clear c11
       try clear c21
       try clear c21b0
       try clear c29
       try clear c29b0
       try clear c29b1
       try clear c30
       try clear c30b0
       try clear c30b1
       try clear hx498_0
       try clear p498
       try clear q498
       obtain ⟨x0_1, x10_1, x11_1, x12_1, rfl, HA, HK1, HO_0, HO_10, HO_11, HB⟩ := hrel
       cases gk with
       | zero => exact absurd HA.out (by simp [examboardref01_DivMod.l0])
       | succ k1 =>
        have H := HA.out
        clear HA
        simp only [examboardref01_DivMod.l0] at H
        by_cases c41 : x12_1 ≥ 0
        ·rw [if_pos c41] at H
         have c41b0 : decide (0 ≤ x12_1) = true := decide_eq_true c41
         clear c41
         obtain ⟨t517, A42, H⟩ := bindA H
         by_cases c43 : t517 ≥ 0
         ·rw [if_pos c43] at H
          have c43b0 : decide (0 ≤ t517) = true := decide_eq_true c43
          clear c43
          obtain ⟨⟨t518, t519⟩, A44, H⟩ := bindA H
          obtain ⟨ji45, hji45⟩ : ∃ j_ : Int, (wrap64 (Int.tdiv x12_1 32)) = j_ := ⟨_, rfl⟩
          replace H : (if 0 ≤ (ji45) then (if (ji45) < (x10_1.length : Int) then (if 0 ≤ (IntKind.u64.wrap (Int.tmod x12_1 32)) then ((examboardref01_half.f k1 x11_1).bind fun t524 => (examboardref01_DivMod.l0 k1 t518 (x10_1.set ((ji45) : Int).toNat (Go.bits .or .u32 (rd x10_1 (ji45)) (shl .u32 1 (IntKind.u64.wrap (Int.tmod x12_1 32))))) t524 (wrap64 (x12_1 - 1)))) else (none)) else (none)) else (none)) = some (r1, r2, r3) := by first | (rw [hji45] at H; exact H) | (simp only [hji45] at H ⊢; exact H)
          (try rw [hji45] at A42)
          (try rw [hji45] at A44)
          have hji45w : (IntKind.i64.wrap (Int.tdiv x12_1 32)) = ji45 := (i64_w _).trans hji45
          by_cases c46 : 0 ≤ (ji45)
          ·rw [if_pos c46] at H
           have c46b0 : decide (0 ≤ (ji45)) = true := decide_eq_true c46
           clear c46
           by_cases c47 : (ji45) < (x10_1.length : Int)
           ·rw [if_pos c47] at H
            have c47b0 : decide ((ji45) < (x10_1.length : Int)) = true := decide_eq_true c47
            clear c47
            obtain ⟨ji48, hji48⟩ : ∃ j_ : Int, (IntKind.u64.wrap (Int.tmod x12_1 32)) = j_ := ⟨_, rfl⟩
            replace H : (if 0 ≤ (ji48) then ((examboardref01_half.f k1 x11_1).bind fun t524 => (examboardref01_DivMod.l0 k1 t518 (x10_1.set ((ji45) : Int).toNat (Go.bits .or .u32 (rd x10_1 (ji45)) (shl .u32 1 (ji48)))) t524 (wrap64 (x12_1 - 1)))) else (none)) = some (r1, r2, r3) := by first | (rw [hji48] at H; exact H) | (simp only [hji48] at H ⊢; exact H)
            (try rw [hji48] at A42)
            (try rw [hji48] at A44)
            by_cases c49 : 0 ≤ (ji48)
            ·rw [if_pos c49] at H
             have c49b0 := eq_true c49
             have c49b1 : decide (0 ≤ (ji48)) = true := decide_eq_true c49
             clear c49
             obtain ⟨ji50, hji50⟩ : ∃ j_ : Int, (shl .u32 1 (ji48)) = j_ := ⟨_, rfl⟩
             replace H : ((examboardref01_half.f k1 x11_1).bind fun t524 => (examboardref01_DivMod.l0 k1 t518 (x10_1.set ((ji45) : Int).toNat (Go.bits .or .u32 (rd x10_1 (ji45)) (ji50))) t524 (wrap64 (x12_1 - 1)))) = some (r1, r2, r3) := by first | (rw [hji50] at H; exact H) | (simp only [hji50] at H ⊢; exact H)
             (try rw [hji50] at A42)
             (try rw [hji50] at A44)
             have hji50_ : (IntKind.u32.wrap (1 * 2 ^ min (ji48).toNat 32)) = ji50 := hji50
             have hji50z : (ji48) ≤ 32 → (IntKind.u32.wrap (1 * 2 ^ (ji48).toNat)) = ji50 := shl_small hji50
             have hji50u : (IntKind.u32.wrap (2 ^ min (ji48).toNat 32)) = ji50 := by have h_ := hji50_; rw [Int.one_mul] at h_; exact h_
             have hji50v : (ji48) ≤ 32 → (IntKind.u32.wrap (2 ^ (ji48).toNat)) = ji50 := fun hle_ => by have h_ := hji50z hle_; rw [Int.one_mul] at h_; exact h_
             obtain ⟨y523, hy523⟩ : ∃ y_ : List Int, y_ = (x10_1.set ((ji45) : Int).toNat (Go.bits .or .u32 (rd x10_1 (ji45)) (ji50))) := ⟨_, rfl⟩
             replace H : ((examboardref01_half.f k1 x11_1).bind fun t524 => (examboardref01_DivMod.l0 k1 t518 y523 t524 (wrap64 (x12_1 - 1)))) = some (r1, r2, r3) := by first | (rw [hy523]; with_reducible exact H) | (have H2_ := (Option.bind_some _ _).symm.trans H; rw [hy523]; with_reducible exact H2_) | (have H2_ := (Option.bind_some _ _).symm.trans H; with_reducible exact H2_) | with_reducible exact H | (rw [hy523]; exact H) | exact H
             have Ny523 := mk0 hy523
             clear hy523
             obtain ⟨t524, A52, H⟩ := bindA H
             have H' := mk0 H
             clear H
             obtain ⟨Ao53, co53, eo53⟩ := Kd.R_slice HO_0.out
             subst eo53
             obtain ⟨Ao54, co54, eo54⟩ := Kd.R_slice HO_11.out
             subst eo54
             go_wp2_with (first | ((with_reducible refine gate_callee (f := 92) rfl ?_); refine goesL_ (some 57) rfl rfl Try.func92 (by kernel_rfl) rfl #[.slice Ao53 x0_1.length co53, .slice Ao54 x11_1.length co54] rfl (by first | (go_simp; done) | (go_simp; rfl)) ?_; (with_reducible refine (examboardref01_Cmp.calls k1 _ _ x0_1 _ _ x11_1 t517 _ (by exact (Kd.R_reads' HO_0.out).2.2) (by exact (Kd.R_reads' HO_0.out).2.1) (by exact (Kd.R_reads' HO_11.out).2.2) (by exact (Kd.R_reads' HO_11.out).2.1) A42.out).mono ?_); rintro e w55 ⟨rfl, hb⟩; refine ⟨_, rfl, ?_⟩; replace HO_0 := rB HO_0 hb; replace HO_10 := rB HO_10 hb; replace HO_11 := rB HO_11 hb; replace HB := hbS HB hb) | ((with_reducible refine gate_callee (f := 116) rfl ?_); refine goesL_ (some 62) rfl rfl Try.func116 (by kernel_rfl) rfl #[.slice Ao53 x0_1.length co53, .slice Ao54 x11_1.length co54] rfl (by first | (go_simp; done) | (go_simp; rfl)) ?_; (with_reducible refine (examboardref01_Sub.calls k1 _ _ x0_1 _ _ x11_1 t518 t519 _ (by exact (Kd.R_reads' HO_0.out).2.2) (by exact (Kd.R_reads' HO_0.out).2.1) (by exact (Kd.R_reads' HO_11.out).2.2) (by exact (Kd.R_reads' HO_11.out).2.1) A44.out).mono ?_); rintro e w56 ⟨v520, rfl, ho0, hb⟩; refine ⟨_, rfl, ?_⟩; have HO521 := mk0 (Kd.R_lower (Kd.R_new' (Kd.R_new' (Kd.R_new' ho0 (Kd.R_lt HO_0.out)) (Kd.R_lt HO_10.out)) (Kd.R_lt HO_11.out)) (below_size HB.out)); replace HO_0 := mk0 (Kd.R_elder' HO_0.out (Kd.R_base ho0) hb); replace HO_10 := mk0 (Kd.R_elder' HO_10.out (Kd.R_base ho0) hb); replace HO_11 := mk0 (Kd.R_elder' HO_11.out (Kd.R_base ho0) hb); replace HB := hbS HB hb; obtain ⟨Ao57, co57, eo57⟩ := Kd.R_slice HO_10.out; subst eo57; have p522 : 0 ≤ ((ji45) : Int) := of_decide_eq_true (by assumption); have q522 : (ji45) < (x10_1.length : Int) := of_decide_eq_true (by assumption); obtain ⟨ad522, e522, hx522_0⟩ := Kd.at_int (Kd.R_reads' HO_10.out).2.2 (ji45) p522 q522; cases e522; replace p522 := eq_true p522; replace q522 := eq_true q522; have p51 : 0 ≤ ((ji45) : Int) := of_decide_eq_true (by assumption); have q51 : ((ji45) : Int) < ((x10_1.length : Int) : Int) := of_decide_eq_true (by assumption); obtain ⟨go51, co51, eo51, gb51, gl51, cl51, HG51⟩ := Kd.R_form HO_10.out (by omega); (first | cases eo51 | (injection eo51 with ea_ en_ ec_; (first | subst ea_ | (injection ea_ with ea_; subst ea_)); subst ec_; clear en_)); have GB51 := mk0 gb51; have GG51 := mk0 HG51; clear gb51 gl51 HG51; (first | simp only [add_plain] at hx522_0 | skip); obtain ⟨hx51_0, hf51_0⟩ := Kd.R_celln 0 HO_10.out ((ji45) : Int) p51 q51; replace p51 := eq_true p51; replace q51 := eq_true q51; have n_ := mk0 (Kd.R_mono (ok' := (fun k_ => some k_ ≠ (.slice Ao53 x0_1.length co53 : Value).ownBlock ∧ some k_ ≠ (.slice Ao54 x11_1.length co54 : Value).ownBlock ∧ some k_ ≠ (v520 : Value).ownBlock)) HO_10.out (fun k_ hk => ⟨hk.1.1, ⟨hk.1.2, hk.2⟩⟩)); clear HO_10; have HO_10 := n_; clear n_; obtain ⟨hy58_, hz58_⟩ := Kd.R_celln 0 HO_10.out ((ji45) : Int) (of_decide_eq_true (by assumption)) (of_decide_eq_true (by assumption)); have HP58 := Kd.R_putg HO_10.out ((ji45) : Int) (Go.bits .or .u32 (rd x10_1 (ji45)) (ji50))) | ((with_reducible refine gate_store (t := 87) (p := 78) rfl ?_); refine store_event (t := 87) (p := 78) (v := ?vo_w59) (w1 := (w56.setCell ⟨go51, ((ji45) : Int).toNat, none⟩ (.int .u32 (Go.bits .or .u32 (rd x10_1 (ji45)) (ji50))))) ?hg ?ho ?hn ?hr ?_; (case ho => rfl); (case hg => rfl); (case hn => rfl); (case hr => first | (go_simp; done) | (go_simp; rfl)); intro w59 hw; have hg : w56.grownBy w59 (some go51) := (by rw [hw]; exact HP58.2); have hp_ : Kd.R (Kd.int .u32) 87 w59 w.heap.size (fun k_ => some k_ ≠ (.slice Ao53 x0_1.length co53 : Value).ownBlock ∧ some k_ ≠ (.slice Ao54 x11_1.length co54 : Value).ownBlock ∧ some k_ ≠ (v520 : Value).ownBlock) (.slice (some ⟨go51, 0, none⟩) x10_1.length co57) y523 := (by rw [hw, Ny523.out]; exact HP58.1); clear HP58; replace HO_0 := mk0 (Kd.R_after (v := (.slice (some ⟨go51, 0, none⟩) x10_1.length co57)) (v1 := (.slice (some ⟨go51, 0, none⟩) x10_1.length co57)) (ok := (fun k_ => some k_ ≠ (.slice Ao54 x11_1.length co54 : Value).ownBlock ∧ some k_ ≠ (v520 : Value).ownBlock)) (Kd.R_mono HO_0.out (fun _ hk => ⟨⟨hk.1.2, hk.2⟩, hk.1.1⟩)) hg (.inl rfl)); replace HO_10 := mk0 (hp_); replace HO_11 := mk0 (Kd.R_after (v := (.slice (some ⟨go51, 0, none⟩) x10_1.length co57)) (v1 := (.slice (some ⟨go51, 0, none⟩) x10_1.length co57)) (ok := (fun k_ => some k_ ≠ (.slice Ao53 x0_1.length co53 : Value).ownBlock ∧ some k_ ≠ (v520 : Value).ownBlock)) (Kd.R_mono HO_11.out (fun _ hk => ⟨⟨hk.1.1, hk.2⟩, hk.1.2⟩)) hg (.inl rfl)); replace HO521 := mk0 (Kd.R_after (v := (.slice (some ⟨go51, 0, none⟩) x10_1.length co57)) (v1 := (.slice (some ⟨go51, 0, none⟩) x10_1.length co57)) (ok := (fun k_ => some k_ ≠ (.slice Ao53 x0_1.length co53 : Value).ownBlock ∧ some k_ ≠ (.slice Ao54 x11_1.length co54 : Value).ownBlock)) (Kd.R_mono HO521.out (fun _ hk => ⟨⟨hk.1.1.2, hk.2⟩, hk.1.2⟩)) hg (.inl rfl)); replace HB := mk0 ((by rw [hw]; exact below_set (HB.out) GB51.out : Below w.heap.size w w59)); clear hg hw hp_) | ((with_reducible refine gate_callee (f := 117) rfl ?_); refine goesL_ (some 80) rfl rfl Try.func117 (by kernel_rfl) rfl #[.slice Ao54 x11_1.length co54] rfl (by first | (go_simp; done) | (go_simp; rfl)) ?_; (with_reducible refine (examboardref01_half.calls k1 _ _ x11_1 t524 _ (by exact (Kd.R_reads' HO_11.out).2.2) (by exact (Kd.R_reads' HO_11.out).2.1) A52.out).mono ?_); rintro e w60 ⟨v525, rfl, ho0, hb⟩; refine ⟨_, rfl, ?_⟩; have HO526 := mk0 (Kd.R_lower (Kd.R_new' (Kd.R_new' (Kd.R_new' (Kd.R_new' ho0 (Kd.R_lt HO_0.out)) (Kd.R_lt HO_10.out)) (Kd.R_lt HO_11.out)) (Kd.R_lt HO521.out)) (below_size HB.out)); replace HO_0 := mk0 (Kd.R_elder' HO_0.out (Kd.R_base ho0) hb); replace HO_10 := mk0 (Kd.R_elder' HO_10.out (Kd.R_base ho0) hb); replace HO_11 := mk0 (Kd.R_elder' HO_11.out (Kd.R_base ho0) hb); replace HO521 := mk0 (Kd.R_elder' HO521.out (Kd.R_base ho0) hb); replace HB := hbS HB hb))
             go_roundg k1
             case measure => have := HK1.out; omega
             case rel => exact ⟨(t518), (y523), (t524), (wrap64 (x12_1 - 1)), (by first | rfl | (simp; done) | (simp [*]; done)), H', ⟨by have := HK1.out; omega⟩, ⟨Kd.R_mono HO521.out (fun _ hk => ⟨hk.1.2, hk.2⟩)⟩, ⟨Kd.R_mono HO_10.out (fun _ hk => ⟨hk.1.2.2, hk.2⟩)⟩, ⟨Kd.R_mono HO526.out (fun _ hk => ⟨hk.2, hk.1.1.2⟩)⟩, ⟨HB.out⟩⟩
            ·rw [if_neg c49] at H
             exact absurd H (by simp)
           ·rw [if_neg c47] at H
            exact absurd H (by simp)
          ·rw [if_neg c46] at H
           exact absurd H (by simp)
         ·rw [if_neg c43] at H
          have c43b0 : decide (0 ≤ t517) = false := decide_eq_false c43
          clear c43
          obtain ⟨t527, A61, H⟩ := bindA H
          have H' := mk0 H
          clear H
          obtain ⟨Ao62, co62, eo62⟩ := Kd.R_slice HO_0.out
          subst eo62
          obtain ⟨Ao63, co63, eo63⟩ := Kd.R_slice HO_11.out
          subst eo63
          go_wp2_with (first | ((with_reducible refine gate_callee (f := 92) rfl ?_); refine goesL_ (some 57) rfl rfl Try.func92 (by kernel_rfl) rfl #[.slice Ao62 x0_1.length co62, .slice Ao63 x11_1.length co63] rfl (by first | (go_simp; done) | (go_simp; rfl)) ?_; (with_reducible refine (examboardref01_Cmp.calls k1 _ _ x0_1 _ _ x11_1 t517 _ (by exact (Kd.R_reads' HO_0.out).2.2) (by exact (Kd.R_reads' HO_0.out).2.1) (by exact (Kd.R_reads' HO_11.out).2.2) (by exact (Kd.R_reads' HO_11.out).2.1) A42.out).mono ?_); rintro e w64 ⟨rfl, hb⟩; refine ⟨_, rfl, ?_⟩; replace HO_0 := rB HO_0 hb; replace HO_10 := rB HO_10 hb; replace HO_11 := rB HO_11 hb; replace HB := hbS HB hb) | ((with_reducible refine gate_callee (f := 117) rfl ?_); refine goesL_ (some 80) rfl rfl Try.func117 (by kernel_rfl) rfl #[.slice Ao63 x11_1.length co63] rfl (by first | (go_simp; done) | (go_simp; rfl)) ?_; (with_reducible refine (examboardref01_half.calls k1 _ _ x11_1 t527 _ (by exact (Kd.R_reads' HO_11.out).2.2) (by exact (Kd.R_reads' HO_11.out).2.1) A61.out).mono ?_); rintro e w65 ⟨v528, rfl, ho0, hb⟩; refine ⟨_, rfl, ?_⟩; have HO529 := mk0 (Kd.R_lower (Kd.R_new' (Kd.R_new' (Kd.R_new' ho0 (Kd.R_lt HO_0.out)) (Kd.R_lt HO_10.out)) (Kd.R_lt HO_11.out)) (below_size HB.out)); replace HO_0 := mk0 (Kd.R_elder' HO_0.out (Kd.R_base ho0) hb); replace HO_10 := mk0 (Kd.R_elder' HO_10.out (Kd.R_base ho0) hb); replace HO_11 := mk0 (Kd.R_elder' HO_11.out (Kd.R_base ho0) hb); replace HB := hbS HB hb))
          go_roundg k1
          case measure => have := HK1.out; omega
          case rel => exact ⟨(x0_1), (x10_1), (t527), (wrap64 (x12_1 - 1)), (by first | rfl | (simp; done) | (simp [*]; done)), H', ⟨by have := HK1.out; omega⟩, ⟨Kd.R_mono HO_0.out (fun _ hk => ⟨hk.1.1, hk.2⟩)⟩, ⟨Kd.R_mono HO_10.out (fun _ hk => ⟨hk.1.1, hk.2⟩)⟩, ⟨Kd.R_mono HO529.out (fun _ hk => ⟨hk.1.1.2, hk.1.2⟩)⟩, ⟨HB.out⟩⟩
        ·rw [if_neg c41] at H
         have c41b0 : decide (0 ≤ x12_1) = false := decide_eq_false c41
         clear c41
         obtain ⟨t514, A66, H⟩ := bindA H
         simp only [Option.some.injEq, Prod.mk.injEq] at H
         obtain ⟨rfl, rfl, rfl⟩ := H
         obtain ⟨Ao67, co67, eo67⟩ := Kd.R_slice HO_10.out
         subst eo67
         go_wp2_with (first | ((with_reducible refine gate_callee (f := 89) rfl ?_); refine goesL_ (some 82) rfl rfl Try.func89 (by kernel_rfl) rfl #[.slice Ao67 x10_1.length co67] rfl (by first | (go_simp; done) | (go_simp; rfl)) ?_; (with_reducible refine (examboardref01_Norm.calls k1 _ _ x10_1 t514 _ (by exact (Kd.R_reads' HO_10.out).2.2) (by exact (Kd.R_reads' HO_10.out).2.1) A66.out).mono ?_); rintro e w68 ⟨v515, rfl, ho0, hb⟩; refine ⟨_, rfl, ?_⟩; have HO516 := mk0 (Kd.R_lower (Kd.R_new' (Kd.R_new' (Kd.R_new' ho0 (Kd.R_lt HO_0.out)) (Kd.R_lt HO_10.out)) (Kd.R_lt HO_11.out)) (below_size HB.out)); replace HO_0 := mk0 (Kd.R_elder' HO_0.out (Kd.R_base ho0) hb); replace HO_10 := mk0 (Kd.R_elder' HO_10.out (Kd.R_base ho0) hb); replace HO_11 := mk0 (Kd.R_elder' HO_11.out (Kd.R_base ho0) hb); replace HB := hbS HB hb))
         go_ret3
         exact ⟨_, _, by first | rfl | (simp [errW_none, errW_some] <;> rfl) | (simp only [← hji28]; first | rfl | (simp [errW_none, errW_some] <;> rfl)) | (simp [*, errW_none, errW_some] <;> rfl), Kd.R_mono HO516.out (fun _ hk => hk.1.1.2), Kd.R_mono HO_0.out (fun _ hk => hk.2), HB.out⟩
     ·rw [if_neg c30] at H
      exact absurd H (by simp)
    ·rw [if_neg c29] at H
     exact absurd H (by simp)
set_option maxHeartbeats 8000000 in
set_option maxRecDepth 100000 in
theorem examboardref01_Gcd.calls (k : Nat) (A0 : Option Addr) (c0 : Nat) (l0 : List Int) (A1 : Option Addr) (c1 : Nat) (l1 : List Int) (r : List Int) (w : World) (hr0 : Kd.C (Kd.int .u32) w A0 l0.length l0) (hc0 : l0.length ≤ c0) (hr1 : Kd.C (Kd.int .u32) w A1 l1.length l1) (hc1 : l1.length ≤ c1) (h : examboardref01_Gcd.f k l0 l1 = some r) :
  Calls Try.prog 87 #[.slice A0 l0.length c0, .slice A1 l1.length c1] w fun e w' => ∃ v0_ : Value, e = .returned (v0_) ∧ Kd.R (Kd.int .u32) 87 w' w.heap.size (fun _ => True) v0_ r ∧ Below w.heap.size w w' := by
 have HR0 := mk0 hr0
 have HC0 := mk0 hc0
 clear hr0 hc0
 have HR1 := mk0 hr1
 have HC1 := mk0 hc1
 clear hr1 hc1
 have HB := mk0 (Below.refl w.heap.size w)
 have H : ((examboardref01_Norm.f k l0).bind fun t530 => ((examboardref01_Norm.f k l1).bind fun t533 => (examboardref01_Gcd.l0 k t530 t533))) = some r := h
 clear h
 obtain ⟨t530, A3, H⟩ := bindA H
 obtain ⟨t533, A4, H⟩ := bindA H
 have H' := mk0 H
 clear H
 go_enter Try.func87, Try.ntmps87
 go_wp2_with (first | ((with_reducible refine gate_callee (f := 89) rfl ?_); refine goesL_ (some 9) rfl rfl Try.func89 (by kernel_rfl) rfl #[.slice A0 l0.length c0] rfl (by first | (go_simp; done) | (go_simp; rfl)) ?_; (with_reducible refine (examboardref01_Norm.calls k _ _ l0 t530 _ HR0.out HC0.out A3.out).mono ?_); rintro e w5 ⟨v531, rfl, ho0, hb⟩; refine ⟨_, rfl, ?_⟩; have HO532 := mk0 (Kd.R_lower ho0 (below_size HB.out)); replace HB := hbS HB hb) | ((with_reducible refine gate_callee (f := 89) rfl ?_); refine goesL_ (some 11) rfl rfl Try.func89 (by kernel_rfl) rfl #[.slice A1 l1.length c1] rfl (by first | (go_simp; done) | (go_simp; rfl)) ?_; (with_reducible refine (examboardref01_Norm.calls k _ _ l1 t533 _ (by exact Kd.C_below HR1.out HB.out) HC1.out A4.out).mono ?_); rintro e w6 ⟨v534, rfl, ho0, hb⟩; refine ⟨_, rfl, ?_⟩; have HO535 := mk0 (Kd.R_lower (Kd.R_new' ho0 (Kd.R_lt HO532.out)) (below_size HB.out)); replace HO532 := mk0 (Kd.R_elder' HO532.out (Kd.R_base ho0) hb); replace HB := hbS HB hb))
 go_loopg [0, 1] k (fun kq v0 v1 w' => ∃ (x0_1 : List Int) (x1_1 : List Int), Aside0 (examboardref01_Gcd.l0 kq x0_1 x1_1 = some r) ∧ Aside0 (kq ≤ k) ∧ Aside0 (Kd.R (Kd.int .u32) 87 w' w.heap.size (fun k_ => some k_ ≠ (v1 : Value).ownBlock) v0 x0_1) ∧ Aside0 (Kd.R (Kd.int .u32) 87 w' w.heap.size (fun k_ => some k_ ≠ (v0 : Value).ownBlock) v1 x1_1) ∧ Aside0 (Below w.heap.size w w'))
 case atStart => exact ⟨(t530), (t533), H', ⟨Nat.le_refl _⟩, ⟨Kd.R_mono HO532.out (fun _ hk => hk.2)⟩, ⟨Kd.R_mono HO535.out (fun _ hk => hk.2)⟩, ⟨HB.out⟩⟩
 case round =>
  clear H'
  try clear c1
  try clear p2
  obtain ⟨x0_1, x1_1, HA, HK1, HO_0, HO_1, HB⟩ := hrel
  cases gk with
  | zero => exact absurd HA.out (by simp [examboardref01_Gcd.l0])
  | succ k1 =>
   have H := HA.out
   clear HA
   simp only [examboardref01_Gcd.l0] at H
   by_cases c7 : (x1_1.length : Int) > 0
   ·rw [if_pos c7] at H
    have c7b0 : decide (0 < (x1_1.length : Int)) = true := decide_eq_true c7
    have c7b1 : decide (0 < x1_1.length) = true := decide_eq_true (by omega)
    clear c7
    obtain ⟨⟨t536, t537, t538⟩, A8, H⟩ := bindA H
    have H' := mk0 H
    clear H
    obtain ⟨Ao9, co9, eo9⟩ := Kd.R_slice HO_1.out
    subst eo9
    obtain ⟨Ao10, co10, eo10⟩ := Kd.R_slice HO_0.out
    subst eo10
    go_wp2_with (first | ((with_reducible refine gate_callee (f := 88) rfl ?_); refine goesL_ (some 18) rfl rfl Try.func88 (by kernel_rfl) rfl #[.slice Ao10 x0_1.length co10, .slice Ao9 x1_1.length co9] rfl (by first | (go_simp; done) | (go_simp; rfl)) ?_; (with_reducible refine (examboardref01_DivMod.calls k1 _ _ x0_1 _ _ x1_1 t536 t537 t538 _ (by exact (Kd.R_reads' HO_0.out).2.2) (by exact (Kd.R_reads' HO_0.out).2.1) (by exact (Kd.R_reads' HO_1.out).2.2) (by exact (Kd.R_reads' HO_1.out).2.1) A8.out).mono ?_); rintro e w11 ⟨v539, v541, rfl, ho0, ho1, hb⟩; refine ⟨_, rfl, ?_⟩; have HO542 := mk0 (Kd.R_lower (Kd.R_new' (Kd.R_new' ho1 (Kd.R_lt HO_0.out)) (Kd.R_lt HO_1.out)) (below_size HB.out)); replace HO_0 := mk0 (Kd.R_mono (Kd.R_told (Kd.R_told (Kd.R_old HO_0.out hb) (Kd.R_base ho0)) (Kd.R_base ho1)) (fun _ h_ => h_.1)); replace HO_1 := mk0 (Kd.R_mono (Kd.R_told (Kd.R_told (Kd.R_old HO_1.out hb) (Kd.R_base ho0)) (Kd.R_base ho1)) (fun _ h_ => h_.1)); replace HB := hbS HB hb))
    go_roundg k1
    case measure => have := HK1.out; omega
    case rel => exact ⟨(x1_1), (t537), H', ⟨by have := HK1.out; omega⟩, ⟨Kd.R_mono HO_1.out (fun _ hk => hk.2)⟩, ⟨Kd.R_mono HO542.out (fun _ hk => hk.2)⟩, ⟨HB.out⟩⟩
   ·rw [if_neg c7] at H
    have c7b0 : decide (0 < (x1_1.length : Int)) = false := decide_eq_false c7
    have c7b1 : decide (0 < x1_1.length) = false := decide_eq_false (by omega)
    clear c7
    obtain rfl := Option.some.inj H
    obtain ⟨Ao12, co12, eo12⟩ := Kd.R_slice HO_1.out
    subst eo12
    go_wp2
    go_ret
    exact ⟨_, by first | rfl | (simp [errW_none, errW_some] <;> rfl) | (simp [*, errW_none, errW_some] <;> rfl), Kd.R_mono HO_0.out (fun _ hk => trivial), HB.out⟩
end Go.Proofs.Ythamhjmhgcpdgaa.Q
end
