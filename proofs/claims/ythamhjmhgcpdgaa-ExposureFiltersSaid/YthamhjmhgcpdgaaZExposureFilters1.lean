/- Lemmas and contracts for the law ExposureFilters: words of the print, contracts of the functions that the law reaches, and what these compute, as far as the law needs them; packed by a program of this session. -/
import Derived.Test.YthamhjmhgcpdgaaZExposureFilters0
section
namespace Go.Proofs.Ythamhjmhgcpdgaa.Q
open Go.RowKit Go.Proofs.YthamhjmhgcpdgaaW.PrintWords Go.Proofs.YthamhjmhgcpdgaaW.PrintLast Go.Proofs.YthamhjmhgcpdgaaW.PrintMore Go.Proofs.Ythamhjmhgcpdgaa.MyWords
attribute [local go_sem] max2_int min2_int max_two min_two
set_option linter.unusedVariables false
set_option linter.unusedSimpArgs false
set_option maxHeartbeats 8000000 in
set_option maxRecDepth 100000 in
theorem integer_Cmp.calls (k : Nat) (a0_0 : Bool) (A0_1 : Option Addr) (c0_1 : Nat) (l0_1 : List Int) (a1_0 : Bool) (A1_1 : Option Addr) (c1_1 : Nat) (l1_1 : List Int) (r : Int) (w : World) (hr0_1 : Kd.C (Kd.int .u32) w A0_1 l0_1.length l0_1) (hc0_1 : l0_1.length ≤ c0_1) (hr1_1 : Kd.C (Kd.int .u32) w A1_1 l1_1.length l1_1) (hc1_1 : l1_1.length ≤ c1_1) (h : integer_Cmp.f k a0_0 l0_1 a1_0 l1_1 = some r) :
  Calls Try.prog 51 #[.agg #[.bool a0_0, .slice A0_1 l0_1.length c0_1], .agg #[.bool a1_0, .slice A1_1 l1_1.length c1_1]] w fun e w' => e = .returned (.int .i64 r) ∧ Below w.heap.size w w' := by
 have hu27 := Try.underlying27
 have HR0_1 := mk0 hr0_1
 have HC0_1 := mk0 hc0_1
 clear hr0_1 hc0_1
 have HR1_1 := mk0 hr1_1
 have HC1_1 := mk0 hc1_1
 clear hr1_1 hc1_1
 have HB := mk0 (Below.refl w.heap.size w)
 have H : ((integer_Sign.f k a0_0 l0_1).bind fun t171 => ((integer_Sign.f k a1_0 l1_1).bind fun t172 => (if t171 < t172 then (some (-1)) else (if t171 > t172 then (some 1) else (if t171 < 0 then ((nat_Cmp.f k l1_1 l0_1).bind fun t173 => (some t173)) else ((nat_Cmp.f k l0_1 l1_1).bind fun t174 => (some t174))))))) = some r := h
 clear h
 obtain ⟨t171, A3, H⟩ := bindA H
 obtain ⟨t172, A4, H⟩ := bindA H
 by_cases c5 : t171 < t172
 ·rw [if_pos c5] at H
  have c5b0 := decide_eq_true c5
  clear c5
  obtain rfl := Option.some.inj H
  go_enter Try.func51, Try.ntmps51
  try go_wp2_with (first | ((with_reducible refine gate_dst (N := 2) rfl ?_); refine box_event rfl (N := 2) rfl (cs := #[.bool a0_0, .slice A0_1 l0_1.length c0_1]) (t := 27) (by go_simp <;> rfl) ?_; intro gb169 hg w6 hbox hb; have BK169 := mk0 (hbox); have GE169 := geB hg HB; replace HB := hbS HB hb; clear hb hbox hg) | ((with_reducible refine gate_dst (N := 3) rfl ?_); refine box_event rfl (N := 3) rfl (cs := #[.bool a1_0, .slice A1_1 l1_1.length c1_1]) (t := 27) (by go_simp <;> rfl) ?_; intro gb170 hg w7 hbox hb; have BK170 := mk0 (hbox); have GE170 := geB hg HB; replace HB := hbS HB hb; have NB169_170 := nbA hg BK169; have NB170_169 := nbB hg BK169; replace BK169 := bkB BK169 hb; clear hb hbox hg))
  replace BK169 := mk0 (blk_drew BK169.out)
  replace BK170 := mk0 (blk_drew BK170.out)
  replace HB := mk0 (b1 HB.out)
  refine start_ (n := 6) (S := fun w' => w'.cell? ⟨gb169, 0, none⟩ = some (.bool a0_0) ∧ w'.cell? ⟨gb169, 1, none⟩ = some (.slice A0_1 l0_1.length c0_1) ∧ w'.cell? ⟨gb170, 0, none⟩ = some (.bool a1_0) ∧ w'.cell? ⟨gb170, 1, none⟩ = some (.slice A1_1 l1_1.length c1_1)) (ds := []) (bv 6 0) (by kernel_rfl) rfl rfl ⟨(blk_cell BK169.out 0).trans rfl, (blk_cell BK169.out 1).trans rfl, (blk_cell BK170.out 0).trans rfl, (blk_cell BK170.out 1).trans rfl⟩ (fun hHeld => ?_)
  generalize w7.drew = w8 at BK169 BK170 HB hHeld ⊢
  refine take_ (i := 0) (N := some 7) (v := ?_) (a' := ?_) (bv 6 1) rfl rfl (by kernel_rfl) (fun _ _ _ h => h) (Or.inl ⟨by rfl, ?_⟩) hHeld ?_ ?_; rotate_left; (rintro w' ⟨s0, s1, s2, s3⟩; go_simp; with_reducible rfl); rotate_left; (simp only [Act.put, sA, sZ, sS, i64_w, i32_w]; rfl)
  refine take_ (i := 2) (N := some 9) (v := ?_) (a' := ?_) (bv 6 5) rfl rfl (by kernel_rfl) (fun _ _ _ h => h) (Or.inl ⟨by rfl, ?_⟩) hHeld ?_ ?_; rotate_left; (rintro w' ⟨s0, s1, s2, s3⟩; go_simp; with_reducible rfl); rotate_left; (simp only [Act.put, sA, sZ, sS, i64_w, i32_w]; rfl)
  refine one_ (i := 1) (N := some 8) (bv 6 7) rfl rfl (by kernel_rfl) (by decide) (fun K hK => ?_)
  refine goes_ Try.func37 (by kernel_rfl) rfl #[.agg #[.bool a0_0, .slice A0_1 l0_1.length c0_1]] (by rfl) rfl rfl (by go_simp <;> rfl) ?_
  with_reducible refine (integer_Sign.calls k a0_0 _ _ l0_1 t171 _ ?side1 ?side2 A3.out).mono ?_
  (case side1 => exact (Cb HR0_1.out HB.out))
  (case side2 => exact HC0_1.out)
  rintro e w9 ⟨rfl, hb⟩
  refine ⟨_, rfl, ?_⟩
  replace BK169 := bkB BK169 hb
  replace BK170 := bkB BK170 hb
  replace HB := mk0 (below_step HB.out hb)
  refine hK.out _ _ ⟨(blk_cell BK169.out 0).trans rfl, (blk_cell BK169.out 1).trans rfl, (blk_cell BK170.out 0).trans rfl, (blk_cell BK170.out 1).trans rfl⟩ (fun hHeld => ?_)
  clear hK K
  refine norm_ (a' := ?_) ?_ ?_
  rotate_left
  ·show Act.put _ (some 8) _ = _
   simp only [Act.put, sA, sZ, sS, i64_w, i32_w]
   rfl
  refine one_ (i := 3) (N := some 10) (bv 6 15) rfl rfl (by kernel_rfl) (by decide) (fun K hK => ?_)
  refine goes_ Try.func37 (by kernel_rfl) rfl #[.agg #[.bool a1_0, .slice A1_1 l1_1.length c1_1]] (by rfl) rfl rfl (by go_simp <;> rfl) ?_
  with_reducible refine (integer_Sign.calls k a1_0 _ _ l1_1 t172 _ ?side1 ?side2 A4.out).mono ?_
  (case side1 => exact (Cb HR1_1.out HB.out))
  (case side2 => exact HC1_1.out)
  rintro e w10 ⟨rfl, hb⟩
  refine ⟨_, rfl, ?_⟩
  replace BK169 := bkB BK169 hb
  replace BK170 := bkB BK170 hb
  replace HB := mk0 (below_step HB.out hb)
  refine hK.out _ _ ⟨(blk_cell BK169.out 0).trans rfl, (blk_cell BK169.out 1).trans rfl, (blk_cell BK170.out 0).trans rfl, (blk_cell BK170.out 1).trans rfl⟩ (fun hHeld => ?_)
  clear hK K
  refine norm_ (a' := ?_) ?_ ?_
  rotate_left
  ·show Act.put _ (some 10) _ = _
   simp only [Act.put, sA, sZ, sS, i64_w, i32_w]
   rfl
  refine pure_ (i := 4) (N := some 5) (v := ?_) (a' := ?_) (bv 6 31) rfl rfl (by kernel_rfl) (fun _ _ _ h => h) (Or.inl ⟨by rfl, ?_⟩) ?_ ?_; rotate_left; (intro w'; go_simp; with_reducible rfl); rotate_left; (simp only [Act.put, sA, sZ, sS, i64_w, i32_w]; rfl)
  refine pure_ (i := 5) (N := some 6) (v := ?_) (a' := ?_) (bv 6 63) rfl rfl (by kernel_rfl) (fun _ _ _ h => h) (Or.inl ⟨by rfl, ?_⟩) ?_ ?_; rotate_left; (intro w'; go_simp; with_reducible rfl); rotate_left; (simp only [Act.put, sA, sZ, sS, i64_w, i32_w]; rfl)
  refine done_ (by kernel_rfl) ?_
  try go_wp2
  go_ret
  exact ⟨rfl, by repeat (first | exact HB.out | apply bN | apply b1 | apply bA | refine bS ?_ GE169.out | refine bS ?_ GE170.out)⟩
 ·rw [if_neg c5] at H
  have c5b0 := decide_eq_false c5
  clear c5
  by_cases c11 : t171 > t172
  ·rw [if_pos c11] at H
   have c11b0 := decide_eq_true c11
   clear c11
   obtain rfl := Option.some.inj H
   go_enter Try.func51, Try.ntmps51
   try go_wp2_with (first | ((with_reducible refine gate_dst (N := 2) rfl ?_); refine box_event rfl (N := 2) rfl (cs := #[.bool a0_0, .slice A0_1 l0_1.length c0_1]) (t := 27) (by go_simp <;> rfl) ?_; intro gb169 hg w12 hbox hb; have BK169 := mk0 (hbox); have GE169 := geB hg HB; replace HB := hbS HB hb; clear hb hbox hg) | ((with_reducible refine gate_dst (N := 3) rfl ?_); refine box_event rfl (N := 3) rfl (cs := #[.bool a1_0, .slice A1_1 l1_1.length c1_1]) (t := 27) (by go_simp <;> rfl) ?_; intro gb170 hg w13 hbox hb; have BK170 := mk0 (hbox); have GE170 := geB hg HB; replace HB := hbS HB hb; have NB169_170 := nbA hg BK169; have NB170_169 := nbB hg BK169; replace BK169 := bkB BK169 hb; clear hb hbox hg))
   replace BK169 := mk0 (blk_drew BK169.out)
   replace BK170 := mk0 (blk_drew BK170.out)
   replace HB := mk0 (b1 HB.out)
   refine start_ (n := 6) (S := fun w' => w'.cell? ⟨gb169, 0, none⟩ = some (.bool a0_0) ∧ w'.cell? ⟨gb169, 1, none⟩ = some (.slice A0_1 l0_1.length c0_1) ∧ w'.cell? ⟨gb170, 0, none⟩ = some (.bool a1_0) ∧ w'.cell? ⟨gb170, 1, none⟩ = some (.slice A1_1 l1_1.length c1_1)) (ds := []) (bv 6 0) (by kernel_rfl) rfl rfl ⟨(blk_cell BK169.out 0).trans rfl, (blk_cell BK169.out 1).trans rfl, (blk_cell BK170.out 0).trans rfl, (blk_cell BK170.out 1).trans rfl⟩ (fun hHeld => ?_)
   generalize w13.drew = w14 at BK169 BK170 HB hHeld ⊢
   refine take_ (i := 0) (N := some 7) (v := ?_) (a' := ?_) (bv 6 1) rfl rfl (by kernel_rfl) (fun _ _ _ h => h) (Or.inl ⟨by rfl, ?_⟩) hHeld ?_ ?_; rotate_left; (rintro w' ⟨s0, s1, s2, s3⟩; go_simp; with_reducible rfl); rotate_left; (simp only [Act.put, sA, sZ, sS, i64_w, i32_w]; rfl)
   refine take_ (i := 2) (N := some 9) (v := ?_) (a' := ?_) (bv 6 5) rfl rfl (by kernel_rfl) (fun _ _ _ h => h) (Or.inl ⟨by rfl, ?_⟩) hHeld ?_ ?_; rotate_left; (rintro w' ⟨s0, s1, s2, s3⟩; go_simp; with_reducible rfl); rotate_left; (simp only [Act.put, sA, sZ, sS, i64_w, i32_w]; rfl)
   refine one_ (i := 1) (N := some 8) (bv 6 7) rfl rfl (by kernel_rfl) (by decide) (fun K hK => ?_)
   refine goes_ Try.func37 (by kernel_rfl) rfl #[.agg #[.bool a0_0, .slice A0_1 l0_1.length c0_1]] (by rfl) rfl rfl (by go_simp <;> rfl) ?_
   with_reducible refine (integer_Sign.calls k a0_0 _ _ l0_1 t171 _ ?side1 ?side2 A3.out).mono ?_
   (case side1 => exact (Cb HR0_1.out HB.out))
   (case side2 => exact HC0_1.out)
   rintro e w15 ⟨rfl, hb⟩
   refine ⟨_, rfl, ?_⟩
   replace BK169 := bkB BK169 hb
   replace BK170 := bkB BK170 hb
   replace HB := mk0 (below_step HB.out hb)
   refine hK.out _ _ ⟨(blk_cell BK169.out 0).trans rfl, (blk_cell BK169.out 1).trans rfl, (blk_cell BK170.out 0).trans rfl, (blk_cell BK170.out 1).trans rfl⟩ (fun hHeld => ?_)
   clear hK K
   refine norm_ (a' := ?_) ?_ ?_
   rotate_left
   ·show Act.put _ (some 8) _ = _
    simp only [Act.put, sA, sZ, sS, i64_w, i32_w]
    rfl
   refine one_ (i := 3) (N := some 10) (bv 6 15) rfl rfl (by kernel_rfl) (by decide) (fun K hK => ?_)
   refine goes_ Try.func37 (by kernel_rfl) rfl #[.agg #[.bool a1_0, .slice A1_1 l1_1.length c1_1]] (by rfl) rfl rfl (by go_simp <;> rfl) ?_
   with_reducible refine (integer_Sign.calls k a1_0 _ _ l1_1 t172 _ ?side1 ?side2 A4.out).mono ?_
   (case side1 => exact (Cb HR1_1.out HB.out))
   (case side2 => exact HC1_1.out)
   rintro e w16 ⟨rfl, hb⟩
   refine ⟨_, rfl, ?_⟩
   replace BK169 := bkB BK169 hb
   replace BK170 := bkB BK170 hb
   replace HB := mk0 (below_step HB.out hb)
   refine hK.out _ _ ⟨(blk_cell BK169.out 0).trans rfl, (blk_cell BK169.out 1).trans rfl, (blk_cell BK170.out 0).trans rfl, (blk_cell BK170.out 1).trans rfl⟩ (fun hHeld => ?_)
   clear hK K
   refine norm_ (a' := ?_) ?_ ?_
   rotate_left
   ·show Act.put _ (some 10) _ = _
    simp only [Act.put, sA, sZ, sS, i64_w, i32_w]
    rfl
   refine pure_ (i := 4) (N := some 5) (v := ?_) (a' := ?_) (bv 6 31) rfl rfl (by kernel_rfl) (fun _ _ _ h => h) (Or.inl ⟨by rfl, ?_⟩) ?_ ?_; rotate_left; (intro w'; go_simp; with_reducible rfl); rotate_left; (simp only [Act.put, sA, sZ, sS, i64_w, i32_w]; rfl)
   refine pure_ (i := 5) (N := some 6) (v := ?_) (a' := ?_) (bv 6 63) rfl rfl (by kernel_rfl) (fun _ _ _ h => h) (Or.inl ⟨by rfl, ?_⟩) ?_ ?_; rotate_left; (intro w'; go_simp; with_reducible rfl); rotate_left; (simp only [Act.put, sA, sZ, sS, i64_w, i32_w]; rfl)
   refine done_ (by kernel_rfl) ?_
   try go_wp2
   go_ret
   exact ⟨rfl, by repeat (first | exact HB.out | apply bN | apply b1 | apply bA | refine bS ?_ GE169.out | refine bS ?_ GE170.out)⟩
  ·rw [if_neg c11] at H
   have c11b0 := decide_eq_false c11
   clear c11
   by_cases c17 : t171 < 0
   ·rw [if_pos c17] at H
    have c17b0 := decide_eq_true c17
    clear c17
    obtain ⟨t173, A18, H⟩ := bindA H
    obtain rfl := Option.some.inj H
    go_enter Try.func51, Try.ntmps51
    try go_wp2_with (first | ((with_reducible refine gate_dst (N := 2) rfl ?_); refine box_event rfl (N := 2) rfl (cs := #[.bool a0_0, .slice A0_1 l0_1.length c0_1]) (t := 27) (by go_simp <;> rfl) ?_; intro gb169 hg w19 hbox hb; have BK169 := mk0 (hbox); have GE169 := geB hg HB; replace HB := hbS HB hb; clear hb hbox hg) | ((with_reducible refine gate_dst (N := 3) rfl ?_); refine box_event rfl (N := 3) rfl (cs := #[.bool a1_0, .slice A1_1 l1_1.length c1_1]) (t := 27) (by go_simp <;> rfl) ?_; intro gb170 hg w20 hbox hb; have BK170 := mk0 (hbox); have GE170 := geB hg HB; replace HB := hbS HB hb; have NB169_170 := nbA hg BK169; have NB170_169 := nbB hg BK169; replace BK169 := bkB BK169 hb; clear hb hbox hg))
    replace BK169 := mk0 (blk_drew BK169.out)
    replace BK170 := mk0 (blk_drew BK170.out)
    replace HB := mk0 (b1 HB.out)
    refine start_ (n := 6) (S := fun w' => w'.cell? ⟨gb169, 0, none⟩ = some (.bool a0_0) ∧ w'.cell? ⟨gb169, 1, none⟩ = some (.slice A0_1 l0_1.length c0_1) ∧ w'.cell? ⟨gb170, 0, none⟩ = some (.bool a1_0) ∧ w'.cell? ⟨gb170, 1, none⟩ = some (.slice A1_1 l1_1.length c1_1)) (ds := []) (bv 6 0) (by kernel_rfl) rfl rfl ⟨(blk_cell BK169.out 0).trans rfl, (blk_cell BK169.out 1).trans rfl, (blk_cell BK170.out 0).trans rfl, (blk_cell BK170.out 1).trans rfl⟩ (fun hHeld => ?_)
    generalize w20.drew = w21 at BK169 BK170 HB hHeld ⊢
    refine take_ (i := 0) (N := some 7) (v := ?_) (a' := ?_) (bv 6 1) rfl rfl (by kernel_rfl) (fun _ _ _ h => h) (Or.inl ⟨by rfl, ?_⟩) hHeld ?_ ?_; rotate_left; (rintro w' ⟨s0, s1, s2, s3⟩; go_simp; with_reducible rfl); rotate_left; (simp only [Act.put, sA, sZ, sS, i64_w, i32_w]; rfl)
    refine take_ (i := 2) (N := some 9) (v := ?_) (a' := ?_) (bv 6 5) rfl rfl (by kernel_rfl) (fun _ _ _ h => h) (Or.inl ⟨by rfl, ?_⟩) hHeld ?_ ?_; rotate_left; (rintro w' ⟨s0, s1, s2, s3⟩; go_simp; with_reducible rfl); rotate_left; (simp only [Act.put, sA, sZ, sS, i64_w, i32_w]; rfl)
    refine one_ (i := 1) (N := some 8) (bv 6 7) rfl rfl (by kernel_rfl) (by decide) (fun K hK => ?_)
    refine goes_ Try.func37 (by kernel_rfl) rfl #[.agg #[.bool a0_0, .slice A0_1 l0_1.length c0_1]] (by rfl) rfl rfl (by go_simp <;> rfl) ?_
    with_reducible refine (integer_Sign.calls k a0_0 _ _ l0_1 t171 _ ?side1 ?side2 A3.out).mono ?_
    (case side1 => exact (Cb HR0_1.out HB.out))
    (case side2 => exact HC0_1.out)
    rintro e w22 ⟨rfl, hb⟩
    refine ⟨_, rfl, ?_⟩
    replace BK169 := bkB BK169 hb
    replace BK170 := bkB BK170 hb
    replace HB := mk0 (below_step HB.out hb)
    refine hK.out _ _ ⟨(blk_cell BK169.out 0).trans rfl, (blk_cell BK169.out 1).trans rfl, (blk_cell BK170.out 0).trans rfl, (blk_cell BK170.out 1).trans rfl⟩ (fun hHeld => ?_)
    clear hK K
    refine norm_ (a' := ?_) ?_ ?_
    rotate_left
    ·show Act.put _ (some 8) _ = _
     simp only [Act.put, sA, sZ, sS, i64_w, i32_w]
     rfl
    refine one_ (i := 3) (N := some 10) (bv 6 15) rfl rfl (by kernel_rfl) (by decide) (fun K hK => ?_)
    refine goes_ Try.func37 (by kernel_rfl) rfl #[.agg #[.bool a1_0, .slice A1_1 l1_1.length c1_1]] (by rfl) rfl rfl (by go_simp <;> rfl) ?_
    with_reducible refine (integer_Sign.calls k a1_0 _ _ l1_1 t172 _ ?side1 ?side2 A4.out).mono ?_
    (case side1 => exact (Cb HR1_1.out HB.out))
    (case side2 => exact HC1_1.out)
    rintro e w23 ⟨rfl, hb⟩
    refine ⟨_, rfl, ?_⟩
    replace BK169 := bkB BK169 hb
    replace BK170 := bkB BK170 hb
    replace HB := mk0 (below_step HB.out hb)
    refine hK.out _ _ ⟨(blk_cell BK169.out 0).trans rfl, (blk_cell BK169.out 1).trans rfl, (blk_cell BK170.out 0).trans rfl, (blk_cell BK170.out 1).trans rfl⟩ (fun hHeld => ?_)
    clear hK K
    refine norm_ (a' := ?_) ?_ ?_
    rotate_left
    ·show Act.put _ (some 10) _ = _
     simp only [Act.put, sA, sZ, sS, i64_w, i32_w]
     rfl
    refine pure_ (i := 4) (N := some 5) (v := ?_) (a' := ?_) (bv 6 31) rfl rfl (by kernel_rfl) (fun _ _ _ h => h) (Or.inl ⟨by rfl, ?_⟩) ?_ ?_; rotate_left; (intro w'; go_simp; with_reducible rfl); rotate_left; (simp only [Act.put, sA, sZ, sS, i64_w, i32_w]; rfl)
    refine pure_ (i := 5) (N := some 6) (v := ?_) (a' := ?_) (bv 6 63) rfl rfl (by kernel_rfl) (fun _ _ _ h => h) (Or.inl ⟨by rfl, ?_⟩) ?_ ?_; rotate_left; (intro w'; go_simp; with_reducible rfl); rotate_left; (simp only [Act.put, sA, sZ, sS, i64_w, i32_w]; rfl)
    refine done_ (by kernel_rfl) ?_
    have hnb24 := NB170_169.out
    have hnc24 := NB169_170.out
    obtain ⟨hcz25_0, hcz25_1, hfz25_0, hfz25_1⟩ := cz2 BK170
    obtain ⟨hcz26_0, hcz26_1, hfz26_0, hfz26_1⟩ := cz2 BK169
    try go_wp2_with (first | ((with_reducible refine gate_callee (f := 77) rfl ?_); refine goA 26 Try.func77 #[.slice A1_1 l1_1.length c1_1, .slice A0_1 l0_1.length c0_1] ?_; (with_reducible refine (nat_Cmp.calls k _ _ l1_1 _ _ l0_1 t173 _ (by exact Cb HR1_1.out HB.out) HC1_1.out (by exact Cb HR0_1.out HB.out) HC0_1.out A18.out).mono ?_); rintro e w27 ⟨rfl, hb⟩; refine ⟨_, rfl, ?_⟩; replace BK169 := bkB BK169 hb; replace BK170 := bkB BK170 hb; replace HB := hbS HB hb))
    go_ret
    exact ⟨rfl, by repeat (first | exact HB.out | apply bN | apply b1 | apply bA | refine bS ?_ GE169.out | refine bS ?_ GE170.out)⟩
   ·rw [if_neg c17] at H
    have c17b0 := decide_eq_false c17
    clear c17
    obtain ⟨t174, A28, H⟩ := bindA H
    obtain rfl := Option.some.inj H
    go_enter Try.func51, Try.ntmps51
    try go_wp2_with (first | ((with_reducible refine gate_dst (N := 2) rfl ?_); refine box_event rfl (N := 2) rfl (cs := #[.bool a0_0, .slice A0_1 l0_1.length c0_1]) (t := 27) (by go_simp <;> rfl) ?_; intro gb169 hg w29 hbox hb; have BK169 := mk0 (hbox); have GE169 := geB hg HB; replace HB := hbS HB hb; clear hb hbox hg) | ((with_reducible refine gate_dst (N := 3) rfl ?_); refine box_event rfl (N := 3) rfl (cs := #[.bool a1_0, .slice A1_1 l1_1.length c1_1]) (t := 27) (by go_simp <;> rfl) ?_; intro gb170 hg w30 hbox hb; have BK170 := mk0 (hbox); have GE170 := geB hg HB; replace HB := hbS HB hb; have NB169_170 := nbA hg BK169; have NB170_169 := nbB hg BK169; replace BK169 := bkB BK169 hb; clear hb hbox hg))
    replace BK169 := mk0 (blk_drew BK169.out)
    replace BK170 := mk0 (blk_drew BK170.out)
    replace HB := mk0 (b1 HB.out)
    refine start_ (n := 6) (S := fun w' => w'.cell? ⟨gb169, 0, none⟩ = some (.bool a0_0) ∧ w'.cell? ⟨gb169, 1, none⟩ = some (.slice A0_1 l0_1.length c0_1) ∧ w'.cell? ⟨gb170, 0, none⟩ = some (.bool a1_0) ∧ w'.cell? ⟨gb170, 1, none⟩ = some (.slice A1_1 l1_1.length c1_1)) (ds := []) (bv 6 0) (by kernel_rfl) rfl rfl ⟨(blk_cell BK169.out 0).trans rfl, (blk_cell BK169.out 1).trans rfl, (blk_cell BK170.out 0).trans rfl, (blk_cell BK170.out 1).trans rfl⟩ (fun hHeld => ?_)
    generalize w30.drew = w31 at BK169 BK170 HB hHeld ⊢
    refine take_ (i := 0) (N := some 7) (v := ?_) (a' := ?_) (bv 6 1) rfl rfl (by kernel_rfl) (fun _ _ _ h => h) (Or.inl ⟨by rfl, ?_⟩) hHeld ?_ ?_; rotate_left; (rintro w' ⟨s0, s1, s2, s3⟩; go_simp; with_reducible rfl); rotate_left; (simp only [Act.put, sA, sZ, sS, i64_w, i32_w]; rfl)
    refine take_ (i := 2) (N := some 9) (v := ?_) (a' := ?_) (bv 6 5) rfl rfl (by kernel_rfl) (fun _ _ _ h => h) (Or.inl ⟨by rfl, ?_⟩) hHeld ?_ ?_; rotate_left; (rintro w' ⟨s0, s1, s2, s3⟩; go_simp; with_reducible rfl); rotate_left; (simp only [Act.put, sA, sZ, sS, i64_w, i32_w]; rfl)
    refine one_ (i := 1) (N := some 8) (bv 6 7) rfl rfl (by kernel_rfl) (by decide) (fun K hK => ?_)
    refine goes_ Try.func37 (by kernel_rfl) rfl #[.agg #[.bool a0_0, .slice A0_1 l0_1.length c0_1]] (by rfl) rfl rfl (by go_simp <;> rfl) ?_
    with_reducible refine (integer_Sign.calls k a0_0 _ _ l0_1 t171 _ ?side1 ?side2 A3.out).mono ?_
    (case side1 => exact (Cb HR0_1.out HB.out))
    (case side2 => exact HC0_1.out)
    rintro e w32 ⟨rfl, hb⟩
    refine ⟨_, rfl, ?_⟩
    replace BK169 := bkB BK169 hb
    replace BK170 := bkB BK170 hb
    replace HB := mk0 (below_step HB.out hb)
    refine hK.out _ _ ⟨(blk_cell BK169.out 0).trans rfl, (blk_cell BK169.out 1).trans rfl, (blk_cell BK170.out 0).trans rfl, (blk_cell BK170.out 1).trans rfl⟩ (fun hHeld => ?_)
    clear hK K
    refine norm_ (a' := ?_) ?_ ?_
    rotate_left
    ·show Act.put _ (some 8) _ = _
     simp only [Act.put, sA, sZ, sS, i64_w, i32_w]
     rfl
    refine one_ (i := 3) (N := some 10) (bv 6 15) rfl rfl (by kernel_rfl) (by decide) (fun K hK => ?_)
    refine goes_ Try.func37 (by kernel_rfl) rfl #[.agg #[.bool a1_0, .slice A1_1 l1_1.length c1_1]] (by rfl) rfl rfl (by go_simp <;> rfl) ?_
    with_reducible refine (integer_Sign.calls k a1_0 _ _ l1_1 t172 _ ?side1 ?side2 A4.out).mono ?_
    (case side1 => exact (Cb HR1_1.out HB.out))
    (case side2 => exact HC1_1.out)
    rintro e w33 ⟨rfl, hb⟩
    refine ⟨_, rfl, ?_⟩
    replace BK169 := bkB BK169 hb
    replace BK170 := bkB BK170 hb
    replace HB := mk0 (below_step HB.out hb)
    refine hK.out _ _ ⟨(blk_cell BK169.out 0).trans rfl, (blk_cell BK169.out 1).trans rfl, (blk_cell BK170.out 0).trans rfl, (blk_cell BK170.out 1).trans rfl⟩ (fun hHeld => ?_)
    clear hK K
    refine norm_ (a' := ?_) ?_ ?_
    rotate_left
    ·show Act.put _ (some 10) _ = _
     simp only [Act.put, sA, sZ, sS, i64_w, i32_w]
     rfl
    refine pure_ (i := 4) (N := some 5) (v := ?_) (a' := ?_) (bv 6 31) rfl rfl (by kernel_rfl) (fun _ _ _ h => h) (Or.inl ⟨by rfl, ?_⟩) ?_ ?_; rotate_left; (intro w'; go_simp; with_reducible rfl); rotate_left; (simp only [Act.put, sA, sZ, sS, i64_w, i32_w]; rfl)
    refine pure_ (i := 5) (N := some 6) (v := ?_) (a' := ?_) (bv 6 63) rfl rfl (by kernel_rfl) (fun _ _ _ h => h) (Or.inl ⟨by rfl, ?_⟩) ?_ ?_; rotate_left; (intro w'; go_simp; with_reducible rfl); rotate_left; (simp only [Act.put, sA, sZ, sS, i64_w, i32_w]; rfl)
    refine done_ (by kernel_rfl) ?_
    have hnb34 := NB169_170.out
    have hnc34 := NB170_169.out
    obtain ⟨hcz35_0, hcz35_1, hfz35_0, hfz35_1⟩ := cz2 BK169
    obtain ⟨hcz36_0, hcz36_1, hfz36_0, hfz36_1⟩ := cz2 BK170
    try go_wp2_with (first | ((with_reducible refine gate_callee (f := 77) rfl ?_); refine goA 31 Try.func77 #[.slice A0_1 l0_1.length c0_1, .slice A1_1 l1_1.length c1_1] ?_; (with_reducible refine (nat_Cmp.calls k _ _ l0_1 _ _ l1_1 t174 _ (by exact Cb HR0_1.out HB.out) HC0_1.out (by exact Cb HR1_1.out HB.out) HC1_1.out A28.out).mono ?_); rintro e w37 ⟨rfl, hb⟩; refine ⟨_, rfl, ?_⟩; replace BK169 := bkB BK169 hb; replace BK170 := bkB BK170 hb; replace HB := hbS HB hb))
    go_ret
    exact ⟨rfl, by repeat (first | exact HB.out | apply bN | apply b1 | apply bA | refine bS ?_ GE169.out | refine bS ?_ GE170.out)⟩
set_option maxHeartbeats 8000000 in
set_option maxRecDepth 100000 in
theorem nat_Mul.calls (k : Nat) (P0_ : Nat → Prop) (A0 : Option Addr) (c0 : Nat) (l0 : List Int) (P1_ : Nat → Prop) (A1 : Option Addr) (c1 : Nat) (l1 : List Int) (r : List Int) (w : World) (hs0 : Kd.V (Kd.int .u32) 87 w w.heap.size (fun k_ => P0_ k_) (.slice A0 l0.length c0) l0) (hs1 : Kd.V (Kd.int .u32) 87 w w.heap.size (fun k_ => P1_ k_) (.slice A1 l1.length c1) l1) (h : nat_Mul.f k l0 l1 = some r) :
  Calls Try.prog 54 #[.slice A0 l0.length c0, .slice A1 l1.length c1] w fun e w' => ∃ v0_ : Value, e = .returned (v0_) ∧ Kd.V (Kd.int .u32) 87 w' w.heap.size (fun k_ => ((P0_ k_ ∨ P1_ k_) ∨ w.heap.size ≤ k_)) v0_ r ∧ Below w.heap.size w w' := by
 have HO0 := mk0 (show Kd.V (Kd.int .u32) 87 w w.heap.size (fun k_ => ((P0_ k_ ∨ P1_ k_) ∨ w.heap.size ≤ k_)) (.slice A0 l0.length c0) l0 from Vm hs0 (fun k_ hk => .inl (.inl hk)))
 have HO1 := mk0 (show Kd.V (Kd.int .u32) 87 w w.heap.size (fun k_ => ((P0_ k_ ∨ P1_ k_) ∨ w.heap.size ≤ k_)) (.slice A1 l1.length c1) l1 from Vm hs1 (fun k_ hk => .inl (.inr hk)))
 have HB := mk0 (Below.refl w.heap.size w)
 have H : ((nat_trim.f k l0).bind fun t175 => ((nat_trim.f k l1).bind fun t178 => (if (t175.length : Int) = 0 then (nat_Mul.j0 k t175 t178 true) else (nat_Mul.j0 k t175 t178 ((t178.length : Int) == 0))))) = some r := h
 clear h
 obtain ⟨t175, A3, H⟩ := bindA H
 obtain ⟨t178, A4, H⟩ := bindA H
 have HC5 := mk0 H
 clear H
 go_enter Try.func54, Try.ntmps54
 go_upto_region 2 with (first | ((with_reducible refine gate_callee (f := 81) rfl ?_); refine goA 14 Try.func81 #[.slice A0 l0.length c0] ?_; (with_reducible refine (nat_trim.calls k (fun k_ => ((P0_ k_ ∨ P1_ k_) ∨ w.heap.size ≤ k_)) _ _ l0 t175 _ HO0.out A3.out).mono ?_); rintro e w6 ⟨v176, rfl, ho0, hb⟩; refine ⟨_, rfl, ?_⟩; replace HO0 := mk0 (Kd.V_below HO0.out hb); replace HO1 := mk0 (Kd.V_below HO1.out hb); have HO177 := mk0 (Vl (Vm (ok' := fun k_ => ((P0_ k_ ∨ P1_ k_) ∨ w.heap.size ≤ k_)) ho0 (fun k_ hk_ => Or.elim hk_ (fun hs_ => hs_) (fun hn_ => (.inr (Nat.le_trans (bZ HB.out) hn_))))) (bZ HB.out)); replace HB := hbS HB hb) | ((with_reducible refine gate_callee (f := 81) rfl ?_); refine goA 16 Try.func81 #[.slice A1 l1.length c1] ?_; (with_reducible refine (nat_trim.calls k (fun k_ => ((P0_ k_ ∨ P1_ k_) ∨ w.heap.size ≤ k_)) _ _ l1 t178 _ HO1.out A4.out).mono ?_); rintro e w7 ⟨v179, rfl, ho0, hb⟩; refine ⟨_, rfl, ?_⟩; replace HO0 := mk0 (Kd.V_below HO0.out hb); replace HO1 := mk0 (Kd.V_below HO1.out hb); replace HO177 := mk0 (Kd.V_below HO177.out hb); have HO180 := mk0 (Vl (Vm (ok' := fun k_ => ((P0_ k_ ∨ P1_ k_) ∨ w.heap.size ≤ k_)) ho0 (fun k_ hk_ => Or.elim hk_ (fun hs_ => hs_) (fun hn_ => (.inr (Nat.le_trans (bZ HB.out) hn_))))) (bZ HB.out)); replace HB := hbS HB hb))
 (try simp only [Act.put, sA, sZ, sS])
 go_cut [24] (fun v24 wc => ∃ (kq : Nat) (x24_4 : Bool), v24 = .bool x24_4 ∧ Aside0 (nat_Mul.j0 kq t175 t178 x24_4 = some r) ∧ Aside0 (kq ≤ k) ∧ Aside0 (Kd.V (Kd.int .u32) 87 wc w.heap.size (fun k_ => ((P0_ k_ ∨ P1_ k_) ∨ w.heap.size ≤ k_)) v176 t175) ∧ Aside0 (Kd.V (Kd.int .u32) 87 wc w.heap.size (fun k_ => ((P0_ k_ ∨ P1_ k_) ∨ w.heap.size ≤ k_)) v179 t178) ∧ Aside0 (Below w.heap.size w wc))
 case first =>
  have H := HC5.out
  clear HC5
  by_cases c8 : (t175.length : Int) = 0
  ·rw [if_pos c8] at H
   have c8b0 : ((t175.length : Int) == 0) = true := beq_iff_eq.mpr c8
   have c8b1 : ((t175.length : Int) != 0) = false := bne_eq_false_iff_eq.mpr c8
   clear c8
   (first | rw [c8b0] | (simp only [i64_w, i32_w]; rw [c8b0]) | skip)
   have H' := mk0 H
   clear H
   obtain ⟨Ao9, co9, eo9⟩ := Kd.V_slice HO177.out
   subst eo9
   go_wp2
   go_meet
   case rel => exact ⟨_, (true), rfl, H', ⟨by first | omega | exact Nat.le_refl _⟩, ⟨HO177.out⟩, ⟨HO180.out⟩, ⟨by repeat (first | exact HB.out | apply bN | apply b1 | apply bA)⟩⟩
  ·rw [if_neg c8] at H
   have c8b0 : ((t175.length : Int) == 0) = false := beq_eq_false_iff_ne.mpr c8
   have c8b1 : ((t175.length : Int) != 0) = true := bne_iff_ne.mpr c8
   have c8b2 : ¬ (t175 = []) := fun h_ => c8 (by rw [h_]; rfl)
   (first | rw [c8b0] | (simp only [i64_w, i32_w]; rw [c8b0]) | skip)
   have H' := mk0 H
   clear H
   obtain ⟨Ao10, co10, eo10⟩ := Kd.V_slice HO177.out
   subst eo10
   obtain ⟨Ao11, co11, eo11⟩ := Kd.V_slice HO180.out
   subst eo11
   go_wp2
   go_meet
   case rel => exact ⟨_, (((t178.length : Int) == 0)), rfl, H', ⟨by first | omega | exact Nat.le_refl _⟩, ⟨HO177.out⟩, ⟨HO180.out⟩, ⟨by repeat (first | exact HB.out | apply bN | apply b1 | apply bA)⟩⟩
 case rest =>
  clear HC5
  obtain ⟨kq, x24_4, rfl, HA, HJ4, HO_5, HO_6, HB⟩ := hcut
  cases kq with
  | zero => exact absurd HA.out (by simp [nat_Mul.j0])
  | succ kj4 =>
   have H := HA.out
   clear HA
   simp only [nat_Mul.j0] at H
   by_cases c12 : x24_4 = true
   ·subst c12
    have H1 : (some ([] : List Int)) = some r := by rw [if_pos rfl] at H; exact H
    clear H
    have H := H1
    clear H1
    obtain rfl := Option.some.inj H
    go_wp2
    go_ret
    exact ⟨_, by first | rfl | (simp [errW_none, errW_some] <;> rfl) | (simp [*, errW_none, errW_some] <;> rfl), (Kd.V_nil _ _ _ _ _), by repeat (first | exact HB.out | apply bN | apply b1 | apply bA)⟩
   ·replace c12 := Bool.eq_false_iff.mpr c12
    subst c12
    have H1 : (if 0 ≤ (wrap64 ((t175.length : Int) + (t178.length : Int))) then (if (wrap64 ((t175.length : Int) + (t178.length : Int)) : Int).toNat ≤ 70368744177664 then (nat_Mul.l0 kj4 t178 (List.replicate (wrap64 ((t175.length : Int) + (t178.length : Int)) : Int).toNat 0) t175 (t175.length : Int) 0) else (none)) else (none)) = some r := by rw [if_neg (show ¬ (false = true) by decide)] at H; exact H
    clear H
    have H := H1
    clear H1
    obtain ⟨ji13, hji13⟩ : ∃ j_ : Int, (wrap64 ((t175.length : Int) + (t178.length : Int))) = j_ := ⟨_, rfl⟩
    rw [hji13] at H
    have hji13w : (IntKind.i64.wrap ((t175.length : Int) + (t178.length : Int))) = ji13 := (i64_w _).trans hji13
    by_cases c14 : 0 ≤ (ji13)
    ·rw [if_pos c14] at H
     have c14b0 := eq_true c14
     have c14b1 := decide_eq_true c14
     clear c14
     by_cases c15 : (ji13 : Int).toNat ≤ 70368744177664
     ·rw [if_pos c15] at H
      have c15b0 := eq_true c15
      have c15b1 := decide_eq_true c15
      clear c15
      obtain ⟨y181, hy181⟩ : ∃ y_ : List Int, y_ = (List.replicate (ji13 : Int).toNat 0) := ⟨_, rfl⟩
      replace H : (nat_Mul.l0 kj4 t178 y181 t175 (t175.length : Int) 0) = some r := by rw [hy181]; exact H
      have Ny181 := mk0 hy181
      clear hy181
      have H' := mk0 H
      clear H
      obtain ⟨Ao16, co16, eo16⟩ := Kd.V_slice HO_5.out
      subst eo16
      obtain ⟨Ao17, co17, eo17⟩ := Kd.V_slice HO_6.out
      subst eo17
      go_wp2_with (first | ((with_reducible refine gate_dst (N := 30) rfl ?_); (try (refine gate_guard (by rfl) ?_; dsimp only)); refine Kd.R_make (Kd.int .u32) _ 87 rfl (N := 30) rfl 25 _ _ rfl ji13 rfl rfl Try.underlying25 (.int .u32 0) 4 info87 rfl (by decide) (by omega) 0 (ok := fun _ => True) (okp := fun _ => True) rfl (fun _ hk => hk) trivial (of_decide_eq_true (by assumption)) (Nat.le_trans (Nat.mul_le_mul_right _ (of_decide_eq_true (by assumption) : ji13.toNat ≤ 70368744177664)) (by omega)) (Below.refl _ _) (Nat.le_refl _) ?_; intro v182 w18 ho19 hb hg_ hnew_; clear hg_ hnew_; (first | rw [← Ny181.out] at ho19 | (simp only [Int.reduceToNat] at ho19; rw [← Ny181.out] at ho19)); replace HO_5 := mk0 (Kd.V_elder' HO_5.out (Rs ho19) hb); replace HO_6 := mk0 (Kd.V_elder' HO_6.out (Rs ho19) hb); have HO183 := mk0 (Rl (Kd.R_newM (M := fun k_ => (w.heap.size ≤ k_)) ho19 (bZ HB.out) (fun k_ h_ => h_)) (bZ HB.out)); replace HB := hbS HB hb; clear hb ho19))
      go_loopg [33] kj4 (fun kq v33 w' => ∃ (x7_2 : List Int) (x33_2 : Int), v33 = .int .i64 x33_2 ∧ Aside0 (nat_Mul.l0 kq t178 x7_2 t175 (t175.length : Int) x33_2 = some r) ∧ Aside0 (kq ≤ kj4) ∧ Aside0 (Kd.V (Kd.int .u32) 87 w' w.heap.size (fun k_ => ((P0_ k_ ∨ P1_ k_) ∨ w.heap.size ≤ k_) ∧ some k_ ≠ (v182 : Value).ownBlock) (.slice Ao17 t178.length co17) t178) ∧ Aside0 (Kd.R (Kd.int .u32) 87 w' w.heap.size (fun k_ => (w.heap.size ≤ k_)) v182 x7_2) ∧ Aside0 (Kd.V (Kd.int .u32) 87 w' w.heap.size (fun k_ => ((P0_ k_ ∨ P1_ k_) ∨ w.heap.size ≤ k_) ∧ some k_ ≠ (v182 : Value).ownBlock) (.slice Ao16 t175.length co16) t175) ∧ Aside0 (Below w.heap.size w w'))
      case atStart => exact ⟨(y181), (0), rfl, H', ⟨Nat.le_refl _⟩, ⟨HO_6.out⟩, ⟨Rm HO183.out (fun _ hk => hk.1)⟩, ⟨HO_5.out⟩, ⟨by repeat (first | exact HB.out | apply bN | apply b1 | apply bA)⟩⟩
      case round =>
       clear H'
       obtain ⟨x7_2, x33_2, rfl, HA, HK2, HO_6, HO_7, HO_31, HB⟩ := hrel
       cases gk with
       | zero => exact absurd HA.out (by simp [nat_Mul.l0])
       | succ k2 =>
        have H := HA.out
        clear HA
        simp only [nat_Mul.l0] at H
        by_cases c20 : x33_2 < (t175.length : Int)
        ·rw [if_pos c20] at H
         have c20b0 := decide_eq_true c20
         clear c20
         by_cases c21 : 0 ≤ x33_2
         ·rw [if_pos c21] at H
          have c21b0 := decide_eq_true c21
          clear c21
          by_cases c22 : x33_2 < (t175.length : Int)
          ·rw [if_pos c22] at H
           have c22b0 := decide_eq_true c22
           clear c22
           have H' := mk0 H
           clear H
           have p187 : 0 ≤ (x33_2 : Int) := of_decide_eq_true (by assumption)
           have q187 : x33_2 < (t175.length : Int) := of_decide_eq_true (by assumption)
           obtain ⟨ad187, e187, hx187_0⟩ := Kd.at_int (Kd.V_reads' HO_31.out).2.2 x33_2 p187 q187
           cases e187
           replace p187 := eq_true p187
           replace q187 := eq_true q187
           go_wp2
           go_loopg [10, 40] k2 (fun kq v10 v40 w' => ∃ (x7_3 : List Int) (x10_3 : Int) (x40_3 : Int), v10 = .int .u64 x10_3 ∧ v40 = .int .i64 x40_3 ∧ Aside0 (nat_Mul.l1 kq t178 x7_3 x33_2 (rd t175 x33_2) x10_3 t175 (t175.length : Int) x33_2 t178 (t178.length : Int) x40_3 = some r) ∧ Aside0 (kq ≤ k2) ∧ Aside0 (Kd.V (Kd.int .u32) 87 w' w.heap.size (fun k_ => ((P0_ k_ ∨ P1_ k_) ∨ w.heap.size ≤ k_) ∧ some k_ ≠ (v182 : Value).ownBlock) (.slice Ao17 t178.length co17) t178) ∧ Aside0 (Kd.R (Kd.int .u32) 87 w' w.heap.size (fun k_ => (w.heap.size ≤ k_)) v182 x7_3) ∧ Aside0 (Kd.V (Kd.int .u32) 87 w' w.heap.size (fun k_ => ((P0_ k_ ∨ P1_ k_) ∨ w.heap.size ≤ k_) ∧ some k_ ≠ (v182 : Value).ownBlock) (.slice (some ad187) t175.length co16) t175) ∧ Aside0 (Kd.V (Kd.int .u32) 87 w' w.heap.size (fun k_ => ((P0_ k_ ∨ P1_ k_) ∨ w.heap.size ≤ k_) ∧ some k_ ≠ (v182 : Value).ownBlock) (.slice Ao17 t178.length co17) t178) ∧ Aside0 (Below w.heap.size w w'))
           case atStart => exact ⟨(x7_2), (0), (0), rfl, rfl, H', ⟨Nat.le_refl _⟩, ⟨HO_6.out⟩, ⟨HO_7.out⟩, ⟨HO_31.out⟩, ⟨HO_6.out⟩, ⟨by repeat (first | exact HB.out | apply bN | apply b1 | apply bA)⟩⟩
           case round =>
            clear H'
            obtain ⟨x7_3, x10_3, x40_3, rfl, rfl, HA, HK3, HO_6, HO_7, HO_31, HO_38, HB⟩ := hrel
            cases gk with
            | zero => exact absurd HA.out (by simp [nat_Mul.l1])
            | succ k3 =>
             have H := HA.out
             clear HA
             simp only [nat_Mul.l1] at H
             by_cases c23 : x40_3 < (t178.length : Int)
             ·rw [if_pos c23] at H
              have c23b0 := decide_eq_true c23
              clear c23
              by_cases c24 : 0 ≤ x40_3
              ·rw [if_pos c24] at H
               have c24b0 := decide_eq_true c24
               clear c24
               by_cases c25 : x40_3 < (t178.length : Int)
               ·rw [if_pos c25] at H
                have c25b0 := decide_eq_true c25
                clear c25
                obtain ⟨ji26, hji26⟩ : ∃ j_ : Int, (wrap64 (x33_2 + x40_3)) = j_ := ⟨_, rfl⟩
                rw [hji26] at H
                have hji26w : (IntKind.i64.wrap (x33_2 + x40_3)) = ji26 := (i64_w _).trans hji26
                by_cases c27 : 0 ≤ (ji26)
                ·rw [if_pos c27] at H
                 have c27b0 := decide_eq_true c27
                 clear c27
                 by_cases c28 : (ji26) < (x7_3.length : Int)
                 ·rw [if_pos c28] at H
                  have c28b0 := decide_eq_true c28
                  clear c28
                  obtain ⟨y190, hy190⟩ : ∃ y_ : List Int, y_ = (x7_3.set ((ji26) : Int).toNat ((Go.bits .and .u64 (IntKind.u64.wrap (x10_3 + (IntKind.u64.wrap ((IntKind.u64.wrap ((IntKind.u64.wrap ((rd t175 x33_2))) * (IntKind.u64.wrap (rd t178 x40_3)))) + (IntKind.u64.wrap (rd x7_3 (ji26))))))) 4294967295) % 4294967296)) := ⟨_, rfl⟩
                  replace H : (nat_Mul.l1 k3 t178 y190 x33_2 (rd t175 x33_2) ((IntKind.u64.wrap (x10_3 + (IntKind.u64.wrap ((IntKind.u64.wrap ((IntKind.u64.wrap ((rd t175 x33_2))) * (IntKind.u64.wrap (rd t178 x40_3)))) + (IntKind.u64.wrap (rd x7_3 (ji26))))))) / 4294967296) t175 (t175.length : Int) x33_2 t178 (t178.length : Int) (wrap64 (x40_3 + 1))) = some r := by rw [hy190]; exact H
                  have Ny190 := mk0 hy190
                  clear hy190
                  have H' := mk0 H
                  clear H
                  have p188 : 0 ≤ (x40_3 : Int) := of_decide_eq_true (by assumption)
                  have q188 : x40_3 < (t178.length : Int) := of_decide_eq_true (by assumption)
                  obtain ⟨ad188, e188, hx188_0⟩ := Kd.at_int (Kd.V_reads' HO_38.out).2.2 x40_3 p188 q188
                  cases e188
                  replace p188 := eq_true p188
                  replace q188 := eq_true q188
                  obtain ⟨Ao30, co30, eo30⟩ := Kd.R_slice HO_7.out
                  subst eo30
                  have p189 : 0 ≤ ((ji26) : Int) := of_decide_eq_true (by assumption)
                  have q189 : (ji26) < (x7_3.length : Int) := of_decide_eq_true (by assumption)
                  obtain ⟨ad189, e189, hx189_0⟩ := Kd.at_int (Kd.R_reads' HO_7.out).2.2 (ji26) p189 q189
                  cases e189
                  replace p189 := eq_true p189
                  replace q189 := eq_true q189
                  have p29 : 0 ≤ ((ji26) : Int) := of_decide_eq_true (by assumption)
                  have q29 : ((ji26) : Int) < ((x7_3.length : Int) : Int) := of_decide_eq_true (by assumption)
                  obtain ⟨go29, co29, eo29, gb29, gl29, cl29, HG29⟩ := Kd.R_form HO_7.out (by omega)
                  (first | cases eo29 | (injection eo29 with ea_ en_ ec_; (first | subst ea_ | (injection ea_ with ea_; subst ea_)); subst ec_; clear en_))
                  have GB29 := mk0 gb29
                  have GG29 := mk0 HG29
                  clear gb29 gl29 HG29
                  (first | simp only [add_plain] at hx189_0 | skip)
                  obtain ⟨hx29_0, hf29_0⟩ := Kd.R_celln 0 HO_7.out ((ji26) : Int) p29 q29
                  replace p29 := eq_true p29
                  replace q29 := eq_true q29
                  have HP31 := Kd.R_putg HO_7.out ((ji26) : Int) ((Go.bits .and .u64 (IntKind.u64.wrap (x10_3 + (IntKind.u64.wrap ((IntKind.u64.wrap ((IntKind.u64.wrap ((rd t175 x33_2))) * (IntKind.u64.wrap (rd t178 x40_3)))) + (IntKind.u64.wrap (rd x7_3 (ji26))))))) 4294967295) % 4294967296)
                  go_wp2_with (first | ((with_reducible refine gate_store (t := 87) (p := 67) rfl ?_); refine store_event (t := 87) (p := 67) (v := ?vo_w32) (w1 := (wr.setCell ⟨go29, ((ji26) : Int).toNat, none⟩ (.int .u32 ((Go.bits .and .u64 (IntKind.u64.wrap (x10_3 + (IntKind.u64.wrap ((IntKind.u64.wrap ((IntKind.u64.wrap ((rd t175 x33_2))) * (IntKind.u64.wrap (rd t178 x40_3)))) + (IntKind.u64.wrap (rd x7_3 (ji26))))))) 4294967295) % 4294967296)))) ?hg ?ho ?hn ?hr ?_; (case ho => rfl); (case hg => rfl); (case hn => rfl); (case hr => go_simp <;> rfl); intro w32 hw; have hg : wr.grownBy w32 (some go29) := (by rw [hw]; exact HP31.2); have hp_ : Kd.R (Kd.int .u32) 87 w32 w.heap.size (fun k_ => (w.heap.size ≤ k_)) (.slice (some ⟨go29, 0, none⟩) x7_3.length co30) y190 := (by rw [hw, Ny190.out]; exact HP31.1); clear HP31; replace HO_6 := mk0 (Kd.V_afterv (v := (.slice (some ⟨go29, 0, none⟩) x7_3.length co30)) (v1 := (.slice (some ⟨go29, 0, none⟩) x7_3.length co30)) (ok := (fun k_ => ((P0_ k_ ∨ P1_ k_) ∨ w.heap.size ≤ k_))) HO_6.out hg (.inl rfl)); replace HO_7 := mk0 (hp_); replace HO_31 := mk0 (Kd.V_afterv (v := (.slice (some ⟨go29, 0, none⟩) x7_3.length co30)) (v1 := (.slice (some ⟨go29, 0, none⟩) x7_3.length co30)) (ok := (fun k_ => ((P0_ k_ ∨ P1_ k_) ∨ w.heap.size ≤ k_))) HO_31.out hg (.inl rfl)); replace HO_38 := mk0 (Kd.V_afterv (v := (.slice (some ⟨go29, 0, none⟩) x7_3.length co30)) (v1 := (.slice (some ⟨go29, 0, none⟩) x7_3.length co30)) (ok := (fun k_ => ((P0_ k_ ∨ P1_ k_) ∨ w.heap.size ≤ k_))) HO_38.out hg (.inl rfl)); replace HB := mk0 ((by rw [hw]; exact bS (HB.out) GB29.out : Below w.heap.size w w32)); clear hg hw hp_))
                  go_roundg k3
                  case measure => have := HJ4.out; have := HK2.out; have := HK3.out; omega
                  case rel => exact ⟨(y190), ((IntKind.u64.wrap (x10_3 + (IntKind.u64.wrap ((IntKind.u64.wrap ((IntKind.u64.wrap ((rd t175 x33_2))) * (IntKind.u64.wrap (rd t178 x40_3)))) + (IntKind.u64.wrap (rd x7_3 (ji26))))))) / 4294967296), (wrap64 (x40_3 + 1)), (by first | rfl | (simp; done) | (simp only [← hji26] <;> (first | rfl | simp)) | (simp [*]; done)), rfl, H', ⟨by have := HJ4.out; have := HK2.out; have := HK3.out; omega⟩, ⟨HO_6.out⟩, ⟨HO_7.out⟩, ⟨HO_31.out⟩, ⟨HO_38.out⟩, ⟨by repeat (first | exact HB.out | apply bN | apply b1 | apply bA)⟩⟩
                 ·rw [if_neg c28] at H
                  exact absurd H (by simp)
                ·rw [if_neg c27] at H
                 exact absurd H (by simp)
               ·rw [if_neg c25] at H
                exact absurd H (by simp)
              ·rw [if_neg c24] at H
               exact absurd H (by simp)
             ·rw [if_neg c23] at H
              have c23b0 := decide_eq_false c23
              clear c23
              obtain ⟨ji33, hji33⟩ : ∃ j_ : Int, (wrap64 (x33_2 + (t178.length : Int))) = j_ := ⟨_, rfl⟩
              rw [hji33] at H
              have hji33w : (IntKind.i64.wrap (x33_2 + (t178.length : Int))) = ji33 := (i64_w _).trans hji33
              by_cases c34 : 0 ≤ (ji33)
              ·rw [if_pos c34] at H
               have c34b0 := decide_eq_true c34
               clear c34
               by_cases c35 : (ji33) < (x7_3.length : Int)
               ·rw [if_pos c35] at H
                have c35b0 := decide_eq_true c35
                clear c35
                obtain ⟨y191, hy191⟩ : ∃ y_ : List Int, y_ = (x7_3.set ((ji33) : Int).toNat ((x10_3) % 4294967296)) := ⟨_, rfl⟩
                replace H : (nat_Mul.l0 k3 t178 y191 t175 (t175.length : Int) (wrap64 (x33_2 + 1))) = some r := by rw [hy191]; exact H
                have Ny191 := mk0 hy191
                clear hy191
                have H' := mk0 H
                clear H
                have p36 : 0 ≤ ((ji33) : Int) := of_decide_eq_true (by assumption)
                have q36 : ((ji33) : Int) < ((x7_3.length : Int) : Int) := of_decide_eq_true (by assumption)
                obtain ⟨go36, co36, eo36, gb36, gl36, cl36, HG36⟩ := Kd.R_form HO_7.out (by omega)
                (first | cases eo36 | (injection eo36 with ea_ en_ ec_; (first | subst ea_ | (injection ea_ with ea_; subst ea_)); subst ec_; clear en_))
                have GB36 := mk0 gb36
                have GG36 := mk0 HG36
                clear gb36 gl36 HG36
                obtain ⟨hx36_0, hf36_0⟩ := Kd.R_celln 0 HO_7.out ((ji33) : Int) p36 q36
                replace p36 := eq_true p36
                replace q36 := eq_true q36
                have HP37 := Kd.R_putg HO_7.out ((ji33) : Int) ((x10_3) % 4294967296)
                go_wp2_with (first | ((with_reducible refine gate_store (t := 87) (p := 78) rfl ?_); refine store_event (t := 87) (p := 78) (v := ?vo_w38) (w1 := (wr.setCell ⟨go36, ((ji33) : Int).toNat, none⟩ (.int .u32 ((x10_3) % 4294967296)))) ?hg ?ho ?hn ?hr ?_; (case ho => rfl); (case hg => rfl); (case hn => rfl); (case hr => go_simp <;> rfl); intro w38 hw; have hg : wr.grownBy w38 (some go36) := (by rw [hw]; exact HP37.2); have hp_ : Kd.R (Kd.int .u32) 87 w38 w.heap.size (fun k_ => (w.heap.size ≤ k_)) (.slice (some ⟨go36, 0, none⟩) x7_3.length co36) y191 := (by rw [hw, Ny191.out]; exact HP37.1); clear HP37; replace HO_6 := mk0 (Kd.V_afterv (v := (.slice (some ⟨go36, 0, none⟩) x7_3.length co36)) (v1 := (.slice (some ⟨go36, 0, none⟩) x7_3.length co36)) (ok := (fun k_ => ((P0_ k_ ∨ P1_ k_) ∨ w.heap.size ≤ k_))) HO_6.out hg (.inl rfl)); replace HO_7 := mk0 (hp_); replace HO_31 := mk0 (Kd.V_afterv (v := (.slice (some ⟨go36, 0, none⟩) x7_3.length co36)) (v1 := (.slice (some ⟨go36, 0, none⟩) x7_3.length co36)) (ok := (fun k_ => ((P0_ k_ ∨ P1_ k_) ∨ w.heap.size ≤ k_))) HO_31.out hg (.inl rfl)); replace HO_38 := mk0 (Kd.V_afterv (v := (.slice (some ⟨go36, 0, none⟩) x7_3.length co36)) (v1 := (.slice (some ⟨go36, 0, none⟩) x7_3.length co36)) (ok := (fun k_ => ((P0_ k_ ∨ P1_ k_) ∨ w.heap.size ≤ k_))) HO_38.out hg (.inl rfl)); replace HB := mk0 ((by rw [hw]; exact bS (HB.out) GB36.out : Below w.heap.size w w38)); clear hg hw hp_))
                go_roundg k3
                case measure => have := HJ4.out; have := HK2.out; have := HK3.out; omega
                case rel => exact ⟨(y191), (wrap64 (x33_2 + 1)), rfl, H', ⟨by have := HJ4.out; have := HK2.out; have := HK3.out; omega⟩, ⟨HO_6.out⟩, ⟨HO_7.out⟩, ⟨HO_31.out⟩, ⟨by repeat (first | exact HB.out | apply bN | apply b1 | apply bA)⟩⟩
               ·rw [if_neg c35] at H
                exact absurd H (by simp)
              ·rw [if_neg c34] at H
               exact absurd H (by simp)
          ·rw [if_neg c22] at H
           exact absurd H (by simp)
         ·rw [if_neg c21] at H
          exact absurd H (by simp)
        ·rw [if_neg c20] at H
         have c20b0 := decide_eq_false c20
         clear c20
         obtain ⟨t184, A39, H⟩ := bindA H
         obtain rfl := Option.some.inj H
         obtain ⟨Ao40, co40, eo40⟩ := Kd.R_slice HO_7.out
         subst eo40
         go_wp2_with (first | ((with_reducible refine gate_callee (f := 81) rfl ?_); refine goA 81 Try.func81 #[.slice Ao40 x7_2.length co40] ?_; (with_reducible refine (nat_trim.calls k2 (fun k_ => some k_ = (.slice Ao40 x7_2.length co40 : Value).ownBlock) _ _ x7_2 t184 _ (by exact Kd.R_V (Kd.R_tight rfl (HO_7.out))) A39.out).mono ?_); rintro e w41 ⟨v185, rfl, ho0, hb⟩; refine ⟨_, rfl, ?_⟩; replace HO_6 := mk0 (Kd.V_below HO_6.out hb); replace HO_31 := mk0 (Kd.V_below HO_31.out hb); have HO186 := mk0 (Vl (Vm (ok' := fun k_ => ((P0_ k_ ∨ P1_ k_) ∨ w.heap.size ≤ k_)) ho0 (fun k_ hk_ => Or.elim hk_ (fun hs_ => (.inr (((HO_7.out).1 k_ hs_.symm)))) (fun hn_ => (.inr (Nat.le_trans (bZ HB.out) hn_))))) (bZ HB.out)); replace HO_7 := rB HO_7 hb; replace HB := hbS HB hb))
         go_ret
         exact ⟨_, by first | rfl | (simp [errW_none, errW_some] <;> rfl) | (simp only [← hji13]; first | rfl | (simp [errW_none, errW_some] <;> rfl)) | (simp [*, errW_none, errW_some] <;> rfl), HO186.out, by repeat (first | exact HB.out | apply bN | apply b1 | apply bA)⟩
     ·rw [if_neg c15] at H
      exact absurd H (by simp)
    ·rw [if_neg c14] at H
     exact absurd H (by simp)
def integer_Mul.T1 : Bool × List (List Nat × List Nat) := (true, [([], []), ([0], [0]), ([], []), ([2], [2]), ([1, 3], [1, 3]), ([], []), ([5], [5]), ([], []), ([7], [7]), ([6, 8], [6, 8]), ([4, 9, 9], [4, 9]), ([10, 10, 0, 1, 2, 3, 4, 5, 6, 7, 8, 9, 10], [10])])
def integer_Mul.B1 : List Nat := [0, 1, 0, 4, 15, 0, 32, 0, 128, 480, 1023, 2047]
theorem integer_Mul.tab1 : rtab .any (opsOf Try.f52 1) = integer_Mul.T1 := by kernel_rfl
theorem integer_Mul.bits1 : waitsOk integer_Mul.T1.2 integer_Mul.B1 = true := by kernel_rfl
set_option maxHeartbeats 8000000 in
set_option maxRecDepth 100000 in
theorem integer_Mul.calls (k : Nat) (a0_0 : Bool) (A0_1 : Option Addr) (c0_1 : Nat) (l0_1 : List Int) (a1_0 : Bool) (A1_1 : Option Addr) (c1_1 : Nat) (l1_1 : List Int) (r1 : Bool) (r2 : List Int) (w : World) (hr0_1 : Kd.C (Kd.int .u32) w A0_1 l0_1.length l0_1) (hc0_1 : l0_1.length ≤ c0_1) (hr1_1 : Kd.C (Kd.int .u32) w A1_1 l1_1.length l1_1) (hc1_1 : l1_1.length ≤ c1_1) (h : integer_Mul.f k a0_0 l0_1 a1_0 l1_1 = some (r1, r2)) :
  Calls Try.prog 52 #[.agg #[.bool a0_0, .slice A0_1 l0_1.length c0_1], .agg #[.bool a1_0, .slice A1_1 l1_1.length c1_1]] w fun e w' => ∃ v1_ : Value, e = .returned (.agg #[.bool r1, v1_]) ∧ Kd.R (Kd.int .u32) 87 w' w.heap.size (fun _ => True) v1_ r2 ∧ Below w.heap.size w w' := by
 have hu27 := Try.underlying27
 have HR0_1 := mk0 hr0_1
 have HC0_1 := mk0 hc0_1
 clear hr0_1 hc0_1
 have HR1_1 := mk0 hr1_1
 have HC1_1 := mk0 hc1_1
 clear hr1_1 hc1_1
 have HB := mk0 (Below.refl w.heap.size w)
 have H : ((nat_Mul.f k l0_1 l1_1).bind fun t195 => ((integer_Make.f k (a0_0 != a1_0) t195).bind fun bt198 => (some (bt198.1, bt198.2)))) = some (r1, r2) := h
 clear h
 obtain ⟨t195, A3, H⟩ := bindA H
 obtain ⟨⟨t198, t199⟩, A4, H⟩ := bindA H
 simp only [Option.some.injEq, Prod.mk.injEq] at H
 obtain ⟨rfl, rfl⟩ := H
 go_enter Try.func52, Try.ntmps52
 try go_wp2_with (first | ((with_reducible refine gate_dst (N := 2) rfl ?_); refine box_event rfl (N := 2) rfl (cs := #[.bool a0_0, .slice A0_1 l0_1.length c0_1]) (t := 27) (by go_simp <;> rfl) ?_; intro gb192 hg w5 hbox hb; have BK192 := mk0 (hbox); have GE192 := geB hg HB; replace HB := hbS HB hb; clear hb hbox hg) | ((with_reducible refine gate_dst (N := 3) rfl ?_); refine box_event rfl (N := 3) rfl (cs := #[.bool a1_0, .slice A1_1 l1_1.length c1_1]) (t := 27) (by go_simp <;> rfl) ?_; intro gb193 hg w6 hbox hb; have BK193 := mk0 (hbox); have GE193 := geB hg HB; replace HB := hbS HB hb; replace BK192 := bkB BK192 hb; clear hb hbox hg) | ((with_reducible refine gate_dst (N := 4) rfl ?_); refine box_event rfl (N := 4) rfl (cs := #[.bool false, .slice none 0 0]) (t := 27) (by go_simp <;> rfl) ?_; intro gb194 hg w7 hbox hb; have BK194 := mk0 (hbox); have GE194 := geB hg HB; replace HB := hbS HB hb; have NB192_194 := nbA hg BK192; have NB194_192 := nbB hg BK192; replace BK192 := bkB BK192 hb; have NB193_194 := nbA hg BK193; have NB194_193 := nbB hg BK193; replace BK193 := bkB BK193 hb; clear hb hbox hg))
 replace BK192 := mk0 (blk_drew BK192.out)
 replace BK193 := mk0 (blk_drew BK193.out)
 replace BK194 := mk0 (blk_drew BK194.out)
 replace HB := mk0 (b1 HB.out)
 refine start_ (n := 12) (S := fun w' => w'.cell? ⟨gb192, 0, none⟩ = some (.bool a0_0) ∧ w'.cell? ⟨gb192, 1, none⟩ = some (.slice A0_1 l0_1.length c0_1) ∧ w'.cell? ⟨gb193, 0, none⟩ = some (.bool a1_0) ∧ w'.cell? ⟨gb193, 1, none⟩ = some (.slice A1_1 l1_1.length c1_1)) (ds := []) (bv 12 0) (by kernel_rfl) rfl rfl ⟨(blk_cell BK192.out 0).trans rfl, (blk_cell BK192.out 1).trans rfl, (blk_cell BK193.out 0).trans rfl, (blk_cell BK193.out 1).trans rfl⟩ (fun hHeld => ?_); refine with_tabW integer_Mul.tab1 integer_Mul.bits1 (fun HT_ HW_ => ?_)
 generalize w7.drew = w8 at BK192 BK193 BK194 HB hHeld ⊢
 refine puA (i := 0) (N := 5) (v := ?_) (a' := ?_) (bv 12 1) HT_ ?_ ?_ ?_; rotate_left; (intro w'; go_simp; with_reducible rfl); rotate_left; (simp only [Act.put, sA, sZ, sS, i64_w, i32_w]; rfl)
 refine puA (i := 2) (N := 7) (v := ?_) (a' := ?_) (bv 12 5) HT_ ?_ ?_ ?_; rotate_left; (intro w'; go_simp; with_reducible rfl); rotate_left; (simp only [Act.put, sA, sZ, sS, i64_w, i32_w]; rfl)
 refine puA (i := 5) (N := 10) (v := ?_) (a' := ?_) (bv 12 37) HT_ ?_ ?_ ?_; rotate_left; (intro w'; go_simp; with_reducible rfl); rotate_left; (simp only [Act.put, sA, sZ, sS, i64_w, i32_w]; rfl)
 refine puA (i := 7) (N := 12) (v := ?_) (a' := ?_) (bv 12 165) HT_ ?_ ?_ ?_; rotate_left; (intro w'; go_simp; with_reducible rfl); rotate_left; (simp only [Act.put, sA, sZ, sS, i64_w, i32_w]; rfl)
 refine take_ (i := 1) (N := some 6) (v := ?_) (a' := ?_) (bv 12 167) rfl rfl (take_ofW HT_.out HW_.out (by kernel_rfl)) (fun _ _ _ h => h) (Or.inl ⟨by rfl, ?_⟩) hHeld ?_ ?_; rotate_left; (rintro w' ⟨s0, s1, s2, s3⟩; go_simp; with_reducible rfl); rotate_left; (simp only [Act.put, sA, sZ, sS, i64_w, i32_w]; rfl)
 refine take_ (i := 3) (N := some 8) (v := ?_) (a' := ?_) (bv 12 175) rfl rfl (take_ofW HT_.out HW_.out (by kernel_rfl)) (fun _ _ _ h => h) (Or.inl ⟨by rfl, ?_⟩) hHeld ?_ ?_; rotate_left; (rintro w' ⟨s0, s1, s2, s3⟩; go_simp; with_reducible rfl); rotate_left; (simp only [Act.put, sA, sZ, sS, i64_w, i32_w]; rfl)
 refine puA (i := 4) (N := 9) (v := ?_) (a' := ?_) (bv 12 191) HT_ ?_ ?_ ?_; rotate_left; (intro w'; go_simp; with_reducible rfl); rotate_left; (simp only [Act.put, sA, sZ, sS, i64_w, i32_w]; rfl)
 refine take_ (i := 6) (N := some 11) (v := ?_) (a' := ?_) (bv 12 255) rfl rfl (take_ofW HT_.out HW_.out (by kernel_rfl)) (fun _ _ _ h => h) (Or.inl ⟨by rfl, ?_⟩) hHeld ?_ ?_; rotate_left; (rintro w' ⟨s0, s1, s2, s3⟩; go_simp; with_reducible rfl); rotate_left; (simp only [Act.put, sA, sZ, sS, i64_w, i32_w]; rfl)
 refine take_ (i := 8) (N := some 13) (v := ?_) (a' := ?_) (bv 12 511) rfl rfl (take_ofW HT_.out HW_.out (by kernel_rfl)) (fun _ _ _ h => h) (Or.inl ⟨by rfl, ?_⟩) hHeld ?_ ?_; rotate_left; (rintro w' ⟨s0, s1, s2, s3⟩; go_simp; with_reducible rfl); rotate_left; (simp only [Act.put, sA, sZ, sS, i64_w, i32_w]; rfl)
 refine one_ (i := 9) (N := some 14) (bv 12 1023) rfl rfl (one_of HT_.out (by kernel_rfl)) (by decide) (fun K hK => ?_)
 refine goes_ Try.func54 (by kernel_rfl) rfl #[.slice A0_1 l0_1.length c0_1, .slice A1_1 l1_1.length c1_1] (by rfl) rfl rfl (by (try simp only [mA, mC, mN]); first | done | rfl | (simp only [lD, lT]; rfl)) ?_
 with_reducible refine (nat_Mul.calls k (fun k_ => k_ < w.heap.size) _ _ l0_1 (fun k_ => k_ < w.heap.size) _ _ l1_1 t195 _ ?side1 ?side2 A3.out).mono ?_
 (case side1 => exact Kd.V_mk HC0_1.out (Kd.F_below (Kd.C_F (Kd.heap_int .u32) HR0_1.out) HB.out))
 (case side2 => exact Kd.V_mk HC1_1.out (Kd.F_below (Kd.C_F (Kd.heap_int .u32) HR1_1.out) HB.out))
 rintro e w9 ⟨v196, rfl, ho0, hb⟩
 refine ⟨_, rfl, ?_⟩
 have HO197 := mk0 (Vl (Vm (ok' := fun k_ => k_ ≠ gb192 ∧ k_ ≠ gb193 ∧ k_ ≠ gb194) ho0 (fun k_ hk_ => ⟨Or.elim hk_ (fun hs_ => Or.elim hs_ (fun hs_ => fun e_ => Nat.not_le.2 hs_ (by rw [e_]; exact GE192.out)) (fun hs_ => fun e_ => Nat.not_le.2 hs_ (by rw [e_]; exact GE192.out))) (fun hn_ => (Kd.freshB BK192.out k_ hn_)), Or.elim hk_ (fun hs_ => Or.elim hs_ (fun hs_ => fun e_ => Nat.not_le.2 hs_ (by rw [e_]; exact GE193.out)) (fun hs_ => fun e_ => Nat.not_le.2 hs_ (by rw [e_]; exact GE193.out))) (fun hn_ => (Kd.freshB BK193.out k_ hn_)), Or.elim hk_ (fun hs_ => Or.elim hs_ (fun hs_ => fun e_ => Nat.not_le.2 hs_ (by rw [e_]; exact GE194.out)) (fun hs_ => fun e_ => Nat.not_le.2 hs_ (by rw [e_]; exact GE194.out))) (fun hn_ => (Kd.freshB BK194.out k_ hn_))⟩)) (bZ HB.out))
 replace BK192 := bkB BK192 hb
 replace BK193 := bkB BK193 hb
 replace BK194 := bkB BK194 hb
 replace HB := mk0 (below_step HB.out hb)
 obtain ⟨Ao10, co10, eo10⟩ := Kd.V_slice HO197.out
 (first | subst eo10 | (injection eo10 with f1_ f2_ f3_; have f4_ := f1_.symm; have f5_ := f3_.symm; clear f1_ f2_ f3_; subst f4_; subst f5_))
 refine hK.out _ _ ⟨(blk_cell BK192.out 0).trans rfl, (blk_cell BK192.out 1).trans rfl, (blk_cell BK193.out 0).trans rfl, (blk_cell BK193.out 1).trans rfl⟩ (fun hHeld => ?_)
 clear hK K
 refine norm_ (a' := ?_) ?_ ?_
 rotate_left
 ·show Act.put _ (some 14) _ = _
  simp only [Act.put, sA, sZ, sS, i64_w, i32_w]
  rfl
 refine one_ (i := 10) (N := some 15) (bv 12 2047) rfl rfl (one_of HT_.out (by kernel_rfl)) (by decide) (fun K hK => ?_)
 refine goes_ Try.func78 (by kernel_rfl) rfl #[.bool (a0_0 != a1_0), .slice Ao10 t195.length co10] (by rfl) rfl rfl (by (try simp only [mA, mC, mN]); first | done | rfl | (simp only [lD, lT]; rfl)) ?_
 with_reducible refine (integer_Make.calls k (a0_0 != a1_0) _ _ t195 t198 t199 _ ?side1 ?side2 A4.out).mono ?_
 (case side1 => repeat (first | exact (Kd.V_reads' HO197.out).2.2 | (with_reducible refine Kd.C_alloc ?_ _) | (with_reducible refine Kd.C_drewN ?_ _) | (with_reducible refine Kd.C_drew ?_)))
 (case side2 => exact (Kd.V_reads' HO197.out).2.1)
 rintro e w11 ⟨v200, rfl, ho0, hb⟩
 refine ⟨_, rfl, ?_⟩
 replace HO197 := mk0 (Kd.V_elder' HO197.out (Rs ho0) hb)
 have HO201 := mk0 (Rl ho0 (bZ HB.out))
 replace BK192 := bkB BK192 hb
 replace BK193 := bkB BK193 hb
 replace BK194 := bkB BK194 hb
 replace HB := mk0 (below_step HB.out hb)
 obtain ⟨Ao13, co13, eo13⟩ := Kd.R_slice HO201.out
 (first | subst eo13 | (injection eo13 with f1_ f2_ f3_; have f4_ := f1_.symm; have f5_ := f3_.symm; clear f1_ f2_ f3_; subst f4_; subst f5_))
 refine hK.out _ _ ⟨(blk_cell BK192.out 0).trans rfl, (blk_cell BK192.out 1).trans rfl, (blk_cell BK193.out 0).trans rfl, (blk_cell BK193.out 1).trans rfl⟩ (fun hHeld => ?_)
 clear hK K
 refine norm_ (a' := ?_) ?_ ?_
 rotate_left
 ·show Act.put _ (some 15) _ = _
  simp only [Act.put, sA, sZ, sS, i64_w, i32_w]
  rfl
 refine one_ (i := 11) (N := none) (bv 12 4095) rfl rfl (one_of HT_.out (by kernel_rfl)) (by decide) (fun K hK => ?_)
 have hs12 : w11.cell? ⟨gb194, 0, none⟩ = some (.bool false) := (blk_cell BK194.out 0).trans rfl
 have hfs12 := blk_frozen BK194.out 0
 have hns12_0 := NB192_194.out
 have hns12_1 := NB193_194.out
 have hms12_0 := NB194_192.out
 have hms12_1 := NB194_193.out
 have hs14 : w11.cell? ⟨gb194, 1, none⟩ = some (.slice none 0 0) := (blk_cell BK194.out 1).trans rfl
 have hfs14 := blk_frozen BK194.out 1
 have hns14_0 := NB192_194.out
 have hns14_1 := NB193_194.out
 have hms14_0 := NB194_192.out
 have hms14_1 := NB194_193.out
 refine skip_ (w1 := ?_) (by rfl) rfl ?_ ?_
 rotate_left
 ·go_simp
  rfl
 refine hK.out _ _ ⟨((cell_far (p := ⟨gb194, _, none⟩) NB192_194.out _).trans (((cell_far (p := ⟨gb194, _, none⟩) NB192_194.out _).trans (hHeld.1)))), ((cell_far (p := ⟨gb194, _, none⟩) NB192_194.out _).trans (((cell_far (p := ⟨gb194, _, none⟩) NB192_194.out _).trans (hHeld.2.1)))), ((cell_far (p := ⟨gb194, _, none⟩) NB193_194.out _).trans (((cell_far (p := ⟨gb194, _, none⟩) NB193_194.out _).trans (hHeld.2.2.1)))), ((cell_far (p := ⟨gb194, _, none⟩) NB193_194.out _).trans (((cell_far (p := ⟨gb194, _, none⟩) NB193_194.out _).trans (hHeld.2.2.2))))⟩ (fun hHeld => ?_)
 clear hK K
 refine done_ (done_of HT_.out (by kernel_rfl)) ?_
 try go_wp2
 refine bodyPost_ret (results_cell_row rfl _ _ gb194 27 #[.bool t198, .slice Ao13 t199.length co13] (0, 0) _ rfl (by refine blk_put (cs := #[.bool t198, .slice none 0 0]) ?_ 1 _ rfl; refine blk_put (cs := #[.bool false, .slice none 0 0]) ?_ 0 _ rfl; exact BK194.out) Try.underlying27 rfl (by kernel_rfl)) rfl ?_
 exact ⟨_, by first | rfl | (simp [errW_none, errW_some] <;> rfl) | (simp [*, errW_none, errW_some] <;> rfl), Rm (Rg 1 (Rg 0 (Rt HO201.out BK194.out (by decide)) (.bool t198)) (.slice Ao13 t199.length co13)) tv, by repeat (first | exact HB.out | apply bN | apply b1 | apply bA | refine bS ?_ GE192.out | refine bS ?_ GE193.out | refine bS ?_ GE194.out)⟩
def ratio_Cmp.T3 : Bool × List (List Nat × List Nat) := (true, [([], []), ([], []), ([0, 1], [0, 1]), ([], []), ([], []), ([3, 4, 2], [3, 4]), ([2, 5, 5], [2, 5]), ([6, 6, 0, 1, 2, 3, 4, 5, 6], [6])])
def ratio_Cmp.B3 : List Nat := [0, 0, 3, 0, 0, 31, 63, 127]
theorem ratio_Cmp.tab3 : rtab .any (opsOf Try.f26 3) = ratio_Cmp.T3 := by kernel_rfl
theorem ratio_Cmp.bits3 : waitsOk ratio_Cmp.T3.2 ratio_Cmp.B3 = true := by kernel_rfl
set_option maxHeartbeats 8000000 in
set_option maxRecDepth 100000 in
theorem ratio_Cmp.calls (k : Nat) (a0_0 : Bool) (A0_1 : Option Addr) (c0_1 : Nat) (l0_1 : List Int) (A0_2 : Option Addr) (c0_2 : Nat) (l0_2 : List Int) (a1_0 : Bool) (A1_1 : Option Addr) (c1_1 : Nat) (l1_1 : List Int) (A1_2 : Option Addr) (c1_2 : Nat) (l1_2 : List Int) (r : Int) (w : World) (hr0_1 : Kd.C (Kd.int .u32) w A0_1 l0_1.length l0_1) (hc0_1 : l0_1.length ≤ c0_1) (hr0_2 : Kd.C (Kd.int .u32) w A0_2 l0_2.length l0_2) (hc0_2 : l0_2.length ≤ c0_2) (hr1_1 : Kd.C (Kd.int .u32) w A1_1 l1_1.length l1_1) (hc1_1 : l1_1.length ≤ c1_1) (hr1_2 : Kd.C (Kd.int .u32) w A1_2 l1_2.length l1_2) (hc1_2 : l1_2.length ≤ c1_2) (h : ratio_Cmp.f k a0_0 l0_1 l0_2 a1_0 l1_1 l1_2 = some r) :
  Calls Try.prog 26 #[.agg #[.bool a0_0, .slice A0_1 l0_1.length c0_1, .slice A0_2 l0_2.length c0_2], .agg #[.bool a1_0, .slice A1_1 l1_1.length c1_1, .slice A1_2 l1_2.length c1_2]] w fun e w' => e = .returned (.int .i64 r) ∧ Below w.heap.size w w' := by
 have hu29 := Try.underlying29
 have hu27 := Try.underlying27
 have HR0_1 := mk0 hr0_1
 have HC0_1 := mk0 hc0_1
 clear hr0_1 hc0_1
 have HR0_2 := mk0 hr0_2
 have HC0_2 := mk0 hc0_2
 clear hr0_2 hc0_2
 have HR1_1 := mk0 hr1_1
 have HC1_1 := mk0 hc1_1
 clear hr1_1 hc1_1
 have HR1_2 := mk0 hr1_2
 have HC1_2 := mk0 hc1_2
 clear hr1_2 hc1_2
 have HB := mk0 (Below.refl w.heap.size w)
 have H : ((ratio_parts.f k a0_0 l0_1 l0_2).bind fun bt204 => ((ratio_parts.f k a1_0 l1_1 l1_2).bind fun bt214 => ((integer_Mul.f k bt204.1 bt204.2.1 bt214.2.2.1 bt214.2.2.2).bind fun bt224 => ((integer_Mul.f k bt214.1 bt214.2.1 bt204.2.2.1 bt204.2.2.2).bind fun bt228 => ((integer_Cmp.f k bt224.1 bt224.2 bt228.1 bt228.2).bind fun t232 => (some t232)))))) = some r := h
 clear h
 obtain ⟨⟨t204, t205, t208, t209⟩, A3, H⟩ := bindA H
 obtain ⟨⟨t214, t215, t218, t219⟩, A4, H⟩ := bindA H
 obtain ⟨⟨t224, t225⟩, A5, H⟩ := bindA H
 obtain ⟨⟨t228, t229⟩, A6, H⟩ := bindA H
 obtain ⟨t232, A7, H⟩ := bindA H
 obtain rfl := Option.some.inj H
 go_enter Try.func26, Try.ntmps26
 try go_wp2_with (first | ((with_reducible refine gate_dst (N := 2) rfl ?_); refine box_event rfl (N := 2) rfl (cs := #[.bool a0_0, .slice A0_1 l0_1.length c0_1, .slice A0_2 l0_2.length c0_2]) (t := 29) (by go_simp <;> rfl) ?_; intro gb202 hg w8 hbox hb; have BK202 := mk0 (hbox); have GE202 := geB hg HB; replace HB := hbS HB hb; clear hb hbox hg) | ((with_reducible refine gate_dst (N := 3) rfl ?_); refine box_event rfl (N := 3) rfl (cs := #[.bool a1_0, .slice A1_1 l1_1.length c1_1, .slice A1_2 l1_2.length c1_2]) (t := 29) (by go_simp <;> rfl) ?_; intro gb203 hg w9 hbox hb; have BK203 := mk0 (hbox); have GE203 := geB hg HB; replace HB := hbS HB hb; have NB202_203 := nbA hg BK202; have NB203_202 := nbB hg BK202; replace BK202 := bkB BK202 hb; clear hb hbox hg; have hnb10 := NB202_203.out; have hnc10 := NB203_202.out; obtain ⟨hcz11_0, hcz11_1, hcz11_2, hfz11_0, hfz11_1, hfz11_2⟩ := cz3 BK202) | ((with_reducible refine gate_callee (f := 36) rfl ?_); refine goA 11 Try.func36 #[.agg #[.bool a0_0, .slice A0_1 l0_1.length c0_1, .slice A0_2 l0_2.length c0_2]] ?_; (with_reducible refine (ratio_parts.calls k a0_0 (fun k_ => k_ < w.heap.size) _ _ l0_1 _ _ l0_2 t204 t205 t208 t209 _ (by exact Kd.V_mk HC0_1.out (Kd.F_below (Kd.C_F (Kd.heap_int .u32) HR0_1.out) HB.out)) (by exact Cb HR0_2.out HB.out) HC0_2.out A3.out).mono ?_); rintro e w12 ⟨v206, v210, rfl, ho0, ho1, hb⟩; refine ⟨_, rfl, ?_⟩; have HO207 := mk0 (Vl (Vm (ok' := fun k_ => some k_ ≠ (v210 : Value).ownBlock ∧ k_ ≠ gb202 ∧ k_ ≠ gb203) ho0 (fun k_ hk_ => ⟨hk_.2, Or.elim hk_.1 (fun hs_ => fun e_ => Nat.not_le.2 hs_ (by rw [e_]; exact GE202.out)) (fun hn_ => (Kd.freshB BK202.out k_ hn_)), Or.elim hk_.1 (fun hs_ => fun e_ => Nat.not_le.2 hs_ (by rw [e_]; exact GE203.out)) (fun hn_ => (Kd.freshB BK203.out k_ hn_))⟩)) (bZ HB.out)); have HO211 := mk0 (Rl (Rm (ok' := fun k_ => True) ho1 tv) (bZ HB.out)); replace BK202 := bkB BK202 hb; replace BK203 := bkB BK203 hb; replace HB := hbS HB hb) | ((with_reducible refine gate_dst (N := 5) rfl ?_); refine box_event rfl (N := 5) rfl (cs := #[.bool false, .slice none 0 0]) (t := 27) (by go_simp <;> rfl) ?_; intro gb212 hg w13 hbox hb; replace HO207 := vB HO207 hg hb; replace HO211 := rB HO211 hb; have BK212 := mk0 (hbox); have GE212 := geB hg HB; replace HB := hbS HB hb; have NB202_212 := nbA hg BK202; have NB212_202 := nbB hg BK202; replace BK202 := bkB BK202 hb; have NB203_212 := nbA hg BK203; have NB212_203 := nbB hg BK203; replace BK203 := bkB BK203 hb; clear hb hbox hg) | ((with_reducible refine gate_dst (N := 6) rfl ?_); refine box_event rfl (N := 6) rfl (cs := #[.bool false, .slice none 0 0]) (t := 27) (by go_simp <;> rfl) ?_; intro gb213 hg w14 hbox hb; replace HO207 := vB HO207 hg hb; replace HO211 := rB HO211 hb; have BK213 := mk0 (hbox); have GE213 := geB hg HB; replace HB := hbS HB hb; have NB202_213 := nbA hg BK202; have NB213_202 := nbB hg BK202; replace BK202 := bkB BK202 hb; have NB203_213 := nbA hg BK203; have NB213_203 := nbB hg BK203; replace BK203 := bkB BK203 hb; have NB212_213 := nbA hg BK212; have NB213_212 := nbB hg BK212; replace BK212 := bkB BK212 hb; clear hb hbox hg; have hnb15 := NB212_202.out; have hnc15 := NB202_212.out; have hnb16 := NB212_203.out; have hnc16 := NB203_212.out; have hnb17 := NB212_213.out; have hnc17 := NB213_212.out; obtain ⟨hcz18_0, hcz18_1, hfz18_0, hfz18_1⟩ := cz2 BK212; obtain ⟨Ao19, co19, eo19⟩ := Kd.V_slice HO207.out; subst eo19) | ((with_reducible refine gate_store (t := 27) (p := 5) rfl ?_); refine store_event (t := 27) (p := 5) (v := ?vo_w20) (w1 := ((w14.setCell ⟨gb212, 0, none⟩ (.bool t204)).setCell ⟨gb212, 1, none⟩ (.slice Ao19 t205.length co19))) ?hg ?ho ?hn ?hr ?_; (case ho => rfl); (case hg => rfl); (case hn => rfl); (case hr => go_simp <;> rfl); intro w20 hw; replace HO207 : Aside0 (Kd.V (Kd.int .u32) 87 w20 w.heap.size (fun k_ => some k_ ≠ (v210 : Value).ownBlock ∧ k_ ≠ gb202 ∧ k_ ≠ gb203 ∧ k_ ≠ gb212 ∧ k_ ≠ gb213) (.slice Ao19 t205.length co19) t205) := ⟨(by rw [hw]; exact (Vm (Vf (p := ⟨gb212, 1, none⟩) (Vf (p := ⟨gb212, 0, none⟩) (Vm HO207.out (fun k_ hk => (⟨hk, hk.1.2⟩ : _ ∧ k_ ≠ gb212))) (fun _ hk => hk.2) (.bool t204)) (fun _ hk => hk.2) (.slice Ao19 t205.length co19)) (fun _ hk => ⟨hk.1.1.1.1, ⟨hk.1.1.1.2.1, ⟨hk.1.1.1.2.2, ⟨hk.1.1.2, hk.1.2⟩⟩⟩⟩)))⟩; replace HO211 : Aside0 (Kd.R (Kd.int .u32) 87 w20 w.heap.size (fun _ => True) v210 t209) := ⟨(by rw [hw]; exact (Rm (Rg 1 (Rg 0 (Rd HO211.out BK212) (.bool t204)) (.slice Ao19 t205.length co19)) tv))⟩; replace BK202 : Aside0 (w20.heap[gb202]? = some (.cells #[.bool a0_0, .slice A0_1 l0_1.length c0_1, .slice A0_2 l0_2.length c0_2] 29 (0, 0))) := ⟨(by rw [hw]; exact (by refine blk_far ?_ NB202_212.out _; refine blk_far ?_ NB202_212.out _; exact BK202.out))⟩; replace BK203 : Aside0 (w20.heap[gb203]? = some (.cells #[.bool a1_0, .slice A1_1 l1_1.length c1_1, .slice A1_2 l1_2.length c1_2] 29 (0, 0))) := ⟨(by rw [hw]; exact (by refine blk_far ?_ NB203_212.out _; refine blk_far ?_ NB203_212.out _; exact BK203.out))⟩; replace BK212 : Aside0 (w20.heap[gb212]? = some (.cells #[.bool t204, .slice Ao19 t205.length co19] 27 (0, 0))) := ⟨(by rw [hw]; exact (by refine blk_put (cs := #[.bool t204, .slice none 0 0]) ?_ 1 _ rfl; refine blk_put (cs := #[.bool false, .slice none 0 0]) ?_ 0 _ rfl; exact BK212.out))⟩; replace BK213 : Aside0 (w20.heap[gb213]? = some (.cells #[.bool false, .slice none 0 0] 27 (0, 0))) := ⟨(by rw [hw]; exact (by refine blk_far ?_ NB213_212.out _; refine blk_far ?_ NB213_212.out _; exact BK213.out))⟩; replace HB : Aside0 (Below w.heap.size w w20) := ⟨(by rw [hw]; exact (by repeat (first | exact HB.out | refine bS ?_ GE212.out | refine bS ?_ GE213.out)))⟩; clear hw; have hnb21 := NB213_202.out; have hnc21 := NB202_213.out; have hnb22 := NB213_203.out; have hnc22 := NB203_213.out; obtain ⟨hcz23_0, hcz23_1, hfz23_0, hfz23_1⟩ := cz2 BK213; obtain ⟨Ao24, co24, eo24⟩ := Kd.R_slice HO211.out; subst eo24) | ((with_reducible refine gate_store (t := 27) (p := 6) rfl ?_); refine store_event (t := 27) (p := 6) (v := ?vo_w25) (w1 := ((w20.setCell ⟨gb213, 0, none⟩ (.bool t208)).setCell ⟨gb213, 1, none⟩ (.slice Ao24 t209.length co24))) ?hg ?ho ?hn ?hr ?_; (case ho => rfl); (case hg => rfl); (case hn => rfl); (case hr => go_simp <;> rfl); intro w25 hw; replace HO207 : Aside0 (Kd.V (Kd.int .u32) 87 w25 w.heap.size (fun k_ => some k_ ≠ (.slice Ao24 t209.length co24 : Value).ownBlock ∧ k_ ≠ gb202 ∧ k_ ≠ gb203 ∧ k_ ≠ gb212 ∧ k_ ≠ gb213) (.slice Ao19 t205.length co19) t205) := ⟨(by rw [hw]; exact (Vm (Vf (p := ⟨gb213, 1, none⟩) (Vf (p := ⟨gb213, 0, none⟩) (Vm HO207.out (fun k_ hk => (⟨hk, hk.2.2.2.2⟩ : _ ∧ k_ ≠ gb213))) (fun _ hk => hk.2) (.bool t208)) (fun _ hk => hk.2) (.slice Ao24 t209.length co24)) (fun _ hk => ⟨hk.1.1, ⟨hk.1.2.1, ⟨hk.1.2.2.1, ⟨hk.1.2.2.2.1, hk.1.2.2.2.2⟩⟩⟩⟩)))⟩; replace HO211 : Aside0 (Kd.R (Kd.int .u32) 87 w25 w.heap.size (fun _ => True) (.slice Ao24 t209.length co24) t209) := ⟨(by rw [hw]; exact (Rm (Rg 1 (Rg 0 (Rd HO211.out BK213) (.bool t208)) (.slice Ao24 t209.length co24)) tv))⟩; replace BK202 : Aside0 (w25.heap[gb202]? = some (.cells #[.bool a0_0, .slice A0_1 l0_1.length c0_1, .slice A0_2 l0_2.length c0_2] 29 (0, 0))) := ⟨(by rw [hw]; exact (by refine blk_far ?_ NB202_213.out _; refine blk_far ?_ NB202_213.out _; exact BK202.out))⟩; replace BK203 : Aside0 (w25.heap[gb203]? = some (.cells #[.bool a1_0, .slice A1_1 l1_1.length c1_1, .slice A1_2 l1_2.length c1_2] 29 (0, 0))) := ⟨(by rw [hw]; exact (by refine blk_far ?_ NB203_213.out _; refine blk_far ?_ NB203_213.out _; exact BK203.out))⟩; replace BK212 : Aside0 (w25.heap[gb212]? = some (.cells #[.bool t204, .slice Ao19 t205.length co19] 27 (0, 0))) := ⟨(by rw [hw]; exact (by refine blk_far ?_ NB212_213.out _; refine blk_far ?_ NB212_213.out _; exact BK212.out))⟩; replace BK213 : Aside0 (w25.heap[gb213]? = some (.cells #[.bool t208, .slice Ao24 t209.length co24] 27 (0, 0))) := ⟨(by rw [hw]; exact (by refine blk_put (cs := #[.bool t208, .slice none 0 0]) ?_ 1 _ rfl; refine blk_put (cs := #[.bool false, .slice none 0 0]) ?_ 0 _ rfl; exact BK213.out))⟩; replace HB : Aside0 (Below w.heap.size w w25) := ⟨(by rw [hw]; exact (by repeat (first | exact HB.out | refine bS ?_ GE212.out | refine bS ?_ GE213.out)))⟩; clear hw; obtain ⟨hcz26_0, hcz26_1, hcz26_2, hfz26_0, hfz26_1, hfz26_2⟩ := cz3 BK203) | ((with_reducible refine gate_callee (f := 36) rfl ?_); refine goA 16 Try.func36 #[.agg #[.bool a1_0, .slice A1_1 l1_1.length c1_1, .slice A1_2 l1_2.length c1_2]] ?_; (with_reducible refine (ratio_parts.calls k a1_0 (fun k_ => k_ < w.heap.size) _ _ l1_1 _ _ l1_2 t214 t215 t218 t219 _ (by exact Kd.V_mk HC1_1.out (Kd.F_below (Kd.C_F (Kd.heap_int .u32) HR1_1.out) HB.out)) (by exact Cb HR1_2.out HB.out) HC1_2.out A4.out).mono ?_); rintro e w27 ⟨v216, v220, rfl, ho0, ho1, hb⟩; refine ⟨_, rfl, ?_⟩; replace HO207 := mk0 (Kd.V_elder' HO207.out (Rs ho1) hb); have HO217 := mk0 (Vl (Vm (ok' := fun k_ => some k_ ≠ (v220 : Value).ownBlock ∧ some k_ ≠ (.slice Ao24 t209.length co24 : Value).ownBlock ∧ k_ ≠ gb202 ∧ k_ ≠ gb203 ∧ k_ ≠ gb212 ∧ k_ ≠ gb213) ho0 (fun k_ hk_ => ⟨hk_.2, Or.elim hk_.1 (fun hs_ => fun e_ => Nat.not_le.2 hs_ (Rs HO211.out k_ e_.symm)) (fun hn_ => (Kd.fresh' (Rq HO211.out) k_ hn_)), Or.elim hk_.1 (fun hs_ => fun e_ => Nat.not_le.2 hs_ (by rw [e_]; exact GE202.out)) (fun hn_ => (Kd.freshB BK202.out k_ hn_)), Or.elim hk_.1 (fun hs_ => fun e_ => Nat.not_le.2 hs_ (by rw [e_]; exact GE203.out)) (fun hn_ => (Kd.freshB BK203.out k_ hn_)), Or.elim hk_.1 (fun hs_ => fun e_ => Nat.not_le.2 hs_ (by rw [e_]; exact GE212.out)) (fun hn_ => (Kd.freshB BK212.out k_ hn_)), Or.elim hk_.1 (fun hs_ => fun e_ => Nat.not_le.2 hs_ (by rw [e_]; exact GE213.out)) (fun hn_ => (Kd.freshB BK213.out k_ hn_))⟩)) (bZ HB.out)); have HO221 := mk0 (Rl (Rn (Rm (ok' := fun k_ => True) ho1 tv) (Rq HO211.out)) (bZ HB.out)); replace HO211 := mk0 (Re HO211.out (Rs ho1) hb); replace BK202 := bkB BK202 hb; replace BK203 := bkB BK203 hb; replace BK212 := bkB BK212 hb; replace BK213 := bkB BK213 hb; replace HB := hbS HB hb) | ((with_reducible refine gate_dst (N := 7) rfl ?_); refine box_event rfl (N := 7) rfl (cs := #[.bool false, .slice none 0 0]) (t := 27) (by go_simp <;> rfl) ?_; intro gb222 hg w28 hbox hb; replace HO207 := vB HO207 hg hb; replace HO211 := rB HO211 hb; replace HO217 := vB HO217 hg hb; replace HO221 := rB HO221 hb; have BK222 := mk0 (hbox); have GE222 := geB hg HB; replace HB := hbS HB hb; have NB202_222 := nbA hg BK202; have NB222_202 := nbB hg BK202; replace BK202 := bkB BK202 hb; have NB203_222 := nbA hg BK203; have NB222_203 := nbB hg BK203; replace BK203 := bkB BK203 hb; have NB212_222 := nbA hg BK212; have NB222_212 := nbB hg BK212; replace BK212 := bkB BK212 hb; have NB213_222 := nbA hg BK213; have NB222_213 := nbB hg BK213; replace BK213 := bkB BK213 hb; clear hb hbox hg) | ((with_reducible refine gate_dst (N := 8) rfl ?_); refine box_event rfl (N := 8) rfl (cs := #[.bool false, .slice none 0 0]) (t := 27) (by go_simp <;> rfl) ?_; intro gb223 hg w29 hbox hb; replace HO207 := vB HO207 hg hb; replace HO211 := rB HO211 hb; replace HO217 := vB HO217 hg hb; replace HO221 := rB HO221 hb; have BK223 := mk0 (hbox); have GE223 := geB hg HB; replace HB := hbS HB hb; have NB202_223 := nbA hg BK202; have NB223_202 := nbB hg BK202; replace BK202 := bkB BK202 hb; have NB203_223 := nbA hg BK203; have NB223_203 := nbB hg BK203; replace BK203 := bkB BK203 hb; have NB212_223 := nbA hg BK212; have NB223_212 := nbB hg BK212; replace BK212 := bkB BK212 hb; have NB213_223 := nbA hg BK213; have NB223_213 := nbB hg BK213; replace BK213 := bkB BK213 hb; have NB222_223 := nbA hg BK222; have NB223_222 := nbB hg BK222; replace BK222 := bkB BK222 hb; clear hb hbox hg; have hnb30 := NB222_202.out; have hnc30 := NB202_222.out; have hnb31 := NB222_203.out; have hnc31 := NB203_222.out; have hnb32 := NB222_212.out; have hnc32 := NB212_222.out; have hnb33 := NB222_213.out; have hnc33 := NB213_222.out; have hnb34 := NB222_223.out; have hnc34 := NB223_222.out; obtain ⟨hcz35_0, hcz35_1, hfz35_0, hfz35_1⟩ := cz2 BK222; obtain ⟨Ao36, co36, eo36⟩ := Kd.V_slice HO217.out; subst eo36; have hnb37 := NB223_202.out; have hnc37 := NB202_223.out; have hnb38 := NB223_203.out; have hnc38 := NB203_223.out; have hnb39 := NB223_212.out; have hnc39 := NB212_223.out; have hnb40 := NB223_213.out; have hnc40 := NB213_223.out; obtain ⟨hcz41_0, hcz41_1, hfz41_0, hfz41_1⟩ := cz2 BK223; obtain ⟨Ao42, co42, eo42⟩ := Kd.R_slice HO221.out; subst eo42))
 have n0_ : Aside0 (Kd.V (Kd.int .u32) 87 ((((w29.setCell ⟨gb222, 0, none⟩ (.bool t214)).setCell ⟨gb222, 1, none⟩ (.slice Ao36 t215.length co36)).setCell ⟨gb223, 0, none⟩ (.bool t218)).setCell ⟨gb223, 1, none⟩ (.slice Ao42 t219.length co42)) w.heap.size (fun k_ => some k_ ≠ (.slice Ao24 t209.length co24 : Value).ownBlock ∧ some k_ ≠ (.slice Ao42 t219.length co42 : Value).ownBlock ∧ k_ ≠ gb202 ∧ k_ ≠ gb203 ∧ k_ ≠ gb212 ∧ k_ ≠ gb213 ∧ k_ ≠ gb222 ∧ k_ ≠ gb223) (.slice Ao19 t205.length co19) t205) := ⟨Vm (Vf (p := ⟨gb223, 1, none⟩) (Vf (p := ⟨gb223, 0, none⟩) (Vf (p := ⟨gb222, 1, none⟩) (Vf (p := ⟨gb222, 0, none⟩) (Vm (Vm HO207.out (fun k_ hk => (⟨hk, hk.1.2⟩ : _ ∧ k_ ≠ gb222))) (fun k_ hk => (⟨hk, hk.1.2⟩ : _ ∧ k_ ≠ gb223))) (fun _ hk => hk.1.2) (.bool t214)) (fun _ hk => hk.1.2) (.slice Ao36 t215.length co36)) (fun _ hk => hk.2) (.bool t218)) (fun _ hk => hk.2) (.slice Ao42 t219.length co42)) (fun _ hk => ⟨hk.1.1.1.1.1.1, ⟨hk.1.1.1.1.2, ⟨hk.1.1.1.1.1.2.1, ⟨hk.1.1.1.1.1.2.2.1, ⟨hk.1.1.1.1.1.2.2.2.1, ⟨hk.1.1.1.1.1.2.2.2.2, ⟨hk.1.1.1.2, hk.1.1.2⟩⟩⟩⟩⟩⟩⟩)⟩
 have n1_ : Aside0 (Kd.R (Kd.int .u32) 87 ((((w29.setCell ⟨gb222, 0, none⟩ (.bool t214)).setCell ⟨gb222, 1, none⟩ (.slice Ao36 t215.length co36)).setCell ⟨gb223, 0, none⟩ (.bool t218)).setCell ⟨gb223, 1, none⟩ (.slice Ao42 t219.length co42)) w.heap.size (fun k_ => some k_ ≠ (.slice Ao42 t219.length co42 : Value).ownBlock) (.slice Ao24 t209.length co24) t209) := ⟨Rm (Rg 1 (Rg 0 (Rf (p := ⟨gb222, 1, none⟩) (Rf (p := ⟨gb222, 0, none⟩) (Rd (Rd HO211.out BK222) BK223) (fun _ hk => hk.1.2) (.bool t214)) (fun _ hk => hk.1.2) (.slice Ao36 t215.length co36)) (.bool t218)) (.slice Ao42 t219.length co42)) (fun _ hk => hk.1.1.2)⟩
 have n2_ : Aside0 (Kd.V (Kd.int .u32) 87 ((((w29.setCell ⟨gb222, 0, none⟩ (.bool t214)).setCell ⟨gb222, 1, none⟩ (.slice Ao36 t215.length co36)).setCell ⟨gb223, 0, none⟩ (.bool t218)).setCell ⟨gb223, 1, none⟩ (.slice Ao42 t219.length co42)) w.heap.size (fun k_ => some k_ ≠ (.slice Ao24 t209.length co24 : Value).ownBlock ∧ some k_ ≠ (.slice Ao42 t219.length co42 : Value).ownBlock ∧ k_ ≠ gb202 ∧ k_ ≠ gb203 ∧ k_ ≠ gb212 ∧ k_ ≠ gb213 ∧ k_ ≠ gb222 ∧ k_ ≠ gb223) (.slice Ao36 t215.length co36) t215) := ⟨Vm (Vf (p := ⟨gb223, 1, none⟩) (Vf (p := ⟨gb223, 0, none⟩) (Vf (p := ⟨gb222, 1, none⟩) (Vf (p := ⟨gb222, 0, none⟩) (Vm (Vm HO217.out (fun k_ hk => (⟨hk, hk.1.2⟩ : _ ∧ k_ ≠ gb222))) (fun k_ hk => (⟨hk, hk.1.2⟩ : _ ∧ k_ ≠ gb223))) (fun _ hk => hk.1.2) (.bool t214)) (fun _ hk => hk.1.2) (.slice Ao36 t215.length co36)) (fun _ hk => hk.2) (.bool t218)) (fun _ hk => hk.2) (.slice Ao42 t219.length co42)) (fun _ hk => ⟨hk.1.1.1.1.2.1, ⟨hk.1.1.1.1.1, ⟨hk.1.1.1.1.2.2.1, ⟨hk.1.1.1.1.2.2.2.1, ⟨hk.1.1.1.1.2.2.2.2.1, ⟨hk.1.1.1.1.2.2.2.2.2, ⟨hk.1.1.1.2, hk.1.1.2⟩⟩⟩⟩⟩⟩⟩)⟩
 have n3_ : Aside0 (Kd.R (Kd.int .u32) 87 ((((w29.setCell ⟨gb222, 0, none⟩ (.bool t214)).setCell ⟨gb222, 1, none⟩ (.slice Ao36 t215.length co36)).setCell ⟨gb223, 0, none⟩ (.bool t218)).setCell ⟨gb223, 1, none⟩ (.slice Ao42 t219.length co42)) w.heap.size (fun k_ => some k_ ≠ (.slice Ao24 t209.length co24 : Value).ownBlock) (.slice Ao42 t219.length co42) t219) := ⟨Rm (Rg 1 (Rg 0 (Rf (p := ⟨gb222, 1, none⟩) (Rf (p := ⟨gb222, 0, none⟩) (Rd (Rd HO221.out BK222) BK223) (fun _ hk => hk.1.2) (.bool t214)) (fun _ hk => hk.1.2) (.slice Ao36 t215.length co36)) (.bool t218)) (.slice Ao42 t219.length co42)) (fun _ hk => hk.1.1.2)⟩
 have n4_ : Aside0 (((((w29.setCell ⟨gb222, 0, none⟩ (.bool t214)).setCell ⟨gb222, 1, none⟩ (.slice Ao36 t215.length co36)).setCell ⟨gb223, 0, none⟩ (.bool t218)).setCell ⟨gb223, 1, none⟩ (.slice Ao42 t219.length co42)).heap[gb202]? = some (.cells #[.bool a0_0, .slice A0_1 l0_1.length c0_1, .slice A0_2 l0_2.length c0_2] 29 (0, 0))) := ⟨by refine blk_far ?_ NB202_223.out _; refine blk_far ?_ NB202_223.out _; refine blk_far ?_ NB202_222.out _; refine blk_far ?_ NB202_222.out _; exact BK202.out⟩
 have n5_ : Aside0 (((((w29.setCell ⟨gb222, 0, none⟩ (.bool t214)).setCell ⟨gb222, 1, none⟩ (.slice Ao36 t215.length co36)).setCell ⟨gb223, 0, none⟩ (.bool t218)).setCell ⟨gb223, 1, none⟩ (.slice Ao42 t219.length co42)).heap[gb203]? = some (.cells #[.bool a1_0, .slice A1_1 l1_1.length c1_1, .slice A1_2 l1_2.length c1_2] 29 (0, 0))) := ⟨by refine blk_far ?_ NB203_223.out _; refine blk_far ?_ NB203_223.out _; refine blk_far ?_ NB203_222.out _; refine blk_far ?_ NB203_222.out _; exact BK203.out⟩
 have n6_ : Aside0 (((((w29.setCell ⟨gb222, 0, none⟩ (.bool t214)).setCell ⟨gb222, 1, none⟩ (.slice Ao36 t215.length co36)).setCell ⟨gb223, 0, none⟩ (.bool t218)).setCell ⟨gb223, 1, none⟩ (.slice Ao42 t219.length co42)).heap[gb212]? = some (.cells #[.bool t204, .slice Ao19 t205.length co19] 27 (0, 0))) := ⟨by refine blk_far ?_ NB212_223.out _; refine blk_far ?_ NB212_223.out _; refine blk_far ?_ NB212_222.out _; refine blk_far ?_ NB212_222.out _; exact BK212.out⟩
 have n7_ : Aside0 (((((w29.setCell ⟨gb222, 0, none⟩ (.bool t214)).setCell ⟨gb222, 1, none⟩ (.slice Ao36 t215.length co36)).setCell ⟨gb223, 0, none⟩ (.bool t218)).setCell ⟨gb223, 1, none⟩ (.slice Ao42 t219.length co42)).heap[gb213]? = some (.cells #[.bool t208, .slice Ao24 t209.length co24] 27 (0, 0))) := ⟨by refine blk_far ?_ NB213_223.out _; refine blk_far ?_ NB213_223.out _; refine blk_far ?_ NB213_222.out _; refine blk_far ?_ NB213_222.out _; exact BK213.out⟩
 have n8_ : Aside0 (((((w29.setCell ⟨gb222, 0, none⟩ (.bool t214)).setCell ⟨gb222, 1, none⟩ (.slice Ao36 t215.length co36)).setCell ⟨gb223, 0, none⟩ (.bool t218)).setCell ⟨gb223, 1, none⟩ (.slice Ao42 t219.length co42)).heap[gb222]? = some (.cells #[.bool t214, .slice Ao36 t215.length co36] 27 (0, 0))) := ⟨by refine blk_far ?_ NB222_223.out _; refine blk_far ?_ NB222_223.out _; refine blk_put (cs := #[.bool t214, .slice none 0 0]) ?_ 1 _ rfl; refine blk_put (cs := #[.bool false, .slice none 0 0]) ?_ 0 _ rfl; exact BK222.out⟩
 have n9_ : Aside0 (((((w29.setCell ⟨gb222, 0, none⟩ (.bool t214)).setCell ⟨gb222, 1, none⟩ (.slice Ao36 t215.length co36)).setCell ⟨gb223, 0, none⟩ (.bool t218)).setCell ⟨gb223, 1, none⟩ (.slice Ao42 t219.length co42)).heap[gb223]? = some (.cells #[.bool t218, .slice Ao42 t219.length co42] 27 (0, 0))) := ⟨by refine blk_put (cs := #[.bool t218, .slice none 0 0]) ?_ 1 _ rfl; refine blk_put (cs := #[.bool false, .slice none 0 0]) ?_ 0 _ rfl; refine blk_far ?_ NB223_222.out _; refine blk_far ?_ NB223_222.out _; exact BK223.out⟩
 have n10_ : Aside0 (Below w.heap.size w ((((w29.setCell ⟨gb222, 0, none⟩ (.bool t214)).setCell ⟨gb222, 1, none⟩ (.slice Ao36 t215.length co36)).setCell ⟨gb223, 0, none⟩ (.bool t218)).setCell ⟨gb223, 1, none⟩ (.slice Ao42 t219.length co42))) := ⟨by repeat (first | exact HB.out | apply bN | apply b1 | apply bA | refine bS ?_ GE202.out | refine bS ?_ GE203.out | refine bS ?_ GE212.out | refine bS ?_ GE213.out | refine bS ?_ GE222.out | refine bS ?_ GE223.out)⟩
 (try clear HO207)
 (try clear HO211)
 (try clear HO217)
 (try clear HO221)
 (try clear BK202)
 (try clear BK203)
 (try clear BK212)
 (try clear BK213)
 (try clear BK222)
 (try clear BK223)
 (try clear HB)
 generalize ((((w29.setCell ⟨gb222, 0, none⟩ (.bool t214)).setCell ⟨gb222, 1, none⟩ (.slice Ao36 t215.length co36)).setCell ⟨gb223, 0, none⟩ (.bool t218)).setCell ⟨gb223, 1, none⟩ (.slice Ao42 t219.length co42)) = w43 at n0_ n1_ n2_ n3_ n4_ n5_ n6_ n7_ n8_ n9_ n10_ ⊢
 have HO207 := n0_
 have HO211 := n1_
 have HO217 := n2_
 have HO221 := n3_
 have BK202 := n4_
 have BK203 := n5_
 have BK212 := n6_
 have BK213 := n7_
 have BK222 := n8_
 have BK223 := n9_
 have HB := n10_
 clear n0_ n1_ n2_ n3_ n4_ n5_ n6_ n7_ n8_ n9_ n10_
 replace HO207 := mk0 (Kd.V_drew HO207.out)
 replace HO211 := mk0 (Kd.R_drew HO211.out)
 replace HO217 := mk0 (Kd.V_drew HO217.out)
 replace HO221 := mk0 (Kd.R_drew HO221.out)
 replace BK202 := mk0 (blk_drew BK202.out)
 replace BK203 := mk0 (blk_drew BK203.out)
 replace BK212 := mk0 (blk_drew BK212.out)
 replace BK213 := mk0 (blk_drew BK213.out)
 replace BK222 := mk0 (blk_drew BK222.out)
 replace BK223 := mk0 (blk_drew BK223.out)
 replace HB := mk0 (b1 HB.out)
 refine start_ (n := 8) (S := fun w' => w'.cell? ⟨gb212, 0, none⟩ = some (.bool t204) ∧ w'.cell? ⟨gb212, 1, none⟩ = some (.slice Ao19 t205.length co19) ∧ w'.cell? ⟨gb223, 0, none⟩ = some (.bool t218) ∧ w'.cell? ⟨gb223, 1, none⟩ = some (.slice Ao42 t219.length co42) ∧ w'.cell? ⟨gb222, 0, none⟩ = some (.bool t214) ∧ w'.cell? ⟨gb222, 1, none⟩ = some (.slice Ao36 t215.length co36) ∧ w'.cell? ⟨gb213, 0, none⟩ = some (.bool t208) ∧ w'.cell? ⟨gb213, 1, none⟩ = some (.slice Ao24 t209.length co24)) (ds := []) (bv 8 0) (by kernel_rfl) rfl rfl ⟨(blk_cell BK212.out 0).trans rfl, (blk_cell BK212.out 1).trans rfl, (blk_cell BK223.out 0).trans rfl, (blk_cell BK223.out 1).trans rfl, (blk_cell BK222.out 0).trans rfl, (blk_cell BK222.out 1).trans rfl, (blk_cell BK213.out 0).trans rfl, (blk_cell BK213.out 1).trans rfl⟩ (fun hHeld => ?_); refine with_tabW ratio_Cmp.tab3 ratio_Cmp.bits3 (fun HT_ HW_ => ?_)
 generalize w43.drew = w44 at HO207 HO211 HO217 HO221 BK202 BK203 BK212 BK213 BK222 BK223 HB hHeld ⊢
 refine take_ (i := 0) (N := some 19) (v := ?_) (a' := ?_) (bv 8 1) rfl rfl (take_ofW HT_.out HW_.out (by kernel_rfl)) (fun _ _ _ h => h) (Or.inl ⟨by rfl, ?_⟩) hHeld ?_ ?_; rotate_left; (rintro w' ⟨s0, s1, s2, s3, s4, s5, s6, s7⟩; go_simp; with_reducible rfl); rotate_left; (simp only [Act.put, sA, sZ, sS, i64_w, i32_w]; rfl)
 refine take_ (i := 1) (N := some 20) (v := ?_) (a' := ?_) (bv 8 3) rfl rfl (take_ofW HT_.out HW_.out (by kernel_rfl)) (fun _ _ _ h => h) (Or.inl ⟨by rfl, ?_⟩) hHeld ?_ ?_; rotate_left; (rintro w' ⟨s0, s1, s2, s3, s4, s5, s6, s7⟩; go_simp; with_reducible rfl); rotate_left; (simp only [Act.put, sA, sZ, sS, i64_w, i32_w]; rfl)
 refine take_ (i := 3) (N := some 22) (v := ?_) (a' := ?_) (bv 8 11) rfl rfl (take_ofW HT_.out HW_.out (by kernel_rfl)) (fun _ _ _ h => h) (Or.inl ⟨by rfl, ?_⟩) hHeld ?_ ?_; rotate_left; (rintro w' ⟨s0, s1, s2, s3, s4, s5, s6, s7⟩; go_simp; with_reducible rfl); rotate_left; (simp only [Act.put, sA, sZ, sS, i64_w, i32_w]; rfl)
 refine take_ (i := 4) (N := some 23) (v := ?_) (a' := ?_) (bv 8 27) rfl rfl (take_ofW HT_.out HW_.out (by kernel_rfl)) (fun _ _ _ h => h) (Or.inl ⟨by rfl, ?_⟩) hHeld ?_ ?_; rotate_left; (rintro w' ⟨s0, s1, s2, s3, s4, s5, s6, s7⟩; go_simp; with_reducible rfl); rotate_left; (simp only [Act.put, sA, sZ, sS, i64_w, i32_w]; rfl)
 refine one_ (i := 2) (N := some 21) (bv 8 31) rfl rfl (one_of HT_.out (by kernel_rfl)) (by decide) (fun K hK => ?_)
 refine goes_ Try.func52 (by kernel_rfl) rfl #[.agg #[.bool t204, .slice Ao19 t205.length co19], .agg #[.bool t218, .slice Ao42 t219.length co42]] (by rfl) rfl rfl (by go_simp <;> rfl) ?_
 with_reducible refine (integer_Mul.calls k t204 _ _ t205 t218 _ _ t219 t224 t225 _ ?side1 ?side2 ?side3 ?side4 A5.out).mono ?_
 (case side1 => exact (Kd.V_reads' HO207.out).2.2)
 (case side2 => exact (Kd.V_reads' HO207.out).2.1)
 (case side3 => exact (Kd.R_reads' HO221.out).2.2)
 (case side4 => exact (Kd.R_reads' HO221.out).2.1)
 rintro e w45 ⟨v226, rfl, ho0, hb⟩
 refine ⟨_, rfl, ?_⟩
 replace HO207 := mk0 (Kd.V_elder' HO207.out (Rs ho0) hb)
 replace HO217 := mk0 (Kd.V_elder' HO217.out (Rs ho0) hb)
 have HO227 := mk0 (Rl (Rn (Rn ho0 (Rq HO211.out)) (Rq HO221.out)) (bZ HB.out))
 replace HO211 := mk0 (Re HO211.out (Rs ho0) hb)
 replace HO221 := mk0 (Re HO221.out (Rs ho0) hb)
 replace BK202 := bkB BK202 hb
 replace BK203 := bkB BK203 hb
 replace BK212 := bkB BK212 hb
 replace BK213 := bkB BK213 hb
 replace BK222 := bkB BK222 hb
 replace BK223 := bkB BK223 hb
 replace HB := mk0 (below_step HB.out hb)
 refine hK.out _ _ ⟨(blk_cell BK212.out 0).trans rfl, (blk_cell BK212.out 1).trans rfl, (blk_cell BK223.out 0).trans rfl, (blk_cell BK223.out 1).trans rfl, (blk_cell BK222.out 0).trans rfl, (blk_cell BK222.out 1).trans rfl, (blk_cell BK213.out 0).trans rfl, (blk_cell BK213.out 1).trans rfl⟩ (fun hHeld => ?_)
 clear hK K
 refine norm_ (a' := ?_) ?_ ?_
 rotate_left
 ·show Act.put _ (some 21) _ = _
  simp only [Act.put, sA, sZ, sS, i64_w, i32_w]
  rfl
 refine one_ (i := 5) (N := some 24) (bv 8 63) rfl rfl (one_of HT_.out (by kernel_rfl)) (by decide) (fun K hK => ?_)
 refine goes_ Try.func52 (by kernel_rfl) rfl #[.agg #[.bool t214, .slice Ao36 t215.length co36], .agg #[.bool t208, .slice Ao24 t209.length co24]] (by rfl) rfl rfl (by go_simp <;> rfl) ?_
 with_reducible refine (integer_Mul.calls k t214 _ _ t215 t208 _ _ t209 t228 t229 _ ?side1 ?side2 ?side3 ?side4 A6.out).mono ?_
 (case side1 => exact (Kd.V_reads' HO217.out).2.2)
 (case side2 => exact (Kd.V_reads' HO217.out).2.1)
 (case side3 => exact (Kd.R_reads' HO211.out).2.2)
 (case side4 => exact (Kd.R_reads' HO211.out).2.1)
 rintro e w46 ⟨v230, rfl, ho0, hb⟩
 refine ⟨_, rfl, ?_⟩
 replace HO207 := mk0 (Kd.V_elder' HO207.out (Rs ho0) hb)
 replace HO217 := mk0 (Kd.V_elder' HO217.out (Rs ho0) hb)
 have HO231 := mk0 (Rl (Rn (Rn (Rn ho0 (Rq HO211.out)) (Rq HO221.out)) (Rq HO227.out)) (bZ HB.out))
 replace HO211 := mk0 (Re HO211.out (Rs ho0) hb)
 replace HO221 := mk0 (Re HO221.out (Rs ho0) hb)
 replace HO227 := mk0 (Re HO227.out (Rs ho0) hb)
 replace BK202 := bkB BK202 hb
 replace BK203 := bkB BK203 hb
 replace BK212 := bkB BK212 hb
 replace BK213 := bkB BK213 hb
 replace BK222 := bkB BK222 hb
 replace BK223 := bkB BK223 hb
 replace HB := mk0 (below_step HB.out hb)
 obtain ⟨Ao47, co47, eo47⟩ := Kd.R_slice HO227.out
 (first | subst eo47 | (injection eo47 with f1_ f2_ f3_; have f4_ := f1_.symm; have f5_ := f3_.symm; clear f1_ f2_ f3_; subst f4_; subst f5_))
 obtain ⟨Ao48, co48, eo48⟩ := Kd.R_slice HO231.out
 (first | subst eo48 | (injection eo48 with f1_ f2_ f3_; have f4_ := f1_.symm; have f5_ := f3_.symm; clear f1_ f2_ f3_; subst f4_; subst f5_))
 refine hK.out _ _ ⟨(blk_cell BK212.out 0).trans rfl, (blk_cell BK212.out 1).trans rfl, (blk_cell BK223.out 0).trans rfl, (blk_cell BK223.out 1).trans rfl, (blk_cell BK222.out 0).trans rfl, (blk_cell BK222.out 1).trans rfl, (blk_cell BK213.out 0).trans rfl, (blk_cell BK213.out 1).trans rfl⟩ (fun hHeld => ?_)
 clear hK K
 refine norm_ (a' := ?_) ?_ ?_
 rotate_left
 ·show Act.put _ (some 24) _ = _
  simp only [Act.put, sA, sZ, sS, i64_w, i32_w]
  rfl
 refine one_ (i := 6) (N := some 25) (bv 8 127) rfl rfl (one_of HT_.out (by kernel_rfl)) (by decide) (fun K hK => ?_)
 refine goes_ Try.func51 (by kernel_rfl) rfl #[.agg #[.bool t224, .slice Ao47 t225.length co47], .agg #[.bool t228, .slice Ao48 t229.length co48]] (by rfl) rfl rfl (by go_simp <;> rfl) ?_
 with_reducible refine (integer_Cmp.calls k t224 _ _ t225 t228 _ _ t229 t232 _ ?side1 ?side2 ?side3 ?side4 A7.out).mono ?_
 (case side1 => exact (Kd.R_reads' HO227.out).2.2)
 (case side2 => exact (Kd.R_reads' HO227.out).2.1)
 (case side3 => exact (Kd.R_reads' HO231.out).2.2)
 (case side4 => exact (Kd.R_reads' HO231.out).2.1)
 rintro e w49 ⟨rfl, hb⟩
 refine ⟨_, rfl, ?_⟩
 replace HO207 := mk0 (Kd.V_below HO207.out hb)
 replace HO211 := rB HO211 hb
 replace HO217 := mk0 (Kd.V_below HO217.out hb)
 replace HO221 := rB HO221 hb
 replace HO227 := rB HO227 hb
 replace HO231 := rB HO231 hb
 replace BK202 := bkB BK202 hb
 replace BK203 := bkB BK203 hb
 replace BK212 := bkB BK212 hb
 replace BK213 := bkB BK213 hb
 replace BK222 := bkB BK222 hb
 replace BK223 := bkB BK223 hb
 replace HB := mk0 (below_step HB.out hb)
 refine hK.out _ _ ⟨(blk_cell BK212.out 0).trans rfl, (blk_cell BK212.out 1).trans rfl, (blk_cell BK223.out 0).trans rfl, (blk_cell BK223.out 1).trans rfl, (blk_cell BK222.out 0).trans rfl, (blk_cell BK222.out 1).trans rfl, (blk_cell BK213.out 0).trans rfl, (blk_cell BK213.out 1).trans rfl⟩ (fun hHeld => ?_)
 clear hK K
 refine norm_ (a' := ?_) ?_ ?_
 rotate_left
 ·show Act.put _ (some 25) _ = _
  simp only [Act.put, sA, sZ, sS, i64_w, i32_w]
  rfl
 refine puA (i := 7) (N := 4) (v := ?_) (a' := ?_) (bv 8 255) HT_ ?_ ?_ ?_; rotate_left; (intro w'; go_simp; with_reducible rfl); rotate_left; (simp only [Act.put, sA, sZ, sS, i64_w, i32_w]; rfl)
 refine done_ (done_of HT_.out (by kernel_rfl)) ?_
 try go_wp2
 go_ret
 exact ⟨by first | rfl | (simp [errW_none, errW_some] <;> rfl) | (simp [*, errW_none, errW_some] <;> rfl), by repeat (first | exact HB.out | apply bN | apply b1 | apply bA | refine bS ?_ GE202.out | refine bS ?_ GE203.out | refine bS ?_ GE212.out | refine bS ?_ GE213.out | refine bS ?_ GE222.out | refine bS ?_ GE223.out)⟩
set_option maxHeartbeats 8000000 in
set_option maxRecDepth 100000 in
theorem ratio_zero.calls (k : Nat)  (r1 : Bool) (r2 : List Int) (r3 : List Int) (w : World) (h : ratio_zero.f k  = some (r1, r2, r3)) :
  Calls Try.prog 67 #[] w fun e w' => ∃ v1_ v2_ : Value, e = .returned (.agg #[.bool r1, v1_, v2_]) ∧ Kd.R (Kd.int .u32) 87 w' w.heap.size (fun k_ => (w.heap.size ≤ k_)) v1_ r2 ∧ Kd.V (Kd.int .u32) 87 w' w.heap.size (fun k_ => (w.heap.size ≤ k_) ∧ some k_ ≠ (v1_ : Value).ownBlock) v2_ r3 ∧ Below w.heap.size w w' := by
 have hu29 := Try.underlying29
 have HB := mk0 (Below.refl w.heap.size w)
 have H : ((nat_Of.f k 1).bind fun t234 => (some (false, ([] : List Int), t234))) = some (r1, r2, r3) := h
 clear h
 obtain ⟨t234, A1, H⟩ := bindA H
 simp only [Option.some.injEq, Prod.mk.injEq] at H
 obtain ⟨rfl, rfl, rfl⟩ := H
 go_enter Try.func67, Try.ntmps67
 go_wp2_with (first | ((with_reducible refine gate_dst (N := 0) rfl ?_); refine box_event rfl (N := 0) rfl (cs := #[.bool false, .slice none 0 0, .slice none 0 0]) (t := 29) (by go_simp <;> rfl) ?_; intro gb233 hg w2 hbox hb; have BK233 := mk0 (hbox); have GE233 := geB hg HB; replace HB := hbS HB hb; clear hb hbox hg) | ((with_reducible refine gate_callee (f := 66) rfl ?_); refine goA 1 Try.func66 #[.int .u64 1] ?_; (with_reducible refine (nat_Of.calls k 1 t234 _ A1.out).mono ?_); rintro e w3 ⟨v235, rfl, ho0, hb⟩; refine ⟨_, rfl, ?_⟩; have HO236 := mk0 (Vl (Vm (ok' := fun k_ => (w.heap.size ≤ k_) ∧ k_ ≠ gb233) ho0 (fun k_ hk_ => ⟨(Nat.le_trans (bZ HB.out) hk_), (Kd.freshB BK233.out k_ hk_)⟩)) (bZ HB.out)); replace BK233 := bkB BK233 hb; replace HB := hbS HB hb; obtain ⟨Ao4, co4, eo4⟩ := Kd.V_slice HO236.out; subst eo4; obtain ⟨hcz5_0, hcz5_1, hcz5_2, hfz5_0, hfz5_1, hfz5_2⟩ := cz3 BK233))
 refine bodyPost_ret (results_cell_row rfl _ _ gb233 29 #[.bool false, .slice none 0 0, .slice Ao4 t234.length co4] (0, 0) _ rfl (by refine blk_put (cs := #[.bool false, .slice none 0 0, .slice none 0 0]) ?_ 2 _ rfl; refine blk_put (cs := #[.bool false, .slice none 0 0, .slice none 0 0]) ?_ 1 _ rfl; refine blk_put (cs := #[.bool false, .slice none 0 0, .slice none 0 0]) ?_ 0 _ rfl; exact BK233.out) Try.underlying29 rfl (by kernel_rfl)) rfl ?_
 exact ⟨_, _, by first | rfl | (simp [errW_none, errW_some] <;> rfl) | (simp [*, errW_none, errW_some] <;> rfl), by first | exact Kd.R_nil _ _ _ _ _ | exact Kd.N_nil _ _ _ _ _ | exact Kd.V_nil _ _ _ _ _ | exact Kd.Q_nil _ _ _ _ _ | exact Kd.S_nil _ _ _ _ _, Vm (Vf (p := ⟨gb233, 2, none⟩) (Vf (p := ⟨gb233, 1, none⟩) (Vf (p := ⟨gb233, 0, none⟩) (Vm HO236.out (fun k_ hk => (⟨hk, hk.2⟩ : _ ∧ k_ ≠ gb233))) (fun _ hk => hk.2) (.bool false)) (fun _ hk => hk.2) (.slice none 0 0)) (fun _ hk => hk.2) (.slice Ao4 t234.length co4)) (fun _ hk => ⟨hk.1.1, (by simp [Value.ownBlock])⟩), by repeat (first | exact HB.out | apply bN | apply b1 | apply bA | refine bS ?_ GE233.out)⟩
set_option maxHeartbeats 8000000 in
set_option maxRecDepth 100000 in
theorem nat_divSmall.calls (k : Nat) (A0 : Option Addr) (c0 : Nat) (l0 : List Int) (a1 : Int) (r1 : List Int) (r2 : Int) (w : World) (hr0 : Kd.C (Kd.int .u32) w A0 l0.length l0) (hc0 : l0.length ≤ c0) (h : nat_divSmall.f k l0 a1 = some (r1, r2)) :
  Calls Try.prog 107 #[.slice A0 l0.length c0, .int .u32 a1] w fun e w' => ∃ v0_ : Value, e = .returned (.tuple #[v0_, .int .u32 r2]) ∧ Kd.V (Kd.int .u32) 87 w' w.heap.size (fun k_ => (w.heap.size ≤ k_)) v0_ r1 ∧ Below w.heap.size w w' := by
 have HR0 := mk0 hr0
 have HC0 := mk0 hc0
 clear hr0 hc0
 have HB := mk0 (Below.refl w.heap.size w)
 have H : (if 0 ≤ (l0.length : Int) then (if ((l0.length : Int) : Int).toNat ≤ 70368744177664 then (nat_divSmall.l0 k l0 a1 (List.replicate ((l0.length : Int) : Int).toNat 0) 0 (wrap64 ((l0.length : Int) - 1))) else (none)) else (none)) = some (r1, r2) := h
 clear h
 by_cases c3 : 0 ≤ (l0.length : Int)
 ·rw [if_pos c3] at H
  have c3b0 := eq_true c3
  have c3b1 := decide_eq_true c3
  clear c3
  by_cases c4 : ((l0.length : Int) : Int).toNat ≤ 70368744177664
  ·rw [if_pos c4] at H
   have c4b0 := eq_true c4
   have c4b1 := decide_eq_true c4
   clear c4
   obtain ⟨y237, hy237⟩ : ∃ y_ : List Int, y_ = (List.replicate ((l0.length : Int) : Int).toNat 0) := ⟨_, rfl⟩
   rw [← hy237] at H
   have Ny237 := mk0 hy237
   clear hy237
   have H' := mk0 H
   clear H
   go_enter Try.func107, Try.ntmps107
   go_wp2_with (first | ((with_reducible refine gate_dst (N := 11) rfl ?_); refine Kd.R_make (Kd.int .u32) _ 87 rfl (N := 11) rfl 25 _ _ rfl (l0.length : Int) rfl rfl Try.underlying25 (.int .u32 0) 4 info87 rfl (by decide) (by omega) 0 (ok := fun _ => True) (okp := fun _ => True) rfl (fun _ hk => hk) trivial (of_decide_eq_true (by assumption)) (Nat.le_trans (Nat.mul_le_mul_right _ (of_decide_eq_true (by assumption) : (l0.length : Int).toNat ≤ 70368744177664)) (by omega)) (Below.refl _ _) (Nat.le_refl _) ?_; intro v238 w5 ho6 hb hg_ hnew_; clear hg_ hnew_; (first | rw [← Ny237.out] at ho6 | (simp only [Int.reduceToNat] at ho6; rw [← Ny237.out] at ho6)); have HO239 := mk0 (Rl (Kd.R_newM (M := fun k_ => (w.heap.size ≤ k_)) ho6 (bZ HB.out) (fun k_ h_ => h_)) (bZ HB.out)); replace HB := hbS HB hb; clear hb ho6))
   go_loopg [7, 8] k (fun kq v7 v8 w' => ∃ (x6_1 : List Int) (x7_1 : Int) (x8_1 : Int), v7 = .int .u64 x7_1 ∧ v8 = .int .i64 x8_1 ∧ Aside0 (nat_divSmall.l0 kq l0 a1 x6_1 x7_1 x8_1 = some (r1, r2)) ∧ Aside0 (kq ≤ k) ∧ Aside0 (Kd.R (Kd.int .u32) 87 w' w.heap.size (fun k_ => (w.heap.size ≤ k_)) v238 x6_1) ∧ Aside0 (Below w.heap.size w w'))
   case atStart => exact ⟨(y237), (0), (wrap64 ((l0.length : Int) - 1)), rfl, rfl, H', ⟨Nat.le_refl _⟩, ⟨Rm HO239.out (fun _ hk => hk.1)⟩, ⟨by repeat (first | exact HB.out | apply bN | apply b1 | apply bA)⟩⟩
   case round =>
    clear H'
    obtain ⟨x6_1, x7_1, x8_1, rfl, rfl, HA, HK1, HO_6, HB⟩ := hrel
    cases gk with
    | zero => exact absurd HA.out (by simp [nat_divSmall.l0])
    | succ k1 =>
     have H := HA.out
     clear HA
     simp only [nat_divSmall.l0] at H
     by_cases c7 : x8_1 ≥ 0
     ·rw [if_pos c7] at H
      have c7b0 := decide_eq_true c7
      clear c7
      by_cases c8 : 0 ≤ x8_1
      ·rw [if_pos c8] at H
       have c8b0 := decide_eq_true c8
       clear c8
       by_cases c9 : x8_1 < (l0.length : Int)
       ·rw [if_pos c9] at H
        have c9b0 := decide_eq_true c9
        clear c9
        by_cases c10 : (IntKind.u64.wrap (a1)) = 0
        ·rw [if_pos c10] at H
         exact absurd H (by simp)
        ·rw [if_neg c10] at H
         have c10b0 : ((IntKind.u64.wrap (a1)) == 0) = false := beq_eq_false_iff_ne.mpr c10
         have c10b1 : ((IntKind.u64.wrap (a1)) != 0) = true := bne_iff_ne.mpr c10
         by_cases c11 : x8_1 < (x6_1.length : Int)
         ·rw [if_pos c11] at H
          have c11b0 := decide_eq_true c11
          clear c11
          obtain ⟨y241, hy241⟩ : ∃ y_ : List Int, y_ = (x6_1.set (x8_1 : Int).toNat ((IntKind.u64.wrap (Int.tdiv (Go.bits .or .u64 (IntKind.u64.wrap (x7_1 * 4294967296)) (IntKind.u64.wrap (rd l0 x8_1))) (IntKind.u64.wrap (a1)))) % 4294967296)) := ⟨_, rfl⟩
          rw [← hy241] at H
          have Ny241 := mk0 hy241
          clear hy241
          have H' := mk0 H
          clear H
          have p240 : 0 ≤ (x8_1 : Int) := of_decide_eq_true (by assumption)
          have q240 : x8_1 < (l0.length : Int) := of_decide_eq_true (by assumption)
          obtain ⟨ad240, e240, hx240_0⟩ := Kd.at_int HR0.out x8_1 p240 q240
          cases e240
          replace hx240_0 := (HB.out.cell (World.block_lt_of_cell? w _ hx240_0)).trans hx240_0
          replace p240 := eq_true p240
          replace q240 := eq_true q240
          have p12 : 0 ≤ (x8_1 : Int) := of_decide_eq_true (by assumption)
          have q12 : (x8_1 : Int) < ((x6_1.length : Int) : Int) := of_decide_eq_true (by assumption)
          obtain ⟨go12, co12, eo12, gb12, gl12, cl12, HG12⟩ := Kd.R_form HO_6.out (by omega)
          (first | cases eo12 | (injection eo12 with ea_ en_ ec_; (first | subst ea_ | (injection ea_ with ea_; subst ea_)); subst ec_; clear en_))
          have GB12 := mk0 gb12
          have GG12 := mk0 HG12
          clear gb12 gl12 HG12
          obtain ⟨hx12_0, hf12_0⟩ := Kd.R_celln 0 HO_6.out (x8_1 : Int) p12 q12
          replace p12 := eq_true p12
          replace q12 := eq_true q12
          have HP13 := Kd.R_putg HO_6.out (x8_1 : Int) ((IntKind.u64.wrap (Int.tdiv (Go.bits .or .u64 (IntKind.u64.wrap (x7_1 * 4294967296)) (IntKind.u64.wrap (rd l0 x8_1))) (IntKind.u64.wrap (a1)))) % 4294967296)
          go_wp2_with (first | ((with_reducible refine gate_store (t := 87) (p := 34) rfl ?_); refine store_event (t := 87) (p := 34) (v := ?vo_w14) (w1 := (wr.setCell ⟨go12, (x8_1 : Int).toNat, none⟩ (.int .u32 ((IntKind.u64.wrap (Int.tdiv (Go.bits .or .u64 (IntKind.u64.wrap (x7_1 * 4294967296)) (IntKind.u64.wrap (rd l0 x8_1))) (IntKind.u64.wrap (a1)))) % 4294967296)))) ?hg ?ho ?hn ?hr ?_; (case ho => rfl); (case hg => rfl); (case hn => rfl); (case hr => go_simp <;> rfl); intro w14 hw; have hg : wr.grownBy w14 (some go12) := (by rw [hw]; exact HP13.2); have hp_ : Kd.R (Kd.int .u32) 87 w14 w.heap.size (fun k_ => (w.heap.size ≤ k_)) (.slice (some ⟨go12, 0, none⟩) x6_1.length co12) y241 := (by rw [hw, Ny241.out]; exact HP13.1); clear HP13; replace HO_6 := mk0 (hp_); replace HB := mk0 ((by rw [hw]; exact bS (HB.out) GB12.out : Below w.heap.size w w14)); clear hg hw hp_))
          go_roundg k1
          case measure => have := HK1.out; omega
          case rel => exact ⟨(y241), (Int.tmod (Go.bits .or .u64 (IntKind.u64.wrap (x7_1 * 4294967296)) (IntKind.u64.wrap (rd l0 x8_1))) (IntKind.u64.wrap (a1))), (wrap64 (x8_1 - 1)), rfl, rfl, H', ⟨by have := HK1.out; omega⟩, ⟨HO_6.out⟩, ⟨by repeat (first | exact HB.out | apply bN | apply b1 | apply bA)⟩⟩
         ·rw [if_neg c11] at H
          exact absurd H (by simp)
       ·rw [if_neg c9] at H
        exact absurd H (by simp)
      ·rw [if_neg c8] at H
       exact absurd H (by simp)
     ·rw [if_neg c7] at H
      have c7b0 := decide_eq_false c7
      clear c7
      obtain ⟨t242, A15, H⟩ := bindA H
      simp only [Option.some.injEq, Prod.mk.injEq] at H
      obtain ⟨rfl, rfl⟩ := H
      obtain ⟨Ao16, co16, eo16⟩ := Kd.R_slice HO_6.out
      subst eo16
      go_wp2_with (first | ((with_reducible refine gate_callee (f := 81) rfl ?_); refine goA 40 Try.func81 #[.slice Ao16 x6_1.length co16] ?_; (with_reducible refine (nat_trim.calls k1 (fun k_ => some k_ = (.slice Ao16 x6_1.length co16 : Value).ownBlock) _ _ x6_1 t242 _ (by exact Kd.R_V (Kd.R_tight rfl (HO_6.out))) A15.out).mono ?_); rintro e w17 ⟨v243, rfl, ho0, hb⟩; refine ⟨_, rfl, ?_⟩; have HO244 := mk0 (Vl (Vm (ok' := fun k_ => (w.heap.size ≤ k_)) ho0 (fun k_ hk_ => Or.elim hk_ (fun hs_ => ((HO_6.out).1 k_ hs_.symm)) (fun hn_ => (Nat.le_trans (bZ HB.out) hn_)))) (bZ HB.out)); replace HO_6 := rB HO_6 hb; replace HB := hbS HB hb))
      go_ret2
      exact ⟨_, by first | rfl | (simp [errW_none, errW_some] <;> rfl) | (simp [*, errW_none, errW_some] <;> rfl), HO244.out, by repeat (first | exact HB.out | apply bN | apply b1 | apply bA)⟩
  ·rw [if_neg c4] at H
   exact absurd H (by simp)
 ·rw [if_neg c3] at H
  exact absurd H (by simp)
set_option maxHeartbeats 8000000 in
set_option maxRecDepth 100000 in
theorem bits_LeadingZeros32.calls (a0 : Int) (r : Int) (w : World) (h : bits_LeadingZeros32.f a0 = some r) :
  Calls Try.prog 108 #[.int .u32 a0] w fun e w' => e = .returned (.int .i64 r) ∧ Drawn0 w w' := by
 have H : ((bits_Len32.f a0).bind fun t245 => (some (wrap64 (32 - t245)))) = some r := h
 clear h
 obtain ⟨t245, A2, H⟩ := bindA H
 obtain rfl := Option.some.inj H
 go_enter Try.func108, Try.ntmps108
 go_wp2_with (first | ((with_reducible refine gate_callee (f := 93) rfl ?_); refine goA 4 Try.func93 #[.int .u32 a0] ?_; (with_reducible refine (bits_Len32.calls a0 t245 _ A2.out).mono ?_); rintro e w' ⟨rfl, ⟨nd, rfl⟩⟩; refine ⟨_, rfl, ?_⟩))
 go_ret
 exact ⟨by first | rfl | (simp; done) | (simp [*]; done), by repeat (first | exact Drawn0.refl _ | apply Drawn0.step)⟩
set_option maxHeartbeats 8000000 in
set_option maxRecDepth 100000 in
theorem nat_shiftUp.calls (k : Nat) (A0 : Option Addr) (c0 : Nat) (l0 : List Int) (a1 : Int) (r : List Int) (w : World) (hr0 : Kd.C (Kd.int .u32) w A0 l0.length l0) (hc0 : l0.length ≤ c0) (h : nat_shiftUp.f k l0 a1 = some r) :
  Calls Try.prog 109 #[.slice A0 l0.length c0, .int .u64 a1] w fun e w' => ∃ v0_ : Value, e = .returned (v0_) ∧ Kd.R (Kd.int .u32) 87 w' w.heap.size (fun _ => True) v0_ r ∧ Below w.heap.size w w' := by
 have HR0 := mk0 hr0
 have HC0 := mk0 hc0
 clear hr0 hc0
 have HB := mk0 (Below.refl w.heap.size w)
 have H : (if 0 ≤ (wrap64 ((l0.length : Int) + 1)) then (if (wrap64 ((l0.length : Int) + 1) : Int).toNat ≤ 70368744177664 then (nat_shiftUp.l0 k l0 a1 (List.replicate (wrap64 ((l0.length : Int) + 1) : Int).toNat 0) 0 l0 (l0.length : Int) 0) else (none)) else (none)) = some r := h
 clear h
 obtain ⟨ji3, hji3⟩ : ∃ j_ : Int, (wrap64 ((l0.length : Int) + 1)) = j_ := ⟨_, rfl⟩
 rw [hji3] at H
 have hji3w : (IntKind.i64.wrap ((l0.length : Int) + 1)) = ji3 := (i64_w _).trans hji3
 by_cases c4 : 0 ≤ (ji3)
 ·rw [if_pos c4] at H
  have c4b0 := eq_true c4
  have c4b1 := decide_eq_true c4
  clear c4
  by_cases c5 : (ji3 : Int).toNat ≤ 70368744177664
  ·rw [if_pos c5] at H
   have c5b0 := eq_true c5
   have c5b1 := decide_eq_true c5
   clear c5
   obtain ⟨y246, hy246⟩ : ∃ y_ : List Int, y_ = (List.replicate (ji3 : Int).toNat 0) := ⟨_, rfl⟩
   rw [← hy246] at H
   have Ny246 := mk0 hy246
   clear hy246
   have H' := mk0 H
   clear H
   go_enter Try.func109, Try.ntmps109
   go_wp2_with (first | ((with_reducible refine gate_dst (N := 12) rfl ?_); refine Kd.R_make (Kd.int .u32) _ 87 rfl (N := 12) rfl 25 _ _ rfl ji3 rfl rfl Try.underlying25 (.int .u32 0) 4 info87 rfl (by decide) (by omega) 0 (ok := fun _ => True) (okp := fun _ => True) rfl (fun _ hk => hk) trivial (of_decide_eq_true (by assumption)) (Nat.le_trans (Nat.mul_le_mul_right _ (of_decide_eq_true (by assumption) : ji3.toNat ≤ 70368744177664)) (by omega)) (Below.refl _ _) (Nat.le_refl _) ?_; intro v247 w6 ho7 hb hg_ hnew_; clear hg_ hnew_; (first | rw [← Ny246.out] at ho7 | (simp only [Int.reduceToNat] at ho7; rw [← Ny246.out] at ho7)); have HO248 := mk0 (Rl ho7 (bZ HB.out)); replace HB := hbS HB hb; clear hb ho7))
   go_loopg [6, 15] k (fun kq v6 v15 w' => ∃ (x5_1 : List Int) (x6_1 : Int) (x15_1 : Int), v6 = .int .u64 x6_1 ∧ v15 = .int .i64 x15_1 ∧ Aside0 (nat_shiftUp.l0 kq l0 a1 x5_1 x6_1 l0 (l0.length : Int) x15_1 = some r) ∧ Aside0 (kq ≤ k) ∧ Aside0 (Kd.R (Kd.int .u32) 87 w' w.heap.size (fun _ => True) v247 x5_1) ∧ Aside0 (Below w.heap.size w w'))
   case atStart => exact ⟨(y246), (0), (0), (by first | rfl | (simp; done) | (simp [*]; done)), (by first | rfl | (simp; done) | (simp [*]; done)), H', ⟨Nat.le_refl _⟩, ⟨HO248.out⟩, ⟨by repeat (first | exact HB.out | apply bN | apply b1 | apply bA)⟩⟩
   case round =>
    clear H'
    obtain ⟨x5_1, x6_1, x15_1, rfl, rfl, HA, HK1, HO_5, HB⟩ := hrel
    cases gk with
    | zero => exact absurd HA.out (by simp [nat_shiftUp.l0])
    | succ k1 =>
     have H := HA.out
     clear HA
     simp only [nat_shiftUp.l0] at H
     by_cases c8 : x15_1 < (l0.length : Int)
     ·rw [if_pos c8] at H
      have c8b0 := decide_eq_true c8
      clear c8
      by_cases c9 : 0 ≤ x15_1
      ·rw [if_pos c9] at H
       have c9b0 := decide_eq_true c9
       clear c9
       by_cases c10 : x15_1 < (l0.length : Int)
       ·rw [if_pos c10] at H
        have c10b0 := decide_eq_true c10
        clear c10
        by_cases c11 : 0 ≤ a1
        ·rw [if_pos c11] at H
         have c11b0 := eq_true c11
         have c11b1 := decide_eq_true c11
         clear c11
         obtain ⟨ji12, hji12⟩ : ∃ j_ : Int, (shl .u64 (IntKind.u64.wrap (rd l0 x15_1)) a1) = j_ := ⟨_, rfl⟩
         rw [hji12] at H
         have hji12_ : (IntKind.u64.wrap ((IntKind.u64.wrap (rd l0 x15_1)) * 2 ^ min a1.toNat 64)) = ji12 := hji12
         have hji12z : a1 ≤ 64 → (IntKind.u64.wrap ((IntKind.u64.wrap (rd l0 x15_1)) * 2 ^ a1.toNat)) = ji12 := shl_small hji12
         by_cases c13 : x15_1 < (x5_1.length : Int)
         ·rw [if_pos c13] at H
          have c13b0 := decide_eq_true c13
          clear c13
          obtain ⟨y250, hy250⟩ : ∃ y_ : List Int, y_ = (x5_1.set (x15_1 : Int).toNat ((Go.bits .and .u64 (Go.bits .or .u64 x6_1 (ji12)) 4294967295) % 4294967296)) := ⟨_, rfl⟩
          rw [← hy250] at H
          have Ny250 := mk0 hy250
          clear hy250
          have H' := mk0 H
          clear H
          have p249 : 0 ≤ (x15_1 : Int) := of_decide_eq_true (by assumption)
          have q249 : x15_1 < (l0.length : Int) := of_decide_eq_true (by assumption)
          obtain ⟨ad249, e249, hx249_0⟩ := Kd.at_int HR0.out x15_1 p249 q249
          cases e249
          replace hx249_0 := (HB.out.cell (World.block_lt_of_cell? w _ hx249_0)).trans hx249_0
          replace p249 := eq_true p249
          replace q249 := eq_true q249
          have p14 : 0 ≤ (x15_1 : Int) := of_decide_eq_true (by assumption)
          have q14 : (x15_1 : Int) < ((x5_1.length : Int) : Int) := of_decide_eq_true (by assumption)
          obtain ⟨go14, co14, eo14, gb14, gl14, cl14, HG14⟩ := Kd.R_form HO_5.out (by omega)
          (first | cases eo14 | (injection eo14 with ea_ en_ ec_; (first | subst ea_ | (injection ea_ with ea_; subst ea_)); subst ec_; clear en_))
          have GB14 := mk0 gb14
          have GG14 := mk0 HG14
          clear gb14 gl14 HG14
          obtain ⟨hx14_0, hf14_0⟩ := Kd.R_celln 0 HO_5.out (x15_1 : Int) p14 q14
          replace p14 := eq_true p14
          replace q14 := eq_true q14
          have HP15 := Kd.R_putg HO_5.out (x15_1 : Int) ((Go.bits .and .u64 (Go.bits .or .u64 x6_1 (ji12)) 4294967295) % 4294967296)
          go_wp2_with (first | ((with_reducible refine gate_store (t := 87) (p := 31) rfl ?_); refine store_event (t := 87) (p := 31) (v := ?vo_w16) (w1 := (wr.setCell ⟨go14, (x15_1 : Int).toNat, none⟩ (.int .u32 ((Go.bits .and .u64 (Go.bits .or .u64 x6_1 (ji12)) 4294967295) % 4294967296)))) ?hg ?ho ?hn ?hr ?_; (case ho => rfl); (case hg => rfl); (case hn => rfl); (case hr => go_simp <;> rfl); intro w16 hw; have hg : wr.grownBy w16 (some go14) := (by rw [hw]; exact HP15.2); have hp_ : Kd.R (Kd.int .u32) 87 w16 w.heap.size (fun _ => True) (.slice (some ⟨go14, 0, none⟩) x5_1.length co14) y250 := (by rw [hw, Ny250.out]; exact HP15.1); clear HP15; replace HO_5 := mk0 (hp_); replace HB := mk0 ((by rw [hw]; exact bS (HB.out) GB14.out : Below w.heap.size w w16)); clear hg hw hp_))
          go_roundg k1
          case measure => have := HK1.out; omega
          case rel => exact ⟨(y250), ((Go.bits .or .u64 x6_1 (ji12)) / 4294967296), (wrap64 (x15_1 + 1)), (by first | rfl | (simp; done) | (simp only [← hji12] <;> (first | rfl | simp)) | (simp [*]; done)), (by first | rfl | (simp; done) | (simp [*]; done)), H', ⟨by have := HK1.out; omega⟩, ⟨HO_5.out⟩, ⟨by repeat (first | exact HB.out | apply bN | apply b1 | apply bA)⟩⟩
         ·rw [if_neg c13] at H
          exact absurd H (by simp)
        ·rw [if_neg c11] at H
         exact absurd H (by simp)
       ·rw [if_neg c10] at H
        exact absurd H (by simp)
      ·rw [if_neg c9] at H
       exact absurd H (by simp)
     ·rw [if_neg c8] at H
      have c8b0 := decide_eq_false c8
      clear c8
      by_cases c17 : 0 ≤ (l0.length : Int)
      ·rw [if_pos c17] at H
       have c17b0 := decide_eq_true c17
       have c17b1 : decide (0 ≤ l0.length) = true := decide_eq_true (by omega)
       clear c17
       by_cases c18 : (l0.length : Int) < (x5_1.length : Int)
       ·rw [if_pos c18] at H
        have c18b0 := decide_eq_true c18
        have c18b1 : decide (l0.length < x5_1.length) = true := decide_eq_true (Int.ofNat_lt.mp c18)
        clear c18
        obtain ⟨y251, hy251⟩ : ∃ y_ : List Int, y_ = (x5_1.set ((l0.length : Int) : Int).toNat ((x6_1) % 4294967296)) := ⟨_, rfl⟩
        rw [← hy251] at H
        have Ny251 := mk0 hy251
        clear hy251
        obtain rfl := Option.some.inj H
        have p19 : 0 ≤ ((l0.length : Int) : Int) := of_decide_eq_true (by assumption)
        have q19 : ((l0.length : Int) : Int) < ((x5_1.length : Int) : Int) := of_decide_eq_true (by assumption)
        obtain ⟨go19, co19, eo19, gb19, gl19, cl19, HG19⟩ := Kd.R_form HO_5.out (by omega)
        (first | cases eo19 | (injection eo19 with ea_ en_ ec_; (first | subst ea_ | (injection ea_ with ea_; subst ea_)); subst ec_; clear en_))
        have GB19 := mk0 gb19
        have GG19 := mk0 HG19
        clear gb19 gl19 HG19
        obtain ⟨hx19_0, hf19_0⟩ := Kd.R_celln 0 HO_5.out ((l0.length : Int) : Int) p19 q19
        (try simp only [Int.toNat_natCast] at hx19_0 hf19_0)
        replace p19 := eq_true p19
        replace q19 := eq_true q19
        have HP20 := Kd.R_putg HO_5.out ((l0.length : Int) : Int) ((x6_1) % 4294967296)
        go_wp2_with (first | ((with_reducible refine gate_store (t := 87) (p := 40) rfl ?_); refine store_event (t := 87) (p := 40) (v := ?vo_w21) (w1 := (wr.setCell ⟨go19, ((l0.length : Int) : Int).toNat, none⟩ (.int .u32 ((x6_1) % 4294967296)))) ?hg ?ho ?hn ?hr ?_; (case ho => rfl); (case hg => rfl); (case hn => rfl); (case hr => go_simp <;> rfl); intro w21 hw; have hg : wr.grownBy w21 (some go19) := (by rw [hw]; exact HP20.2); have hp_ : Kd.R (Kd.int .u32) 87 w21 w.heap.size (fun _ => True) (.slice (some ⟨go19, 0, none⟩) x5_1.length co19) y251 := (by rw [hw, Ny251.out]; exact HP20.1); clear HP20; replace HO_5 := mk0 (hp_); replace HB := mk0 ((by rw [hw]; exact bS (HB.out) GB19.out : Below w.heap.size w w21)); clear hg hw hp_))
        go_ret
        exact ⟨_, by first | rfl | (simp [errW_none, errW_some] <;> rfl) | (simp only [← hji3]; first | rfl | (simp [errW_none, errW_some] <;> rfl)) | (simp [*, errW_none, errW_some] <;> rfl), HO_5.out, by repeat (first | exact HB.out | apply bN | apply b1 | apply bA)⟩
       ·rw [if_neg c18] at H
        exact absurd H (by simp)
      ·rw [if_neg c17] at H
       exact absurd H (by simp)
  ·rw [if_neg c5] at H
   exact absurd H (by simp)
 ·rw [if_neg c4] at H
  exact absurd H (by simp)
set_option maxHeartbeats 8000000 in
set_option maxRecDepth 100000 in
theorem nat_guess.calls (k : Nat) (a0 : Int) (a1 : Int) (a2 : Int) (a3 : Int) (a4 : Int) (r : Int) (w : World) (h : nat_guess.f k a0 a1 a2 a3 a4 = some r) :
  Calls Try.prog 110 #[.int .u32 a0, .int .u32 a1, .int .u32 a2, .int .u32 a3, .int .u32 a4] w fun e w' => e = .returned (.int .u64 r) ∧ Drawn0 w w' := by
 have H : (if (IntKind.u64.wrap (a3)) = 0 then (none) else (nat_guess.l0 k a2 a3 a4 (IntKind.u64.wrap (Int.tdiv (Go.bits .or .u64 (IntKind.u64.wrap ((IntKind.u64.wrap (a0)) * 4294967296)) (IntKind.u64.wrap (a1))) (IntKind.u64.wrap (a3)))) (Int.tmod (Go.bits .or .u64 (IntKind.u64.wrap ((IntKind.u64.wrap (a0)) * 4294967296)) (IntKind.u64.wrap (a1))) (IntKind.u64.wrap (a3))))) = some r := h
 clear h
 by_cases c6 : (IntKind.u64.wrap (a3)) = 0
 ·rw [if_pos c6] at H
  exact absurd H (by simp)
 ·rw [if_neg c6] at H
  have c6b0 : ((IntKind.u64.wrap (a3)) == 0) = false := beq_eq_false_iff_ne.mpr c6
  have c6b1 : ((IntKind.u64.wrap (a3)) != 0) = true := bne_iff_ne.mpr c6
  have H' := mk0 H
  clear H
  go_enter Try.func110, Try.ntmps110
  go_wp2
  go_loopg [12, 13] k (fun kq v12 v13 w' => ∃ (x12_1 : Int) (x13_1 : Int), v12 = .int .u64 x12_1 ∧ v13 = .int .u64 x13_1 ∧ Aside0 (nat_guess.l0 kq a2 a3 a4 x12_1 x13_1 = some r) ∧ Aside0 (kq ≤ k) ∧ Drawn0 w w')
  case atStart => exact ⟨(IntKind.u64.wrap (Int.tdiv (Go.bits .or .u64 (IntKind.u64.wrap ((IntKind.u64.wrap (a0)) * 4294967296)) (IntKind.u64.wrap (a1))) (IntKind.u64.wrap (a3)))), (Int.tmod (Go.bits .or .u64 (IntKind.u64.wrap ((IntKind.u64.wrap (a0)) * 4294967296)) (IntKind.u64.wrap (a1))) (IntKind.u64.wrap (a3))), rfl, rfl, H', ⟨Nat.le_refl _⟩, by repeat (first | exact Drawn0.refl _ | apply Drawn0.step)⟩
  case round =>
   clear H'
   obtain ⟨x12_1, x13_1, rfl, rfl, HA, HK1, ⟨m1, rfl⟩⟩ := hrel
   cases gk with
   | zero => exact absurd HA.out (by simp [nat_guess.l0])
   | succ k1 =>
    have H := HA.out
    clear HA
    simp only [nat_guess.l0] at H
    have HC7 := mk0 H
    clear H
    go_upto_region 4 with (fail)
    go_cut [41] (fun v41 wc => ∃ (kq : Nat) (x41_6 : Bool), v41 = .bool x41_6 ∧ Aside0 (nat_guess.j1 kq a2 a3 a4 x12_1 x13_1 x41_6 = some r) ∧ Aside0 (kq ≤ k1) ∧ Drawn0 w wc)
    case first =>
     have H := HC7.out
     clear HC7
     by_cases c8 : x12_1 > 4294967295
     ·rw [if_pos c8] at H
      have c8b0 := decide_eq_true c8
      clear c8
      (first | rw [c8b0] | (simp only [i64_w, i32_w]; rw [c8b0]) | skip)
      have H' := mk0 H
      clear H
      go_wp2
      go_meet
      case rel => exact ⟨_, (true), rfl, H', ⟨by have := HK1.out; first | omega | exact Nat.le_refl _⟩, by repeat (first | exact Drawn0.refl _ | apply Drawn0.step)⟩
     ·rw [if_neg c8] at H
      have c8b0 := decide_eq_false c8
      clear c8
      (first | rw [c8b0] | (simp only [i64_w, i32_w]; rw [c8b0]) | skip)
      have H' := mk0 H
      clear H
      go_wp2
      go_meet
      case rel => exact ⟨_, (decide ((IntKind.u64.wrap (x12_1 * (IntKind.u64.wrap (a4)))) > (Go.bits .or .u64 (IntKind.u64.wrap (x13_1 * 4294967296)) (IntKind.u64.wrap (a2))))), rfl, H', ⟨by have := HK1.out; first | omega | exact Nat.le_refl _⟩, by repeat (first | exact Drawn0.refl _ | apply Drawn0.step)⟩
    case rest =>
     clear HC7
     obtain ⟨kq, x41_6, rfl, HA, HJ6, ⟨mc6, rfl⟩⟩ := hcut
     cases kq with
     | zero => exact absurd HA.out (by simp [nat_guess.j1])
     | succ kj6 =>
      have H := HA.out
      clear HA
      simp only [nat_guess.j1] at H
      by_cases c9 : x41_6 = true
      ·subst c9
       have H1 : (if (IntKind.u64.wrap (x13_1 + (IntKind.u64.wrap (a3)))) > 4294967295 then (some (IntKind.u64.wrap (x12_1 - 1))) else (nat_guess.l0 kj6 a2 a3 a4 (IntKind.u64.wrap (x12_1 - 1)) (IntKind.u64.wrap (x13_1 + (IntKind.u64.wrap (a3)))))) = some r := by rw [if_pos rfl] at H; exact H
       clear H
       have H := H1
       clear H1
       by_cases c10 : (IntKind.u64.wrap (x13_1 + (IntKind.u64.wrap (a3)))) > 4294967295
       ·rw [if_pos c10] at H
        have c10b0 := decide_eq_true c10
        clear c10
        obtain rfl := Option.some.inj H
        go_wp2
        go_ret
        exact ⟨by first | rfl | (simp; done) | (simp [*]; done), by repeat (first | exact Drawn0.refl _ | apply Drawn0.step)⟩
       ·rw [if_neg c10] at H
        have c10b0 := decide_eq_false c10
        clear c10
        have H' := mk0 H
        clear H
        go_wp2
        go_roundg kj6
        case measure => have := HK1.out; have := HJ6.out; omega
        case rel => exact ⟨(IntKind.u64.wrap (x12_1 - 1)), (IntKind.u64.wrap (x13_1 + (IntKind.u64.wrap (a3)))), rfl, rfl, H', ⟨by have := HK1.out; have := HJ6.out; omega⟩, by repeat (first | exact Drawn0.refl _ | apply Drawn0.step)⟩
      ·replace c9 := Bool.eq_false_iff.mpr c9
       subst c9
       have H1 : (some x12_1) = some r := by rw [if_neg (show ¬ (false = true) by decide)] at H; exact H
       clear H
       have H := H1
       clear H1
       obtain rfl := Option.some.inj H
       go_wp2
       go_ret
       exact ⟨by first | rfl | (simp; done) | (simp [*]; done), by repeat (first | exact Drawn0.refl _ | apply Drawn0.step)⟩
set_option maxHeartbeats 8000000 in
set_option maxRecDepth 100000 in
theorem nat_subtract.calls (k : Nat) (P0_ : Nat → Prop) (u9000_ : Value) (l0 : List Int) (lo hi : Int) (A0 : Option Addr) (n0 c0 : Nat) (A1 : Option Addr) (c1 : Nat) (l1 : List Int) (a2 : Int) (r1 : Bool) (r2 : List Int) (w0 w : World) (hB : Below w0.heap.size w0 w) (ho0 : Kd.R (Kd.int .u32) 87 w w0.heap.size P0_ u9000_ l0) (hw0 : ∀ Au nu cu, u9000_ = .slice Au nu cu → A0 = (if cu = lo.toNat then Au else Au.map (·.add (lo.toNat * 1)))) (hn0 : n0 = hi.toNat - lo.toNat) (hr1 : ∀ W_, Kept w W_ (fun k_ => P0_ k_) → Kd.C (Kd.int .u32) W_ A1 l1.length l1) (hc1 : l1.length ≤ c1) (h : nat_subtract.f k l0 lo hi l1 a2 = some (r1, r2)) :
  Calls Try.prog 111 #[.slice A0 n0 c0, .slice A1 l1.length c1, .int .u64 a2] w fun e w' => e = .returned (.bool r1) ∧ Kd.R (Kd.int .u32) 87 w' w0.heap.size (fun k_ => (P0_ k_ ∨ w.heap.size ≤ k_)) u9000_ r2 ∧ Below w0.heap.size w0 w' ∧ Kept w w' (fun k_ => P0_ k_) := by
 obtain ⟨h0, h⟩ : 0 ≤ lo ∧ (if lo < hi then (if hi ≤ (l0.length : Int) then (nat_subtract.g k ((l0.take hi.toNat).drop lo.toNat) l1 a2).bind (fun t => some (t.1, l0.take lo.toNat ++ t.2 ++ l0.drop hi.toNat)) else none) else none) = some (r1, r2) := by
  unfold nat_subtract.f at h
  by_cases h0 : 0 ≤ lo
  ·exact ⟨h0, by rw [if_pos h0] at h; exact h⟩
  ·rw [if_neg h0] at h; cases h
 obtain ⟨h1, h⟩ : lo < hi ∧ (if hi ≤ (l0.length : Int) then (nat_subtract.g k ((l0.take hi.toNat).drop lo.toNat) l1 a2).bind (fun t => some (t.1, l0.take lo.toNat ++ t.2 ++ l0.drop hi.toNat)) else none) = some (r1, r2) := by
  by_cases h1 : lo < hi
  ·exact ⟨h1, by rw [if_pos h1] at h; exact h⟩
  ·rw [if_neg h1] at h; cases h
 obtain ⟨h2, h⟩ : hi ≤ (l0.length : Int) ∧ (nat_subtract.g k ((l0.take hi.toNat).drop lo.toNat) l1 a2).bind (fun t => some (t.1, l0.take lo.toNat ++ t.2 ++ l0.drop hi.toNat)) = some (r1, r2) := by
  by_cases h2 : hi ≤ (l0.length : Int)
  ·exact ⟨h2, by rw [if_pos h2] at h; exact h⟩
  ·rw [if_neg h2] at h; cases h
 obtain ⟨t0, h3, h⟩ := Option.bind_eq_some_iff.mp h
 obtain ⟨go, co, eo, gb, gl, cl, HG⟩ := Kd.R_form ho0 (by omega)
 subst eo
 have hA := hw0 _ _ _ rfl
 have hco : l0.length ≤ co := (Kd.R_reads' ho0).2.1
 rw [if_neg (by omega)] at hA
 obtain ⟨lon, hlon⟩ : ∃ z, z = lo.toNat := ⟨_, rfl⟩
 have hA' : A0 = some ⟨go, lon, none⟩ := by rw [hA, hlon]; simp [add_plain]
 subst hA'
 clear hA hw0
 obtain ⟨x0, hx0⟩ : ∃ z, z = (l0.take hi.toNat).drop lo.toNat := ⟨_, rfl⟩
 rw [← hx0] at h3
 have hlen : x0.length = n0 := by rw [hx0, hn0, lD, lT]; omega
 obtain ⟨pre, hpre⟩ : ∃ z, z = l0.take lo.toNat := ⟨_, rfl⟩
 obtain ⟨post, hpost⟩ : ∃ z, z = l0.drop hi.toNat := ⟨_, rfl⟩
 have hall : pre ++ x0 ++ post = l0 := by
  rw [hpre, hx0, hpost, List.append_assoc]
  have e1 : (l0.take hi.toNat).drop lo.toNat ++ l0.drop hi.toNat = l0.drop lo.toNat := by
   have e2 : l0.drop lo.toNat = ((l0.take hi.toNat) ++ l0.drop hi.toNat).drop lo.toNat := by rw [List.take_append_drop]
   rw [e2, List.drop_append_of_le_length (by rw [lT]; omega)]
  rw [e1, List.take_append_drop]
 have HW := mk0 (show Win .u32 87 w w0.heap.size (fun k_ => (P0_ k_ ∨ w.heap.size ≤ k_)) go co lon n0 pre post x0 from ⟨by rw [hpre, hlon, lT]; omega, hlen, by rw [hall]; exact Rm ho0 (fun k_ hk => .inl hk)⟩)
 have HLN := mk0 (show (l0.length = (pre ++ x0 ++ post).length) from by rw [hall])
 have HQ0 := mk0 (show some (r1, r2) = some (r1, r2) from rfl)
 rw [← hpre, ← hpost] at h
 have HH := mk0 h
 have HR1 := mk0 hr1
 have HC1 := mk0 hc1
 have GB := mk0 gb
 have HN1 := mk0 (show (1 : Int) ≤ n0 from by omega)
 clear hr1 hc1 h hall hpre hpost hx0 hlen hn0 hlon h0 h1 h2 hco gb gl HG ho0
 have HK := mk0 (Kept.refl w (fun k_ => P0_ k_))
 have HW0 := mk0 hB.size
 have HB := mk0 hB
 clear hB
 have H' := mk0 (show nat_subtract.l0 k x0 l1 a2 0 0 l1 (l1.length : Int) 0 = some t0 from h3)
 clear h3
 go_enter Try.func111, Try.ntmps111
 go_wp2
 go_loopg [7, 8, 15] k (fun kq v7 v8 v15 w' => ∃ (x0_1 : List Int) (x7_1 : Int) (x8_1 : Int) (x15_1 : Int), v7 = .int .u64 x7_1 ∧ v8 = .int .u64 x8_1 ∧ v15 = .int .i64 x15_1 ∧ Aside0 (nat_subtract.l0 kq x0_1 l1 a2 x7_1 x8_1 l1 (l1.length : Int) x15_1 = some t0) ∧ Aside0 (kq ≤ k) ∧ Aside0 (Win .u32 87 w' w0.heap.size (fun k_ => (P0_ k_ ∨ w.heap.size ≤ k_)) go co lon n0 pre post x0_1) ∧ Aside0 (Kept w w' (fun k_ => P0_ k_)) ∧ Aside0 (Below w0.heap.size w0 w'))
 case atStart => exact ⟨x0, (0), (0), (0), rfl, rfl, rfl, H', ⟨Nat.le_refl _⟩, ⟨HW.out⟩, ⟨by repeat (first | exact HK.out | apply bN | apply b1 | apply bA)⟩, ⟨by repeat (first | exact HB.out | apply bN | apply b1 | apply bA)⟩⟩
 case round =>
  obtain ⟨x0_1, x7_1, x8_1, x15_1, rfl, rfl, rfl, HA, HK1, HO_0, HK, HB⟩ := hrel
  have HX := mk0 HO_0.out.2.1
  have HLNX := mk0 (show x0.length = x0_1.length by have a_ := HW.out.2.1; have b_ := HX.out; omega)
  cases gk with
  | zero => exact absurd HA.out (by simp [nat_subtract.l0])
  | succ k1 =>
   have H := HA.out
   clear HA
   simp only [nat_subtract.l0] at H
   by_cases c4 : x15_1 < (l1.length : Int)
   ·rw [if_pos c4] at H
    have c4b0 := decide_eq_true c4
    by_cases c5 : 0 ≤ x15_1
    ·rw [if_pos c5, if_pos c4] at H
     have c5b0 := decide_eq_true c5
     by_cases c7 : x15_1 < (x0_1.length : Int)
     ·rw [if_pos c7] at H
      have HI0 := mk0 c5
      have HI1 := mk0 (show x15_1 < (n0 : Int) by have := HX.out; omega)
      have q166 : x15_1 < (l1.length : Int) := c4
      have p166 : 0 ≤ (x15_1 : Int) := c5
      obtain ⟨ad166, e166, hx166_0⟩ := Kd.at_int (Kd.C_kept_now HR1.out HK.out) x15_1 p166 q166
      cases e166
      have q167 : x15_1 < (n0 : Int) := HI1.out
      have q167b : decide (x15_1 < (n0 : Int)) = true := decide_eq_true q167
      clear c4 c5 c7
      have H' := mk0 H
      clear H
      obtain ⟨hx8_0, hf8_0⟩ := Win.at_ HO_0.out x15_1 HI0.out HI1.out
      replace p166 := eq_true p166
      replace q166 := eq_true q166
      replace q167 := eq_true q167
      have hp9_ := Win.put HO_0.out (x15_1) HI0.out HI1.out ((Go.bits .and .u64 (IntKind.u64.wrap ((IntKind.u64.wrap ((IntKind.u64.wrap (rd x0_1 x15_1)) - x7_1)) - (Go.bits .and .u64 (IntKind.u64.wrap (x8_1 + (IntKind.u64.wrap (a2 * (IntKind.u64.wrap (rd l1 x15_1)))))) 4294967295))) 4294967295) % 4294967296)
      have HMg := mk0 (show (P0_ go ∨ w.heap.size ≤ go) from Win.mine HO_0.out)
      have HP_ := mk0 hp9_
      clear hp9_
      go_wp2_with (first | ((with_reducible refine gate_store (t := 87) (p := 41) rfl ?_); refine store_event (t := 87) (p := 41) (v := ?vo_) (w1 := (wr.setCell ⟨go, lon + (x15_1 : Int).toNat, none⟩ (.int .u32 ((Go.bits .and .u64 (IntKind.u64.wrap ((IntKind.u64.wrap ((IntKind.u64.wrap (rd x0_1 x15_1)) - x7_1)) - (Go.bits .and .u64 (IntKind.u64.wrap (x8_1 + (IntKind.u64.wrap (a2 * (IntKind.u64.wrap (rd l1 x15_1)))))) 4294967295))) 4294967295) % 4294967296)))) ?hg ?ho ?hn ?hr ?_; (case ho => rfl); (case hg => rfl); (case hn => rfl); (case hr => go_simp <;> rfl); intro w11 hw; have hg : wr.grownBy w11 (some go) := (by rw [hw]; exact HP_.out.2); have hp_ : Win .u32 87 w11 w0.heap.size (fun k_ => (P0_ k_ ∨ w.heap.size ≤ k_)) go co lon n0 pre post (x0_1.set (x15_1 : Int).toNat ((Go.bits .and .u64 (IntKind.u64.wrap ((IntKind.u64.wrap ((IntKind.u64.wrap (rd x0_1 x15_1)) - x7_1)) - (Go.bits .and .u64 (IntKind.u64.wrap (x8_1 + (IntKind.u64.wrap (a2 * (IntKind.u64.wrap (rd l1 x15_1)))))) 4294967295))) 4294967295) % 4294967296)) := (by rw [hw]; exact HP_.out.1); clear HP_; replace HO_0 := mk0 (hp_); replace HB := mk0 ((by rw [hw]; exact bS (HB.out) GB.out : Below w0.heap.size w0 w11)); replace HK := mk0 (Kept.of_grown (S := (fun k_ => P0_ k_)) hg HK.out (fun k_ e_ => by cases e_; exact HMg.out)); clear hg hw hp_))
      go_roundg k1
      case measure => have := HK1.out; omega
      case rel => exact ⟨_, ((IntKind.u64.wrap ((IntKind.u64.wrap ((IntKind.u64.wrap (rd x0_1 x15_1)) - x7_1)) - (Go.bits .and .u64 (IntKind.u64.wrap (x8_1 + (IntKind.u64.wrap (a2 * (IntKind.u64.wrap (rd l1 x15_1)))))) 4294967295))) / 9223372036854775808), ((IntKind.u64.wrap (x8_1 + (IntKind.u64.wrap (a2 * (IntKind.u64.wrap (rd l1 x15_1)))))) / 4294967296), (wrap64 (x15_1 + 1)), rfl, rfl, rfl, H', ⟨by have := HK1.out; omega⟩, ⟨HO_0.out⟩, ⟨by repeat (first | exact HK.out | apply bN | apply b1 | apply bA)⟩, ⟨by repeat (first | exact HB.out | apply bN | apply b1 | apply bA)⟩⟩
     ·rw [if_neg c7] at H
      exact absurd H (by simp)
    ·rw [if_neg c5] at H
     exact absurd H (by simp)
   ·rw [if_neg c4] at H
    have c4b0 := decide_eq_false c4
    clear c4
    by_cases c12 : 0 ≤ (l1.length : Int)
    ·rw [if_pos c12] at H
     have c12b0 := decide_eq_true c12
     have c12b1 : decide (0 ≤ l1.length) = true := decide_eq_true (by omega)
     by_cases c13 : (l1.length : Int) < (x0_1.length : Int)
     ·rw [if_pos c13] at H
      have HI0 := mk0 c12
      have HI1 := mk0 (show (l1.length : Int) < (n0 : Int) by have := HX.out; omega)
      have c13b0 : decide ((l1.length : Int) < (n0 : Int)) = true := decide_eq_true HI1.out
      have c13b1 : decide (l1.length < n0) = true := decide_eq_true (by have := HI1.out; omega)
      have q169 : (l1.length : Int) < (n0 : Int) := HI1.out
      clear c12 c13
      have HE := mk0 (Option.some.inj H)
      clear H
      obtain ⟨hx14_0, hf14_0⟩ := Win.at_ HO_0.out (l1.length : Int) HI0.out HI1.out
      (try simp only [Int.toNat_natCast] at hx14_0 hf14_0)
      replace q169 := eq_true q169
      have hp9_ := Win.put HO_0.out ((l1.length : Int)) HI0.out HI1.out ((Go.bits .and .u64 (IntKind.u64.wrap ((IntKind.u64.wrap ((IntKind.u64.wrap (rd x0_1 (l1.length : Int))) - x7_1)) - x8_1)) 4294967295) % 4294967296)
      have HMg := mk0 (show (P0_ go ∨ w.heap.size ≤ go) from Win.mine HO_0.out)
      (try simp only [Int.toNat_natCast] at hp9_)
      have HP_ := mk0 hp9_
      clear hp9_
      go_wp2_with (first | ((with_reducible refine gate_store (t := 87) (p := 63) rfl ?_); refine store_event (t := 87) (p := 63) (v := ?vo_b) (w1 := (wr.setCell ⟨go, lon + l1.length, none⟩ (.int .u32 ((Go.bits .and .u64 (IntKind.u64.wrap ((IntKind.u64.wrap ((IntKind.u64.wrap (rd x0_1 (l1.length : Int))) - x7_1)) - x8_1)) 4294967295) % 4294967296)))) ?hg ?ho ?hn ?hr ?_; (case ho => rfl); (case hg => rfl); (case hn => rfl); (case hr => go_simp <;> rfl); intro w11 hw; have hg : wr.grownBy w11 (some go) := (by rw [hw]; exact HP_.out.2); have hp_ : Win .u32 87 w11 w0.heap.size (fun k_ => (P0_ k_ ∨ w.heap.size ≤ k_)) go co lon n0 pre post (x0_1.set l1.length ((Go.bits .and .u64 (IntKind.u64.wrap ((IntKind.u64.wrap ((IntKind.u64.wrap (rd x0_1 (l1.length : Int))) - x7_1)) - x8_1)) 4294967295) % 4294967296)) := (by rw [hw]; exact HP_.out.1); clear HP_; replace HO_0 := mk0 (hp_); replace HB := mk0 ((by rw [hw]; exact bS (HB.out) GB.out : Below w0.heap.size w0 w11)); replace HK := mk0 (Kept.of_grown (S := (fun k_ => P0_ k_)) hg HK.out (fun k_ e_ => by cases e_; exact HMg.out)); clear hg hw hp_))
      have HF := mk0 (show Kd.R (Kd.int .u32) 87 _ w0.heap.size (fun k_ => (P0_ k_ ∨ w.heap.size ≤ k_)) (.slice (some ⟨go, 0, none⟩) l0.length co) (pre ++ (x0_1.set l1.length ((Go.bits .and .u64 (IntKind.u64.wrap ((IntKind.u64.wrap ((IntKind.u64.wrap (rd x0_1 (l1.length : Int))) - x7_1)) - x8_1)) 4294967295) % 4294967296)) ++ post) from by rw [HLN.out]; have z_ := HO_0.out.2.2; simpa [List.length_set, HLNX.out] using z_)
      go_ret
      have hh := HH.out
      have he := HE.out
      simp only [Int.toNat_natCast] at he
      subst he
      simp only [Option.some.injEq, Prod.mk.injEq] at hh
      obtain ⟨rfl, rfl⟩ := hh
      exact ⟨by first | rfl | (simp; done) | (simp [*]; done), HF.out, by repeat (first | exact HB.out | apply bN | apply b1 | apply bA), by repeat (first | exact HK.out | apply bN | apply b1 | apply bA)⟩
     ·rw [if_neg c13] at H
      exact absurd H (by simp)
    ·rw [if_neg c12] at H
     exact absurd H (by simp)
set_option maxHeartbeats 8000000 in
set_option maxRecDepth 100000 in
theorem nat_addBack.calls (k : Nat) (P0_ : Nat → Prop) (u9000_ : Value) (l0 : List Int) (lo hi : Int) (A0 : Option Addr) (n0 c0 : Nat) (A1 : Option Addr) (c1 : Nat) (l1 : List Int) (r : List Int) (w0 w : World) (hB : Below w0.heap.size w0 w) (ho0 : Kd.R (Kd.int .u32) 87 w w0.heap.size P0_ u9000_ l0) (hw0 : ∀ Au nu cu, u9000_ = .slice Au nu cu → A0 = (if cu = lo.toNat then Au else Au.map (·.add (lo.toNat * 1)))) (hn0 : n0 = hi.toNat - lo.toNat) (hr1 : ∀ W_, Kept w W_ (fun k_ => P0_ k_) → Kd.C (Kd.int .u32) W_ A1 l1.length l1) (hc1 : l1.length ≤ c1) (h : nat_addBack.f k l0 lo hi l1 = some r) :
  Calls Try.prog 112 #[.slice A0 n0 c0, .slice A1 l1.length c1] w fun e w' => e = .returned (.tuple #[]) ∧ Kd.R (Kd.int .u32) 87 w' w0.heap.size (fun k_ => (P0_ k_ ∨ w.heap.size ≤ k_)) u9000_ r ∧ Below w0.heap.size w0 w' ∧ Kept w w' (fun k_ => P0_ k_) := by
 obtain ⟨h0, h⟩ : 0 ≤ lo ∧ (if lo < hi then (if hi ≤ (l0.length : Int) then (nat_addBack.g k ((l0.take hi.toNat).drop lo.toNat) l1).bind (fun t => some (l0.take lo.toNat ++ t ++ l0.drop hi.toNat)) else none) else none) = some r := by
  unfold nat_addBack.f at h
  by_cases h0 : 0 ≤ lo
  ·exact ⟨h0, by rw [if_pos h0] at h; exact h⟩
  ·rw [if_neg h0] at h; cases h
 obtain ⟨h1, h⟩ : lo < hi ∧ (if hi ≤ (l0.length : Int) then (nat_addBack.g k ((l0.take hi.toNat).drop lo.toNat) l1).bind (fun t => some (l0.take lo.toNat ++ t ++ l0.drop hi.toNat)) else none) = some r := by
  by_cases h1 : lo < hi
  ·exact ⟨h1, by rw [if_pos h1] at h; exact h⟩
  ·rw [if_neg h1] at h; cases h
 obtain ⟨h2, h⟩ : hi ≤ (l0.length : Int) ∧ (nat_addBack.g k ((l0.take hi.toNat).drop lo.toNat) l1).bind (fun t => some (l0.take lo.toNat ++ t ++ l0.drop hi.toNat)) = some r := by
  by_cases h2 : hi ≤ (l0.length : Int)
  ·exact ⟨h2, by rw [if_pos h2] at h; exact h⟩
  ·rw [if_neg h2] at h; cases h
 obtain ⟨t0, h3, h⟩ := Option.bind_eq_some_iff.mp h
 obtain ⟨go, co, eo, gb, gl, cl, HG⟩ := Kd.R_form ho0 (by omega)
 subst eo
 have hA := hw0 _ _ _ rfl
 have hco : l0.length ≤ co := (Kd.R_reads' ho0).2.1
 rw [if_neg (by omega)] at hA
 obtain ⟨lon, hlon⟩ : ∃ z, z = lo.toNat := ⟨_, rfl⟩
 have hA' : A0 = some ⟨go, lon, none⟩ := by rw [hA, hlon]; simp [add_plain]
 subst hA'
 clear hA hw0
 obtain ⟨x0, hx0⟩ : ∃ z, z = (l0.take hi.toNat).drop lo.toNat := ⟨_, rfl⟩
 rw [← hx0] at h3
 have hlen : x0.length = n0 := by rw [hx0, hn0, lD, lT]; omega
 obtain ⟨pre, hpre⟩ : ∃ z, z = l0.take lo.toNat := ⟨_, rfl⟩
 obtain ⟨post, hpost⟩ : ∃ z, z = l0.drop hi.toNat := ⟨_, rfl⟩
 have hall : pre ++ x0 ++ post = l0 := by
  rw [hpre, hx0, hpost, List.append_assoc]
  have e1 : (l0.take hi.toNat).drop lo.toNat ++ l0.drop hi.toNat = l0.drop lo.toNat := by
   have e2 : l0.drop lo.toNat = ((l0.take hi.toNat) ++ l0.drop hi.toNat).drop lo.toNat := by rw [List.take_append_drop]
   rw [e2, List.drop_append_of_le_length (by rw [lT]; omega)]
  rw [e1, List.take_append_drop]
 have HW := mk0 (show Win .u32 87 w w0.heap.size (fun k_ => (P0_ k_ ∨ w.heap.size ≤ k_)) go co lon n0 pre post x0 from ⟨by rw [hpre, hlon, lT]; omega, hlen, by rw [hall]; exact Rm ho0 (fun k_ hk => .inl hk)⟩)
 have HLN := mk0 (show (l0.length = (pre ++ x0 ++ post).length) from by rw [hall])
 have HQ0 := mk0 (show some r = some r from rfl)
 rw [← hpre, ← hpost] at h
 have HH := mk0 h
 have HR1 := mk0 hr1
 have HC1 := mk0 hc1
 have GB := mk0 gb
 have HN1 := mk0 (show (1 : Int) ≤ n0 from by omega)
 clear hr1 hc1 h hall hpre hpost hx0 hlen hn0 hlon h0 h1 h2 hco gb gl HG ho0
 have HK := mk0 (Kept.refl w (fun k_ => P0_ k_))
 have HW0 := mk0 hB.size
 have HB := mk0 hB
 clear hB
 have H' := mk0 (show nat_addBack.l0 k x0 l1 0 l1 (l1.length : Int) 0 = some t0 from h3)
 clear h3
 go_enter Try.func112, Try.ntmps112
 go_wp2
 go_loopg [4, 9] k (fun kq v4 v9 w' => ∃ (x0_1 : List Int) (x4_1 : Int) (x9_1 : Int), v4 = .int .u64 x4_1 ∧ v9 = .int .i64 x9_1 ∧ Aside0 (nat_addBack.l0 kq x0_1 l1 x4_1 l1 (l1.length : Int) x9_1 = some t0) ∧ Aside0 (kq ≤ k) ∧ Aside0 (Win .u32 87 w' w0.heap.size (fun k_ => (P0_ k_ ∨ w.heap.size ≤ k_)) go co lon n0 pre post x0_1) ∧ Aside0 (Kept w w' (fun k_ => P0_ k_)) ∧ Aside0 (Below w0.heap.size w0 w'))
 case atStart => exact ⟨x0, (0), (0), rfl, rfl, H', ⟨Nat.le_refl _⟩, ⟨HW.out⟩, ⟨by repeat (first | exact HK.out | apply bN | apply b1 | apply bA)⟩, ⟨by repeat (first | exact HB.out | apply bN | apply b1 | apply bA)⟩⟩
 case round =>
  obtain ⟨x0_1, x4_1, x9_1, rfl, rfl, HA, HK1, HO_0, HK, HB⟩ := hrel
  have HX := mk0 HO_0.out.2.1
  have HLNX := mk0 (show x0.length = x0_1.length by have a_ := HW.out.2.1; have b_ := HX.out; omega)
  cases gk with
  | zero => exact absurd HA.out (by simp [nat_addBack.l0])
  | succ k1 =>
   have H := HA.out
   clear HA
   simp only [nat_addBack.l0] at H
   by_cases c4 : x9_1 < (l1.length : Int)
   ·rw [if_pos c4] at H
    have c4b0 := decide_eq_true c4
    by_cases c5 : 0 ≤ x9_1
    ·rw [if_pos c5, if_pos c4] at H
     have c5b0 := decide_eq_true c5
     by_cases c7 : x9_1 < (x0_1.length : Int)
     ·rw [if_pos c7] at H
      have HI0 := mk0 c5
      have HI1 := mk0 (show x9_1 < (n0 : Int) by have := HX.out; omega)
      have q166 : x9_1 < (l1.length : Int) := c4
      have p166 : 0 ≤ (x9_1 : Int) := c5
      obtain ⟨ad166, e166, hx166_0⟩ := Kd.at_int (Kd.C_kept_now HR1.out HK.out) x9_1 p166 q166
      cases e166
      have q167 : x9_1 < (n0 : Int) := HI1.out
      have q167b : decide (x9_1 < (n0 : Int)) = true := decide_eq_true q167
      clear c4 c5 c7
      have H' := mk0 H
      clear H
      obtain ⟨hx8_0, hf8_0⟩ := Win.at_ HO_0.out x9_1 HI0.out HI1.out
      replace p166 := eq_true p166
      replace q166 := eq_true q166
      replace q167 := eq_true q167
      have hp9_ := Win.put HO_0.out (x9_1) HI0.out HI1.out ((Go.bits .and .u64 (IntKind.u64.wrap (x4_1 + (IntKind.u64.wrap ((IntKind.u64.wrap (rd x0_1 x9_1)) + (IntKind.u64.wrap (rd l1 x9_1)))))) 4294967295) % 4294967296)
      have HMg := mk0 (show (P0_ go ∨ w.heap.size ≤ go) from Win.mine HO_0.out)
      have HP_ := mk0 hp9_
      clear hp9_
      go_wp2_with (first | ((with_reducible refine gate_store (t := 87) (p := 29) rfl ?_); refine store_event (t := 87) (p := 29) (v := ?vo_) (w1 := (wr.setCell ⟨go, lon + (x9_1 : Int).toNat, none⟩ (.int .u32 ((Go.bits .and .u64 (IntKind.u64.wrap (x4_1 + (IntKind.u64.wrap ((IntKind.u64.wrap (rd x0_1 x9_1)) + (IntKind.u64.wrap (rd l1 x9_1)))))) 4294967295) % 4294967296)))) ?hg ?ho ?hn ?hr ?_; (case ho => rfl); (case hg => rfl); (case hn => rfl); (case hr => go_simp <;> rfl); intro w11 hw; have hg : wr.grownBy w11 (some go) := (by rw [hw]; exact HP_.out.2); have hp_ : Win .u32 87 w11 w0.heap.size (fun k_ => (P0_ k_ ∨ w.heap.size ≤ k_)) go co lon n0 pre post (x0_1.set (x9_1 : Int).toNat ((Go.bits .and .u64 (IntKind.u64.wrap (x4_1 + (IntKind.u64.wrap ((IntKind.u64.wrap (rd x0_1 x9_1)) + (IntKind.u64.wrap (rd l1 x9_1)))))) 4294967295) % 4294967296)) := (by rw [hw]; exact HP_.out.1); clear HP_; replace HO_0 := mk0 (hp_); replace HB := mk0 ((by rw [hw]; exact bS (HB.out) GB.out : Below w0.heap.size w0 w11)); replace HK := mk0 (Kept.of_grown (S := (fun k_ => P0_ k_)) hg HK.out (fun k_ e_ => by cases e_; exact HMg.out)); clear hg hw hp_))
      go_roundg k1
      case measure => have := HK1.out; omega
      case rel => exact ⟨_, ((IntKind.u64.wrap (x4_1 + (IntKind.u64.wrap ((IntKind.u64.wrap (rd x0_1 x9_1)) + (IntKind.u64.wrap (rd l1 x9_1)))))) / 4294967296), (wrap64 (x9_1 + 1)), rfl, rfl, H', ⟨by have := HK1.out; omega⟩, ⟨HO_0.out⟩, ⟨by repeat (first | exact HK.out | apply bN | apply b1 | apply bA)⟩, ⟨by repeat (first | exact HB.out | apply bN | apply b1 | apply bA)⟩⟩
     ·rw [if_neg c7] at H
      exact absurd H (by simp)
    ·rw [if_neg c5] at H
     exact absurd H (by simp)
   ·rw [if_neg c4] at H
    have c4b0 := decide_eq_false c4
    clear c4
    by_cases c12 : 0 ≤ (l1.length : Int)
    ·rw [if_pos c12] at H
     have c12b0 := decide_eq_true c12
     have c12b1 : decide (0 ≤ l1.length) = true := decide_eq_true (by omega)
     by_cases c13 : (l1.length : Int) < (x0_1.length : Int)
     ·rw [if_pos c13] at H
      have HI0 := mk0 c12
      have HI1 := mk0 (show (l1.length : Int) < (n0 : Int) by have := HX.out; omega)
      have c13b0 : decide ((l1.length : Int) < (n0 : Int)) = true := decide_eq_true HI1.out
      have c13b1 : decide (l1.length < n0) = true := decide_eq_true (by have := HI1.out; omega)
      have q169 : (l1.length : Int) < (n0 : Int) := HI1.out
      clear c12 c13
      have HE := mk0 (Option.some.inj H)
      clear H
      obtain ⟨hx14_0, hf14_0⟩ := Win.at_ HO_0.out (l1.length : Int) HI0.out HI1.out
      (try simp only [Int.toNat_natCast] at hx14_0 hf14_0)
      replace q169 := eq_true q169
      have hp9_ := Win.put HO_0.out ((l1.length : Int)) HI0.out HI1.out ((rd x0_1 (l1.length : Int) + x4_1) % 4294967296)
      have HMg := mk0 (show (P0_ go ∨ w.heap.size ≤ go) from Win.mine HO_0.out)
      (try simp only [Int.toNat_natCast] at hp9_)
      have HP_ := mk0 hp9_
      clear hp9_
      go_wp2_with (first | ((with_reducible refine gate_store (t := 87) (p := 41) rfl ?_); refine store_event (t := 87) (p := 41) (v := ?vo_b) (w1 := (wr.setCell ⟨go, lon + l1.length, none⟩ (.int .u32 ((rd x0_1 (l1.length : Int) + x4_1) % 4294967296)))) ?hg ?ho ?hn ?hr ?_; (case ho => rfl); (case hg => rfl); (case hn => rfl); (case hr => go_simp <;> rfl); intro w11 hw; have hg : wr.grownBy w11 (some go) := (by rw [hw]; exact HP_.out.2); have hp_ : Win .u32 87 w11 w0.heap.size (fun k_ => (P0_ k_ ∨ w.heap.size ≤ k_)) go co lon n0 pre post (x0_1.set l1.length ((rd x0_1 (l1.length : Int) + x4_1) % 4294967296)) := (by rw [hw]; exact HP_.out.1); clear HP_; replace HO_0 := mk0 (hp_); replace HB := mk0 ((by rw [hw]; exact bS (HB.out) GB.out : Below w0.heap.size w0 w11)); replace HK := mk0 (Kept.of_grown (S := (fun k_ => P0_ k_)) hg HK.out (fun k_ e_ => by cases e_; exact HMg.out)); clear hg hw hp_))
      have HF := mk0 (show Kd.R (Kd.int .u32) 87 _ w0.heap.size (fun k_ => (P0_ k_ ∨ w.heap.size ≤ k_)) (.slice (some ⟨go, 0, none⟩) l0.length co) (pre ++ (x0_1.set l1.length ((rd x0_1 (l1.length : Int) + x4_1) % 4294967296)) ++ post) from by rw [HLN.out]; have z_ := HO_0.out.2.2; simpa [List.length_set, HLNX.out] using z_)
      first | go_end0 | ((try simp only [Exit.inBlock, Exit.then]); refine bodyPost_ret (results_none rfl _ _ _) rfl ?_)
      have hh := HH.out
      have he := HE.out
      simp only [Int.add_emod_emod, Int.toNat_natCast] at he
      subst he
      obtain rfl := Option.some.inj hh
      exact ⟨by first | rfl | (simp; done) | (simp [*]; done), HF.out, by repeat (first | exact HB.out | apply bN | apply b1 | apply bA), by repeat (first | exact HK.out | apply bN | apply b1 | apply bA)⟩
     ·rw [if_neg c13] at H
      exact absurd H (by simp)
    ·rw [if_neg c12] at H
     exact absurd H (by simp)
set_option maxHeartbeats 8000000 in
set_option maxRecDepth 100000 in
theorem nat_shiftDown.calls (k : Nat) (A0 : Option Addr) (c0 : Nat) (l0 : List Int) (a1 : Int) (r : List Int) (w : World) (hr0 : Kd.C (Kd.int .u32) w A0 l0.length l0) (hc0 : l0.length ≤ c0) (h : nat_shiftDown.f k l0 a1 = some r) :
  Calls Try.prog 113 #[.slice A0 l0.length c0, .int .u64 a1] w fun e w' => ∃ v0_ : Value, e = .returned (v0_) ∧ Kd.V (Kd.int .u32) 87 w' w.heap.size (fun k_ => (w.heap.size ≤ k_)) v0_ r ∧ Below w.heap.size w w' := by
 have HR0 := mk0 hr0
 have HC0 := mk0 hc0
 clear hr0 hc0
 have HB := mk0 (Below.refl w.heap.size w)
 have H : (if 0 ≤ (l0.length : Int) then (if ((l0.length : Int) : Int).toNat ≤ 70368744177664 then (nat_shiftDown.l0 k l0 a1 (List.replicate ((l0.length : Int) : Int).toNat 0) (l0.length : Int) 0) else (none)) else (none)) = some r := h
 clear h
 by_cases c3 : 0 ≤ (l0.length : Int)
 ·rw [if_pos c3] at H
  have c3b0 := eq_true c3
  have c3b1 := decide_eq_true c3
  clear c3
  by_cases c4 : ((l0.length : Int) : Int).toNat ≤ 70368744177664
  ·rw [if_pos c4] at H
   have c4b0 := eq_true c4
   have c4b1 := decide_eq_true c4
   clear c4
   obtain ⟨y252, hy252⟩ : ∃ y_ : List Int, y_ = (List.replicate ((l0.length : Int) : Int).toNat 0) := ⟨_, rfl⟩
   rw [← hy252] at H
   have Ny252 := mk0 hy252
   clear hy252
   have H' := mk0 H
   clear H
   go_enter Try.func113, Try.ntmps113
   go_wp2_with (first | ((with_reducible refine gate_dst (N := 10) rfl ?_); refine Kd.R_make (Kd.int .u32) _ 87 rfl (N := 10) rfl 25 _ _ rfl (l0.length : Int) rfl rfl Try.underlying25 (.int .u32 0) 4 info87 rfl (by decide) (by omega) 0 (ok := fun _ => True) (okp := fun _ => True) rfl (fun _ hk => hk) trivial (of_decide_eq_true (by assumption)) (Nat.le_trans (Nat.mul_le_mul_right _ (of_decide_eq_true (by assumption) : (l0.length : Int).toNat ≤ 70368744177664)) (by omega)) (Below.refl _ _) (Nat.le_refl _) ?_; intro v253 w5 ho6 hb hg_ hnew_; clear hg_ hnew_; (first | rw [← Ny252.out] at ho6 | (simp only [Int.reduceToNat] at ho6; rw [← Ny252.out] at ho6)); have HO254 := mk0 (Rl (Kd.R_newM (M := fun k_ => (w.heap.size ≤ k_)) ho6 (bZ HB.out) (fun k_ h_ => h_)) (bZ HB.out)); replace HB := hbS HB hb; clear hb ho6))
   go_loopg [13] k (fun kq v13 w' => ∃ (x5_1 : List Int) (x13_1 : Int), v13 = .int .i64 x13_1 ∧ Aside0 (nat_shiftDown.l0 kq l0 a1 x5_1 (l0.length : Int) x13_1 = some r) ∧ Aside0 (kq ≤ k) ∧ Aside0 (Kd.R (Kd.int .u32) 87 w' w.heap.size (fun k_ => (w.heap.size ≤ k_)) v253 x5_1) ∧ Aside0 (Below w.heap.size w w'))
   case atStart => exact ⟨(y252), (0), (by first | rfl | (simp; done) | (simp [*]; done)), H', ⟨Nat.le_refl _⟩, ⟨Rm HO254.out (fun _ hk => hk.1)⟩, ⟨by repeat (first | exact HB.out | apply bN | apply b1 | apply bA)⟩⟩
   case round =>
    clear H'
    try clear c1
    try clear p2
    try clear c3
    try clear c3b0
    try clear c3b1
    try clear c4
    try clear c4b0
    try clear c4b1
    obtain ⟨x5_1, x13_1, rfl, HA, HK1, HO_5, HB⟩ := hrel
    cases gk with
    | zero => exact absurd HA.out (by simp [nat_shiftDown.l0])
    | succ k1 =>
     have H := HA.out
     clear HA
     simp only [nat_shiftDown.l0] at H
     by_cases c7 : x13_1 < (l0.length : Int)
     ·rw [if_pos c7] at H
      have c7b0 := decide_eq_true c7
      clear c7
      by_cases c8 : 0 ≤ x13_1
      ·rw [if_pos c8] at H
       have c8b0 := decide_eq_true c8
       clear c8
       by_cases c9 : x13_1 < (l0.length : Int)
       ·rw [if_pos c9] at H
        have c9b0 := decide_eq_true c9
        clear c9
        by_cases c10 : (wrap64 (x13_1 + 1)) < (l0.length : Int)
        ·rw [if_pos c10] at H
         have c10b0 := decide_eq_true c10
         clear c10
         obtain ⟨ji11, hji11⟩ : ∃ j_ : Int, (wrap64 (x13_1 + 1)) = j_ := ⟨_, rfl⟩
         rw [hji11] at H
         (try rw [hji11] at c10b0)
         have hji11w : (IntKind.i64.wrap (x13_1 + 1)) = ji11 := (i64_w _).trans hji11
         by_cases c12 : 0 ≤ (ji11)
         ·rw [if_pos c12] at H
          have c12b0 := decide_eq_true c12
          clear c12
          by_cases c13 : 0 ≤ a1
          ·rw [if_pos c13] at H
           have c13b0 := eq_true c13
           have c13b1 := decide_eq_true c13
           clear c13
           obtain ⟨ji14, hji14⟩ : ∃ j_ : Int, (shr .u64 (Go.bits .or .u64 (IntKind.u64.wrap (rd l0 x13_1)) (IntKind.u64.wrap ((IntKind.u64.wrap (rd l0 (ji11))) * 4294967296))) a1) = j_ := ⟨_, rfl⟩
           rw [hji14] at H
           have hji14_ : ((Go.bits .or .u64 (IntKind.u64.wrap (rd l0 x13_1)) (IntKind.u64.wrap ((IntKind.u64.wrap (rd l0 (ji11))) * 4294967296))) / 2 ^ min a1.toNat 64) = ji14 := hji14
           have hji14z : a1 ≤ 64 → ((Go.bits .or .u64 (IntKind.u64.wrap (rd l0 x13_1)) (IntKind.u64.wrap ((IntKind.u64.wrap (rd l0 (ji11))) * 4294967296))) / 2 ^ a1.toNat) = ji14 := shr_small hji14
           by_cases c15 : x13_1 < (x5_1.length : Int)
           ·rw [if_pos c15] at H
            have c15b0 := decide_eq_true c15
            clear c15
            obtain ⟨y257, hy257⟩ : ∃ y_ : List Int, y_ = (x5_1.set (x13_1 : Int).toNat ((Go.bits .and .u64 (ji14) 4294967295) % 4294967296)) := ⟨_, rfl⟩
            rw [← hy257] at H
            have Ny257 := mk0 hy257
            clear hy257
            have H' := mk0 H
            clear H
            have p255 : 0 ≤ (x13_1 : Int) := of_decide_eq_true (by assumption)
            have q255 : x13_1 < (l0.length : Int) := of_decide_eq_true (by assumption)
            obtain ⟨ad255, e255, hx255_0⟩ := Kd.at_int HR0.out x13_1 p255 q255
            cases e255
            replace hx255_0 := (HB.out.cell (World.block_lt_of_cell? w _ hx255_0)).trans hx255_0
            replace p255 := eq_true p255
            replace q255 := eq_true q255
            have p256 : 0 ≤ ((ji11) : Int) := of_decide_eq_true (by assumption)
            have q256 : (ji11) < (l0.length : Int) := of_decide_eq_true (by assumption)
            obtain ⟨ad256, e256, hx256_0⟩ := Kd.at_int HR0.out (ji11) p256 q256
            obtain rfl : ad255 = ad256 := (by injection e256)
            replace hx256_0 := (HB.out.cell (World.block_lt_of_cell? w _ hx256_0)).trans hx256_0
            replace p256 := eq_true p256
            replace q256 := eq_true q256
            have p16 : 0 ≤ (x13_1 : Int) := of_decide_eq_true (by assumption)
            have q16 : (x13_1 : Int) < ((x5_1.length : Int) : Int) := of_decide_eq_true (by assumption)
            obtain ⟨go16, co16, eo16, gb16, gl16, cl16, HG16⟩ := Kd.R_form HO_5.out (by omega)
            (first | cases eo16 | (injection eo16 with ea_ en_ ec_; (first | subst ea_ | (injection ea_ with ea_; subst ea_)); subst ec_; clear en_))
            have GB16 := mk0 gb16
            have GG16 := mk0 HG16
            clear gb16 gl16 HG16
            obtain ⟨hx16_0, hf16_0⟩ := Kd.R_celln 0 HO_5.out (x13_1 : Int) p16 q16
            replace p16 := eq_true p16
            replace q16 := eq_true q16
            have HP17 := Kd.R_putg HO_5.out (x13_1 : Int) ((Go.bits .and .u64 (ji14) 4294967295) % 4294967296)
            go_wp2_with (first | ((with_reducible refine gate_store (t := 87) (p := 42) rfl ?_); refine store_event (t := 87) (p := 42) (v := ?vo_w18) (w1 := (wr.setCell ⟨go16, (x13_1 : Int).toNat, none⟩ (.int .u32 ((Go.bits .and .u64 (ji14) 4294967295) % 4294967296)))) ?hg ?ho ?hn ?hr ?_; (case ho => rfl); (case hg => rfl); (case hn => rfl); (case hr => go_simp <;> rfl); intro w18 hw; have hg : wr.grownBy w18 (some go16) := (by rw [hw]; exact HP17.2); have hp_ : Kd.R (Kd.int .u32) 87 w18 w.heap.size (fun k_ => (w.heap.size ≤ k_)) (.slice (some ⟨go16, 0, none⟩) x5_1.length co16) y257 := (by rw [hw, Ny257.out]; exact HP17.1); clear HP17; replace HO_5 := mk0 (hp_); replace HB := mk0 ((by rw [hw]; exact bS (HB.out) GB16.out : Below w.heap.size w w18)); clear hg hw hp_))
            go_roundg k1
            case measure => have := HK1.out; omega
            case rel => exact ⟨(y257), (ji11), (by first | rfl | (simp; done) | (simp only [← hji11] <;> (first | rfl | simp)) | (simp [*]; done)), H', ⟨by have := HK1.out; omega⟩, ⟨HO_5.out⟩, ⟨by repeat (first | exact HB.out | apply bN | apply b1 | apply bA)⟩⟩
           ·rw [if_neg c15] at H
            exact absurd H (by simp)
          ·rw [if_neg c13] at H
           exact absurd H (by simp)
         ·rw [if_neg c12] at H
          exact absurd H (by simp)
        ·rw [if_neg c10] at H
         have c10b0 := decide_eq_false c10
         clear c10
         by_cases c19 : 0 ≤ a1
         ·rw [if_pos c19] at H
          have c19b0 := eq_true c19
          have c19b1 := decide_eq_true c19
          clear c19
          obtain ⟨ji20, hji20⟩ : ∃ j_ : Int, (shr .u64 (IntKind.u64.wrap (rd l0 x13_1)) a1) = j_ := ⟨_, rfl⟩
          rw [hji20] at H
          have hji20_ : ((IntKind.u64.wrap (rd l0 x13_1)) / 2 ^ min a1.toNat 64) = ji20 := hji20
          have hji20z : a1 ≤ 64 → ((IntKind.u64.wrap (rd l0 x13_1)) / 2 ^ a1.toNat) = ji20 := shr_small hji20
          by_cases c21 : x13_1 < (x5_1.length : Int)
          ·rw [if_pos c21] at H
           have c21b0 := decide_eq_true c21
           clear c21
           obtain ⟨y258, hy258⟩ : ∃ y_ : List Int, y_ = (x5_1.set (x13_1 : Int).toNat ((Go.bits .and .u64 (ji20) 4294967295) % 4294967296)) := ⟨_, rfl⟩
           rw [← hy258] at H
           have Ny258 := mk0 hy258
           clear hy258
           have H' := mk0 H
           clear H
           have p255 : 0 ≤ (x13_1 : Int) := of_decide_eq_true (by assumption)
           have q255 : x13_1 < (l0.length : Int) := of_decide_eq_true (by assumption)
           obtain ⟨ad255, e255, hx255_0⟩ := Kd.at_int HR0.out x13_1 p255 q255
           cases e255
           replace hx255_0 := (HB.out.cell (World.block_lt_of_cell? w _ hx255_0)).trans hx255_0
           replace p255 := eq_true p255
           replace q255 := eq_true q255
           have p22 : 0 ≤ (x13_1 : Int) := of_decide_eq_true (by assumption)
           have q22 : (x13_1 : Int) < ((x5_1.length : Int) : Int) := of_decide_eq_true (by assumption)
           obtain ⟨go22, co22, eo22, gb22, gl22, cl22, HG22⟩ := Kd.R_form HO_5.out (by omega)
           (first | cases eo22 | (injection eo22 with ea_ en_ ec_; (first | subst ea_ | (injection ea_ with ea_; subst ea_)); subst ec_; clear en_))
           have GB22 := mk0 gb22
           have GG22 := mk0 HG22
           clear gb22 gl22 HG22
           obtain ⟨hx22_0, hf22_0⟩ := Kd.R_celln 0 HO_5.out (x13_1 : Int) p22 q22
           replace p22 := eq_true p22
           replace q22 := eq_true q22
           have HP23 := Kd.R_putg HO_5.out (x13_1 : Int) ((Go.bits .and .u64 (ji20) 4294967295) % 4294967296)
           go_wp2_with (first | ((with_reducible refine gate_store (t := 87) (p := 42) rfl ?_); refine store_event (t := 87) (p := 42) (v := ?vo_w24) (w1 := (wr.setCell ⟨go22, (x13_1 : Int).toNat, none⟩ (.int .u32 ((Go.bits .and .u64 (ji20) 4294967295) % 4294967296)))) ?hg ?ho ?hn ?hr ?_; (case ho => rfl); (case hg => rfl); (case hn => rfl); (case hr => go_simp <;> rfl); intro w24 hw; have hg : wr.grownBy w24 (some go22) := (by rw [hw]; exact HP23.2); have hp_ : Kd.R (Kd.int .u32) 87 w24 w.heap.size (fun k_ => (w.heap.size ≤ k_)) (.slice (some ⟨go22, 0, none⟩) x5_1.length co22) y258 := (by rw [hw, Ny258.out]; exact HP23.1); clear HP23; replace HO_5 := mk0 (hp_); replace HB := mk0 ((by rw [hw]; exact bS (HB.out) GB22.out : Below w.heap.size w w24)); clear hg hw hp_))
           go_roundg k1
           case measure => have := HK1.out; omega
           case rel => exact ⟨(y258), (wrap64 (x13_1 + 1)), (by first | rfl | (simp; done) | (simp [*]; done)), H', ⟨by have := HK1.out; omega⟩, ⟨HO_5.out⟩, ⟨by repeat (first | exact HB.out | apply bN | apply b1 | apply bA)⟩⟩
          ·rw [if_neg c21] at H
           exact absurd H (by simp)
         ·rw [if_neg c19] at H
          exact absurd H (by simp)
       ·rw [if_neg c9] at H
        exact absurd H (by simp)
      ·rw [if_neg c8] at H
       exact absurd H (by simp)
     ·rw [if_neg c7] at H
      have c7b0 := decide_eq_false c7
      clear c7
      obtain ⟨t259, A25, H⟩ := bindA H
      obtain rfl := Option.some.inj H
      obtain ⟨Ao26, co26, eo26⟩ := Kd.R_slice HO_5.out
      subst eo26
      go_wp2_with (first | ((with_reducible refine gate_callee (f := 81) rfl ?_); refine goA 45 Try.func81 #[.slice Ao26 x5_1.length co26] ?_; (with_reducible refine (nat_trim.calls k1 (fun k_ => some k_ = (.slice Ao26 x5_1.length co26 : Value).ownBlock) _ _ x5_1 t259 _ (by exact Kd.R_V (Kd.R_tight rfl (HO_5.out))) A25.out).mono ?_); rintro e w27 ⟨v260, rfl, ho0, hb⟩; refine ⟨_, rfl, ?_⟩; have HO261 := mk0 (Vl (Vm (ok' := fun k_ => (w.heap.size ≤ k_)) ho0 (fun k_ hk_ => Or.elim hk_ (fun hs_ => ((HO_5.out).1 k_ hs_.symm)) (fun hn_ => (Nat.le_trans (bZ HB.out) hn_)))) (bZ HB.out)); replace HO_5 := rB HO_5 hb; replace HB := hbS HB hb))
      go_ret
      exact ⟨_, by first | rfl | (simp [errW_none, errW_some] <;> rfl) | (simp [*, errW_none, errW_some] <;> rfl), HO261.out, by repeat (first | exact HB.out | apply bN | apply b1 | apply bA)⟩
  ·rw [if_neg c4] at H
   exact absurd H (by simp)
 ·rw [if_neg c3] at H
  exact absurd H (by simp)
def nat_DivMod.T17 : Bool × List (List Nat × List Nat) := (true, [([], []), ([], []), ([], []), ([1, 2], [1, 2]), ([0, 3], [0, 3]), ([4], [4]), ([], []), ([], []), ([], []), ([7, 8], [7, 8]), ([9], [9]), ([6, 10], [6, 10]), ([11], [11]), ([], []), ([], []), ([], []), ([14, 15], [14, 15]), ([16], [16]), ([13, 17], [13, 17]), ([18], [18]), ([], []), ([], []), ([21], [21]), ([20, 22], [20, 22]), ([23], [23]), ([], []), ([], []), ([26], [26]), ([25, 27], [25, 27]), ([28], [28]), ([5, 12, 19, 24, 29], [5, 12, 19, 24, 29]), ([30, 30, 0, 1, 2, 3, 4, 5, 6, 7, 8, 9, 10, 11, 12, 13, 14, 15, 16, 17, 18, 19, 20, 21, 22, 23, 24, 25, 26, 27, 28, 29, 30], [30])])
def nat_DivMod.B17 : List Nat := [0, 0, 0, 6, 15, 31, 0, 0, 0, 384, 896, 1984, 4032, 0, 0, 0, 49152, 114688, 253952, 516096, 0, 0, 2097152, 7340032, 15728640, 0, 0, 67108864, 234881024, 503316480, 1073741823, 2147483647]
theorem nat_DivMod.tab17 : rtab .any (opsOf Try.f80 17) = nat_DivMod.T17 := by kernel_rfl
theorem nat_DivMod.bits17 : waitsOk nat_DivMod.T17.2 nat_DivMod.B17 = true := by kernel_rfl
def nat_DivMod.T22 : Bool × List (List Nat × List Nat) := (true, [([], []), ([0], [0]), ([], []), ([], []), ([2, 3], [2, 3]), ([], []), ([4, 5, 1], [4, 5]), ([1, 6, 0, 1], [1]), ([6, 7, 0, 1, 2, 3, 4, 5, 6, 7], [6]), ([8, 0, 1, 2, 3, 4, 5, 6, 7, 8], [])])
def nat_DivMod.B22 : List Nat := [0, 1, 0, 0, 12, 0, 63, 127, 255, 511]
theorem nat_DivMod.tab22 : rtab .any (opsOf Try.f80 22) = nat_DivMod.T22 := by kernel_rfl
theorem nat_DivMod.bits22 : waitsOk nat_DivMod.T22.2 nat_DivMod.B22 = true := by kernel_rfl
set_option maxHeartbeats 8000000 in
set_option maxRecDepth 100000 in
theorem nat_DivMod.calls (k : Nat) (P0_ : Nat → Prop) (A0 : Option Addr) (c0 : Nat) (l0 : List Int) (P1_ : Nat → Prop) (A1 : Option Addr) (c1 : Nat) (l1 : List Int) (r1 : List Int) (r2 : List Int) (r3 : Bool) (w : World) (hs0 : Kd.V (Kd.int .u32) 87 w w.heap.size (fun k_ => P0_ k_) (.slice A0 l0.length c0) l0) (hs1 : Kd.V (Kd.int .u32) 87 w w.heap.size (fun k_ => P1_ k_) (.slice A1 l1.length c1) l1) (h : nat_DivMod.f k l0 l1 = some (r1, r2, r3)) :
  Calls Try.prog 80 #[.slice A0 l0.length c0, .slice A1 l1.length c1] w fun e w' => ∃ v0_ v1_ : Value, e = .returned (.tuple #[v0_, v1_, .bool r3]) ∧ Kd.V (Kd.int .u32) 87 w' w.heap.size (fun k_ => ((P0_ k_ ∨ P1_ k_) ∨ w.heap.size ≤ k_)) v0_ r1 ∧ Kd.V (Kd.int .u32) 87 w' w.heap.size (fun k_ => ((P0_ k_ ∨ P1_ k_) ∨ w.heap.size ≤ k_)) v1_ r2 ∧ Below w.heap.size w w' := by
 have HO0 := mk0 (show Kd.V (Kd.int .u32) 87 w w.heap.size (fun k_ => ((P0_ k_ ∨ P1_ k_) ∨ w.heap.size ≤ k_)) (.slice A0 l0.length c0) l0 from Vm hs0 (fun k_ hk => .inl (.inl hk)))
 have HO1 := mk0 (show Kd.V (Kd.int .u32) 87 w w.heap.size (fun k_ => ((P0_ k_ ∨ P1_ k_) ∨ w.heap.size ≤ k_)) (.slice A1 l1.length c1) l1 from Vm hs1 (fun k_ hk => .inl (.inr hk)))
 have HB := mk0 (Below.refl w.heap.size w)
 have H : ((nat_trim.f k l0).bind fun t176 => ((nat_trim.f k l1).bind fun t179 => (if (t179.length : Int) = 0 then (some (([] : List Int), ([] : List Int), false)) else ((nat_Cmp.f k t176 t179).bind fun t182 => (if t182 < 0 then ((nat_Norm.f k t176).bind fun t183 => (some (([] : List Int), t183, true))) else (if (t179.length : Int) = 1 then (if 0 < (t179.length : Int) then ((nat_divSmall.f k t176 (rd t179 0)).bind fun bt187 => ((nat_Of.f k (IntKind.u64.wrap (bt187.2))).bind fun t191 => (some (bt187.1, t191, true)))) else (none)) else (if 0 ≤ (wrap64 ((t179.length : Int) - 1)) then (if (wrap64 ((t179.length : Int) - 1)) < (t179.length : Int) then ((bits_LeadingZeros32.f (rd t179 (wrap64 ((t179.length : Int) - 1)))).bind fun t195 => ((nat_shiftUp.f k t176 (IntKind.u64.wrap (t195))).bind fun t196 => ((nat_shiftUp.f k t179 (IntKind.u64.wrap (t195))).bind fun t199 => (if 0 ≤ (t179.length : Int) then (if (t179.length : Int) ≤ (t199.length : Int) then (if 0 ≤ (wrap64 ((wrap64 ((t176.length : Int) - (t179.length : Int))) + 1)) then (if (wrap64 ((wrap64 ((t176.length : Int) - (t179.length : Int))) + 1) : Int).toNat ≤ 70368744177664 then (nat_DivMod.l0 k (t179.length : Int) (IntKind.u64.wrap (t195)) t196 (t199.take ((t179.length : Int) : Int).toNat) (List.replicate (wrap64 ((wrap64 ((t176.length : Int) - (t179.length : Int))) + 1) : Int).toNat 0) (wrap64 ((t176.length : Int) - (t179.length : Int)))) else (none)) else (none)) else (none)) else (none))))) else (none)) else (none)))))))) = some (r1, r2, r3) := h
 clear h
 obtain ⟨t176, A3, H⟩ := bindA H
 obtain ⟨t179, A4, H⟩ := bindA H
 by_cases c5 : (t179.length : Int) = 0
 ·rw [if_pos c5] at H
  have c5b0 : ((t179.length : Int) == 0) = true := beq_iff_eq.mpr c5
  have c5b1 : ((t179.length : Int) != 0) = false := bne_eq_false_iff_eq.mpr c5
  clear c5
  simp only [Option.some.injEq, Prod.mk.injEq] at H
  obtain ⟨rfl, rfl, rfl⟩ := H
  go_enter Try.func80, Try.ntmps80
  go_wp2_with (first | ((refine gate_callee (f := 81) rfl ?_); refine goesL_ (some 19) rfl rfl Try.func81 (by kernel_rfl) rfl #[.slice A0 l0.length c0] rfl (by (try simp only [mA, mC, mN]); first | done | rfl | (simp only [lD, lT]; rfl)) ?_; (with_reducible refine (nat_trim.calls k (fun k_ => ((P0_ k_ ∨ P1_ k_) ∨ w.heap.size ≤ k_)) _ _ l0 t176 _ ?side1 A3.out).mono ?_); (case side1 => exact HO0.out); rintro e w6 ⟨v177, rfl, ho0, hb⟩; refine ⟨_, rfl, ?_⟩; replace HO0 := mk0 (Kd.V_below (by (with_reducible repeat apply Kd.V_drewN); exact HO0.out) hb); replace HO1 := mk0 (Kd.V_below (by (with_reducible repeat apply Kd.V_drewN); exact HO1.out) hb); have HO178 := mk0 (Vl (Vm (ok' := fun k_ => ((P0_ k_ ∨ P1_ k_) ∨ w.heap.size ≤ k_)) ho0 (fun k_ hk_ => Or.elim hk_ (fun hs_ => hs_) (fun hn_ => (.inr (Nat.le_trans (bZ HB.out) hn_))))) (bZ HB.out)); replace HB := (by first | exact hbS HB hb | exact hbD HB hb)) | ((refine gate_callee (f := 81) rfl ?_); refine goesL_ (some 21) rfl rfl Try.func81 (by kernel_rfl) rfl #[.slice A1 l1.length c1] rfl (by (try simp only [mA, mC, mN]); first | done | rfl | (simp only [lD, lT]; rfl)) ?_; (with_reducible refine (nat_trim.calls k (fun k_ => ((P0_ k_ ∨ P1_ k_) ∨ w.heap.size ≤ k_)) _ _ l1 t179 _ ?side1 A4.out).mono ?_); (case side1 => exact HO1.out); rintro e w7 ⟨v180, rfl, ho0, hb⟩; refine ⟨_, rfl, ?_⟩; replace HO0 := mk0 (Kd.V_below (by (with_reducible repeat apply Kd.V_drewN); exact HO0.out) hb); replace HO1 := mk0 (Kd.V_below (by (with_reducible repeat apply Kd.V_drewN); exact HO1.out) hb); replace HO178 := mk0 (Kd.V_below (by (with_reducible repeat apply Kd.V_drewN); exact HO178.out) hb); have HO181 := mk0 (Vl (Vm (ok' := fun k_ => ((P0_ k_ ∨ P1_ k_) ∨ w.heap.size ≤ k_)) ho0 (fun k_ hk_ => Or.elim hk_ (fun hs_ => hs_) (fun hn_ => (.inr (Nat.le_trans (bZ HB.out) hn_))))) (bZ HB.out)); replace HB := (by first | exact hbS HB hb | exact hbD HB hb); obtain ⟨Ao8, co8, eo8⟩ := Kd.V_slice HO181.out; subst eo8))
  go_ret3
  exact ⟨_, _, rfl, (Kd.V_nil _ _ _ _ _), (Kd.V_nil _ _ _ _ _), by repeat (first | exact HB.out | apply bN | apply b1 | apply bA)⟩
 ·rw [if_neg c5] at H
  have c5b0 : ((t179.length : Int) == 0) = false := beq_eq_false_iff_ne.mpr c5
  have c5b1 : ((t179.length : Int) != 0) = true := bne_iff_ne.mpr c5
  have c5b2 : ¬ (t179 = []) := fun h_ => c5 (by rw [h_]; rfl)
  obtain ⟨t182, A9, H⟩ := bindA H
  by_cases c10 : t182 < 0
  ·rw [if_pos c10] at H
   have c10b0 := decide_eq_true c10
   clear c10
   obtain ⟨t183, A11, H⟩ := bindA H
   simp only [Option.some.injEq, Prod.mk.injEq] at H
   obtain ⟨rfl, rfl, rfl⟩ := H
   go_enter Try.func80, Try.ntmps80
   go_wp2_with (first | ((refine gate_callee (f := 81) rfl ?_); refine goesL_ (some 19) rfl rfl Try.func81 (by kernel_rfl) rfl #[.slice A0 l0.length c0] rfl (by (try simp only [mA, mC, mN]); first | done | rfl | (simp only [lD, lT]; rfl)) ?_; (with_reducible refine (nat_trim.calls k (fun k_ => ((P0_ k_ ∨ P1_ k_) ∨ w.heap.size ≤ k_)) _ _ l0 t176 _ ?side1 A3.out).mono ?_); (case side1 => exact HO0.out); rintro e w12 ⟨v177, rfl, ho0, hb⟩; refine ⟨_, rfl, ?_⟩; replace HO0 := mk0 (Kd.V_below (by (with_reducible repeat apply Kd.V_drewN); exact HO0.out) hb); replace HO1 := mk0 (Kd.V_below (by (with_reducible repeat apply Kd.V_drewN); exact HO1.out) hb); have HO178 := mk0 (Vl (Vm (ok' := fun k_ => ((P0_ k_ ∨ P1_ k_) ∨ w.heap.size ≤ k_)) ho0 (fun k_ hk_ => Or.elim hk_ (fun hs_ => hs_) (fun hn_ => (.inr (Nat.le_trans (bZ HB.out) hn_))))) (bZ HB.out)); replace HB := (by first | exact hbS HB hb | exact hbD HB hb)) | ((refine gate_callee (f := 81) rfl ?_); refine goesL_ (some 21) rfl rfl Try.func81 (by kernel_rfl) rfl #[.slice A1 l1.length c1] rfl (by (try simp only [mA, mC, mN]); first | done | rfl | (simp only [lD, lT]; rfl)) ?_; (with_reducible refine (nat_trim.calls k (fun k_ => ((P0_ k_ ∨ P1_ k_) ∨ w.heap.size ≤ k_)) _ _ l1 t179 _ ?side1 A4.out).mono ?_); (case side1 => exact HO1.out); rintro e w13 ⟨v180, rfl, ho0, hb⟩; refine ⟨_, rfl, ?_⟩; replace HO0 := mk0 (Kd.V_below (by (with_reducible repeat apply Kd.V_drewN); exact HO0.out) hb); replace HO1 := mk0 (Kd.V_below (by (with_reducible repeat apply Kd.V_drewN); exact HO1.out) hb); replace HO178 := mk0 (Kd.V_below (by (with_reducible repeat apply Kd.V_drewN); exact HO178.out) hb); have HO181 := mk0 (Vl (Vm (ok' := fun k_ => ((P0_ k_ ∨ P1_ k_) ∨ w.heap.size ≤ k_)) ho0 (fun k_ hk_ => Or.elim hk_ (fun hs_ => hs_) (fun hn_ => (.inr (Nat.le_trans (bZ HB.out) hn_))))) (bZ HB.out)); replace HB := (by first | exact hbS HB hb | exact hbD HB hb); obtain ⟨Ao14, co14, eo14⟩ := Kd.V_slice HO181.out; subst eo14; obtain ⟨Ao15, co15, eo15⟩ := Kd.V_slice HO178.out; subst eo15) | ((refine gate_callee (f := 77) rfl ?_); refine goesL_ (some 29) rfl rfl Try.func77 (by kernel_rfl) rfl #[.slice Ao15 t176.length co15, .slice Ao14 t179.length co14] rfl (by (try simp only [mA, mC, mN]); first | done | rfl | (simp only [lD, lT]; rfl)) ?_; (with_reducible refine (nat_Cmp.calls k _ _ t176 _ _ t179 t182 _ ?side1 ?side2 ?side3 ?side4 A9.out).mono ?_); (case side1 => exact (Kd.V_reads' HO178.out).2.2); (case side2 => exact (Kd.V_reads' HO178.out).2.1); (case side3 => exact (Kd.V_reads' HO181.out).2.2); (case side4 => exact (Kd.V_reads' HO181.out).2.1); rintro e w16 ⟨rfl, hb⟩; refine ⟨_, rfl, ?_⟩; replace HO0 := mk0 (Kd.V_below (by (with_reducible repeat apply Kd.V_drewN); exact HO0.out) hb); replace HO1 := mk0 (Kd.V_below (by (with_reducible repeat apply Kd.V_drewN); exact HO1.out) hb); replace HO178 := mk0 (Kd.V_below (by (with_reducible repeat apply Kd.V_drewN); exact HO178.out) hb); replace HO181 := mk0 (Kd.V_below (by (with_reducible repeat apply Kd.V_drewN); exact HO181.out) hb); replace HB := (by first | exact hbS HB hb | exact hbD HB hb)) | ((refine gate_callee (f := 106) rfl ?_); refine goesL_ (some 32) rfl rfl Try.func106 (by kernel_rfl) rfl #[.slice Ao15 t176.length co15] rfl (by (try simp only [mA, mC, mN]); first | done | rfl | (simp only [lD, lT]; rfl)) ?_; (with_reducible refine (nat_Norm.calls k _ _ t176 t183 _ ?side1 ?side2 A11.out).mono ?_); (case side1 => exact (Kd.V_reads' HO178.out).2.2); (case side2 => exact (Kd.V_reads' HO178.out).2.1); rintro e w17 ⟨v184, rfl, ho0, hb⟩; refine ⟨_, rfl, ?_⟩; replace HO0 := mk0 (Kd.V_elder' (by (with_reducible repeat apply Kd.V_drewN); exact HO0.out) (Rs ho0) hb); replace HO1 := mk0 (Kd.V_elder' (by (with_reducible repeat apply Kd.V_drewN); exact HO1.out) (Rs ho0) hb); replace HO178 := mk0 (Kd.V_elder' (by (with_reducible repeat apply Kd.V_drewN); exact HO178.out) (Rs ho0) hb); replace HO181 := mk0 (Kd.V_elder' (by (with_reducible repeat apply Kd.V_drewN); exact HO181.out) (Rs ho0) hb); have HO185 := mk0 (Rl (Kd.R_newM (M := fun k_ => (w.heap.size ≤ k_)) ho0 (bZ HB.out) (fun k_ h_ => h_)) (bZ HB.out)); replace HB := (by first | exact hbS HB hb | exact hbD HB hb)))
   go_ret3
   exact ⟨_, _, rfl, (Kd.V_nil _ _ _ _ _), Vm (Kd.R_V (by (with_reducible repeat apply Kd.R_drewN); exact Rm HO185.out (fun _ hk => hk.1))) (fun k_ hk => by first | exact ⟨(.inr (hk.1)), hk.2⟩ | exact (.inr (hk))), by repeat (first | exact HB.out | apply bN | apply b1 | apply bA)⟩
  ·rw [if_neg c10] at H
   have c10b0 := decide_eq_false c10
   clear c10
   by_cases c18 : (t179.length : Int) = 1
   ·rw [if_pos c18] at H
    have c18b0 : ((t179.length : Int) == 1) = true := beq_iff_eq.mpr c18
    have c18b1 : ((t179.length : Int) != 1) = false := bne_eq_false_iff_eq.mpr c18
    clear c18
    by_cases c19 : 0 < (t179.length : Int)
    ·rw [if_pos c19] at H
     have c19b0 := decide_eq_true c19
     have c19b1 : decide (0 < t179.length) = true := decide_eq_true (by omega)
     clear c19
     obtain ⟨⟨t187, t190⟩, A20, H⟩ := bindA H
     obtain ⟨t191, A21, H⟩ := bindA H
     simp only [Option.some.injEq, Prod.mk.injEq] at H
     obtain ⟨rfl, rfl, rfl⟩ := H
     go_enter Try.func80, Try.ntmps80
     go_wp2_with (first | ((refine gate_callee (f := 81) rfl ?_); refine goesL_ (some 19) rfl rfl Try.func81 (by kernel_rfl) rfl #[.slice A0 l0.length c0] rfl (by (try simp only [mA, mC, mN]); first | done | rfl | (simp only [lD, lT]; rfl)) ?_; (with_reducible refine (nat_trim.calls k (fun k_ => ((P0_ k_ ∨ P1_ k_) ∨ w.heap.size ≤ k_)) _ _ l0 t176 _ ?side1 A3.out).mono ?_); (case side1 => exact HO0.out); rintro e w22 ⟨v177, rfl, ho0, hb⟩; refine ⟨_, rfl, ?_⟩; replace HO0 := mk0 (Kd.V_below (by (with_reducible repeat apply Kd.V_drewN); exact HO0.out) hb); replace HO1 := mk0 (Kd.V_below (by (with_reducible repeat apply Kd.V_drewN); exact HO1.out) hb); have HO178 := mk0 (Vl (Vm (ok' := fun k_ => ((P0_ k_ ∨ P1_ k_) ∨ w.heap.size ≤ k_)) ho0 (fun k_ hk_ => Or.elim hk_ (fun hs_ => hs_) (fun hn_ => (.inr (Nat.le_trans (bZ HB.out) hn_))))) (bZ HB.out)); replace HB := (by first | exact hbS HB hb | exact hbD HB hb)) | ((refine gate_callee (f := 81) rfl ?_); refine goesL_ (some 21) rfl rfl Try.func81 (by kernel_rfl) rfl #[.slice A1 l1.length c1] rfl (by (try simp only [mA, mC, mN]); first | done | rfl | (simp only [lD, lT]; rfl)) ?_; (with_reducible refine (nat_trim.calls k (fun k_ => ((P0_ k_ ∨ P1_ k_) ∨ w.heap.size ≤ k_)) _ _ l1 t179 _ ?side1 A4.out).mono ?_); (case side1 => exact HO1.out); rintro e w23 ⟨v180, rfl, ho0, hb⟩; refine ⟨_, rfl, ?_⟩; replace HO0 := mk0 (Kd.V_below (by (with_reducible repeat apply Kd.V_drewN); exact HO0.out) hb); replace HO1 := mk0 (Kd.V_below (by (with_reducible repeat apply Kd.V_drewN); exact HO1.out) hb); replace HO178 := mk0 (Kd.V_below (by (with_reducible repeat apply Kd.V_drewN); exact HO178.out) hb); have HO181 := mk0 (Vl (Vm (ok' := fun k_ => ((P0_ k_ ∨ P1_ k_) ∨ w.heap.size ≤ k_)) ho0 (fun k_ hk_ => Or.elim hk_ (fun hs_ => hs_) (fun hn_ => (.inr (Nat.le_trans (bZ HB.out) hn_))))) (bZ HB.out)); replace HB := (by first | exact hbS HB hb | exact hbD HB hb); obtain ⟨Ao24, co24, eo24⟩ := Kd.V_slice HO181.out; subst eo24; obtain ⟨Ao25, co25, eo25⟩ := Kd.V_slice HO178.out; subst eo25) | ((refine gate_callee (f := 77) rfl ?_); refine goesL_ (some 29) rfl rfl Try.func77 (by kernel_rfl) rfl #[.slice Ao25 t176.length co25, .slice Ao24 t179.length co24] rfl (by (try simp only [mA, mC, mN]); first | done | rfl | (simp only [lD, lT]; rfl)) ?_; (with_reducible refine (nat_Cmp.calls k _ _ t176 _ _ t179 t182 _ ?side1 ?side2 ?side3 ?side4 A9.out).mono ?_); (case side1 => exact (Kd.V_reads' HO178.out).2.2); (case side2 => exact (Kd.V_reads' HO178.out).2.1); (case side3 => exact (Kd.V_reads' HO181.out).2.2); (case side4 => exact (Kd.V_reads' HO181.out).2.1); rintro e w26 ⟨rfl, hb⟩; refine ⟨_, rfl, ?_⟩; replace HO0 := mk0 (Kd.V_below (by (with_reducible repeat apply Kd.V_drewN); exact HO0.out) hb); replace HO1 := mk0 (Kd.V_below (by (with_reducible repeat apply Kd.V_drewN); exact HO1.out) hb); replace HO178 := mk0 (Kd.V_below (by (with_reducible repeat apply Kd.V_drewN); exact HO178.out) hb); replace HO181 := mk0 (Kd.V_below (by (with_reducible repeat apply Kd.V_drewN); exact HO181.out) hb); replace HB := (by first | exact hbS HB hb | exact hbD HB hb); have p186 : 0 ≤ (0 : Int) := (by omega); have q186 : 0 < (t179.length : Int) := of_decide_eq_true (by first | (with_reducible assumption) | assumption); obtain ⟨ad186, e186, hx186_0⟩ := Kd.at_int (Kd.V_reads' HO181.out).2.2 0 p186 q186; cases e186; have qi186 : (0 < t179.length) = True := eq_true (by omega); (try rw [show ((0 : Int)).toNat = 0 from rfl] at hx186_0); (try rw [Addr.add_zero'] at hx186_0); replace p186 := eq_true p186; replace q186 := eq_true q186) | ((refine gate_callee (f := 107) rfl ?_); refine goesL_ (some 42) rfl rfl Try.func107 (by kernel_rfl) rfl #[.slice Ao25 t176.length co25, .int .u32 (rd t179 0)] rfl (by (try simp only [mA, mC, mN]); first | done | rfl | (simp only [lD, lT]; rfl)) ?_; (with_reducible refine (nat_divSmall.calls k _ _ t176 (rd t179 0) t187 t190 _ ?side1 ?side2 A20.out).mono ?_); (case side1 => exact (Kd.V_reads' HO178.out).2.2); (case side2 => exact (Kd.V_reads' HO178.out).2.1); rintro e w27 ⟨v188, rfl, ho0, hb⟩; refine ⟨_, rfl, ?_⟩; replace HO0 := mk0 (Kd.V_below (by (with_reducible repeat apply Kd.V_drewN); exact HO0.out) hb); replace HO1 := mk0 (Kd.V_below (by (with_reducible repeat apply Kd.V_drewN); exact HO1.out) hb); replace HO178 := mk0 (Kd.V_below (by (with_reducible repeat apply Kd.V_drewN); exact HO178.out) hb); replace HO181 := mk0 (Kd.V_below (by (with_reducible repeat apply Kd.V_drewN); exact HO181.out) hb); have HO189 := mk0 (Vl (Vm (ok' := fun k_ => ((P0_ k_ ∨ P1_ k_) ∨ w.heap.size ≤ k_)) ho0 (fun k_ hk_ => (.inr (Nat.le_trans (bZ HB.out) hk_)))) (bZ HB.out)); replace HB := (by first | exact hbS HB hb | exact hbD HB hb)) | ((refine gate_callee (f := 66) rfl ?_); refine goesL_ (some 48) rfl rfl Try.func66 (by kernel_rfl) rfl #[.int .u64 (IntKind.u64.wrap (t190))] rfl (by (try simp only [mA, mC, mN]); first | done | rfl | (simp only [lD, lT]; rfl)) ?_; (with_reducible refine (nat_Of.calls k (IntKind.u64.wrap (t190)) t191 _ A21.out).mono ?_); rintro e w28 ⟨v192, rfl, ho0, hb⟩; refine ⟨_, rfl, ?_⟩; replace HO0 := mk0 (Kd.V_below (by (with_reducible repeat apply Kd.V_drewN); exact HO0.out) hb); replace HO1 := mk0 (Kd.V_below (by (with_reducible repeat apply Kd.V_drewN); exact HO1.out) hb); replace HO178 := mk0 (Kd.V_below (by (with_reducible repeat apply Kd.V_drewN); exact HO178.out) hb); replace HO181 := mk0 (Kd.V_below (by (with_reducible repeat apply Kd.V_drewN); exact HO181.out) hb); replace HO189 := mk0 (Kd.V_below (by (with_reducible repeat apply Kd.V_drewN); exact HO189.out) hb); have HO193 := mk0 (Vl (Vm (ok' := fun k_ => ((P0_ k_ ∨ P1_ k_) ∨ w.heap.size ≤ k_)) ho0 (fun k_ hk_ => (.inr (Nat.le_trans (bZ (by repeat (first | exact HB.out | apply bN | apply b1 | apply bA))) hk_)))) (bZ (by repeat (first | exact HB.out | apply bN | apply b1 | apply bA)))); replace HB := (by first | exact hbS HB hb | exact hbD HB hb)))
     go_ret3
     exact ⟨_, _, rfl, by (with_reducible repeat apply Kd.V_drewN); exact HO189.out, by (with_reducible repeat apply Kd.V_drewN); exact HO193.out, by repeat (first | exact HB.out | apply bN | apply b1 | apply bA)⟩
    ·rw [if_neg c19] at H
     exact absurd H (by simp)
   ·rw [if_neg c18] at H
    have c18b0 : ((t179.length : Int) == 1) = false := beq_eq_false_iff_ne.mpr c18
    have c18b1 : ((t179.length : Int) != 1) = true := bne_iff_ne.mpr c18
    obtain ⟨ji29, hji29⟩ : ∃ j_ : Int, (wrap64 ((t179.length : Int) - 1)) = j_ := ⟨_, rfl⟩
    rw [hji29] at H
    (try rw [hji29] at A3)
    (try rw [hji29] at A4)
    (try rw [hji29] at A9)
    have hji29w : (IntKind.i64.wrap ((t179.length : Int) - 1)) = ji29 := (i64_w _).trans hji29
    by_cases c30 : 0 ≤ (ji29)
    ·rw [if_pos c30] at H
     have c30b0 := decide_eq_true c30
     clear c30
     by_cases c31 : (ji29) < (t179.length : Int)
     ·rw [if_pos c31] at H
      have c31b0 := decide_eq_true c31
      clear c31
      obtain ⟨t195, A32, H⟩ := bindA H
      obtain ⟨t196, A33, H⟩ := bindA H
      obtain ⟨t199, A34, H⟩ := bindA H
      by_cases c35 : 0 ≤ (t179.length : Int)
      ·rw [if_pos c35] at H
       have c35b0 := eq_true c35
       have c35b1 := decide_eq_true c35
       clear c35
       by_cases c36 : (t179.length : Int) ≤ (t199.length : Int)
       ·rw [if_pos c36] at H
        have c36b0 := eq_true c36
        have c36b1 := decide_eq_true c36
        clear c36
        obtain ⟨y202, hy202⟩ : ∃ y_ : List Int, y_ = (t199.take ((t179.length : Int) : Int).toNat) := ⟨_, rfl⟩
        rw [← hy202] at H
        have Ny202 := mk0 hy202
        clear hy202
        obtain ⟨ji37, hji37⟩ : ∃ j_ : Int, (wrap64 ((wrap64 ((t176.length : Int) - (t179.length : Int))) + 1)) = j_ := ⟨_, rfl⟩
        rw [hji37] at H
        (try rw [hji37] at A3)
        (try rw [hji37] at A4)
        (try rw [hji37] at A9)
        (try rw [hji37] at A32)
        (try rw [hji37] at A33)
        (try rw [hji37] at A34)
        have hji37w : (IntKind.i64.wrap ((wrap64 ((t176.length : Int) - (t179.length : Int))) + 1)) = ji37 := (i64_w _).trans hji37
        by_cases c38 : 0 ≤ (ji37)
        ·rw [if_pos c38] at H
         have c38b0 := eq_true c38
         have c38b1 := decide_eq_true c38
         clear c38
         by_cases c39 : (ji37 : Int).toNat ≤ 70368744177664
         ·rw [if_pos c39] at H
          have c39b0 := eq_true c39
          have c39b1 := decide_eq_true c39
          clear c39
          obtain ⟨y205, hy205⟩ : ∃ y_ : List Int, y_ = (List.replicate (ji37 : Int).toNat 0) := ⟨_, rfl⟩
          rw [← hy205] at H
          have Ny205 := mk0 hy205
          clear hy205
          have H' := mk0 H
          clear H
          go_enter Try.func80, Try.ntmps80
          go_wp2_with (first | ((refine gate_callee (f := 81) rfl ?_); refine goesL_ (some 19) rfl rfl Try.func81 (by kernel_rfl) rfl #[.slice A0 l0.length c0] rfl (by (try simp only [mA, mC, mN]); first | done | rfl | (simp only [lD, lT]; rfl)) ?_; (with_reducible refine (nat_trim.calls k (fun k_ => ((P0_ k_ ∨ P1_ k_) ∨ w.heap.size ≤ k_)) _ _ l0 t176 _ ?side1 A3.out).mono ?_); (case side1 => exact HO0.out); rintro e w40 ⟨v177, rfl, ho0, hb⟩; refine ⟨_, rfl, ?_⟩; replace HO0 := mk0 (Kd.V_below (by (with_reducible repeat apply Kd.V_drewN); exact HO0.out) hb); replace HO1 := mk0 (Kd.V_below (by (with_reducible repeat apply Kd.V_drewN); exact HO1.out) hb); have HO178 := mk0 (Vl (Vm (ok' := fun k_ => ((P0_ k_ ∨ P1_ k_) ∨ w.heap.size ≤ k_)) ho0 (fun k_ hk_ => Or.elim hk_ (fun hs_ => hs_) (fun hn_ => (.inr (Nat.le_trans (bZ (by repeat (first | exact HB.out | apply bN | apply b1 | apply bA))) hn_))))) (bZ (by repeat (first | exact HB.out | apply bN | apply b1 | apply bA)))); replace HB := (by first | exact hbS HB hb | exact hbD HB hb)) | ((refine gate_callee (f := 81) rfl ?_); refine goesL_ (some 21) rfl rfl Try.func81 (by kernel_rfl) rfl #[.slice A1 l1.length c1] rfl (by (try simp only [mA, mC, mN]); first | done | rfl | (simp only [lD, lT]; rfl)) ?_; (with_reducible refine (nat_trim.calls k (fun k_ => ((P0_ k_ ∨ P1_ k_) ∨ w.heap.size ≤ k_)) _ _ l1 t179 _ ?side1 A4.out).mono ?_); (case side1 => exact HO1.out); rintro e w41 ⟨v180, rfl, ho0, hb⟩; refine ⟨_, rfl, ?_⟩; replace HO0 := mk0 (Kd.V_below (by (with_reducible repeat apply Kd.V_drewN); exact HO0.out) hb); replace HO1 := mk0 (Kd.V_below (by (with_reducible repeat apply Kd.V_drewN); exact HO1.out) hb); replace HO178 := mk0 (Kd.V_below (by (with_reducible repeat apply Kd.V_drewN); exact HO178.out) hb); have HO181 := mk0 (Vl (Vm (ok' := fun k_ => ((P0_ k_ ∨ P1_ k_) ∨ w.heap.size ≤ k_)) ho0 (fun k_ hk_ => Or.elim hk_ (fun hs_ => hs_) (fun hn_ => (.inr (Nat.le_trans (bZ (by repeat (first | exact HB.out | apply bN | apply b1 | apply bA))) hn_))))) (bZ (by repeat (first | exact HB.out | apply bN | apply b1 | apply bA)))); replace HB := (by first | exact hbS HB hb | exact hbD HB hb); obtain ⟨Ao42, co42, eo42⟩ := Kd.V_slice HO181.out; subst eo42; obtain ⟨Ao43, co43, eo43⟩ := Kd.V_slice HO178.out; subst eo43) | ((refine gate_callee (f := 77) rfl ?_); refine goesL_ (some 29) rfl rfl Try.func77 (by kernel_rfl) rfl #[.slice Ao43 t176.length co43, .slice Ao42 t179.length co42] rfl (by (try simp only [mA, mC, mN]); first | done | rfl | (simp only [lD, lT]; rfl)) ?_; (with_reducible refine (nat_Cmp.calls k _ _ t176 _ _ t179 t182 _ ?side1 ?side2 ?side3 ?side4 A9.out).mono ?_); (case side1 => exact (Kd.V_reads' HO178.out).2.2); (case side2 => exact (Kd.V_reads' HO178.out).2.1); (case side3 => exact (Kd.V_reads' HO181.out).2.2); (case side4 => exact (Kd.V_reads' HO181.out).2.1); rintro e w44 ⟨rfl, hb⟩; refine ⟨_, rfl, ?_⟩; replace HO0 := mk0 (Kd.V_below (by (with_reducible repeat apply Kd.V_drewN); exact HO0.out) hb); replace HO1 := mk0 (Kd.V_below (by (with_reducible repeat apply Kd.V_drewN); exact HO1.out) hb); replace HO178 := mk0 (Kd.V_below (by (with_reducible repeat apply Kd.V_drewN); exact HO178.out) hb); replace HO181 := mk0 (Kd.V_below (by (with_reducible repeat apply Kd.V_drewN); exact HO181.out) hb); replace HB := (by first | exact hbS HB hb | exact hbD HB hb); have p194 : 0 ≤ ((ji29) : Int) := of_decide_eq_true (by first | (with_reducible assumption) | assumption); have q194 : (ji29) < (t179.length : Int) := of_decide_eq_true (by first | (with_reducible assumption) | assumption); obtain ⟨ad194, e194, hx194_0⟩ := Kd.at_int (Kd.V_reads' HO181.out).2.2 (ji29) p194 q194; cases e194; replace p194 := eq_true p194; replace q194 := eq_true q194) | ((refine gate_callee (f := 108) rfl ?_); refine goesL_ (some 56) rfl rfl Try.func108 (by kernel_rfl) rfl #[.int .u32 (rd t179 (ji29))] rfl (by (try simp only [mA, mC, mN]); first | done | (simp only [hji29]; rfl) | rfl | (simp only [lD, lT]; rfl)) ?_; (with_reducible refine (bits_LeadingZeros32.calls (rd t179 (ji29)) t195 _ A32.out).mono ?_); rintro e w' ⟨rfl, ⟨nd, rfl⟩⟩; refine ⟨_, rfl, ?_⟩) | ((refine gate_callee (f := 109) rfl ?_); refine goesL_ (some 60) rfl rfl Try.func109 (by kernel_rfl) rfl #[.slice Ao43 t176.length co43, .int .u64 (IntKind.u64.wrap (t195))] rfl (by (try simp only [mA, mC, mN]); first | done | rfl | (simp only [lD, lT]; rfl)) ?_; (with_reducible refine (nat_shiftUp.calls k _ _ t176 (IntKind.u64.wrap (t195)) t196 _ ?side1 ?side2 A33.out).mono ?_); (case side1 => exact (Kd.V_reads' HO178.out).2.2); (case side2 => exact (Kd.V_reads' HO178.out).2.1); rintro e w45 ⟨v197, rfl, ho0, hb⟩; refine ⟨_, rfl, ?_⟩; replace HO0 := mk0 (Kd.V_elder' (by (with_reducible repeat apply Kd.V_drewN); exact HO0.out) (Rs ho0) hb); replace HO1 := mk0 (Kd.V_elder' (by (with_reducible repeat apply Kd.V_drewN); exact HO1.out) (Rs ho0) hb); replace HO178 := mk0 (Kd.V_elder' (by (with_reducible repeat apply Kd.V_drewN); exact HO178.out) (Rs ho0) hb); replace HO181 := mk0 (Kd.V_elder' (by (with_reducible repeat apply Kd.V_drewN); exact HO181.out) (Rs ho0) hb); have HO198 := mk0 (Rl (Kd.R_newM (M := fun k_ => (w.heap.size ≤ k_)) ho0 (bZ (by repeat (first | exact HB.out | apply bN | apply b1 | apply bA))) (fun k_ h_ => h_)) (bZ (by repeat (first | exact HB.out | apply bN | apply b1 | apply bA)))); replace HB := (by first | exact hbS HB hb | exact hbD HB hb)) | ((refine gate_callee (f := 109) rfl ?_); refine goesL_ (some 63) rfl rfl Try.func109 (by kernel_rfl) rfl #[.slice (some ad194) t179.length co42, .int .u64 (IntKind.u64.wrap (t195))] rfl (by (try simp only [mA, mC, mN]); first | done | rfl | (simp only [lD, lT]; rfl)) ?_; (with_reducible refine (nat_shiftUp.calls k _ _ t179 (IntKind.u64.wrap (t195)) t199 _ ?side1 ?side2 A34.out).mono ?_); (case side1 => exact (Kd.V_reads' HO181.out).2.2); (case side2 => exact (Kd.V_reads' HO181.out).2.1); rintro e w46 ⟨v200, rfl, ho0, hb⟩; refine ⟨_, rfl, ?_⟩; replace HO0 := mk0 (Kd.V_elder' (by (with_reducible repeat apply Kd.V_drewN); exact HO0.out) (Rs ho0) hb); replace HO1 := mk0 (Kd.V_elder' (by (with_reducible repeat apply Kd.V_drewN); exact HO1.out) (Rs ho0) hb); replace HO178 := mk0 (Kd.V_elder' (by (with_reducible repeat apply Kd.V_drewN); exact HO178.out) (Rs ho0) hb); replace HO181 := mk0 (Kd.V_elder' (by (with_reducible repeat apply Kd.V_drewN); exact HO181.out) (Rs ho0) hb); have HO201 := mk0 (Rl (Rn (Kd.R_newM (M := fun k_ => (w.heap.size ≤ k_)) ho0 (bZ HB.out) (fun k_ h_ => h_)) (Rq (by (with_reducible repeat apply Kd.R_drewN); exact HO198.out))) (bZ HB.out)); replace HO198 := mk0 (Re (by (with_reducible repeat apply Kd.R_drewN); exact HO198.out) (Rs ho0) hb); replace HB := (by first | exact hbS HB hb | exact hbD HB hb); obtain ⟨Ao47, co47, eo47⟩ := Kd.R_slice HO201.out; subst eo47; have q48 : ((t179.length : Int) : Int) ≤ ((t199.length : Int) : Int) := of_decide_eq_true (by first | (with_reducible assumption) | assumption); obtain ⟨i048, hi048, _, hsz48, _⟩ := info_parts info87; have hcut48 := cut_to (P := Try.prog) 25 87 .i64 Try.underlying25 hi048 Ao47 t199.length co47 (t179.length : Int) (of_decide_eq_true (by first | (with_reducible assumption) | assumption)) q48 (Kd.R_reads' HO201.out).2.1; have hr48 := Kd.R_take (m := ((t179.length : Int) : Int).toNat) HO201.out (by omega); have hy48 : y202.length = ((t179.length : Int) : Int).toNat := (by rw [Ny202.out, lT]; omega); rw [← Ny202.out] at hr48; rw [← hy48] at hr48 hcut48; clear hy48 hi048 hsz48 HO201; have HO204 := mk0 hr48; clear hr48; replace q48 := eq_true q48) | ((refine gate_dst (N := 71) rfl ?_); refine Kd.R_make (Kd.int .u32) _ 87 rfl (N := 71) rfl 25 _ _ rfl ji37 rfl rfl Try.underlying25 (.int .u32 0) 4 info87 rfl (by decide) (by omega) 0 (ok := fun _ => True) (okp := fun _ => True) rfl (fun _ hk => hk) trivial (of_decide_eq_true (by first | (with_reducible assumption) | assumption)) (Nat.le_trans (Nat.mul_le_mul_right _ (of_decide_eq_true (by first | (with_reducible assumption) | assumption) : ji37.toNat ≤ 70368744177664)) (by omega)) (Below.refl _ _) (Nat.le_refl _) ?_; intro v206 w49 ho50 hb hg_ hnew_; clear hg_ hnew_; (first | rw [← Ny205.out] at ho50 | (simp only [Int.reduceToNat] at ho50; rw [← Ny205.out] at ho50)); replace HO0 := mk0 (Kd.V_elder' (by (with_reducible repeat apply Kd.V_drewN); exact HO0.out) (Rs ho50) hb); replace HO1 := mk0 (Kd.V_elder' (by (with_reducible repeat apply Kd.V_drewN); exact HO1.out) (Rs ho50) hb); replace HO178 := mk0 (Kd.V_elder' (by (with_reducible repeat apply Kd.V_drewN); exact HO178.out) (Rs ho50) hb); replace HO181 := mk0 (Kd.V_elder' (by (with_reducible repeat apply Kd.V_drewN); exact HO181.out) (Rs ho50) hb); have HO207 := mk0 (Rl (Rn (Rn (Kd.R_newM (M := fun k_ => (w.heap.size ≤ k_)) ho50 (bZ HB.out) (fun k_ h_ => h_)) (Rq (by (with_reducible repeat apply Kd.R_drewN); exact HO198.out))) (Rq (by (with_reducible repeat apply Kd.R_drewN); exact HO204.out))) (bZ HB.out)); replace HO198 := mk0 (Re (by (with_reducible repeat apply Kd.R_drewN); exact HO198.out) (Rs ho50) hb); replace HO204 := mk0 (Re (by (with_reducible repeat apply Kd.R_drewN); exact HO204.out) (Rs ho50) hb); replace HB := (by first | exact hbS HB hb | exact hbD HB hb); clear hb ho50))
          go_loopg [16] k (fun kq v16 w' => ∃ (x13_1 : List Int) (x14_1 : List Int) (x15_1 : List Int) (x16_1 : Int), v16 = .int .i64 x16_1 ∧ Aside0 (nat_DivMod.l0 kq (t179.length : Int) (IntKind.u64.wrap (t195)) x13_1 x14_1 x15_1 x16_1 = some (r1, r2, r3)) ∧ Aside0 (kq ≤ k) ∧ Aside0 (Kd.R (Kd.int .u32) 87 w' w.heap.size (fun k_ => (w.heap.size ≤ k_) ∧ some k_ ≠ ((.slice Ao47 y202.length co47) : Value).ownBlock ∧ some k_ ≠ (v206 : Value).ownBlock) v197 x13_1) ∧ Aside0 (Kd.R (Kd.int .u32) 87 w' w.heap.size (fun k_ => (w.heap.size ≤ k_) ∧ some k_ ≠ (v197 : Value).ownBlock ∧ some k_ ≠ (v206 : Value).ownBlock) (.slice Ao47 y202.length co47) x14_1) ∧ Aside0 (Kd.R (Kd.int .u32) 87 w' w.heap.size (fun k_ => (w.heap.size ≤ k_) ∧ some k_ ≠ (v197 : Value).ownBlock ∧ some k_ ≠ ((.slice Ao47 y202.length co47) : Value).ownBlock) v206 x15_1) ∧ Aside0 (Below w.heap.size w w'))
          case atStart => exact ⟨(t196), (y202), (y205), (wrap64 ((t176.length : Int) - (t179.length : Int))), (by first | rfl | (simp; done) | (simp [*]; done)), H', ⟨Nat.le_refl _⟩, ⟨by (with_reducible repeat apply Kd.R_drewN); exact Rm HO198.out (fun _ hk => ⟨hk.1.1.1, ⟨fun e_ => hk.1.2 (e_.trans (by cases Ao47 <;> rfl)), hk.2⟩⟩)⟩, ⟨by (with_reducible repeat apply Kd.R_drewN); exact Rm HO204.out (fun _ hk => ⟨hk.1.1.1, ⟨hk.1.2, hk.2⟩⟩)⟩, ⟨by (with_reducible repeat apply Kd.R_drewN); exact Rm HO207.out (fun _ hk => ⟨hk.1.1.1, ⟨hk.1.2, hk.2⟩⟩)⟩, ⟨by repeat (first | exact HB.out | apply bN | apply b1 | apply bA)⟩⟩
          case round =>
           clear H'
           obtain ⟨x13_1, x14_1, x15_1, x16_1, rfl, HA, HK1, HO_13, HO_14, HO_15, HB⟩ := hrel
           have hl14_1 := (Kd.R_reads' HO_14.out).1
           rw [hl14_1] at HO_14
           (try simp only [hl14_1])
           (try simp only [hl14_1] at HO_13)
           (try simp only [hl14_1] at HO_15)
           cases gk with
           | zero => exact absurd HA.out (by simp [nat_DivMod.l0])
           | succ k1 =>
            have H := HA.out
            clear HA
            simp only [nat_DivMod.l0] at H
            by_cases c51 : x16_1 ≥ 0
            ·rw [if_pos c51] at H
             have c51b0 := decide_eq_true c51
             clear c51
             obtain ⟨ji52, hji52⟩ : ∃ j_ : Int, (wrap64 (x16_1 + (t179.length : Int))) = j_ := ⟨_, rfl⟩
             rw [hji52] at H
             have hji52w : (IntKind.i64.wrap (x16_1 + (t179.length : Int))) = ji52 := (i64_w _).trans hji52
             by_cases c53 : 0 ≤ (ji52)
             ·rw [if_pos c53] at H
              have c53b0 := decide_eq_true c53
              clear c53
              by_cases c54 : (ji52) < (x13_1.length : Int)
              ·rw [if_pos c54] at H
               have c54b0 := decide_eq_true c54
               clear c54
               obtain ⟨ji55, hji55⟩ : ∃ j_ : Int, (wrap64 ((ji52) - 1)) = j_ := ⟨_, rfl⟩
               rw [hji55] at H
               have hji55w : (IntKind.i64.wrap ((ji52) - 1)) = ji55 := (i64_w _).trans hji55
               by_cases c56 : 0 ≤ (ji55)
               ·rw [if_pos c56] at H
                have c56b0 := decide_eq_true c56
                clear c56
                by_cases c57 : (ji55) < (x13_1.length : Int)
                ·rw [if_pos c57] at H
                 have c57b0 := decide_eq_true c57
                 clear c57
                 obtain ⟨ji58, hji58⟩ : ∃ j_ : Int, (wrap64 ((ji52) - 2)) = j_ := ⟨_, rfl⟩
                 rw [hji58] at H
                 have hji58w : (IntKind.i64.wrap ((ji52) - 2)) = ji58 := (i64_w _).trans hji58
                 by_cases c59 : 0 ≤ (ji58)
                 ·rw [if_pos c59] at H
                  have c59b0 := decide_eq_true c59
                  clear c59
                  by_cases c60 : (ji58) < (x13_1.length : Int)
                  ·rw [if_pos c60] at H
                   have c60b0 := decide_eq_true c60
                   clear c60
                   obtain ⟨ji61, hji61⟩ : ∃ j_ : Int, (wrap64 ((t179.length : Int) - 1)) = j_ := ⟨_, rfl⟩
                   rw [hji61] at H
                   have hji61w : (IntKind.i64.wrap ((t179.length : Int) - 1)) = ji61 := (i64_w _).trans hji61
                   have ej_ : ji29 = ji61 := hji29.symm.trans hji61
                   subst ej_
                   by_cases c62 : 0 ≤ (ji29)
                   ·rw [if_pos c62] at H
                    have c62b0 := decide_eq_true c62
                    clear c62
                    by_cases c63 : (ji29) < (x14_1.length : Int)
                    ·rw [if_pos c63] at H
                     have c63b0 := decide_eq_true c63
                     clear c63
                     obtain ⟨ji64, hji64⟩ : ∃ j_ : Int, (wrap64 ((t179.length : Int) - 2)) = j_ := ⟨_, rfl⟩
                     rw [hji64] at H
                     have hji64w : (IntKind.i64.wrap ((t179.length : Int) - 2)) = ji64 := (i64_w _).trans hji64
                     by_cases c65 : 0 ≤ (ji64)
                     ·rw [if_pos c65] at H
                      have c65b0 := decide_eq_true c65
                      clear c65
                      by_cases c66 : (ji64) < (x14_1.length : Int)
                      ·rw [if_pos c66] at H
                       have c66b0 := decide_eq_true c66
                       clear c66
                       obtain ⟨t223, A67, H⟩ := bindA H
                       by_cases c68 : 0 ≤ x16_1
                       ·rw [if_pos c68] at H
                        have c68b0 := eq_true c68
                        have c68b1 := decide_eq_true c68
                        clear c68
                        by_cases c69 : x16_1 ≤ (wrap64 ((ji52) + 1))
                        ·rw [if_pos c69] at H
                         have c69b0 := eq_true c69
                         have c69b1 := decide_eq_true c69
                         by_cases c70 : (wrap64 ((ji52) + 1)) ≤ (x13_1.length : Int)
                         ·rw [if_pos c70] at H
                          have c70b0 := eq_true c70
                          have c70b1 := decide_eq_true c70
                          obtain ⟨y224, hy224⟩ : ∃ y_ : List Int, y_ = ((x13_1.take ((wrap64 ((ji52) + 1)) : Int).toNat).drop (x16_1 : Int).toNat) := ⟨_, rfl⟩
                          replace H : ((nat_subtract.f k1 x13_1 x16_1 (wrap64 ((ji52) + 1)) x14_1 t223).bind fun bt228 => (if bt228.1 = true then ((nat_addBack.f k1 bt228.2 x16_1 (wrap64 ((ji52) + 1)) x14_1).bind fun t234 => (if x16_1 < (x15_1.length : Int) then (nat_DivMod.l0 k1 (t179.length : Int) (IntKind.u64.wrap (t195)) t234 x14_1 (x15_1.set (x16_1 : Int).toNat ((IntKind.u64.wrap (t223 - 1)) % 4294967296)) (wrap64 (x16_1 - 1))) else (none))) else (if x16_1 < (x15_1.length : Int) then (nat_DivMod.l0 k1 (t179.length : Int) (IntKind.u64.wrap (t195)) bt228.2 x14_1 (x15_1.set (x16_1 : Int).toNat ((t223) % 4294967296)) (wrap64 (x16_1 - 1))) else (none)))) = some (r1, r2, r3) := by first | (rw [hy224]; with_reducible exact H) | (have H2_ := (Option.bind_some _ _).symm.trans H; rw [hy224]; with_reducible exact H2_) | (have H2_ := (Option.bind_some _ _).symm.trans H; with_reducible exact H2_) | with_reducible exact H | (rw [hy224]; exact H) | exact H
                          have Ny224 := mk0 hy224
                          clear hy224
                          obtain ⟨⟨t228, t229⟩, A71, H⟩ := bindA H
                          by_cases c72 : t228 = true
                          ·subst c72
                           have H1 : ((nat_addBack.f k1 t229 x16_1 (wrap64 ((ji52) + 1)) x14_1).bind fun t234 => (if x16_1 < (x15_1.length : Int) then (nat_DivMod.l0 k1 (t179.length : Int) (IntKind.u64.wrap (t195)) t234 x14_1 (x15_1.set (x16_1 : Int).toNat ((IntKind.u64.wrap (t223 - 1)) % 4294967296)) (wrap64 (x16_1 - 1))) else (none))) = some (r1, r2, r3) := by rw [if_pos rfl] at H; exact H
                           clear H
                           have H := H1
                           clear H1
                           have c73b0 := eq_true (of_decide_eq_true (by first | (with_reducible assumption) | assumption) : 0 ≤ x16_1)
                           have c74b0 := eq_true (of_decide_eq_true (by first | (with_reducible assumption) | assumption) : x16_1 ≤ (wrap64 ((ji52) + 1)))
                           have c75b0 := eq_true (of_decide_eq_true (by first | (with_reducible assumption) | assumption) : (wrap64 ((ji52) + 1)) ≤ (x13_1.length : Int))
                           obtain ⟨y230, hy230⟩ : ∃ y_ : List Int, y_ = ((t229.take ((wrap64 ((ji52) + 1)) : Int).toNat).drop (x16_1 : Int).toNat) := ⟨_, rfl⟩
                           replace H : ((nat_addBack.f k1 t229 x16_1 (wrap64 ((ji52) + 1)) x14_1).bind fun t234 => (if x16_1 < (x15_1.length : Int) then (nat_DivMod.l0 k1 (t179.length : Int) (IntKind.u64.wrap (t195)) t234 x14_1 (x15_1.set (x16_1 : Int).toNat ((IntKind.u64.wrap (t223 - 1)) % 4294967296)) (wrap64 (x16_1 - 1))) else (none))) = some (r1, r2, r3) := by first | (rw [hy230]; with_reducible exact H) | (have H2_ := (Option.bind_some _ _).symm.trans H; rw [hy230]; with_reducible exact H2_) | (have H2_ := (Option.bind_some _ _).symm.trans H; with_reducible exact H2_) | with_reducible exact H | (rw [hy230]; exact H) | exact H
                           have Ny230 := mk0 hy230
                           clear hy230
                           obtain ⟨t234, A76, H⟩ := bindA H
                           by_cases c77 : x16_1 < (x15_1.length : Int)
                           ·rw [if_pos c77] at H
                            have c77b0 := decide_eq_true c77
                            clear c77
                            obtain ⟨y235, hy235⟩ : ∃ y_ : List Int, y_ = (x15_1.set (x16_1 : Int).toNat ((IntKind.u64.wrap (t223 - 1)) % 4294967296)) := ⟨_, rfl⟩
                            rw [← hy235] at H
                            have Ny235 := mk0 hy235
                            clear hy235
                            have H' := mk0 H
                            clear H
                            try go_wp2
                            replace HO_13 := mk0 (Kd.R_drew HO_13.out)
                            replace HO_14 := mk0 (Kd.R_drew HO_14.out)
                            replace HO_15 := mk0 (Kd.R_drew HO_15.out)
                            replace HB := mk0 (b1 HB.out)
                            obtain ⟨Ao80, co80, eo80⟩ := Kd.R_slice HO_13.out
                            (first | subst eo80 | (injection eo80 with f1_ f2_ f3_; have f4_ := f1_.symm; have f5_ := f3_.symm; clear f1_ f2_ f3_; subst f4_; subst f5_))
                            have p218 : 0 ≤ ((ji52) : Int) := of_decide_eq_true (by first | (with_reducible assumption) | assumption)
                            have q218 : (ji52) < (x13_1.length : Int) := of_decide_eq_true (by first | (with_reducible assumption) | assumption)
                            obtain ⟨ad218, e218, hx218_0⟩ := Kd.at_int (Kd.R_reads' HO_13.out).2.2 (ji52) p218 q218
                            cases e218
                            replace p218 := eq_true p218
                            replace q218 := eq_true q218
                            have p219 : 0 ≤ ((ji55) : Int) := of_decide_eq_true (by first | (with_reducible assumption) | assumption)
                            have q219 : (ji55) < (x13_1.length : Int) := of_decide_eq_true (by first | (with_reducible assumption) | assumption)
                            obtain ⟨ad219, e219, hx219_0⟩ := Kd.at_int (Kd.R_reads' HO_13.out).2.2 (ji55) p219 q219
                            obtain rfl : ad218 = ad219 := (by injection e219)
                            replace p219 := eq_true p219
                            replace q219 := eq_true q219
                            have p220 : 0 ≤ ((ji58) : Int) := of_decide_eq_true (by first | (with_reducible assumption) | assumption)
                            have q220 : (ji58) < (x13_1.length : Int) := of_decide_eq_true (by first | (with_reducible assumption) | assumption)
                            obtain ⟨ad220, e220, hx220_0⟩ := Kd.at_int (Kd.R_reads' HO_13.out).2.2 (ji58) p220 q220
                            obtain rfl : ad218 = ad220 := (by injection e220)
                            replace p220 := eq_true p220
                            replace q220 := eq_true q220
                            have p221 : 0 ≤ ((ji29) : Int) := of_decide_eq_true (by first | (with_reducible assumption) | assumption)
                            have q221 : (ji29) < (x14_1.length : Int) := of_decide_eq_true (by first | (with_reducible assumption) | assumption)
                            obtain ⟨ad221, e221, hx221_0⟩ := Kd.at_int (Kd.R_reads' HO_14.out).2.2 (ji29) p221 q221
                            cases e221
                            replace p221 := eq_true p221
                            replace q221 := eq_true q221
                            have p222 : 0 ≤ ((ji64) : Int) := of_decide_eq_true (by first | (with_reducible assumption) | assumption)
                            have q222 : (ji64) < (x14_1.length : Int) := of_decide_eq_true (by first | (with_reducible assumption) | assumption)
                            obtain ⟨ad222, e222, hx222_0⟩ := Kd.at_int (Kd.R_reads' HO_14.out).2.2 (ji64) p222 q222
                            obtain rfl : ad221 = ad222 := (by injection e222)
                            replace p222 := eq_true p222
                            replace q222 := eq_true q222
                            refine start_ (n := 32) (S := fun w' => w'.cell? (ad218.add ((ji52)).toNat) = some (.int .u32 (rd x13_1 (ji52))) ∧ w'.cell? (ad218.add ((ji55)).toNat) = some (.int .u32 (rd x13_1 (ji55))) ∧ w'.cell? (ad218.add ((ji58)).toNat) = some (.int .u32 (rd x13_1 (ji58))) ∧ w'.cell? (ad221.add ((ji29)).toNat) = some (.int .u32 (rd x14_1 (ji29))) ∧ w'.cell? (ad221.add ((ji64)).toNat) = some (.int .u32 (rd x14_1 (ji64)))) (ds := []) (bv 32 0) (by kernel_rfl) rfl rfl ⟨hx218_0, hx219_0, hx220_0, hx221_0, hx222_0⟩ (fun hHeld => ?_); refine with_tabW nat_DivMod.tab17 nat_DivMod.bits17 (fun HT_ HW_ => ?_)
                            generalize wr.drew = w79 at HO_13 HO_14 HO_15 HB hx218_0 hx219_0 hx220_0 hx221_0 hx222_0 hHeld ⊢
                            refine puA (i := 0) (N := 80) (v := ?_) (a' := ?_) (bv 32 1) HT_ ?_ ?_ ?_; rotate_left; (intro w'; go_simp; with_reducible rfl); rotate_left; (simp only [Act.put, sA, sZ, sS, i64_w, i32_w]; rfl)
                            refine puA (i := 1) (N := 81) (v := ?_) (a' := ?_) (bv 32 3) HT_ ?_ ?_ ?_; rotate_left; (intro w'; go_simp; with_reducible rfl); rotate_left; (simp only [Act.put, sA, sZ, sS, i64_w, i32_w]; rfl)
                            refine puA (i := 2) (N := 82) (v := ?_) (a' := ?_) (bv 32 7) HT_ ?_ ?_ ?_; rotate_left; (intro w'; go_simp; with_reducible rfl); rotate_left; (simp only [Act.put, sA, sZ, sS, i64_w, i32_w]; rfl)
                            refine puA (i := 3) (N := 83) (v := ?_) (a' := ?_) (bv 32 15) HT_ ?_ ?_ ?_; rotate_left; (intro w'; go_simp; with_reducible rfl); rotate_left; (simp only [Act.put, sA, sZ, sS, i64_w, i32_w]; rfl)
                            refine puA (i := 4) (N := 84) (v := ?_) (a' := ?_) (bv 32 31) HT_ ?_ ?_ ?_; rotate_left; (intro w'; go_simp; with_reducible rfl); rotate_left; (simp only [Act.put, sA, sZ, sS, i64_w, i32_w]; rfl)
                            refine puA (i := 6) (N := 86) (v := ?_) (a' := ?_) (bv 32 95) HT_ ?_ ?_ ?_; rotate_left; (intro w'; go_simp; with_reducible rfl); rotate_left; (simp only [Act.put, sA, sZ, sS, i64_w, i32_w]; rfl)
                            refine puA (i := 7) (N := 87) (v := ?_) (a' := ?_) (bv 32 223) HT_ ?_ ?_ ?_; rotate_left; (intro w'; go_simp; with_reducible rfl); rotate_left; (simp only [Act.put, sA, sZ, sS, i64_w, i32_w]; rfl)
                            refine puA (i := 8) (N := 88) (v := ?_) (a' := ?_) (bv 32 479) HT_ ?_ ?_ ?_; rotate_left; (intro w'; go_simp; with_reducible rfl); rotate_left; (simp only [Act.put, sA, sZ, sS, i64_w, i32_w]; rfl)
                            refine puA (i := 9) (N := 89) (v := ?_) (a' := ?_) (bv 32 991) HT_ ?_ ?_ ?_; rotate_left; (intro w'; go_simp; with_reducible rfl); rotate_left; (simp only [Act.put, sA, sZ, sS, i64_w, i32_w]; rfl)
                            refine puA (i := 10) (N := 90) (v := ?_) (a' := ?_) (bv 32 2015) HT_ ?_ ?_ ?_; rotate_left; (intro w'; go_simp; with_reducible rfl); rotate_left; (simp only [Act.put, sA, sZ, sS, i64_w, i32_w]; rfl)
                            refine puA (i := 11) (N := 91) (v := ?_) (a' := ?_) (bv 32 4063) HT_ ?_ ?_ ?_; rotate_left; (intro w'; go_simp; with_reducible rfl); rotate_left; (simp only [Act.put, sA, sZ, sS, i64_w, i32_w]; rfl)
                            refine puA (i := 13) (N := 93) (v := ?_) (a' := ?_) (bv 32 12255) HT_ ?_ ?_ ?_; rotate_left; (intro w'; go_simp; with_reducible rfl); rotate_left; (simp only [Act.put, sA, sZ, sS, i64_w, i32_w]; rfl)
                            refine puA (i := 14) (N := 94) (v := ?_) (a' := ?_) (bv 32 28639) HT_ ?_ ?_ ?_; rotate_left; (intro w'; go_simp; with_reducible rfl); rotate_left; (simp only [Act.put, sA, sZ, sS, i64_w, i32_w]; rfl)
                            refine puA (i := 15) (N := 95) (v := ?_) (a' := ?_) (bv 32 61407) HT_ ?_ ?_ ?_; rotate_left; (intro w'; go_simp; with_reducible rfl); rotate_left; (simp only [Act.put, sA, sZ, sS, i64_w, i32_w]; rfl)
                            refine puA (i := 16) (N := 96) (v := ?_) (a' := ?_) (bv 32 126943) HT_ ?_ ?_ ?_; rotate_left; (intro w'; go_simp; with_reducible rfl); rotate_left; (simp only [Act.put, sA, sZ, sS, i64_w, i32_w]; rfl)
                            refine puA (i := 17) (N := 97) (v := ?_) (a' := ?_) (bv 32 258015) HT_ ?_ ?_ ?_; rotate_left; (intro w'; go_simp; with_reducible rfl); rotate_left; (simp only [Act.put, sA, sZ, sS, i64_w, i32_w]; rfl)
                            refine puA (i := 18) (N := 98) (v := ?_) (a' := ?_) (bv 32 520159) HT_ ?_ ?_ ?_; rotate_left; (intro w'; go_simp; with_reducible rfl); rotate_left; (simp only [Act.put, sA, sZ, sS, i64_w, i32_w]; rfl)
                            refine puA (i := 20) (N := 100) (v := ?_) (a' := ?_) (bv 32 1568735) HT_ ?_ ?_ ?_; rotate_left; (intro w'; go_simp; with_reducible rfl); rotate_left; (simp only [Act.put, sA, sZ, sS, i64_w, i32_w]; rfl)
                            refine puA (i := 21) (N := 101) (v := ?_) (a' := ?_) (bv 32 3665887) HT_ ?_ ?_ ?_; rotate_left; (intro w'; go_simp; with_reducible rfl); rotate_left; (simp only [Act.put, sA, sZ, sS, i64_w, i32_w]; rfl)
                            refine puA (i := 22) (N := 102) (v := ?_) (a' := ?_) (bv 32 7860191) HT_ ?_ ?_ ?_; rotate_left; (intro w'; go_simp; with_reducible rfl); rotate_left; (simp only [Act.put, sA, sZ, sS, i64_w, i32_w]; rfl)
                            refine puA (i := 23) (N := 103) (v := ?_) (a' := ?_) (bv 32 16248799) HT_ ?_ ?_ ?_; rotate_left; (intro w'; go_simp; with_reducible rfl); rotate_left; (simp only [Act.put, sA, sZ, sS, i64_w, i32_w]; rfl)
                            refine puA (i := 25) (N := 105) (v := ?_) (a' := ?_) (bv 32 49803231) HT_ ?_ ?_ ?_; rotate_left; (intro w'; go_simp; with_reducible rfl); rotate_left; (simp only [Act.put, sA, sZ, sS, i64_w, i32_w]; rfl)
                            refine puA (i := 26) (N := 106) (v := ?_) (a' := ?_) (bv 32 116912095) HT_ ?_ ?_ ?_; rotate_left; (intro w'; go_simp; with_reducible rfl); rotate_left; (simp only [Act.put, sA, sZ, sS, i64_w, i32_w]; rfl)
                            refine puA (i := 27) (N := 107) (v := ?_) (a' := ?_) (bv 32 251129823) HT_ ?_ ?_ ?_; rotate_left; (intro w'; go_simp; with_reducible rfl); rotate_left; (simp only [Act.put, sA, sZ, sS, i64_w, i32_w]; rfl)
                            refine puA (i := 28) (N := 108) (v := ?_) (a' := ?_) (bv 32 519565279) HT_ ?_ ?_ ?_; rotate_left; (intro w'; go_simp; with_reducible rfl); rotate_left; (simp only [Act.put, sA, sZ, sS, i64_w, i32_w]; rfl)
                            refine take_ (i := 5) (N := some 85) (v := ?_) (a' := ?_) (bv 32 519565311) rfl rfl (take_ofW HT_.out HW_.out (by kernel_rfl)) (fun _ _ _ h => h) (Or.inl ⟨by rfl, ?_⟩) hHeld ?_ ?_; rotate_left; (rintro w' ⟨s0, s1, s2, s3, s4⟩; go_simp; with_reducible rfl); rotate_left; (simp only [Act.put, sA, sZ, sS, i64_w, i32_w]; rfl)
                            refine take_ (i := 12) (N := some 92) (v := ?_) (a' := ?_) (bv 32 519569407) rfl rfl (take_ofW HT_.out HW_.out (by kernel_rfl)) (fun _ _ _ h => h) (Or.inl ⟨by rfl, ?_⟩) hHeld ?_ ?_; rotate_left; (rintro w' ⟨s0, s1, s2, s3, s4⟩; go_simp; with_reducible rfl); rotate_left; (simp only [Act.put, sA, sZ, sS, i64_w, i32_w]; rfl)
                            refine take_ (i := 19) (N := some 99) (v := ?_) (a' := ?_) (bv 32 520093695) rfl rfl (take_ofW HT_.out HW_.out (by kernel_rfl)) (fun _ _ _ h => h) (Or.inl ⟨by rfl, ?_⟩) hHeld ?_ ?_; rotate_left; (rintro w' ⟨s0, s1, s2, s3, s4⟩; go_simp; with_reducible rfl); rotate_left; (simp only [Act.put, sA, sZ, sS, i64_w, i32_w]; rfl)
                            refine take_ (i := 24) (N := some 104) (v := ?_) (a' := ?_) (bv 32 536870911) rfl rfl (take_ofW HT_.out HW_.out (by kernel_rfl)) (fun _ _ _ h => h) (Or.inl ⟨by rfl, ?_⟩) hHeld ?_ ?_; rotate_left; (rintro w' ⟨s0, s1, s2, s3, s4⟩; go_simp; with_reducible rfl); rotate_left; (simp only [Act.put, sA, sZ, sS, i64_w, i32_w]; rfl)
                            refine take_ (i := 29) (N := some 109) (v := ?_) (a' := ?_) (bv 32 1073741823) rfl rfl (take_ofW HT_.out HW_.out (by kernel_rfl)) (fun _ _ _ h => h) (Or.inl ⟨by rfl, ?_⟩) hHeld ?_ ?_; rotate_left; (rintro w' ⟨s0, s1, s2, s3, s4⟩; go_simp; with_reducible rfl); rotate_left; (simp only [Act.put, sA, sZ, sS, i64_w, i32_w]; rfl)
                            refine one_ (i := 30) (N := some 110) (bv 32 2147483647) rfl rfl (one_of HT_.out (by kernel_rfl)) (by decide) (fun K hK => ?_)
                            refine goes_ Try.func110 (by kernel_rfl) rfl #[.int .u32 (rd x13_1 (ji52)), .int .u32 (rd x13_1 (ji55)), .int .u32 (rd x13_1 (ji58)), .int .u32 (rd x14_1 (ji29)), .int .u32 (rd x14_1 (ji64))] (by rfl) rfl rfl (by (try simp only [mA, mC, mN]); first | done | (simp only [hji52, hji55, hji58, hji61, hji64]; rfl) | rfl | (simp only [lD, lT]; rfl)) ?_
                            with_reducible refine (nat_guess.calls k1 (rd x13_1 (ji52)) (rd x13_1 (ji55)) (rd x13_1 (ji58)) (rd x14_1 (ji29)) (rd x14_1 (ji64)) t223 _ A67.out).mono ?_
                            rintro e w' ⟨rfl, ⟨nd, rfl⟩⟩
                            refine ⟨_, rfl, ?_⟩
                            refine hK.out _ _ ⟨hHeld.1, hHeld.2.1, hHeld.2.2.1, hHeld.2.2.2.1, hHeld.2.2.2.2⟩ (fun hHeld => ?_)
                            clear hK K
                            refine norm_ (a' := ?_) ?_ ?_
                            rotate_left
                            ·show Act.put _ (some 110) _ = _
                             simp only [Act.put, sA, sZ, sS, i64_w, i32_w]
                             rfl
                            refine puA (i := 31) (N := 17) (v := ?_) (a' := ?_) (bv 32 4294967295) HT_ ?_ ?_ ?_; rotate_left; (intro w'; go_simp; with_reducible rfl); rotate_left; (simp only [Act.put, sA, sZ, sS, i64_w, i32_w]; rfl)
                            refine done_ (done_of HT_.out (by kernel_rfl)) ?_
                            have q81 : ((wrap64 ((ji52) + 1)) : Int) ≤ ((x13_1.length : Int) : Int) := of_decide_eq_true (by first | (with_reducible assumption) | assumption)
                            obtain ⟨i081, hi081, _, hsz81, _⟩ := info_parts info87
                            have hroom81 : x13_1.length ≤ co80 := (Kd.R_reads' HO_13.out).2.1
                            have hC81 : Kd.C (Kd.int .u32) _ (some ad218) x13_1.length x13_1 := (Kd.R_reads' HO_13.out).2.2
                            have ql81 : (x16_1 : Int) ≤ ((wrap64 ((ji52) + 1)) : Int) := of_decide_eq_true (by first | (with_reducible assumption) | assumption)
                            have q081 : (0 : Int) ≤ (x16_1 : Int) := of_decide_eq_true (by first | (with_reducible assumption) | assumption)
                            have hcut81 := cut_mid (P := Try.prog) 25 87 .i64 .i64 Try.underlying25 hi081 1 hsz81 (some ad218) x13_1.length co80 x16_1 (wrap64 ((ji52) + 1)) q081 ql81 q81 hroom81
                            have hr81 := Kd.C_mid (lo := (x16_1 : Int).toNat) (hi := ((wrap64 ((ji52) + 1)) : Int).toNat) (c := co80) hC81 (by omega) (by omega) hroom81
                            obtain ⟨A81, hA81⟩ : ∃ A1, A1 = (if co80 = (x16_1 : Int).toNat then (some ad218) else ((some ad218) : Option Addr).map (·.add ((x16_1 : Int).toNat * 1))) := ⟨_, rfl⟩
                            obtain ⟨c81, hc81⟩ : ∃ c1, c1 = co80 - (x16_1 : Int).toNat := ⟨_, rfl⟩
                            have hy81 : y224.length = ((wrap64 ((ji52) + 1)) : Int).toNat - (x16_1 : Int).toNat := (by rw [Ny224.out, lD, lT] <;> omega)
                            rw [show ((x13_1).take ((wrap64 ((ji52) + 1)) : Int).toNat).drop (x16_1 : Int).toNat = y224 from Ny224.out.symm] at hr81
                            replace hr81 : Kd.C (Kd.int .u32) _ A81 y224.length y224 := (by rw [hA81]; exact hr81)
                            rw [← hy81, ← hA81, ← hc81] at hcut81
                            have HR227 := mk0 hr81
                            have HC227 := mk0 (show y224.length ≤ c81 from by rw [hy81, hc81]; exact Nat.sub_le_sub_right (Nat.le_trans (by omega) hroom81) _)
                            clear hr81 hC81 hroom81 hi081 hsz81 hc81
                            have KY81 := mk0 hy81
                            have KA81 := mk0 hA81
                            clear hy81 hA81
                            have KL81 := mk0 (show ((wrap64 ((ji52) + 1)) : Int).toNat ≤ x13_1.length from by omega)
                            have KM81 := mk0 (show (x16_1 : Int).toNat ≤ ((wrap64 ((ji52) + 1)) : Int).toNat from by omega)
                            replace q81 := eq_true q81
                            try go_wp2_with (first | ((refine gate_callee (f := 111) rfl ?_); refine goesL_ (some 120) rfl rfl Try.func111 (by kernel_rfl) rfl #[.slice A81 y224.length c81, .slice (some ad221) x14_1.length co47, .int .u64 t223] rfl (by (try simp only [mA, mC, mN]); first | done | rfl | (simp only [lD, lT]; rfl)) ?_; (with_reducible refine (nat_subtract.calls k1 (fun k_ => some k_ = (.slice (some ad218) x13_1.length co80 : Value).ownBlock) (.slice (some ad218) x13_1.length co80) x13_1 x16_1 (wrap64 ((ji52) + 1)) A81 _ c81 _ _ x14_1 t223 true t229 w _ ?side1 ?side2 ?side3 ?side4 ?side5 ?side6 A71.out).mono ?_); (case side1 => repeat (first | (with_reducible first | exact HB.out | apply bA | apply bN | apply b1) | exact HB.out)); (case side2 => exact Kd.R_tight rfl HO_13.out); (case side3 => intro _ _ _ e_; cases e_; exact KA81.out); (case side4 => exact KY81.out); (case side5 => exact Kd.C_kept_own (HO_14.out) (fun k_ hk_ hs_ => (hk_.2.1) hs_)); (case side6 => exact (Kd.R_reads' HO_14.out).2.1); rintro e w82 ⟨rfl, hy0, hb, hkp⟩; refine ⟨_, rfl, ?_⟩; replace HO_13 := mk0 (Kd.R_reok rfl hy0 (fun k_ e_ => HO_13.out.1 k_ e_)); replace HO_14 := mk0 (Rm (ok' := fun k_ => (w.heap.size ≤ k_) ∧ some k_ ≠ (.slice (some ad218) x13_1.length co80 : Value).ownBlock ∧ some k_ ≠ (v206 : Value).ownBlock) (Kd.R_keptB (HO_14.out) hkp (fun k_ hk_ hs_ => (hk_.2.1) hs_)) (fun k_ hk_ => ⟨hk_.1.1, hk_.1.2.1, hk_.1.2.2⟩)); replace HO_15 := mk0 (Rm (ok' := fun k_ => (w.heap.size ≤ k_) ∧ some k_ ≠ (.slice (some ad218) x13_1.length co80 : Value).ownBlock ∧ some k_ ≠ (.slice (some ad221) x14_1.length co47 : Value).ownBlock) (Kd.R_keptB (HO_15.out) hkp (fun k_ hk_ hs_ => (hk_.2.1) hs_)) (fun k_ hk_ => ⟨hk_.1.1, hk_.1.2.1, hk_.1.2.2⟩)); replace HB := mk0 (hb); have hlx83 := (Kd.R_reads' HO_13.out).1; have q83 : ((wrap64 ((ji52) + 1)) : Int) ≤ ((x13_1.length : Int) : Int) := of_decide_eq_true (by first | (with_reducible assumption) | assumption); obtain ⟨i083, hi083, _, hsz83, _⟩ := info_parts info87; have hroom83 : x13_1.length ≤ co80 := (Kd.R_reads' HO_13.out).2.1; have hroomc83 : t229.length ≤ co80 := (by rw [← hlx83]; exact hroom83); have hC83 : Kd.C (Kd.int .u32) _ (some ad218) t229.length t229 := (Kd.R_reads' HO_13.out).2.2; have ql83 : (x16_1 : Int) ≤ ((wrap64 ((ji52) + 1)) : Int) := of_decide_eq_true (by first | (with_reducible assumption) | assumption); have q083 : (0 : Int) ≤ (x16_1 : Int) := of_decide_eq_true (by first | (with_reducible assumption) | assumption); have hcut83 := cut_mid (P := Try.prog) 25 87 .i64 .i64 Try.underlying25 hi083 1 hsz83 (some ad218) x13_1.length co80 x16_1 (wrap64 ((ji52) + 1)) q083 ql83 q83 hroom83; have hr83 := Kd.C_mid (lo := (x16_1 : Int).toNat) (hi := ((wrap64 ((ji52) + 1)) : Int).toNat) (c := co80) hC83 (by omega) (by omega) hroomc83; obtain ⟨A83, hA83⟩ : ∃ A1, A1 = (if co80 = (x16_1 : Int).toNat then (some ad218) else ((some ad218) : Option Addr).map (·.add ((x16_1 : Int).toNat * 1))) := ⟨_, rfl⟩; obtain ⟨c83, hc83⟩ : ∃ c1, c1 = co80 - (x16_1 : Int).toNat := ⟨_, rfl⟩; have hy83 : y230.length = ((wrap64 ((ji52) + 1)) : Int).toNat - (x16_1 : Int).toNat := (by rw [Ny230.out, lD, lT] <;> omega); rw [show ((t229).take ((wrap64 ((ji52) + 1)) : Int).toNat).drop (x16_1 : Int).toNat = y230 from Ny230.out.symm] at hr83; replace hr83 : Kd.C (Kd.int .u32) _ A83 y230.length y230 := (by rw [hA83]; exact hr83); rw [← hy83, ← hA83, ← hc83] at hcut83; have HR233 := mk0 hr83; have HC233 := mk0 (show y230.length ≤ c83 from by rw [hy83, hc83]; exact Nat.sub_le_sub_right (Nat.le_trans (by omega) hroom83) _); clear hr83 hC83 hroom83 hi083 hsz83 hc83 hroomc83; have KY83 := mk0 hy83; have KA83 := mk0 hA83; clear hy83 hA83; have KE83 := mk0 hlx83; have KL83 := mk0 (show ((wrap64 ((ji52) + 1)) : Int).toNat ≤ t229.length from by omega); have KM83 := mk0 (show (x16_1 : Int).toNat ≤ ((wrap64 ((ji52) + 1)) : Int).toNat from by omega); clear hlx83; replace q83 := eq_true q83) | ((refine gate_callee (f := 112) rfl ?_); refine goesL_ (some 131) rfl rfl Try.func112 (by kernel_rfl) rfl #[.slice A81 y224.length c81, .slice (some ad221) x14_1.length co47] rfl (by (try simp only [mA, mC, mN, hl14_1]); first | done | rfl | (simp only [lD, lT]; rfl)) ?_; (with_reducible refine (nat_addBack.calls k1 (fun k_ => some k_ = (.slice (some ad218) x13_1.length co80 : Value).ownBlock) (.slice (some ad218) x13_1.length co80) t229 x16_1 (wrap64 ((ji52) + 1)) A81 _ c81 _ _ x14_1 t234 w _ ?side1 ?side2 ?side3 ?side4 ?side5 ?side6 A76.out).mono ?_); (case side1 => repeat (first | (with_reducible first | exact HB.out | apply bA | apply bN | apply b1) | exact HB.out)); (case side2 => exact Kd.R_tight rfl HO_13.out); (case side3 => intro _ _ _ e_; cases e_; exact KA81.out); (case side4 => exact KY81.out); (case side5 => exact Kd.C_kept_own (HO_14.out) (fun k_ hk_ hs_ => (hk_.2.1) hs_)); (case side6 => exact (Kd.R_reads' HO_14.out).2.1); rintro e w84 ⟨rfl, hy0, hb, hkp⟩; refine ⟨_, rfl, ?_⟩; replace HO_13 := mk0 (Kd.R_reok rfl hy0 (fun k_ e_ => HO_13.out.1 k_ e_)); replace HO_14 := mk0 (Rm (ok' := fun k_ => (w.heap.size ≤ k_) ∧ some k_ ≠ (.slice (some ad218) x13_1.length co80 : Value).ownBlock ∧ some k_ ≠ (v206 : Value).ownBlock) (Kd.R_keptB (HO_14.out) hkp (fun k_ hk_ hs_ => (hk_.2.1) hs_)) (fun k_ hk_ => ⟨hk_.1.1, hk_.1.2.1, hk_.1.2.2⟩)); replace HO_15 := mk0 (Rm (ok' := fun k_ => (w.heap.size ≤ k_) ∧ some k_ ≠ (.slice (some ad218) x13_1.length co80 : Value).ownBlock ∧ some k_ ≠ (.slice (some ad221) x14_1.length co47 : Value).ownBlock) (Kd.R_keptB (HO_15.out) hkp (fun k_ hk_ hs_ => (hk_.2.1) hs_)) (fun k_ hk_ => ⟨hk_.1.1, hk_.1.2.1, hk_.1.2.2⟩)); replace HB := mk0 (hb); have p78 : 0 ≤ (x16_1 : Int) := of_decide_eq_true (by first | (with_reducible assumption) | assumption); have q78 : (x16_1 : Int) < ((x15_1.length : Int) : Int) := of_decide_eq_true (by first | (with_reducible assumption) | assumption); obtain ⟨go78, co78, eo78, gb78, gl78, cl78, HG78⟩ := Kd.R_form HO_15.out (by omega); (first | cases eo78 | (injection eo78 with ea_ en_ ec_; (first | subst ea_ | (injection ea_ with ea_; subst ea_)); subst ec_; clear en_)); have GB78 := mk0 gb78; have GG78 := mk0 HG78; clear gb78 gl78 HG78; obtain ⟨hx78_0, hf78_0⟩ := Kd.R_celln 0 HO_15.out (x16_1 : Int) p78 q78; replace p78 := eq_true p78; replace q78 := eq_true q78; obtain ⟨hy85_, hz85_⟩ := Kd.R_celln 0 HO_15.out (x16_1 : Int) (of_decide_eq_true (by first | (with_reducible assumption) | assumption)) (of_decide_eq_true (by first | (with_reducible assumption) | assumption)); have HP85 := Kd.R_putg HO_15.out (x16_1 : Int) ((IntKind.u64.wrap (t223 - 1)) % 4294967296)) | ((refine gate_store (t := 87) (p := 136) rfl ?_); refine store_event (t := 87) (p := 136) (v := ?vo_w86) (w1 := (w84.setCell ⟨go78, (x16_1 : Int).toNat, none⟩ (.int .u32 ((IntKind.u64.wrap (t223 - 1)) % 4294967296)))) ?hg ?ho ?hn ?hr ?_; (case ho => rfl); (case hg => rfl); (case hn => rfl); (case hr => go_simp <;> rfl); intro w86 hw; have hg : w84.grownBy w86 (some go78) := (by rw [hw]; exact HP85.2); have hp_ : Kd.R (Kd.int .u32) 87 w86 w.heap.size (fun k_ => (w.heap.size ≤ k_) ∧ some k_ ≠ (.slice (some ad218) x13_1.length co80 : Value).ownBlock ∧ some k_ ≠ (.slice (some ad221) x14_1.length co47 : Value).ownBlock) (.slice (some ⟨go78, 0, none⟩) x15_1.length co78) y235 := (by rw [hw, Ny235.out]; exact HP85.1); clear HP85; replace HO_13 := mk0 (Kd.R_after (v := (.slice (some ⟨go78, 0, none⟩) x15_1.length co78)) (v1 := (.slice (some ⟨go78, 0, none⟩) x15_1.length co78)) (ok := (fun k_ => (w.heap.size ≤ k_) ∧ some k_ ≠ (.slice (some ad221) x14_1.length co47 : Value).ownBlock)) (by (with_reducible repeat apply Kd.R_drewN); exact Rm HO_13.out (fun _ hk => ⟨⟨hk.1, hk.2.1⟩, hk.2.2⟩)) hg (.inl rfl)); replace HO_14 := mk0 (Kd.R_after (v := (.slice (some ⟨go78, 0, none⟩) x15_1.length co78)) (v1 := (.slice (some ⟨go78, 0, none⟩) x15_1.length co78)) (ok := (fun k_ => (w.heap.size ≤ k_) ∧ some k_ ≠ (.slice (some ad218) x13_1.length co80 : Value).ownBlock)) (by (with_reducible repeat apply Kd.R_drewN); exact Rm HO_14.out (fun _ hk => ⟨⟨hk.1, hk.2.1⟩, hk.2.2⟩)) hg (.inl rfl)); replace HO_15 := mk0 (hp_); replace HB := mk0 ((by rw [hw]; exact bS (HB.out) GB78.out : Below w.heap.size w w86)); clear hg hw hp_))
                            (try simp only [← hl14_1])
                            go_roundg k1
                            case measure => have := HK1.out; omega
                            case rel => exact ⟨(t234), (x14_1), (y235), (wrap64 (x16_1 - 1)), (by first | rfl | (simp; done) | (simp [*]; done)), H', ⟨by have := HK1.out; omega⟩, ⟨by (try simp only [hl14_1]); (with_reducible repeat apply Kd.R_drewN); exact Rm HO_13.out (fun _ hk => ⟨hk.1.1, ⟨hk.1.2, hk.2⟩⟩)⟩, ⟨by (try simp only [hl14_1]); (with_reducible repeat apply Kd.R_drewN); exact Rm HO_14.out (fun _ hk => ⟨hk.1.1, ⟨hk.1.2, hk.2⟩⟩)⟩, ⟨by (try simp only [hl14_1]); (with_reducible repeat apply Kd.R_drewN); exact HO_15.out⟩, ⟨by repeat (first | exact HB.out | apply bN | apply b1 | apply bA)⟩⟩
                           ·rw [if_neg c77] at H
                            exact absurd H (by simp)
                          ·replace c72 := Bool.eq_false_iff.mpr c72
                           subst c72
                           have H1 : (if x16_1 < (x15_1.length : Int) then (nat_DivMod.l0 k1 (t179.length : Int) (IntKind.u64.wrap (t195)) t229 x14_1 (x15_1.set (x16_1 : Int).toNat ((t223) % 4294967296)) (wrap64 (x16_1 - 1))) else (none)) = some (r1, r2, r3) := by rw [if_neg (show ¬ (false = true) by decide)] at H; exact H
                           clear H
                           have H := H1
                           clear H1
                           by_cases c87 : x16_1 < (x15_1.length : Int)
                           ·rw [if_pos c87] at H
                            have c87b0 := decide_eq_true c87
                            clear c87
                            obtain ⟨y236, hy236⟩ : ∃ y_ : List Int, y_ = (x15_1.set (x16_1 : Int).toNat ((t223) % 4294967296)) := ⟨_, rfl⟩
                            rw [← hy236] at H
                            have Ny236 := mk0 hy236
                            clear hy236
                            have H' := mk0 H
                            clear H
                            try go_wp2
                            replace HO_13 := mk0 (Kd.R_drew HO_13.out)
                            replace HO_14 := mk0 (Kd.R_drew HO_14.out)
                            replace HO_15 := mk0 (Kd.R_drew HO_15.out)
                            replace HB := mk0 (b1 HB.out)
                            obtain ⟨Ao90, co90, eo90⟩ := Kd.R_slice HO_13.out
                            (first | subst eo90 | (injection eo90 with f1_ f2_ f3_; have f4_ := f1_.symm; have f5_ := f3_.symm; clear f1_ f2_ f3_; subst f4_; subst f5_))
                            have p218 : 0 ≤ ((ji52) : Int) := of_decide_eq_true (by first | (with_reducible assumption) | assumption)
                            have q218 : (ji52) < (x13_1.length : Int) := of_decide_eq_true (by first | (with_reducible assumption) | assumption)
                            obtain ⟨ad218, e218, hx218_0⟩ := Kd.at_int (Kd.R_reads' HO_13.out).2.2 (ji52) p218 q218
                            cases e218
                            replace p218 := eq_true p218
                            replace q218 := eq_true q218
                            have p219 : 0 ≤ ((ji55) : Int) := of_decide_eq_true (by first | (with_reducible assumption) | assumption)
                            have q219 : (ji55) < (x13_1.length : Int) := of_decide_eq_true (by first | (with_reducible assumption) | assumption)
                            obtain ⟨ad219, e219, hx219_0⟩ := Kd.at_int (Kd.R_reads' HO_13.out).2.2 (ji55) p219 q219
                            obtain rfl : ad218 = ad219 := (by injection e219)
                            replace p219 := eq_true p219
                            replace q219 := eq_true q219
                            have p220 : 0 ≤ ((ji58) : Int) := of_decide_eq_true (by first | (with_reducible assumption) | assumption)
                            have q220 : (ji58) < (x13_1.length : Int) := of_decide_eq_true (by first | (with_reducible assumption) | assumption)
                            obtain ⟨ad220, e220, hx220_0⟩ := Kd.at_int (Kd.R_reads' HO_13.out).2.2 (ji58) p220 q220
                            obtain rfl : ad218 = ad220 := (by injection e220)
                            replace p220 := eq_true p220
                            replace q220 := eq_true q220
                            have p221 : 0 ≤ ((ji29) : Int) := of_decide_eq_true (by first | (with_reducible assumption) | assumption)
                            have q221 : (ji29) < (x14_1.length : Int) := of_decide_eq_true (by first | (with_reducible assumption) | assumption)
                            obtain ⟨ad221, e221, hx221_0⟩ := Kd.at_int (Kd.R_reads' HO_14.out).2.2 (ji29) p221 q221
                            cases e221
                            replace p221 := eq_true p221
                            replace q221 := eq_true q221
                            have p222 : 0 ≤ ((ji64) : Int) := of_decide_eq_true (by first | (with_reducible assumption) | assumption)
                            have q222 : (ji64) < (x14_1.length : Int) := of_decide_eq_true (by first | (with_reducible assumption) | assumption)
                            obtain ⟨ad222, e222, hx222_0⟩ := Kd.at_int (Kd.R_reads' HO_14.out).2.2 (ji64) p222 q222
                            obtain rfl : ad221 = ad222 := (by injection e222)
                            replace p222 := eq_true p222
                            replace q222 := eq_true q222
                            refine start_ (n := 32) (S := fun w' => w'.cell? (ad218.add ((ji52)).toNat) = some (.int .u32 (rd x13_1 (ji52))) ∧ w'.cell? (ad218.add ((ji55)).toNat) = some (.int .u32 (rd x13_1 (ji55))) ∧ w'.cell? (ad218.add ((ji58)).toNat) = some (.int .u32 (rd x13_1 (ji58))) ∧ w'.cell? (ad221.add ((ji29)).toNat) = some (.int .u32 (rd x14_1 (ji29))) ∧ w'.cell? (ad221.add ((ji64)).toNat) = some (.int .u32 (rd x14_1 (ji64)))) (ds := []) (bv 32 0) (by kernel_rfl) rfl rfl ⟨hx218_0, hx219_0, hx220_0, hx221_0, hx222_0⟩ (fun hHeld => ?_); refine with_tabW nat_DivMod.tab17 nat_DivMod.bits17 (fun HT_ HW_ => ?_)
                            generalize wr.drew = w89 at HO_13 HO_14 HO_15 HB hx218_0 hx219_0 hx220_0 hx221_0 hx222_0 hHeld ⊢
                            refine puA (i := 0) (N := 80) (v := ?_) (a' := ?_) (bv 32 1) HT_ ?_ ?_ ?_; rotate_left; (intro w'; go_simp; with_reducible rfl); rotate_left; (simp only [Act.put, sA, sZ, sS, i64_w, i32_w]; rfl)
                            refine puA (i := 1) (N := 81) (v := ?_) (a' := ?_) (bv 32 3) HT_ ?_ ?_ ?_; rotate_left; (intro w'; go_simp; with_reducible rfl); rotate_left; (simp only [Act.put, sA, sZ, sS, i64_w, i32_w]; rfl)
                            refine puA (i := 2) (N := 82) (v := ?_) (a' := ?_) (bv 32 7) HT_ ?_ ?_ ?_; rotate_left; (intro w'; go_simp; with_reducible rfl); rotate_left; (simp only [Act.put, sA, sZ, sS, i64_w, i32_w]; rfl)
                            refine puA (i := 3) (N := 83) (v := ?_) (a' := ?_) (bv 32 15) HT_ ?_ ?_ ?_; rotate_left; (intro w'; go_simp; with_reducible rfl); rotate_left; (simp only [Act.put, sA, sZ, sS, i64_w, i32_w]; rfl)
                            refine puA (i := 4) (N := 84) (v := ?_) (a' := ?_) (bv 32 31) HT_ ?_ ?_ ?_; rotate_left; (intro w'; go_simp; with_reducible rfl); rotate_left; (simp only [Act.put, sA, sZ, sS, i64_w, i32_w]; rfl)
                            refine puA (i := 6) (N := 86) (v := ?_) (a' := ?_) (bv 32 95) HT_ ?_ ?_ ?_; rotate_left; (intro w'; go_simp; with_reducible rfl); rotate_left; (simp only [Act.put, sA, sZ, sS, i64_w, i32_w]; rfl)
                            refine puA (i := 7) (N := 87) (v := ?_) (a' := ?_) (bv 32 223) HT_ ?_ ?_ ?_; rotate_left; (intro w'; go_simp; with_reducible rfl); rotate_left; (simp only [Act.put, sA, sZ, sS, i64_w, i32_w]; rfl)
                            refine puA (i := 8) (N := 88) (v := ?_) (a' := ?_) (bv 32 479) HT_ ?_ ?_ ?_; rotate_left; (intro w'; go_simp; with_reducible rfl); rotate_left; (simp only [Act.put, sA, sZ, sS, i64_w, i32_w]; rfl)
                            refine puA (i := 9) (N := 89) (v := ?_) (a' := ?_) (bv 32 991) HT_ ?_ ?_ ?_; rotate_left; (intro w'; go_simp; with_reducible rfl); rotate_left; (simp only [Act.put, sA, sZ, sS, i64_w, i32_w]; rfl)
                            refine puA (i := 10) (N := 90) (v := ?_) (a' := ?_) (bv 32 2015) HT_ ?_ ?_ ?_; rotate_left; (intro w'; go_simp; with_reducible rfl); rotate_left; (simp only [Act.put, sA, sZ, sS, i64_w, i32_w]; rfl)
                            refine puA (i := 11) (N := 91) (v := ?_) (a' := ?_) (bv 32 4063) HT_ ?_ ?_ ?_; rotate_left; (intro w'; go_simp; with_reducible rfl); rotate_left; (simp only [Act.put, sA, sZ, sS, i64_w, i32_w]; rfl)
                            refine puA (i := 13) (N := 93) (v := ?_) (a' := ?_) (bv 32 12255) HT_ ?_ ?_ ?_; rotate_left; (intro w'; go_simp; with_reducible rfl); rotate_left; (simp only [Act.put, sA, sZ, sS, i64_w, i32_w]; rfl)
                            refine puA (i := 14) (N := 94) (v := ?_) (a' := ?_) (bv 32 28639) HT_ ?_ ?_ ?_; rotate_left; (intro w'; go_simp; with_reducible rfl); rotate_left; (simp only [Act.put, sA, sZ, sS, i64_w, i32_w]; rfl)
                            refine puA (i := 15) (N := 95) (v := ?_) (a' := ?_) (bv 32 61407) HT_ ?_ ?_ ?_; rotate_left; (intro w'; go_simp; with_reducible rfl); rotate_left; (simp only [Act.put, sA, sZ, sS, i64_w, i32_w]; rfl)
                            refine puA (i := 16) (N := 96) (v := ?_) (a' := ?_) (bv 32 126943) HT_ ?_ ?_ ?_; rotate_left; (intro w'; go_simp; with_reducible rfl); rotate_left; (simp only [Act.put, sA, sZ, sS, i64_w, i32_w]; rfl)
                            refine puA (i := 17) (N := 97) (v := ?_) (a' := ?_) (bv 32 258015) HT_ ?_ ?_ ?_; rotate_left; (intro w'; go_simp; with_reducible rfl); rotate_left; (simp only [Act.put, sA, sZ, sS, i64_w, i32_w]; rfl)
                            refine puA (i := 18) (N := 98) (v := ?_) (a' := ?_) (bv 32 520159) HT_ ?_ ?_ ?_; rotate_left; (intro w'; go_simp; with_reducible rfl); rotate_left; (simp only [Act.put, sA, sZ, sS, i64_w, i32_w]; rfl)
                            refine puA (i := 20) (N := 100) (v := ?_) (a' := ?_) (bv 32 1568735) HT_ ?_ ?_ ?_; rotate_left; (intro w'; go_simp; with_reducible rfl); rotate_left; (simp only [Act.put, sA, sZ, sS, i64_w, i32_w]; rfl)
                            refine puA (i := 21) (N := 101) (v := ?_) (a' := ?_) (bv 32 3665887) HT_ ?_ ?_ ?_; rotate_left; (intro w'; go_simp; with_reducible rfl); rotate_left; (simp only [Act.put, sA, sZ, sS, i64_w, i32_w]; rfl)
                            refine puA (i := 22) (N := 102) (v := ?_) (a' := ?_) (bv 32 7860191) HT_ ?_ ?_ ?_; rotate_left; (intro w'; go_simp; with_reducible rfl); rotate_left; (simp only [Act.put, sA, sZ, sS, i64_w, i32_w]; rfl)
                            refine puA (i := 23) (N := 103) (v := ?_) (a' := ?_) (bv 32 16248799) HT_ ?_ ?_ ?_; rotate_left; (intro w'; go_simp; with_reducible rfl); rotate_left; (simp only [Act.put, sA, sZ, sS, i64_w, i32_w]; rfl)
                            refine puA (i := 25) (N := 105) (v := ?_) (a' := ?_) (bv 32 49803231) HT_ ?_ ?_ ?_; rotate_left; (intro w'; go_simp; with_reducible rfl); rotate_left; (simp only [Act.put, sA, sZ, sS, i64_w, i32_w]; rfl)
                            refine puA (i := 26) (N := 106) (v := ?_) (a' := ?_) (bv 32 116912095) HT_ ?_ ?_ ?_; rotate_left; (intro w'; go_simp; with_reducible rfl); rotate_left; (simp only [Act.put, sA, sZ, sS, i64_w, i32_w]; rfl)
                            refine puA (i := 27) (N := 107) (v := ?_) (a' := ?_) (bv 32 251129823) HT_ ?_ ?_ ?_; rotate_left; (intro w'; go_simp; with_reducible rfl); rotate_left; (simp only [Act.put, sA, sZ, sS, i64_w, i32_w]; rfl)
                            refine puA (i := 28) (N := 108) (v := ?_) (a' := ?_) (bv 32 519565279) HT_ ?_ ?_ ?_; rotate_left; (intro w'; go_simp; with_reducible rfl); rotate_left; (simp only [Act.put, sA, sZ, sS, i64_w, i32_w]; rfl)
                            refine take_ (i := 5) (N := some 85) (v := ?_) (a' := ?_) (bv 32 519565311) rfl rfl (take_ofW HT_.out HW_.out (by kernel_rfl)) (fun _ _ _ h => h) (Or.inl ⟨by rfl, ?_⟩) hHeld ?_ ?_; rotate_left; (rintro w' ⟨s0, s1, s2, s3, s4⟩; go_simp; with_reducible rfl); rotate_left; (simp only [Act.put, sA, sZ, sS, i64_w, i32_w]; rfl)
                            refine take_ (i := 12) (N := some 92) (v := ?_) (a' := ?_) (bv 32 519569407) rfl rfl (take_ofW HT_.out HW_.out (by kernel_rfl)) (fun _ _ _ h => h) (Or.inl ⟨by rfl, ?_⟩) hHeld ?_ ?_; rotate_left; (rintro w' ⟨s0, s1, s2, s3, s4⟩; go_simp; with_reducible rfl); rotate_left; (simp only [Act.put, sA, sZ, sS, i64_w, i32_w]; rfl)
                            refine take_ (i := 19) (N := some 99) (v := ?_) (a' := ?_) (bv 32 520093695) rfl rfl (take_ofW HT_.out HW_.out (by kernel_rfl)) (fun _ _ _ h => h) (Or.inl ⟨by rfl, ?_⟩) hHeld ?_ ?_; rotate_left; (rintro w' ⟨s0, s1, s2, s3, s4⟩; go_simp; with_reducible rfl); rotate_left; (simp only [Act.put, sA, sZ, sS, i64_w, i32_w]; rfl)
                            refine take_ (i := 24) (N := some 104) (v := ?_) (a' := ?_) (bv 32 536870911) rfl rfl (take_ofW HT_.out HW_.out (by kernel_rfl)) (fun _ _ _ h => h) (Or.inl ⟨by rfl, ?_⟩) hHeld ?_ ?_; rotate_left; (rintro w' ⟨s0, s1, s2, s3, s4⟩; go_simp; with_reducible rfl); rotate_left; (simp only [Act.put, sA, sZ, sS, i64_w, i32_w]; rfl)
                            refine take_ (i := 29) (N := some 109) (v := ?_) (a' := ?_) (bv 32 1073741823) rfl rfl (take_ofW HT_.out HW_.out (by kernel_rfl)) (fun _ _ _ h => h) (Or.inl ⟨by rfl, ?_⟩) hHeld ?_ ?_; rotate_left; (rintro w' ⟨s0, s1, s2, s3, s4⟩; go_simp; with_reducible rfl); rotate_left; (simp only [Act.put, sA, sZ, sS, i64_w, i32_w]; rfl)
                            refine one_ (i := 30) (N := some 110) (bv 32 2147483647) rfl rfl (one_of HT_.out (by kernel_rfl)) (by decide) (fun K hK => ?_)
                            refine goes_ Try.func110 (by kernel_rfl) rfl #[.int .u32 (rd x13_1 (ji52)), .int .u32 (rd x13_1 (ji55)), .int .u32 (rd x13_1 (ji58)), .int .u32 (rd x14_1 (ji29)), .int .u32 (rd x14_1 (ji64))] (by rfl) rfl rfl (by (try simp only [mA, mC, mN]); first | done | (simp only [hji52, hji55, hji58, hji61, hji64]; rfl) | rfl | (simp only [lD, lT]; rfl)) ?_
                            with_reducible refine (nat_guess.calls k1 (rd x13_1 (ji52)) (rd x13_1 (ji55)) (rd x13_1 (ji58)) (rd x14_1 (ji29)) (rd x14_1 (ji64)) t223 _ A67.out).mono ?_
                            rintro e w' ⟨rfl, ⟨nd, rfl⟩⟩
                            refine ⟨_, rfl, ?_⟩
                            refine hK.out _ _ ⟨hHeld.1, hHeld.2.1, hHeld.2.2.1, hHeld.2.2.2.1, hHeld.2.2.2.2⟩ (fun hHeld => ?_)
                            clear hK K
                            refine norm_ (a' := ?_) ?_ ?_
                            rotate_left
                            ·show Act.put _ (some 110) _ = _
                             simp only [Act.put, sA, sZ, sS, i64_w, i32_w]
                             rfl
                            refine puA (i := 31) (N := 17) (v := ?_) (a' := ?_) (bv 32 4294967295) HT_ ?_ ?_ ?_; rotate_left; (intro w'; go_simp; with_reducible rfl); rotate_left; (simp only [Act.put, sA, sZ, sS, i64_w, i32_w]; rfl)
                            refine done_ (done_of HT_.out (by kernel_rfl)) ?_
                            have q91 : ((wrap64 ((ji52) + 1)) : Int) ≤ ((x13_1.length : Int) : Int) := of_decide_eq_true (by first | (with_reducible assumption) | assumption)
                            obtain ⟨i091, hi091, _, hsz91, _⟩ := info_parts info87
                            have hroom91 : x13_1.length ≤ co90 := (Kd.R_reads' HO_13.out).2.1
                            have hC91 : Kd.C (Kd.int .u32) _ (some ad218) x13_1.length x13_1 := (Kd.R_reads' HO_13.out).2.2
                            have ql91 : (x16_1 : Int) ≤ ((wrap64 ((ji52) + 1)) : Int) := of_decide_eq_true (by first | (with_reducible assumption) | assumption)
                            have q091 : (0 : Int) ≤ (x16_1 : Int) := of_decide_eq_true (by first | (with_reducible assumption) | assumption)
                            have hcut91 := cut_mid (P := Try.prog) 25 87 .i64 .i64 Try.underlying25 hi091 1 hsz91 (some ad218) x13_1.length co90 x16_1 (wrap64 ((ji52) + 1)) q091 ql91 q91 hroom91
                            have hr91 := Kd.C_mid (lo := (x16_1 : Int).toNat) (hi := ((wrap64 ((ji52) + 1)) : Int).toNat) (c := co90) hC91 (by omega) (by omega) hroom91
                            obtain ⟨A91, hA91⟩ : ∃ A1, A1 = (if co90 = (x16_1 : Int).toNat then (some ad218) else ((some ad218) : Option Addr).map (·.add ((x16_1 : Int).toNat * 1))) := ⟨_, rfl⟩
                            obtain ⟨c91, hc91⟩ : ∃ c1, c1 = co90 - (x16_1 : Int).toNat := ⟨_, rfl⟩
                            have hy91 : y224.length = ((wrap64 ((ji52) + 1)) : Int).toNat - (x16_1 : Int).toNat := (by rw [Ny224.out, lD, lT] <;> omega)
                            rw [show ((x13_1).take ((wrap64 ((ji52) + 1)) : Int).toNat).drop (x16_1 : Int).toNat = y224 from Ny224.out.symm] at hr91
                            replace hr91 : Kd.C (Kd.int .u32) _ A91 y224.length y224 := (by rw [hA91]; exact hr91)
                            rw [← hy91, ← hA91, ← hc91] at hcut91
                            have HR227 := mk0 hr91
                            have HC227 := mk0 (show y224.length ≤ c91 from by rw [hy91, hc91]; exact Nat.sub_le_sub_right (Nat.le_trans (by omega) hroom91) _)
                            clear hr91 hC91 hroom91 hi091 hsz91 hc91
                            have KY91 := mk0 hy91
                            have KA91 := mk0 hA91
                            clear hy91 hA91
                            have KL91 := mk0 (show ((wrap64 ((ji52) + 1)) : Int).toNat ≤ x13_1.length from by omega)
                            have KM91 := mk0 (show (x16_1 : Int).toNat ≤ ((wrap64 ((ji52) + 1)) : Int).toNat from by omega)
                            replace q91 := eq_true q91
                            try go_wp2_with (first | ((refine gate_callee (f := 111) rfl ?_); refine goesL_ (some 120) rfl rfl Try.func111 (by kernel_rfl) rfl #[.slice A91 y224.length c91, .slice (some ad221) x14_1.length co47, .int .u64 t223] rfl (by (try simp only [mA, mC, mN]); first | done | rfl | (simp only [lD, lT]; rfl)) ?_; (with_reducible refine (nat_subtract.calls k1 (fun k_ => some k_ = (.slice (some ad218) x13_1.length co90 : Value).ownBlock) (.slice (some ad218) x13_1.length co90) x13_1 x16_1 (wrap64 ((ji52) + 1)) A91 _ c91 _ _ x14_1 t223 false t229 w _ ?side1 ?side2 ?side3 ?side4 ?side5 ?side6 A71.out).mono ?_); (case side1 => repeat (first | (with_reducible first | exact HB.out | apply bA | apply bN | apply b1) | exact HB.out)); (case side2 => exact Kd.R_tight rfl HO_13.out); (case side3 => intro _ _ _ e_; cases e_; exact KA91.out); (case side4 => exact KY91.out); (case side5 => exact Kd.C_kept_own (HO_14.out) (fun k_ hk_ hs_ => (hk_.2.1) hs_)); (case side6 => exact (Kd.R_reads' HO_14.out).2.1); rintro e w92 ⟨rfl, hy0, hb, hkp⟩; refine ⟨_, rfl, ?_⟩; replace HO_13 := mk0 (Kd.R_reok rfl hy0 (fun k_ e_ => HO_13.out.1 k_ e_)); replace HO_14 := mk0 (Rm (ok' := fun k_ => (w.heap.size ≤ k_) ∧ some k_ ≠ (.slice (some ad218) x13_1.length co90 : Value).ownBlock ∧ some k_ ≠ (v206 : Value).ownBlock) (Kd.R_keptB (HO_14.out) hkp (fun k_ hk_ hs_ => (hk_.2.1) hs_)) (fun k_ hk_ => ⟨hk_.1.1, hk_.1.2.1, hk_.1.2.2⟩)); replace HO_15 := mk0 (Rm (ok' := fun k_ => (w.heap.size ≤ k_) ∧ some k_ ≠ (.slice (some ad218) x13_1.length co90 : Value).ownBlock ∧ some k_ ≠ (.slice (some ad221) x14_1.length co47 : Value).ownBlock) (Kd.R_keptB (HO_15.out) hkp (fun k_ hk_ hs_ => (hk_.2.1) hs_)) (fun k_ hk_ => ⟨hk_.1.1, hk_.1.2.1, hk_.1.2.2⟩)); replace HB := mk0 (hb); have p88 : 0 ≤ (x16_1 : Int) := of_decide_eq_true (by first | (with_reducible assumption) | assumption); have q88 : (x16_1 : Int) < ((x15_1.length : Int) : Int) := of_decide_eq_true (by first | (with_reducible assumption) | assumption); obtain ⟨go88, co88, eo88, gb88, gl88, cl88, HG88⟩ := Kd.R_form HO_15.out (by omega); (first | cases eo88 | (injection eo88 with ea_ en_ ec_; (first | subst ea_ | (injection ea_ with ea_; subst ea_)); subst ec_; clear en_)); have GB88 := mk0 gb88; have GG88 := mk0 HG88; clear gb88 gl88 HG88; obtain ⟨hx88_0, hf88_0⟩ := Kd.R_celln 0 HO_15.out (x16_1 : Int) p88 q88; replace p88 := eq_true p88; replace q88 := eq_true q88; obtain ⟨hy93_, hz93_⟩ := Kd.R_celln 0 HO_15.out (x16_1 : Int) (of_decide_eq_true (by first | (with_reducible assumption) | assumption)) (of_decide_eq_true (by first | (with_reducible assumption) | assumption)); have HP93 := Kd.R_putg HO_15.out (x16_1 : Int) ((t223) % 4294967296)) | ((refine gate_store (t := 87) (p := 136) rfl ?_); refine store_event (t := 87) (p := 136) (v := ?vo_w94) (w1 := (w92.setCell ⟨go88, (x16_1 : Int).toNat, none⟩ (.int .u32 ((t223) % 4294967296)))) ?hg ?ho ?hn ?hr ?_; (case ho => rfl); (case hg => rfl); (case hn => rfl); (case hr => go_simp <;> rfl); intro w94 hw; have hg : w92.grownBy w94 (some go88) := (by rw [hw]; exact HP93.2); have hp_ : Kd.R (Kd.int .u32) 87 w94 w.heap.size (fun k_ => (w.heap.size ≤ k_) ∧ some k_ ≠ (.slice (some ad218) x13_1.length co90 : Value).ownBlock ∧ some k_ ≠ (.slice (some ad221) x14_1.length co47 : Value).ownBlock) (.slice (some ⟨go88, 0, none⟩) x15_1.length co88) y236 := (by rw [hw, Ny236.out]; exact HP93.1); clear HP93; replace HO_13 := mk0 (Kd.R_after (v := (.slice (some ⟨go88, 0, none⟩) x15_1.length co88)) (v1 := (.slice (some ⟨go88, 0, none⟩) x15_1.length co88)) (ok := (fun k_ => (w.heap.size ≤ k_) ∧ some k_ ≠ (.slice (some ad221) x14_1.length co47 : Value).ownBlock)) (by (with_reducible repeat apply Kd.R_drewN); exact Rm HO_13.out (fun _ hk => ⟨⟨hk.1, hk.2.1⟩, hk.2.2⟩)) hg (.inl rfl)); replace HO_14 := mk0 (Kd.R_after (v := (.slice (some ⟨go88, 0, none⟩) x15_1.length co88)) (v1 := (.slice (some ⟨go88, 0, none⟩) x15_1.length co88)) (ok := (fun k_ => (w.heap.size ≤ k_) ∧ some k_ ≠ (.slice (some ad218) x13_1.length co90 : Value).ownBlock)) (by (with_reducible repeat apply Kd.R_drewN); exact Rm HO_14.out (fun _ hk => ⟨⟨hk.1, hk.2.1⟩, hk.2.2⟩)) hg (.inl rfl)); replace HO_15 := mk0 (hp_); replace HB := mk0 ((by rw [hw]; exact bS (HB.out) GB88.out : Below w.heap.size w w94)); clear hg hw hp_))
                            (try simp only [← hl14_1])
                            go_roundg k1
                            case measure => have := HK1.out; omega
                            case rel => exact ⟨(t229), (x14_1), (y236), (wrap64 (x16_1 - 1)), (by first | rfl | (simp; done) | (simp [*]; done)), H', ⟨by have := HK1.out; omega⟩, ⟨by (try simp only [hl14_1]); (with_reducible repeat apply Kd.R_drewN); exact Rm HO_13.out (fun _ hk => ⟨hk.1.1, ⟨hk.1.2, hk.2⟩⟩)⟩, ⟨by (try simp only [hl14_1]); (with_reducible repeat apply Kd.R_drewN); exact Rm HO_14.out (fun _ hk => ⟨hk.1.1, ⟨hk.1.2, hk.2⟩⟩)⟩, ⟨by (try simp only [hl14_1]); (with_reducible repeat apply Kd.R_drewN); exact HO_15.out⟩, ⟨by repeat (first | exact HB.out | apply bN | apply b1 | apply bA)⟩⟩
                           ·rw [if_neg c87] at H
                            exact absurd H (by simp)
                         ·rw [if_neg c70] at H
                          exact absurd H (by simp)
                        ·rw [if_neg c69] at H
                         exact absurd H (by simp)
                       ·rw [if_neg c68] at H
                        exact absurd H (by simp)
                      ·rw [if_neg c66] at H
                       exact absurd H (by simp)
                     ·rw [if_neg c65] at H
                      exact absurd H (by simp)
                    ·rw [if_neg c63] at H
                     exact absurd H (by simp)
                   ·rw [if_neg c62] at H
                    exact absurd H (by simp)
                  ·rw [if_neg c60] at H
                   exact absurd H (by simp)
                 ·rw [if_neg c59] at H
                  exact absurd H (by simp)
                ·rw [if_neg c57] at H
                 exact absurd H (by simp)
               ·rw [if_neg c56] at H
                exact absurd H (by simp)
              ·rw [if_neg c54] at H
               exact absurd H (by simp)
             ·rw [if_neg c53] at H
              exact absurd H (by simp)
            ·rw [if_neg c51] at H
             have c51b0 := decide_eq_false c51
             clear c51
             obtain ⟨t208, A95, H⟩ := bindA H
             by_cases c96 : 0 ≤ (t179.length : Int)
             ·rw [if_pos c96] at H
              have c96b0 := eq_true c96
              have c96b1 := decide_eq_true c96
              clear c96
              by_cases c97 : (t179.length : Int) ≤ (x13_1.length : Int)
              ·rw [if_pos c97] at H
               have c97b0 := eq_true c97
               have c97b1 := decide_eq_true c97
               clear c97
               obtain ⟨y211, hy211⟩ : ∃ y_ : List Int, y_ = (x13_1.take ((t179.length : Int) : Int).toNat) := ⟨_, rfl⟩
               rw [← hy211] at H
               have Ny211 := mk0 hy211
               clear hy211
               obtain ⟨t215, A98, H⟩ := bindA H
               simp only [Option.some.injEq, Prod.mk.injEq] at H
               obtain ⟨rfl, rfl, rfl⟩ := H
               try go_wp2
               replace HO_13 := mk0 (Kd.R_drew HO_13.out)
               replace HO_14 := mk0 (Kd.R_drew HO_14.out)
               replace HO_15 := mk0 (Kd.R_drew HO_15.out)
               replace HB := mk0 (b1 HB.out)
               obtain ⟨Ao101, co101, eo101⟩ := Kd.R_slice HO_13.out
               (first | subst eo101 | (injection eo101 with f1_ f2_ f3_; have f4_ := f1_.symm; have f5_ := f3_.symm; clear f1_ f2_ f3_; subst f4_; subst f5_))
               have q100 : ((t179.length : Int) : Int) ≤ ((x13_1.length : Int) : Int) := of_decide_eq_true (by first | (with_reducible assumption) | assumption)
               obtain ⟨i0100, hi0100, _, hsz100, _⟩ := info_parts info87
               have hroom100 : x13_1.length ≤ co101 := (Kd.R_reads' HO_13.out).2.1
               have hC100 : Kd.C (Kd.int .u32) _ Ao101 x13_1.length x13_1 := (Kd.R_reads' HO_13.out).2.2
               have hcut100 := cut_to (P := Try.prog) 25 87 .i64 Try.underlying25 hi0100 Ao101 x13_1.length co101 (t179.length : Int) (of_decide_eq_true (by first | (with_reducible assumption) | assumption)) q100 hroom100
               have hr100 := Kd.C_take (m := ((t179.length : Int) : Int).toNat) hC100 (by omega)
               have hy100 : y211.length = ((t179.length : Int) : Int).toNat := (by rw [Ny211.out, lT]; omega)
               rw [← Ny211.out] at hr100
               rw [← hy100] at hcut100
               have HR214 := mk0 hr100
               have HC214 := mk0 (show y211.length ≤ co101 from by omega)
               clear hr100 hC100 hroom100 hi0100 hsz100
               have KY100 := mk0 hy100
               clear hy100
               have KL100 := mk0 (show ((t179.length : Int) : Int).toNat ≤ x13_1.length from by omega)
               replace q100 := eq_true q100
               obtain ⟨Ao102, co102, eo102⟩ := Kd.R_slice HO_15.out
               (first | subst eo102 | (injection eo102 with f1_ f2_ f3_; have f4_ := f1_.symm; have f5_ := f3_.symm; clear f1_ f2_ f3_; subst f4_; subst f5_))
               refine start_ (n := 10) (S := fun w' => True) (ds := []) (bv 10 0) (by kernel_rfl) rfl rfl trivial (fun hHeld => ?_); refine with_tabW nat_DivMod.tab22 nat_DivMod.bits22 (fun HT_ HW_ => ?_)
               generalize wr.drew = w99 at HO_13 HO_14 HO_15 HB HR214 hHeld ⊢
               refine puA (i := 0) (N := 137) (v := ?_) (a' := ?_) (bv 10 1) HT_ ?_ ?_ ?_; rotate_left; (intro w'; go_simp; with_reducible rfl); rotate_left; (simp only [Act.put, sA, sZ, sS, i64_w, i32_w]; rfl)
               refine puA (i := 2) (N := 139) (v := ?_) (a' := ?_) (bv 10 5) HT_ ?_ ?_ ?_; rotate_left; (intro w'; go_simp; with_reducible rfl); rotate_left; (simp only [Act.put, sA, sZ, sS, i64_w, i32_w]; rfl)
               refine puA (i := 3) (N := 140) (v := ?_) (a' := ?_) (bv 10 13) HT_ ?_ ?_ ?_; rotate_left; (intro w'; go_simp; with_reducible rfl); rotate_left; (simp only [Act.put, sA, sZ, sS, i64_w, i32_w]; rfl)
               refine puA (i := 4) (N := 141) (v := ?_) (a' := ?_) (bv 10 29) HT_ ?_ ?_ ?_; rotate_left; (intro w'; go_simp; with_reducible rfl); rotate_left; (simp only [Act.put, sA, sZ, sS, i64_w, i32_w]; rfl)
               refine puA (i := 5) (N := 142) (v := ?_) (a' := ?_) (bv 10 61) HT_ ?_ ?_ ?_; rotate_left; (intro w'; go_simp; with_reducible rfl); rotate_left; (simp only [Act.put, sA, sZ, sS, i64_w, i32_w]; rfl)
               refine one_ (i := 1) (N := some 138) (bv 10 63) rfl rfl (one_of HT_.out (by kernel_rfl)) (by decide) (fun K hK => ?_)
               refine goes_ Try.func81 (by kernel_rfl) rfl #[.slice Ao102 x15_1.length co102] (by rfl) rfl rfl (by (try simp only [mA, mC, mN]); first | done | rfl | (simp only [lD, lT]; rfl)) ?_
               with_reducible refine (nat_trim.calls k1 (fun k_ => some k_ = (.slice Ao102 x15_1.length co102 : Value).ownBlock) _ _ x15_1 t208 _ ?side1 A95.out).mono ?_
               (case side1 => exact Kd.R_V (Kd.R_tight rfl (HO_15.out)))
               rintro e w103 ⟨v209, rfl, ho0, hb⟩
               refine ⟨_, rfl, ?_⟩
               have HO210 := mk0 (Vl (Vm (ok' := fun k_ => ((P0_ k_ ∨ P1_ k_) ∨ w.heap.size ≤ k_) ∧ some k_ ≠ (.slice Ao101 x13_1.length co101 : Value).ownBlock ∧ some k_ ≠ (.slice Ao47 x14_1.length co47 : Value).ownBlock) ho0 (fun k_ hk_ => ⟨Or.elim hk_ (fun hs_ => (.inr (((HO_15.out).1 k_ hs_.symm).1))) (fun hn_ => (.inr (Nat.le_trans (bZ HB.out) hn_))), Or.elim hk_ (fun hs_ => ((HO_15.out).1 k_ hs_.symm).2.1) (fun hn_ => (Kd.fresh' (Rq (by (with_reducible repeat apply Kd.R_drewN); exact HO_13.out)) k_ hn_)), Or.elim hk_ (fun hs_ => ((HO_15.out).1 k_ hs_.symm).2.2) (fun hn_ => (Kd.fresh' (Rq (by (with_reducible repeat apply Kd.R_drewN); exact HO_14.out)) k_ hn_))⟩)) (bZ HB.out))
               replace HO_13 := (by first | exact rB HO_13 hb | exact rD HO_13 hb)
               replace HO_14 := (by first | exact rB HO_14 hb | exact rD HO_14 hb)
               replace HO_15 := (by first | exact rB HO_15 hb | exact rD HO_15 hb)
               replace HR214 := mk0 (Cb (by repeat (first | (with_reducible exact HR214.out) | (with_reducible refine Kd.C_alloc ?_ _) | (with_reducible refine Kd.C_drewN ?_ _) | (with_reducible refine Kd.C_drew ?_) | exact HR214.out)) hb)
               replace HB := (by first | exact hbS HB hb | exact hbD HB hb)
               (try clear hb)
               (try clear hb2)
               (try clear hk)
               (try clear hi)
               (try clear ho0)
               refine hK.out _ _ trivial (fun hHeld => ?_)
               clear hK K
               refine norm_ (a' := ?_) ?_ ?_
               rotate_left
               ·show Act.put _ (some 138) _ = _
                simp only [Act.put, sA, sZ, sS, i64_w, i32_w]
                rfl
               refine one_ (i := 6) (N := some 143) (bv 10 127) rfl rfl (one_of HT_.out (by kernel_rfl)) (by decide) (fun K hK => ?_)
               refine goes_ Try.func113 (by kernel_rfl) rfl #[.slice Ao101 y211.length co101, .int .u64 (IntKind.u64.wrap (t195))] (by rfl) rfl rfl (by (try simp only [mA, mC, mN]); first | done | rfl | (simp only [lD, lT]; rfl)) ?_
               with_reducible refine (nat_shiftDown.calls k1 _ _ y211 (IntKind.u64.wrap (t195)) t215 _ ?side1 ?side2 A98.out).mono ?_
               (case side1 => exact (by repeat (first | (with_reducible exact HR214.out) | (with_reducible refine Kd.C_alloc ?_ _) | (with_reducible refine Kd.C_drewN ?_ _) | (with_reducible refine Kd.C_drew ?_) | exact HR214.out)))
               (case side2 => exact HC214.out)
               rintro e w104 ⟨v216, rfl, ho0, hb⟩
               refine ⟨_, rfl, ?_⟩
               replace HO210 := mk0 (Kd.V_below (by (with_reducible repeat apply Kd.V_drewN); exact HO210.out) hb)
               have HO217 := mk0 (Vl (Vm (ok' := fun k_ => ((P0_ k_ ∨ P1_ k_) ∨ w.heap.size ≤ k_) ∧ some k_ ≠ (.slice Ao101 x13_1.length co101 : Value).ownBlock ∧ some k_ ≠ (.slice Ao47 x14_1.length co47 : Value).ownBlock ∧ some k_ ≠ (.slice Ao102 x15_1.length co102 : Value).ownBlock) ho0 (fun k_ hk_ => ⟨(.inr (Nat.le_trans (bZ HB.out) hk_)), (Kd.fresh' (Rq (by (with_reducible repeat apply Kd.R_drewN); exact HO_13.out)) k_ hk_), (Kd.fresh' (Rq (by (with_reducible repeat apply Kd.R_drewN); exact HO_14.out)) k_ hk_), (Kd.fresh' (Rq (by (with_reducible repeat apply Kd.R_drewN); exact HO_15.out)) k_ hk_)⟩)) (bZ HB.out))
               replace HO_13 := (by first | exact rB HO_13 hb | exact rD HO_13 hb)
               replace HO_14 := (by first | exact rB HO_14 hb | exact rD HO_14 hb)
               replace HO_15 := (by first | exact rB HO_15 hb | exact rD HO_15 hb)
               replace HR214 := mk0 (Cb (by repeat (first | (with_reducible exact HR214.out) | (with_reducible refine Kd.C_alloc ?_ _) | (with_reducible refine Kd.C_drewN ?_ _) | (with_reducible refine Kd.C_drew ?_) | exact HR214.out)) hb)
               replace HB := (by first | exact hbS HB hb | exact hbD HB hb)
               (try clear hb)
               (try clear hb2)
               (try clear hk)
               (try clear hi)
               (try clear ho0)
               refine hK.out _ _ trivial (fun hHeld => ?_)
               clear hK K
               refine norm_ (a' := ?_) ?_ ?_
               rotate_left
               ·show Act.put _ (some 143) _ = _
                simp only [Act.put, sA, sZ, sS, i64_w, i32_w]
                rfl
               refine puA (i := 7) (N := 4) (v := ?_) (a' := ?_) (bv 10 255) HT_ ?_ ?_ ?_; rotate_left; (intro w'; go_simp; with_reducible rfl); rotate_left; (simp only [Act.put, sA, sZ, sS, i64_w, i32_w]; rfl)
               refine puA (i := 8) (N := 5) (v := ?_) (a' := ?_) (bv 10 511) HT_ ?_ ?_ ?_; rotate_left; (intro w'; go_simp; with_reducible rfl); rotate_left; (simp only [Act.put, sA, sZ, sS, i64_w, i32_w]; rfl)
               refine puA (i := 9) (N := 6) (v := ?_) (a' := ?_) (bv 10 1023) HT_ ?_ ?_ ?_; rotate_left; (intro w'; go_simp; with_reducible rfl); rotate_left; (simp only [Act.put, sA, sZ, sS, i64_w, i32_w]; rfl)
               refine done_ (done_of HT_.out (by kernel_rfl)) ?_
               try go_wp2
               go_ret3
               exact ⟨_, _, by first | rfl | (simp [errW_none, errW_some] <;> rfl) | (simp only [← hji29, ← hji37]; first | rfl | (simp [errW_none, errW_some] <;> rfl)) | (simp [*, errW_none, errW_some] <;> rfl), by (with_reducible repeat apply Kd.V_drewN); exact Vm HO210.out (fun _ hk => hk.1), by (with_reducible repeat apply Kd.V_drewN); exact Vm HO217.out (fun _ hk => hk.1), by repeat (first | exact HB.out | apply bN | apply b1 | apply bA)⟩
              ·rw [if_neg c97] at H
               exact absurd H (by simp)
             ·rw [if_neg c96] at H
              exact absurd H (by simp)
         ·rw [if_neg c39] at H
          exact absurd H (by simp)
        ·rw [if_neg c38] at H
         exact absurd H (by simp)
       ·rw [if_neg c36] at H
        exact absurd H (by simp)
      ·rw [if_neg c35] at H
       exact absurd H (by simp)
     ·rw [if_neg c31] at H
      exact absurd H (by simp)
    ·rw [if_neg c30] at H
     exact absurd H (by simp)
set_option maxHeartbeats 8000000 in
set_option maxRecDepth 100000 in
theorem nat_Gcd.calls (k : Nat) (A0 : Option Addr) (c0 : Nat) (l0 : List Int) (A1 : Option Addr) (c1 : Nat) (l1 : List Int) (r : List Int) (w : World) (hr0 : Kd.C (Kd.int .u32) w A0 l0.length l0) (hc0 : l0.length ≤ c0) (hr1 : Kd.C (Kd.int .u32) w A1 l1.length l1) (hc1 : l1.length ≤ c1) (h : nat_Gcd.f k l0 l1 = some r) :
  Calls Try.prog 79 #[.slice A0 l0.length c0, .slice A1 l1.length c1] w fun e w' => ∃ v0_ : Value, e = .returned (v0_) ∧ Kd.V (Kd.int .u32) 87 w' w.heap.size (fun k_ => (w.heap.size ≤ k_)) v0_ r ∧ Below w.heap.size w w' := by
 have HR0 := mk0 hr0
 have HC0 := mk0 hc0
 clear hr0 hc0
 have HR1 := mk0 hr1
 have HC1 := mk0 hc1
 clear hr1 hc1
 have HB := mk0 (Below.refl w.heap.size w)
 have H : ((nat_Norm.f k l0).bind fun t323 => ((nat_Norm.f k l1).bind fun t326 => (nat_Gcd.l0 k t323 t326))) = some r := h
 clear h
 obtain ⟨t323, A3, H⟩ := bindA H
 obtain ⟨t326, A4, H⟩ := bindA H
 have H' := mk0 H
 clear H
 go_enter Try.func79, Try.ntmps79
 go_wp2_with (first | ((with_reducible refine gate_callee (f := 106) rfl ?_); refine goA 11 Try.func106 #[.slice A0 l0.length c0] ?_; (with_reducible refine (nat_Norm.calls k _ _ l0 t323 _ HR0.out HC0.out A3.out).mono ?_); rintro e w5 ⟨v324, rfl, ho0, hb⟩; refine ⟨_, rfl, ?_⟩; have HO325 := mk0 (Rl (Kd.R_newM (M := fun k_ => (w.heap.size ≤ k_)) ho0 (bZ HB.out) (fun k_ h_ => h_)) (bZ HB.out)); replace HB := hbS HB hb) | ((with_reducible refine gate_callee (f := 106) rfl ?_); refine goA 13 Try.func106 #[.slice A1 l1.length c1] ?_; (with_reducible refine (nat_Norm.calls k _ _ l1 t326 _ (by exact Cb HR1.out HB.out) HC1.out A4.out).mono ?_); rintro e w6 ⟨v327, rfl, ho0, hb⟩; refine ⟨_, rfl, ?_⟩; have HO328 := mk0 (Rl (Rn (Kd.R_newM (M := fun k_ => (w.heap.size ≤ k_)) ho0 (bZ HB.out) (fun k_ h_ => h_)) (Rq HO325.out)) (bZ HB.out)); replace HO325 := mk0 (Re HO325.out (Rs ho0) hb); replace HB := hbS HB hb))
 go_loopg [5, 6] k (fun kq v5 v6 w' => ∃ (x5_1 : List Int) (x6_1 : List Int), Aside0 (nat_Gcd.l0 kq x5_1 x6_1 = some r) ∧ Aside0 (kq ≤ k) ∧ Aside0 (Kd.V (Kd.int .u32) 87 w' w.heap.size (fun k_ => (w.heap.size ≤ k_)) v5 x5_1) ∧ Aside0 (Kd.V (Kd.int .u32) 87 w' w.heap.size (fun k_ => (w.heap.size ≤ k_)) v6 x6_1) ∧ Aside0 (Below w.heap.size w w'))
 case atStart => exact ⟨(t323), (t326), H', ⟨Nat.le_refl _⟩, ⟨Kd.R_V (Rm HO325.out (fun _ hk => hk.1.1))⟩, ⟨Kd.R_V (Rm HO328.out (fun _ hk => hk.1.1))⟩, ⟨by repeat (first | exact HB.out | apply bN | apply b1 | apply bA)⟩⟩
 case round =>
  clear H'
  try clear c1
  try clear p2
  obtain ⟨x5_1, x6_1, HA, HK1, HO_5, HO_6, HB⟩ := hrel
  cases gk with
  | zero => exact absurd HA.out (by simp [nat_Gcd.l0])
  | succ k1 =>
   have H := HA.out
   clear HA
   simp only [nat_Gcd.l0] at H
   by_cases c7 : (x6_1.length : Int) > 0
   ·rw [if_pos c7] at H
    have c7b0 : decide (0 < (x6_1.length : Int)) = true := decide_eq_true c7
    have c7b1 : decide (0 < x6_1.length) = true := decide_eq_true (by omega)
    clear c7
    obtain ⟨⟨t329, t332, t335⟩, A8, H⟩ := bindA H
    have H' := mk0 H
    clear H
    obtain ⟨Ao9, co9, eo9⟩ := Kd.V_slice HO_6.out
    subst eo9
    obtain ⟨Ao10, co10, eo10⟩ := Kd.V_slice HO_5.out
    subst eo10
    go_wp2_with (first | ((with_reducible refine gate_callee (f := 80) rfl ?_); refine goA 20 Try.func80 #[.slice Ao10 x5_1.length co10, .slice Ao9 x6_1.length co9] ?_; (with_reducible refine (nat_DivMod.calls k1 (fun k_ => (w.heap.size ≤ k_)) _ _ x5_1 (fun k_ => (w.heap.size ≤ k_)) _ _ x6_1 t329 t332 t335 _ HO_5.out HO_6.out A8.out).mono ?_); rintro e w11 ⟨v330, v333, rfl, ho0, ho1, hb⟩; refine ⟨_, rfl, ?_⟩; replace HO_5 := mk0 (Kd.V_below HO_5.out hb); replace HO_6 := mk0 (Kd.V_below HO_6.out hb); have HO334 := mk0 (Vl (Vm (ok' := fun k_ => (w.heap.size ≤ k_)) ho1 (fun k_ hk_ => Or.elim hk_ (fun hs_ => Or.elim hs_ (fun hs_ => hs_) (fun hs_ => hs_)) (fun hn_ => (Nat.le_trans (bZ HB.out) hn_)))) (bZ HB.out)); replace HB := hbS HB hb))
    go_roundg k1
    case measure => have := HK1.out; omega
    case rel => exact ⟨(x6_1), (t332), H', ⟨by have := HK1.out; omega⟩, ⟨HO_6.out⟩, ⟨HO334.out⟩, ⟨by repeat (first | exact HB.out | apply bN | apply b1 | apply bA)⟩⟩
   ·rw [if_neg c7] at H
    have c7b0 : decide (0 < (x6_1.length : Int)) = false := decide_eq_false c7
    have c7b1 : decide (0 < x6_1.length) = false := decide_eq_false (by omega)
    clear c7
    obtain rfl := Option.some.inj H
    obtain ⟨Ao12, co12, eo12⟩ := Kd.V_slice HO_6.out
    subst eo12
    go_wp2
    go_ret
    exact ⟨_, by first | rfl | (simp [errW_none, errW_some] <;> rfl) | (simp [*, errW_none, errW_some] <;> rfl), HO_5.out, by repeat (first | exact HB.out | apply bN | apply b1 | apply bA)⟩
set_option maxHeartbeats 8000000 in
set_option maxRecDepth 100000 in
theorem ratio_lowest.calls (k : Nat) (a0_0 : Bool) (P0_1_ : Nat → Prop) (A0_1 : Option Addr) (c0_1 : Nat) (l0_1 : List Int) (P1_ : Nat → Prop) (A1 : Option Addr) (c1 : Nat) (l1 : List Int) (r1 : Bool) (r2 : List Int) (r3 : List Int) (w : World) (hs0_1 : Kd.V (Kd.int .u32) 87 w w.heap.size (fun k_ => P0_1_ k_) (.slice A0_1 l0_1.length c0_1) l0_1) (hs1 : Kd.V (Kd.int .u32) 87 w w.heap.size (fun k_ => P1_ k_) (.slice A1 l1.length c1) l1) (h : ratio_lowest.f k a0_0 l0_1 l1 = some (r1, r2, r3)) :
  Calls Try.prog 53 #[.agg #[.bool a0_0, .slice A0_1 l0_1.length c0_1], .slice A1 l1.length c1] w fun e w' => ∃ v1_ v2_ : Value, e = .returned (.agg #[.bool r1, v1_, v2_]) ∧ Kd.R (Kd.int .u32) 87 w' w.heap.size (fun k_ => (w.heap.size ≤ k_)) v1_ r2 ∧ Kd.V (Kd.int .u32) 87 w' w.heap.size (fun k_ => ((P0_1_ k_ ∨ P1_ k_) ∨ w.heap.size ≤ k_) ∧ some k_ ≠ (v1_ : Value).ownBlock) v2_ r3 ∧ Below w.heap.size w w' := by
 have hu27 := Try.underlying27
 have hu29 := Try.underlying29
 have HO0_1 := mk0 (show Kd.V (Kd.int .u32) 87 w w.heap.size (fun k_ => ((P0_1_ k_ ∨ P1_ k_) ∨ w.heap.size ≤ k_)) (.slice A0_1 l0_1.length c0_1) l0_1 from Vm hs0_1 (fun k_ hk => .inl (.inl hk)))
 have HO1 := mk0 (show Kd.V (Kd.int .u32) 87 w w.heap.size (fun k_ => ((P0_1_ k_ ∨ P1_ k_) ∨ w.heap.size ≤ k_)) (.slice A1 l1.length c1) l1 from Vm hs1 (fun k_ hk => .inl (.inr hk)))
 have HB := mk0 (Below.refl w.heap.size w)
 have H : ((nat_Gcd.f k l0_1 l1).bind fun t338 => ((nat_Bits.f k l1).bind fun t341 => (if t341 = 0 then (ratio_lowest.j0 k l1 t338 true a0_0 l0_1) else ((nat_Bits.f k l0_1).bind fun t342 => (ratio_lowest.j0 k l1 t338 (t342 == 0) a0_0 l0_1))))) = some (r1, r2, r3) := h
 clear h
 obtain ⟨t338, A3, H⟩ := bindA H
 have HC4 := mk0 H
 clear H
 go_enter Try.func53, Try.ntmps53
 go_upto_region 2 with (first | ((with_reducible refine gate_dst (N := 2) rfl ?_); refine box_event rfl (N := 2) rfl (cs := #[.bool a0_0, .slice A0_1 l0_1.length c0_1]) (t := 27) (by go_simp <;> rfl) ?_; intro gb336 hg w5 hbox hb; replace HO0_1 := vB HO0_1 hg hb; replace HO1 := vB HO1 hg hb; have BK336 := mk0 (hbox); have GE336 := geB hg HB; replace HB := hbS HB hb; clear hb hbox hg) | ((with_reducible refine gate_dst (N := 4) rfl ?_); refine box_event rfl (N := 4) rfl (cs := #[.bool false, .slice none 0 0, .slice none 0 0]) (t := 29) (by go_simp <;> rfl) ?_; intro gb337 hg w6 hbox hb; replace HO0_1 := vB HO0_1 hg hb; replace HO1 := vB HO1 hg hb; have BK337 := mk0 (hbox); have GE337 := geB hg HB; replace HB := hbS HB hb; have NB336_337 := nbA hg BK336; have NB337_336 := nbB hg BK336; replace BK336 := bkB BK336 hb; clear hb hbox hg; have hnb7 := NB336_337.out; have hnc7 := NB337_336.out; obtain ⟨hcz8_0, hcz8_1, hfz8_0, hfz8_1⟩ := cz2 BK336) | ((with_reducible refine gate_callee (f := 79) rfl ?_); refine goA 15 Try.func79 #[.slice A0_1 l0_1.length c0_1, .slice A1 l1.length c1] ?_; (with_reducible refine (nat_Gcd.calls k _ _ l0_1 _ _ l1 t338 _ (by exact (Kd.V_reads' HO0_1.out).2.2) (by exact (Kd.V_reads' HO0_1.out).2.1) (by exact (Kd.V_reads' HO1.out).2.2) (by exact (Kd.V_reads' HO1.out).2.1) A3.out).mono ?_); rintro e w9 ⟨v339, rfl, ho0, hb⟩; refine ⟨_, rfl, ?_⟩; replace HO0_1 := mk0 (Kd.V_below HO0_1.out hb); replace HO1 := mk0 (Kd.V_below HO1.out hb); have HO340 := mk0 (Vl (Vm (ok' := fun k_ => ((P0_1_ k_ ∨ P1_ k_) ∨ w.heap.size ≤ k_) ∧ k_ ≠ gb336 ∧ k_ ≠ gb337) ho0 (fun k_ hk_ => ⟨(.inr (Nat.le_trans (bZ HB.out) hk_)), (Kd.freshB BK336.out k_ hk_), (Kd.freshB BK337.out k_ hk_)⟩)) (bZ HB.out)); replace BK336 := bkB BK336 hb; replace BK337 := bkB BK337 hb; replace HB := hbS HB hb))
 (try simp only [Act.put, sA, sZ, sS])
 go_cut [24] (fun v24 wc => ∃ (kq : Nat) (x24_3 : Bool), v24 = .bool x24_3 ∧ Aside0 (ratio_lowest.j0 kq l1 t338 x24_3 a0_0 l0_1 = some (r1, r2, r3)) ∧ Aside0 (kq ≤ k) ∧ Aside0 (Kd.V (Kd.int .u32) 87 wc w.heap.size (fun k_ => ((P0_1_ k_ ∨ P1_ k_) ∨ w.heap.size ≤ k_) ∧ k_ ≠ gb336 ∧ k_ ≠ gb337) (.slice A1 l1.length c1) l1) ∧ Aside0 (Kd.V (Kd.int .u32) 87 wc w.heap.size (fun k_ => ((P0_1_ k_ ∨ P1_ k_) ∨ w.heap.size ≤ k_) ∧ k_ ≠ gb336 ∧ k_ ≠ gb337) v339 t338) ∧ Aside0 (Kd.V (Kd.int .u32) 87 wc w.heap.size (fun k_ => ((P0_1_ k_ ∨ P1_ k_) ∨ w.heap.size ≤ k_) ∧ k_ ≠ gb336 ∧ k_ ≠ gb337) (.slice A0_1 l0_1.length c0_1) l0_1) ∧ Aside0 (wc.heap[gb336]? = some (.cells #[.bool a0_0, (.slice A0_1 l0_1.length c0_1)] 27 (0, 0))) ∧ Aside0 (wc.heap[gb337]? = some (.cells #[.bool false, (.slice none 0 0), (.slice none 0 0)] 29 (0, 0))) ∧ Aside0 (Below w.heap.size w wc))
 case first =>
  have H := HC4.out
  clear HC4
  obtain ⟨t341, A10, H⟩ := bindA H
  by_cases c11 : t341 = 0
  ·rw [if_pos c11] at H
   have c11b0 : (t341 == 0) = true := beq_iff_eq.mpr c11
   have c11b1 : (t341 != 0) = false := bne_eq_false_iff_eq.mpr c11
   clear c11
   (first | rw [c11b0] | (simp only [i64_w, i32_w]; rw [c11b0]) | skip)
   have H' := mk0 H
   clear H
   go_wp2_with (first | ((with_reducible refine gate_callee (f := 64) rfl ?_); refine goA 17 Try.func64 #[.slice A1 l1.length c1] ?_; (with_reducible refine (nat_Bits.calls k _ _ l1 t341 _ (by exact (Kd.V_reads' HO1.out).2.2) (by exact (Kd.V_reads' HO1.out).2.1) A10.out).mono ?_); rintro e w12 ⟨rfl, hb⟩; refine ⟨_, rfl, ?_⟩; replace HO0_1 := mk0 (Kd.V_below HO0_1.out hb); replace HO1 := mk0 (Kd.V_below HO1.out hb); replace HO340 := mk0 (Kd.V_below HO340.out hb); replace BK336 := bkB BK336 hb; replace BK337 := bkB BK337 hb; replace HB := hbS HB hb))
   go_meet
   case rel => exact ⟨_, (true), (by first | rfl | (simp; done) | (simp [*]; done)), H', ⟨by first | omega | exact Nat.le_refl _⟩, ⟨Vm HO1.out (fun _ hk => ⟨hk.1.1, ⟨hk.1.2, hk.2⟩⟩)⟩, ⟨HO340.out⟩, ⟨Vm HO0_1.out (fun _ hk => ⟨hk.1.1, ⟨hk.1.2, hk.2⟩⟩)⟩, ⟨BK336.out⟩, ⟨BK337.out⟩, ⟨by repeat (first | exact HB.out | apply bN | apply b1 | apply bA | refine bS ?_ GE336.out | refine bS ?_ GE337.out)⟩⟩
  ·rw [if_neg c11] at H
   have c11b0 : (t341 == 0) = false := beq_eq_false_iff_ne.mpr c11
   have c11b1 : (t341 != 0) = true := bne_iff_ne.mpr c11
   (first | rw [c11b0] | (simp only [i64_w, i32_w]; rw [c11b0]) | skip)
   obtain ⟨t342, A13, H⟩ := bindA H
   have H' := mk0 H
   clear H
   go_wp2_with (first | ((with_reducible refine gate_callee (f := 64) rfl ?_); refine goA 17 Try.func64 #[.slice A1 l1.length c1] ?_; (with_reducible refine (nat_Bits.calls k _ _ l1 t341 _ (by exact (Kd.V_reads' HO1.out).2.2) (by exact (Kd.V_reads' HO1.out).2.1) A10.out).mono ?_); rintro e w14 ⟨rfl, hb⟩; refine ⟨_, rfl, ?_⟩; replace HO0_1 := mk0 (Kd.V_below HO0_1.out hb); replace HO1 := mk0 (Kd.V_below HO1.out hb); replace HO340 := mk0 (Kd.V_below HO340.out hb); replace BK336 := bkB BK336 hb; replace BK337 := bkB BK337 hb; replace HB := hbS HB hb; have hnb15 := NB336_337.out; have hnc15 := NB337_336.out; obtain ⟨hcz16_0, hcz16_1, hfz16_0, hfz16_1⟩ := cz2 BK336) | (go_at_call 64; (with_reducible refine (nat_Bits.calls k _ _ l0_1 t342 _ (by exact (Kd.V_reads' HO0_1.out).2.2) (by exact (Kd.V_reads' HO0_1.out).2.1) A13.out).mono ?_); rintro e w17 ⟨rfl, hb⟩; replace HO0_1 := mk0 (Kd.V_below HO0_1.out hb); replace HO1 := mk0 (Kd.V_below HO1.out hb); replace HO340 := mk0 (Kd.V_below HO340.out hb); replace BK336 := bkB BK336 hb; replace BK337 := bkB BK337 hb; replace HB := hbS HB hb))
   go_meet
   case rel => exact ⟨_, ((t342 == 0)), (by first | rfl | (simp; done) | (simp [*]; done)), H', ⟨by first | omega | exact Nat.le_refl _⟩, ⟨Vm HO1.out (fun _ hk => ⟨hk.1.1, ⟨hk.1.2, hk.2⟩⟩)⟩, ⟨HO340.out⟩, ⟨Vm HO0_1.out (fun _ hk => ⟨hk.1.1, ⟨hk.1.2, hk.2⟩⟩)⟩, ⟨BK336.out⟩, ⟨BK337.out⟩, ⟨by repeat (first | exact HB.out | apply bN | apply b1 | apply bA | refine bS ?_ GE336.out | refine bS ?_ GE337.out)⟩⟩
 case rest =>
  clear HC4
  obtain ⟨kq, x24_3, rfl, HA, HJ3, HO_1, HO_5, HO_337001, BK336, BK337, HB⟩ := hcut
  cases kq with
  | zero => exact absurd HA.out (by simp [ratio_lowest.j0])
  | succ kj3 =>
   have H := HA.out
   clear HA
   simp only [ratio_lowest.j0] at H
   by_cases c18 : x24_3 = true
   ·subst c18
    have H1 : ((ratio_zero.f kj3).bind fun bt343 => (some (bt343.1, bt343.2.1, bt343.2.2))) = some (r1, r2, r3) := by rw [if_pos rfl] at H; exact H
    clear H
    have H := H1
    clear H1
    obtain ⟨⟨t343, t344, t347⟩, A19, H⟩ := bindA H
    simp only [Option.some.injEq, Prod.mk.injEq] at H
    obtain ⟨rfl, rfl, rfl⟩ := H
    go_wp2_with (first | ((with_reducible refine gate_callee (f := 67) rfl ?_); refine goA 25 Try.func67 #[] ?_; (with_reducible refine (ratio_zero.calls kj3  t343 t344 t347 _ A19.out).mono ?_); rintro e w20 ⟨v345, v348, rfl, ho0, ho1, hb⟩; refine ⟨_, rfl, ?_⟩; replace HO_1 := mk0 (Kd.V_elder' HO_1.out (Rs ho0) hb); replace HO_5 := mk0 (Kd.V_elder' HO_5.out (Rs ho0) hb); replace HO_337001 := mk0 (Kd.V_elder' HO_337001.out (Rs ho0) hb); have HO346 := mk0 (Rl (Kd.R_newM (M := fun k_ => (w.heap.size ≤ k_)) (Rm (ok' := fun k_ => True) ho0 tv) (bZ HB.out) (fun k_ h_ => h_)) (bZ HB.out)); have HO349 := mk0 (Vl (Vm (ok' := fun k_ => ((P0_1_ k_ ∨ P1_ k_) ∨ w.heap.size ≤ k_) ∧ some k_ ≠ (v345 : Value).ownBlock ∧ k_ ≠ gb336 ∧ k_ ≠ gb337) ho1 (fun k_ hk_ => ⟨(.inr (Nat.le_trans (bZ HB.out) hk_.1)), hk_.2, (Kd.freshB BK336.out k_ hk_.1), (Kd.freshB BK337.out k_ hk_.1)⟩)) (bZ HB.out)); replace BK336 := bkB BK336 hb; replace BK337 := bkB BK337 hb; replace HB := hbS HB hb; have hnb21 := NB337_336.out; have hnc21 := NB336_337.out; obtain ⟨hcz22_0, hcz22_1, hcz22_2, hfz22_0, hfz22_1, hfz22_2⟩ := cz3 BK337; obtain ⟨Ao23, co23, eo23⟩ := Kd.R_slice HO346.out; subst eo23; obtain ⟨Ao24, co24, eo24⟩ := Kd.V_slice HO349.out; subst eo24))
    refine bodyPost_ret (results_cell_row rfl _ _ gb337 29 #[.bool t343, .slice Ao23 t344.length co23, .slice Ao24 t347.length co24] (0, 0) _ rfl (by refine blk_put (cs := #[.bool t343, .slice Ao23 t344.length co23, .slice none 0 0]) ?_ 2 _ rfl; refine blk_put (cs := #[.bool t343, .slice none 0 0, .slice none 0 0]) ?_ 1 _ rfl; refine blk_put (cs := #[.bool false, .slice none 0 0, .slice none 0 0]) ?_ 0 _ rfl; exact BK337.out) Try.underlying29 rfl (by kernel_rfl)) rfl ?_
    exact ⟨_, _, rfl, Rm (Rg 2 (Rg 1 (Rg 0 (Rt HO346.out BK337.out (by decide)) (.bool t343)) (.slice Ao23 t344.length co23)) (.slice Ao24 t347.length co24)) (fun _ hk => hk.1.1), Vm (Vf (p := ⟨gb337, 2, none⟩) (Vf (p := ⟨gb337, 1, none⟩) (Vf (p := ⟨gb337, 0, none⟩) (Vm HO349.out (fun k_ hk => (⟨hk, hk.2.2.2⟩ : _ ∧ k_ ≠ gb337))) (fun _ hk => hk.2) (.bool t343)) (fun _ hk => hk.2) (.slice Ao23 t344.length co23)) (fun _ hk => hk.2) (.slice Ao24 t347.length co24)) (fun _ hk => ⟨hk.1.1, hk.1.2.1⟩), by repeat (first | exact HB.out | apply bN | apply b1 | apply bA | refine bS ?_ GE336.out | refine bS ?_ GE337.out)⟩
   ·replace c18 := Bool.eq_false_iff.mpr c18
    subst c18
    have H1 : ((nat_DivMod.f kj3 l0_1 t338).bind fun bt350 => ((nat_DivMod.f kj3 l1 t338).bind fun bt357 => ((integer_Make.f kj3 a0_0 bt350.1).bind fun bt364 => (some (bt364.1, bt364.2, bt357.1))))) = some (r1, r2, r3) := by rw [if_neg (show ¬ (false = true) by decide)] at H; exact H
    clear H
    have H := H1
    clear H1
    obtain ⟨⟨t350, t353, t356⟩, A25, H⟩ := bindA H
    obtain ⟨⟨t357, t360, t363⟩, A26, H⟩ := bindA H
    obtain ⟨⟨t364, t365⟩, A27, H⟩ := bindA H
    simp only [Option.some.injEq, Prod.mk.injEq] at H
    obtain ⟨rfl, rfl, rfl⟩ := H
    have hnb28 := NB336_337.out
    have hnc28 := NB337_336.out
    obtain ⟨hcz29_0, hcz29_1, hfz29_0, hfz29_1⟩ := cz2 BK336
    obtain ⟨Ao30, co30, eo30⟩ := Kd.V_slice HO_5.out
    subst eo30
    go_wp2_with (first | ((with_reducible refine gate_callee (f := 80) rfl ?_); refine goA 30 Try.func80 #[.slice A0_1 l0_1.length c0_1, .slice Ao30 t338.length co30] ?_; (with_reducible refine (nat_DivMod.calls kj3 (fun k_ => (((P0_1_ k_ ∨ P1_ k_) ∨ w.heap.size ≤ k_) ∧ (k_ ≠ gb336 ∧ k_ ≠ gb337))) _ _ l0_1 (fun k_ => (((P0_1_ k_ ∨ P1_ k_) ∨ w.heap.size ≤ k_) ∧ (k_ ≠ gb336 ∧ k_ ≠ gb337))) _ _ t338 t350 t353 t356 _ HO_337001.out HO_5.out A25.out).mono ?_); rintro e w31 ⟨v351, v354, rfl, ho0, ho1, hb⟩; refine ⟨_, rfl, ?_⟩; replace HO_1 := mk0 (Kd.V_below HO_1.out hb); replace HO_5 := mk0 (Kd.V_below HO_5.out hb); replace HO_337001 := mk0 (Kd.V_below HO_337001.out hb); have HO352 := mk0 (Vl (Vm (ok' := fun k_ => ((P0_1_ k_ ∨ P1_ k_) ∨ w.heap.size ≤ k_) ∧ k_ ≠ gb336 ∧ k_ ≠ gb337) ho0 (fun k_ hk_ => ⟨Or.elim hk_ (fun hs_ => Or.elim hs_ (fun hs_ => hs_.1) (fun hs_ => hs_.1)) (fun hn_ => (.inr (Nat.le_trans (bZ HB.out) hn_))), Or.elim hk_ (fun hs_ => Or.elim hs_ (fun hs_ => hs_.2.1) (fun hs_ => hs_.2.1)) (fun hn_ => (Kd.freshB BK336.out k_ hn_)), Or.elim hk_ (fun hs_ => Or.elim hs_ (fun hs_ => hs_.2.2) (fun hs_ => hs_.2.2)) (fun hn_ => (Kd.freshB BK337.out k_ hn_))⟩)) (bZ HB.out)); replace BK336 := bkB BK336 hb; replace BK337 := bkB BK337 hb; replace HB := hbS HB hb) | ((with_reducible refine gate_callee (f := 80) rfl ?_); refine goA 37 Try.func80 #[.slice A1 l1.length c1, .slice Ao30 t338.length co30] ?_; (with_reducible refine (nat_DivMod.calls kj3 (fun k_ => (((P0_1_ k_ ∨ P1_ k_) ∨ w.heap.size ≤ k_) ∧ (k_ ≠ gb336 ∧ k_ ≠ gb337))) _ _ l1 (fun k_ => (((P0_1_ k_ ∨ P1_ k_) ∨ w.heap.size ≤ k_) ∧ (k_ ≠ gb336 ∧ k_ ≠ gb337))) _ _ t338 t357 t360 t363 _ HO_1.out HO_5.out A26.out).mono ?_); rintro e w32 ⟨v358, v361, rfl, ho0, ho1, hb⟩; refine ⟨_, rfl, ?_⟩; replace HO_1 := mk0 (Kd.V_below HO_1.out hb); replace HO_5 := mk0 (Kd.V_below HO_5.out hb); replace HO_337001 := mk0 (Kd.V_below HO_337001.out hb); replace HO352 := mk0 (Kd.V_below HO352.out hb); have HO359 := mk0 (Vl (Vm (ok' := fun k_ => ((P0_1_ k_ ∨ P1_ k_) ∨ w.heap.size ≤ k_) ∧ k_ ≠ gb336 ∧ k_ ≠ gb337) ho0 (fun k_ hk_ => ⟨Or.elim hk_ (fun hs_ => Or.elim hs_ (fun hs_ => hs_.1) (fun hs_ => hs_.1)) (fun hn_ => (.inr (Nat.le_trans (bZ HB.out) hn_))), Or.elim hk_ (fun hs_ => Or.elim hs_ (fun hs_ => hs_.2.1) (fun hs_ => hs_.2.1)) (fun hn_ => (Kd.freshB BK336.out k_ hn_)), Or.elim hk_ (fun hs_ => Or.elim hs_ (fun hs_ => hs_.2.2) (fun hs_ => hs_.2.2)) (fun hn_ => (Kd.freshB BK337.out k_ hn_))⟩)) (bZ HB.out)); replace BK336 := bkB BK336 hb; replace BK337 := bkB BK337 hb; replace HB := hbS HB hb; obtain ⟨hcz33_0, hcz33_1, hfz33_0, hfz33_1⟩ := cz2 BK336; obtain ⟨Ao34, co34, eo34⟩ := Kd.V_slice HO352.out; subst eo34) | ((with_reducible refine gate_callee (f := 78) rfl ?_); refine goA 44 Try.func78 #[.bool a0_0, .slice Ao34 t350.length co34] ?_; (with_reducible refine (integer_Make.calls kj3 a0_0 _ _ t350 t364 t365 _ (by exact (Kd.V_reads' HO352.out).2.2) (by exact (Kd.V_reads' HO352.out).2.1) A27.out).mono ?_); rintro e w35 ⟨v366, rfl, ho0, hb⟩; refine ⟨_, rfl, ?_⟩; replace HO_1 := mk0 (Kd.V_elder' HO_1.out (Rs ho0) hb); replace HO_5 := mk0 (Kd.V_elder' HO_5.out (Rs ho0) hb); replace HO_337001 := mk0 (Kd.V_elder' HO_337001.out (Rs ho0) hb); replace HO352 := mk0 (Kd.V_elder' HO352.out (Rs ho0) hb); replace HO359 := mk0 (Kd.V_elder' HO359.out (Rs ho0) hb); have HO367 := mk0 (Rl (Kd.R_newM (M := fun k_ => (w.heap.size ≤ k_)) ho0 (bZ HB.out) (fun k_ h_ => h_)) (bZ HB.out)); replace BK336 := bkB BK336 hb; replace BK337 := bkB BK337 hb; replace HB := hbS HB hb; obtain ⟨Ao36, co36, eo36⟩ := Kd.V_slice HO359.out; subst eo36; obtain ⟨Ao37, co37, eo37⟩ := Kd.R_slice HO367.out; subst eo37; obtain ⟨hcz38_0, hcz38_1, hcz38_2, hfz38_0, hfz38_1, hfz38_2⟩ := cz3 BK337))
    refine bodyPost_ret (results_cell_row rfl _ _ gb337 29 #[.bool t364, .slice Ao37 t365.length co37, .slice Ao36 t357.length co36] (0, 0) _ rfl (by refine blk_put (cs := #[.bool t364, .slice Ao37 t365.length co37, .slice none 0 0]) ?_ 2 _ rfl; refine blk_put (cs := #[.bool t364, .slice none 0 0, .slice none 0 0]) ?_ 1 _ rfl; refine blk_put (cs := #[.bool false, .slice none 0 0, .slice none 0 0]) ?_ 0 _ rfl; exact BK337.out) Try.underlying29 rfl (by kernel_rfl)) rfl ?_
    exact ⟨_, _, rfl, Rm (Rg 2 (Rg 1 (Rg 0 (Rt HO367.out BK337.out (by decide)) (.bool t364)) (.slice Ao37 t365.length co37)) (.slice Ao36 t357.length co36)) (fun _ hk => hk.1.1), Vm (Vf (p := ⟨gb337, 2, none⟩) (Vf (p := ⟨gb337, 1, none⟩) (Vf (p := ⟨gb337, 0, none⟩) (Vm HO359.out (fun k_ hk => (⟨hk, hk.1.2.2⟩ : _ ∧ k_ ≠ gb337))) (fun _ hk => hk.2) (.bool t364)) (fun _ hk => hk.2) (.slice Ao37 t365.length co37)) (fun _ hk => hk.2) (.slice Ao36 t357.length co36)) (fun _ hk => ⟨hk.1.1.1, hk.1.2⟩), by repeat (first | exact HB.out | apply bN | apply b1 | apply bA | refine bS ?_ GE336.out | refine bS ?_ GE337.out)⟩
end Go.Proofs.Ythamhjmhgcpdgaa.Q
end
