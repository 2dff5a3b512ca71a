/- Lemmas and contracts for the law ExposureCounts: words of the print, contracts of the functions that the law reaches, and what these compute, as far as the law needs them; packed by a program of this session. -/
import Derived.Test.YthamhjmhgcpdgaaZExposureCounts1
section
namespace Go.Proofs.Ythamhjmhgcpdgaa.Q
open Go.RowKit Go.Proofs.YthamhjmhgcpdgaaW.PrintWords Go.Proofs.YthamhjmhgcpdgaaW.PrintLast Go.Proofs.YthamhjmhgcpdgaaW.PrintMore Go.Proofs.Ythamhjmhgcpdgaa.MyWords
attribute [local go_sem] max2_int min2_int max_two min_two
set_option linter.unusedVariables false
set_option linter.unusedSimpArgs false
def nat_DivMod.T17 : Bool × List (List Nat × List Nat) := (true, [([], []), ([], []), ([], []), ([1, 2], [1, 2]), ([0, 3], [0, 3]), ([4], [4]), ([], []), ([], []), ([], []), ([7, 8], [7, 8]), ([9], [9]), ([6, 10], [6, 10]), ([11], [11]), ([], []), ([], []), ([], []), ([14, 15], [14, 15]), ([16], [16]), ([13, 17], [13, 17]), ([18], [18]), ([], []), ([], []), ([21], [21]), ([20, 22], [20, 22]), ([23], [23]), ([], []), ([], []), ([26], [26]), ([25, 27], [25, 27]), ([28], [28]), ([5, 12, 19, 24, 29], [5, 12, 19, 24, 29]), ([30, 30, 0, 1, 2, 3, 4, 5, 6, 7, 8, 9, 10, 11, 12, 13, 14, 15, 16, 17, 18, 19, 20, 21, 22, 23, 24, 25, 26, 27, 28, 29, 30], [30])])
def nat_DivMod.B17 : List Nat := [0, 0, 0, 6, 15, 31, 0, 0, 0, 384, 896, 1984, 4032, 0, 0, 0, 49152, 114688, 253952, 516096, 0, 0, 2097152, 7340032, 15728640, 0, 0, 67108864, 234881024, 503316480, 1073741823, 2147483647]
theorem nat_DivMod.tab17 : rtab .any (opsOf Try.f80 17) = nat_DivMod.T17 := by kernel_rfl
theorem nat_DivMod.bits17 : waitsOk nat_DivMod.T17.2 nat_DivMod.B17 = true := by kernel_rfl
def nat_DivMod.T22 : Bool × List (List Nat × List Nat) := (true, [([], []), ([0], [0]), ([], []), ([], []), ([2, 3], [2, 3]), ([], []), ([4, 5, 1], [4, 5]), ([1, 6, 0, 1], [1]), ([6, 7, 0, 1, 2, 3, 4, 5, 6, 7], [6]), ([8, 0, 1, 2, 3, 4, 5, 6, 7, 8], [])])
def nat_DivMod.B22 : List Nat := [0, 1, 0, 0, 12, 0, 63, 127, 255, 511]
theorem nat_DivMod.tab22 : rtab .any (opsOf Try.f80 22) = nat_DivMod.T22 := by kernel_rfl
theorem nat_DivMod.bits22 : waitsOk nat_DivMod.T22.2 nat_DivMod.B22 = true := by kernel_rfl
set_option maxHeartbeats 8000000 in
set_option maxRecDepth 100000 in
theorem nat_DivMod.calls (k : Nat) (P0_ : Nat → Prop) (A0 : Option Addr) (c0 : Nat) (l0 : List Int) (P1_ : Nat → Prop) (A1 : Option Addr) (c1 : Nat) (l1 : List Int) (r1 : List Int) (r2 : List Int) (r3 : Bool) (w : World) (hs0 : Kd.V (Kd.int .u32) 87 w w.heap.size (fun k_ => P0_ k_) (.slice A0 l0.length c0) l0) (hs1 : Kd.V (Kd.int .u32) 87 w w.heap.size (fun k_ => P1_ k_) (.slice A1 l1.length c1) l1) (h : nat_DivMod.f k l0 l1 = some (r1, r2, r3)) :
  Calls Try.prog 80 #[.slice A0 l0.length c0, .slice A1 l1.length c1] w fun e w' => ∃ v0_ v1_ : Value, e = .returned (.tuple #[v0_, v1_, .bool r3]) ∧ Kd.V (Kd.int .u32) 87 w' w.heap.size (fun k_ => ((P0_ k_ ∨ P1_ k_) ∨ w.heap.size ≤ k_)) v0_ r1 ∧ Kd.V (Kd.int .u32) 87 w' w.heap.size (fun k_ => ((P0_ k_ ∨ P1_ k_) ∨ w.heap.size ≤ k_)) v1_ r2 ∧ Below w.heap.size w w' := by
 have HO0 := mk0 (show Kd.V (Kd.int .u32) 87 w w.heap.size (fun k_ => ((P0_ k_ ∨ P1_ k_) ∨ w.heap.size ≤ k_)) (.slice A0 l0.length c0) l0 from Kd.V_mono hs0 (fun k_ hk => .inl (.inl hk)))
 have HO1 := mk0 (show Kd.V (Kd.int .u32) 87 w w.heap.size (fun k_ => ((P0_ k_ ∨ P1_ k_) ∨ w.heap.size ≤ k_)) (.slice A1 l1.length c1) l1 from Kd.V_mono hs1 (fun k_ hk => .inl (.inr hk)))
 have HB := mk0 (Below.refl w.heap.size w)
 have H : ((nat_trim.f k l0).bind fun t176 => ((nat_trim.f k l1).bind fun t179 => (if (t179.length : Int) = 0 then (some (([] : List Int), ([] : List Int), false)) else ((nat_Cmp.f k t176 t179).bind fun t182 => (if t182 < 0 then ((nat_Norm.f k t176).bind fun t183 => (some (([] : List Int), t183, true))) else (if (t179.length : Int) = 1 then (if 0 < (t179.length : Int) then ((nat_divSmall.f k t176 (rd t179 0)).bind fun bt187 => ((nat_Of.f k (IntKind.u64.wrap (bt187.2))).bind fun t191 => (some (bt187.1, t191, true)))) else (none)) else (if 0 ≤ (wrap64 ((t179.length : Int) - 1)) then (if (wrap64 ((t179.length : Int) - 1)) < (t179.length : Int) then ((bits_LeadingZeros32.f (rd t179 (wrap64 ((t179.length : Int) - 1)))).bind fun t195 => ((nat_shiftUp.f k t176 (IntKind.u64.wrap (t195))).bind fun t196 => ((nat_shiftUp.f k t179 (IntKind.u64.wrap (t195))).bind fun t199 => (if 0 ≤ (t179.length : Int) then (if (t179.length : Int) ≤ (t199.length : Int) then (if 0 ≤ (wrap64 ((wrap64 ((t176.length : Int) - (t179.length : Int))) + 1)) then (if (wrap64 ((wrap64 ((t176.length : Int) - (t179.length : Int))) + 1) : Int).toNat ≤ 70368744177664 then (nat_DivMod.l0 k (t179.length : Int) (IntKind.u64.wrap (t195)) t196 (t199.take ((t179.length : Int) : Int).toNat) (List.replicate (wrap64 ((wrap64 ((t176.length : Int) - (t179.length : Int))) + 1) : Int).toNat 0) (wrap64 ((t176.length : Int) - (t179.length : Int)))) else (none)) else (none)) else (none)) else (none))))) else (none)) else (none)))))))) = some (r1, r2, r3) := h
 clear h
 obtain ⟨t176, A3, H⟩ := bindA H
 obtain ⟨t179, A4, H⟩ := bindA H
 by_cases c5 : (t179.length : Int) = 0
 ·rw [if_pos c5] at H
  have c5b0 : ((t179.length : Int) == 0) = true := beq_iff_eq.mpr c5
  have c5b1 : ((t179.length : Int) != 0) = false := bne_eq_false_iff_eq.mpr c5
  clear c5
  simp only [Option.some.injEq, Prod.mk.injEq] at H
  obtain ⟨rfl, rfl, rfl⟩ := H
  go_enter Try.func80, Try.ntmps80
  go_wp2_with (first | ((with_reducible refine gate_callee (f := 81) rfl ?_); refine goesL_ (some 19) rfl rfl Try.func81 (by kernel_rfl) rfl #[.slice A0 l0.length c0] rfl (by go_simp <;> rfl) ?_; (with_reducible refine (nat_trim.calls k (fun k_ => ((P0_ k_ ∨ P1_ k_) ∨ w.heap.size ≤ k_)) _ _ l0 t176 _ ?side1 A3.out).mono ?_); (case side1 => exact HO0.out); rintro e w6 ⟨v177, rfl, ho0, hb⟩; refine ⟨_, rfl, ?_⟩; replace HO0 := mk0 (Kd.V_below (by (with_reducible repeat apply Kd.V_drewN); exact HO0.out) hb); replace HO1 := mk0 (Kd.V_below (by (with_reducible repeat apply Kd.V_drewN); exact HO1.out) hb); have HO178 := mk0 (Kd.V_lower (Kd.V_mono (ok' := fun k_ => ((P0_ k_ ∨ P1_ k_) ∨ w.heap.size ≤ k_)) ho0 (fun k_ hk_ => Or.elim hk_ (fun hs_ => hs_) (fun hn_ => (.inr (Nat.le_trans (below_size (by repeat (first | exact HB.out | apply pw_below_drewN | apply below_drew1 | apply below_alloc))) hn_))))) (below_size (by repeat (first | exact HB.out | apply pw_below_drewN | apply below_drew1 | apply below_alloc)))); replace HB := (by first | exact hbS HB hb | exact hbD HB hb)) | ((with_reducible refine gate_callee (f := 81) rfl ?_); refine goesL_ (some 21) rfl rfl Try.func81 (by kernel_rfl) rfl #[.slice A1 l1.length c1] rfl (by go_simp <;> rfl) ?_; (with_reducible refine (nat_trim.calls k (fun k_ => ((P0_ k_ ∨ P1_ k_) ∨ w.heap.size ≤ k_)) _ _ l1 t179 _ ?side1 A4.out).mono ?_); (case side1 => exact HO1.out); rintro e w7 ⟨v180, rfl, ho0, hb⟩; refine ⟨_, rfl, ?_⟩; replace HO0 := mk0 (Kd.V_below (by (with_reducible repeat apply Kd.V_drewN); exact HO0.out) hb); replace HO1 := mk0 (Kd.V_below (by (with_reducible repeat apply Kd.V_drewN); exact HO1.out) hb); replace HO178 := mk0 (Kd.V_below (by (with_reducible repeat apply Kd.V_drewN); exact HO178.out) hb); have HO181 := mk0 (Kd.V_lower (Kd.V_mono (ok' := fun k_ => ((P0_ k_ ∨ P1_ k_) ∨ w.heap.size ≤ k_)) ho0 (fun k_ hk_ => Or.elim hk_ (fun hs_ => hs_) (fun hn_ => (.inr (Nat.le_trans (below_size (by repeat (first | exact HB.out | apply pw_below_drewN | apply below_drew1 | apply below_alloc))) hn_))))) (below_size (by repeat (first | exact HB.out | apply pw_below_drewN | apply below_drew1 | apply below_alloc)))); replace HB := (by first | exact hbS HB hb | exact hbD HB hb); obtain ⟨Ao8, co8, eo8⟩ := Kd.V_slice HO181.out; subst eo8))
  go_ret3
  exact ⟨_, _, by first | rfl | (simp [errW_none, errW_some] <;> rfl) | (simp [*, errW_none, errW_some] <;> rfl), (Kd.V_nil _ _ _ _ _), (Kd.V_nil _ _ _ _ _), by repeat (first | exact HB.out | apply pw_below_drewN | apply below_drew1 | apply below_alloc)⟩
 ·rw [if_neg c5] at H
  have c5b0 : ((t179.length : Int) == 0) = false := beq_eq_false_iff_ne.mpr c5
  have c5b1 : ((t179.length : Int) != 0) = true := bne_iff_ne.mpr c5
  have c5b2 : ¬ (t179 = []) := fun h_ => c5 (by rw [h_]; rfl)
  obtain ⟨t182, A9, H⟩ := bindA H
  by_cases c10 : t182 < 0
  ·rw [if_pos c10] at H
   have c10b0 : decide (t182 < 0) = true := decide_eq_true c10
   clear c10
   obtain ⟨t183, A11, H⟩ := bindA H
   simp only [Option.some.injEq, Prod.mk.injEq] at H
   obtain ⟨rfl, rfl, rfl⟩ := H
   go_enter Try.func80, Try.ntmps80
   go_wp2_with (first | ((with_reducible refine gate_callee (f := 81) rfl ?_); refine goesL_ (some 19) rfl rfl Try.func81 (by kernel_rfl) rfl #[.slice A0 l0.length c0] rfl (by go_simp <;> rfl) ?_; (with_reducible refine (nat_trim.calls k (fun k_ => ((P0_ k_ ∨ P1_ k_) ∨ w.heap.size ≤ k_)) _ _ l0 t176 _ ?side1 A3.out).mono ?_); (case side1 => exact HO0.out); rintro e w12 ⟨v177, rfl, ho0, hb⟩; refine ⟨_, rfl, ?_⟩; replace HO0 := mk0 (Kd.V_below (by (with_reducible repeat apply Kd.V_drewN); exact HO0.out) hb); replace HO1 := mk0 (Kd.V_below (by (with_reducible repeat apply Kd.V_drewN); exact HO1.out) hb); have HO178 := mk0 (Kd.V_lower (Kd.V_mono (ok' := fun k_ => ((P0_ k_ ∨ P1_ k_) ∨ w.heap.size ≤ k_)) ho0 (fun k_ hk_ => Or.elim hk_ (fun hs_ => hs_) (fun hn_ => (.inr (Nat.le_trans (below_size (by repeat (first | exact HB.out | apply pw_below_drewN | apply below_drew1 | apply below_alloc))) hn_))))) (below_size (by repeat (first | exact HB.out | apply pw_below_drewN | apply below_drew1 | apply below_alloc)))); replace HB := (by first | exact hbS HB hb | exact hbD HB hb)) | ((with_reducible refine gate_callee (f := 81) rfl ?_); refine goesL_ (some 21) rfl rfl Try.func81 (by kernel_rfl) rfl #[.slice A1 l1.length c1] rfl (by go_simp <;> rfl) ?_; (with_reducible refine (nat_trim.calls k (fun k_ => ((P0_ k_ ∨ P1_ k_) ∨ w.heap.size ≤ k_)) _ _ l1 t179 _ ?side1 A4.out).mono ?_); (case side1 => exact HO1.out); rintro e w13 ⟨v180, rfl, ho0, hb⟩; refine ⟨_, rfl, ?_⟩; replace HO0 := mk0 (Kd.V_below (by (with_reducible repeat apply Kd.V_drewN); exact HO0.out) hb); replace HO1 := mk0 (Kd.V_below (by (with_reducible repeat apply Kd.V_drewN); exact HO1.out) hb); replace HO178 := mk0 (Kd.V_below (by (with_reducible repeat apply Kd.V_drewN); exact HO178.out) hb); have HO181 := mk0 (Kd.V_lower (Kd.V_mono (ok' := fun k_ => ((P0_ k_ ∨ P1_ k_) ∨ w.heap.size ≤ k_)) ho0 (fun k_ hk_ => Or.elim hk_ (fun hs_ => hs_) (fun hn_ => (.inr (Nat.le_trans (below_size (by repeat (first | exact HB.out | apply pw_below_drewN | apply below_drew1 | apply below_alloc))) hn_))))) (below_size (by repeat (first | exact HB.out | apply pw_below_drewN | apply below_drew1 | apply below_alloc)))); replace HB := (by first | exact hbS HB hb | exact hbD HB hb); obtain ⟨Ao14, co14, eo14⟩ := Kd.V_slice HO181.out; subst eo14; obtain ⟨Ao15, co15, eo15⟩ := Kd.V_slice HO178.out; subst eo15) | ((with_reducible refine gate_callee (f := 77) rfl ?_); refine goesL_ (some 29) rfl rfl Try.func77 (by kernel_rfl) rfl #[.slice Ao15 t176.length co15, .slice Ao14 t179.length co14] rfl (by go_simp <;> rfl) ?_; (with_reducible refine (nat_Cmp.calls k _ _ t176 _ _ t179 t182 _ ?side1 ?side2 ?side3 ?side4 A9.out).mono ?_); (case side1 => repeat (first | exact (Kd.V_reads' HO178.out).2.2 | (with_reducible refine Kd.C_alloc ?_ _) | (with_reducible refine Kd.C_drewN ?_ _) | (with_reducible refine Kd.C_drew ?_))); (case side2 => exact (Kd.V_reads' HO178.out).2.1); (case side3 => repeat (first | exact (Kd.V_reads' HO181.out).2.2 | (with_reducible refine Kd.C_alloc ?_ _) | (with_reducible refine Kd.C_drewN ?_ _) | (with_reducible refine Kd.C_drew ?_))); (case side4 => exact (Kd.V_reads' HO181.out).2.1); rintro e w16 ⟨rfl, hb⟩; refine ⟨_, rfl, ?_⟩; replace HO0 := mk0 (Kd.V_below (by (with_reducible repeat apply Kd.V_drewN); exact HO0.out) hb); replace HO1 := mk0 (Kd.V_below (by (with_reducible repeat apply Kd.V_drewN); exact HO1.out) hb); replace HO178 := mk0 (Kd.V_below (by (with_reducible repeat apply Kd.V_drewN); exact HO178.out) hb); replace HO181 := mk0 (Kd.V_below (by (with_reducible repeat apply Kd.V_drewN); exact HO181.out) hb); replace HB := (by first | exact hbS HB hb | exact hbD HB hb)) | ((with_reducible refine gate_callee (f := 106) rfl ?_); refine goesL_ (some 32) rfl rfl Try.func106 (by kernel_rfl) rfl #[.slice Ao15 t176.length co15] rfl (by go_simp <;> rfl) ?_; (with_reducible refine (nat_Norm.calls k _ _ t176 t183 _ ?side1 ?side2 A11.out).mono ?_); (case side1 => repeat (first | exact (Kd.V_reads' HO178.out).2.2 | (with_reducible refine Kd.C_alloc ?_ _) | (with_reducible refine Kd.C_drewN ?_ _) | (with_reducible refine Kd.C_drew ?_))); (case side2 => exact (Kd.V_reads' HO178.out).2.1); rintro e w17 ⟨v184, rfl, ho0, hb⟩; refine ⟨_, rfl, ?_⟩; replace HO0 := mk0 (Kd.V_elder' (by (with_reducible repeat apply Kd.V_drewN); exact HO0.out) (Kd.R_base ho0) hb); replace HO1 := mk0 (Kd.V_elder' (by (with_reducible repeat apply Kd.V_drewN); exact HO1.out) (Kd.R_base ho0) hb); replace HO178 := mk0 (Kd.V_elder' (by (with_reducible repeat apply Kd.V_drewN); exact HO178.out) (Kd.R_base ho0) hb); replace HO181 := mk0 (Kd.V_elder' (by (with_reducible repeat apply Kd.V_drewN); exact HO181.out) (Kd.R_base ho0) hb); have HO185 := mk0 (Kd.R_lower (Kd.R_newM (M := fun k_ => (w.heap.size ≤ k_)) ho0 (below_size (by repeat (first | exact HB.out | apply pw_below_drewN | apply below_drew1 | apply below_alloc))) (fun k_ h_ => h_)) (below_size (by repeat (first | exact HB.out | apply pw_below_drewN | apply below_drew1 | apply below_alloc)))); replace HB := (by first | exact hbS HB hb | exact hbD HB hb)))
   go_ret3
   exact ⟨_, _, by first | rfl | (simp [errW_none, errW_some] <;> rfl) | (simp [*, errW_none, errW_some] <;> rfl), (Kd.V_nil _ _ _ _ _), Kd.V_mono (Kd.R_V (by (with_reducible repeat apply Kd.R_drewN); exact Kd.R_mono HO185.out (fun _ hk => hk.1))) (fun k_ hk => by first | exact ⟨(.inr (hk.1)), hk.2⟩ | exact (.inr (hk))), by repeat (first | exact HB.out | apply pw_below_drewN | apply below_drew1 | apply below_alloc)⟩
  ·rw [if_neg c10] at H
   have c10b0 : decide (t182 < 0) = false := decide_eq_false c10
   clear c10
   by_cases c18 : (t179.length : Int) = 1
   ·rw [if_pos c18] at H
    have c18b0 : ((t179.length : Int) == 1) = true := beq_iff_eq.mpr c18
    have c18b1 : ((t179.length : Int) != 1) = false := bne_eq_false_iff_eq.mpr c18
    clear c18
    by_cases c19 : 0 < (t179.length : Int)
    ·rw [if_pos c19] at H
     have c19b0 : decide (0 < (t179.length : Int)) = true := decide_eq_true c19
     have c19b1 : decide (0 < t179.length) = true := decide_eq_true (by omega)
     clear c19
     obtain ⟨⟨t187, t190⟩, A20, H⟩ := bindA H
     obtain ⟨t191, A21, H⟩ := bindA H
     simp only [Option.some.injEq, Prod.mk.injEq] at H
     obtain ⟨rfl, rfl, rfl⟩ := H
     go_enter Try.func80, Try.ntmps80
     go_wp2_with (first | ((with_reducible refine gate_callee (f := 81) rfl ?_); refine goesL_ (some 19) rfl rfl Try.func81 (by kernel_rfl) rfl #[.slice A0 l0.length c0] rfl (by go_simp <;> rfl) ?_; (with_reducible refine (nat_trim.calls k (fun k_ => ((P0_ k_ ∨ P1_ k_) ∨ w.heap.size ≤ k_)) _ _ l0 t176 _ ?side1 A3.out).mono ?_); (case side1 => exact HO0.out); rintro e w22 ⟨v177, rfl, ho0, hb⟩; refine ⟨_, rfl, ?_⟩; replace HO0 := mk0 (Kd.V_below (by (with_reducible repeat apply Kd.V_drewN); exact HO0.out) hb); replace HO1 := mk0 (Kd.V_below (by (with_reducible repeat apply Kd.V_drewN); exact HO1.out) hb); have HO178 := mk0 (Kd.V_lower (Kd.V_mono (ok' := fun k_ => ((P0_ k_ ∨ P1_ k_) ∨ w.heap.size ≤ k_)) ho0 (fun k_ hk_ => Or.elim hk_ (fun hs_ => hs_) (fun hn_ => (.inr (Nat.le_trans (below_size (by repeat (first | exact HB.out | apply pw_below_drewN | apply below_drew1 | apply below_alloc))) hn_))))) (below_size (by repeat (first | exact HB.out | apply pw_below_drewN | apply below_drew1 | apply below_alloc)))); replace HB := (by first | exact hbS HB hb | exact hbD HB hb)) | ((with_reducible refine gate_callee (f := 81) rfl ?_); refine goesL_ (some 21) rfl rfl Try.func81 (by kernel_rfl) rfl #[.slice A1 l1.length c1] rfl (by go_simp <;> rfl) ?_; (with_reducible refine (nat_trim.calls k (fun k_ => ((P0_ k_ ∨ P1_ k_) ∨ w.heap.size ≤ k_)) _ _ l1 t179 _ ?side1 A4.out).mono ?_); (case side1 => exact HO1.out); rintro e w23 ⟨v180, rfl, ho0, hb⟩; refine ⟨_, rfl, ?_⟩; replace HO0 := mk0 (Kd.V_below (by (with_reducible repeat apply Kd.V_drewN); exact HO0.out) hb); replace HO1 := mk0 (Kd.V_below (by (with_reducible repeat apply Kd.V_drewN); exact HO1.out) hb); replace HO178 := mk0 (Kd.V_below (by (with_reducible repeat apply Kd.V_drewN); exact HO178.out) hb); have HO181 := mk0 (Kd.V_lower (Kd.V_mono (ok' := fun k_ => ((P0_ k_ ∨ P1_ k_) ∨ w.heap.size ≤ k_)) ho0 (fun k_ hk_ => Or.elim hk_ (fun hs_ => hs_) (fun hn_ => (.inr (Nat.le_trans (below_size (by repeat (first | exact HB.out | apply pw_below_drewN | apply below_drew1 | apply below_alloc))) hn_))))) (below_size (by repeat (first | exact HB.out | apply pw_below_drewN | apply below_drew1 | apply below_alloc)))); replace HB := (by first | exact hbS HB hb | exact hbD HB hb); obtain ⟨Ao24, co24, eo24⟩ := Kd.V_slice HO181.out; subst eo24; obtain ⟨Ao25, co25, eo25⟩ := Kd.V_slice HO178.out; subst eo25) | ((with_reducible refine gate_callee (f := 77) rfl ?_); refine goesL_ (some 29) rfl rfl Try.func77 (by kernel_rfl) rfl #[.slice Ao25 t176.length co25, .slice Ao24 t179.length co24] rfl (by go_simp <;> rfl) ?_; (with_reducible refine (nat_Cmp.calls k _ _ t176 _ _ t179 t182 _ ?side1 ?side2 ?side3 ?side4 A9.out).mono ?_); (case side1 => repeat (first | exact (Kd.V_reads' HO178.out).2.2 | (with_reducible refine Kd.C_alloc ?_ _) | (with_reducible refine Kd.C_drewN ?_ _) | (with_reducible refine Kd.C_drew ?_))); (case side2 => exact (Kd.V_reads' HO178.out).2.1); (case side3 => repeat (first | exact (Kd.V_reads' HO181.out).2.2 | (with_reducible refine Kd.C_alloc ?_ _) | (with_reducible refine Kd.C_drewN ?_ _) | (with_reducible refine Kd.C_drew ?_))); (case side4 => exact (Kd.V_reads' HO181.out).2.1); rintro e w26 ⟨rfl, hb⟩; refine ⟨_, rfl, ?_⟩; replace HO0 := mk0 (Kd.V_below (by (with_reducible repeat apply Kd.V_drewN); exact HO0.out) hb); replace HO1 := mk0 (Kd.V_below (by (with_reducible repeat apply Kd.V_drewN); exact HO1.out) hb); replace HO178 := mk0 (Kd.V_below (by (with_reducible repeat apply Kd.V_drewN); exact HO178.out) hb); replace HO181 := mk0 (Kd.V_below (by (with_reducible repeat apply Kd.V_drewN); exact HO181.out) hb); replace HB := (by first | exact hbS HB hb | exact hbD HB hb); have p186 : 0 ≤ (0 : Int) := (by omega); have q186 : 0 < (t179.length : Int) := of_decide_eq_true (by assumption); obtain ⟨ad186, e186, hx186_0⟩ := Kd.at_int (Kd.V_reads' HO181.out).2.2 0 p186 q186; cases e186; have qi186 : (0 < t179.length) = True := eq_true (by omega); (try rw [show ((0 : Int)).toNat = 0 from rfl] at hx186_0); (try rw [Addr.add_zero'] at hx186_0); replace p186 := eq_true p186; replace q186 := eq_true q186) | ((with_reducible refine gate_callee (f := 107) rfl ?_); refine goesL_ (some 42) rfl rfl Try.func107 (by kernel_rfl) rfl #[.slice Ao25 t176.length co25, .int .u32 (rd t179 0)] rfl (by go_simp <;> rfl) ?_; (with_reducible refine (nat_divSmall.calls k _ _ t176 (rd t179 0) t187 t190 _ ?side1 ?side2 A20.out).mono ?_); (case side1 => repeat (first | exact (Kd.V_reads' HO178.out).2.2 | (with_reducible refine Kd.C_alloc ?_ _) | (with_reducible refine Kd.C_drewN ?_ _) | (with_reducible refine Kd.C_drew ?_))); (case side2 => exact (Kd.V_reads' HO178.out).2.1); rintro e w27 ⟨v188, rfl, ho0, hb⟩; refine ⟨_, rfl, ?_⟩; replace HO0 := mk0 (Kd.V_below (by (with_reducible repeat apply Kd.V_drewN); exact HO0.out) hb); replace HO1 := mk0 (Kd.V_below (by (with_reducible repeat apply Kd.V_drewN); exact HO1.out) hb); replace HO178 := mk0 (Kd.V_below (by (with_reducible repeat apply Kd.V_drewN); exact HO178.out) hb); replace HO181 := mk0 (Kd.V_below (by (with_reducible repeat apply Kd.V_drewN); exact HO181.out) hb); have HO189 := mk0 (Kd.V_lower (Kd.V_mono (ok' := fun k_ => ((P0_ k_ ∨ P1_ k_) ∨ w.heap.size ≤ k_)) ho0 (fun k_ hk_ => (.inr (Nat.le_trans (below_size (by repeat (first | exact HB.out | apply pw_below_drewN | apply below_drew1 | apply below_alloc))) hk_)))) (below_size (by repeat (first | exact HB.out | apply pw_below_drewN | apply below_drew1 | apply below_alloc)))); replace HB := (by first | exact hbS HB hb | exact hbD HB hb)) | ((with_reducible refine gate_callee (f := 66) rfl ?_); refine goesL_ (some 48) rfl rfl Try.func66 (by kernel_rfl) rfl #[.int .u64 (IntKind.u64.wrap (t190))] rfl (by go_simp <;> rfl) ?_; (with_reducible refine (nat_Of.calls k (IntKind.u64.wrap (t190)) t191 _ A21.out).mono ?_); rintro e w28 ⟨v192, rfl, ho0, hb⟩; refine ⟨_, rfl, ?_⟩; replace HO0 := mk0 (Kd.V_below (by (with_reducible repeat apply Kd.V_drewN); exact HO0.out) hb); replace HO1 := mk0 (Kd.V_below (by (with_reducible repeat apply Kd.V_drewN); exact HO1.out) hb); replace HO178 := mk0 (Kd.V_below (by (with_reducible repeat apply Kd.V_drewN); exact HO178.out) hb); replace HO181 := mk0 (Kd.V_below (by (with_reducible repeat apply Kd.V_drewN); exact HO181.out) hb); replace HO189 := mk0 (Kd.V_below (by (with_reducible repeat apply Kd.V_drewN); exact HO189.out) hb); have HO193 := mk0 (Kd.V_lower (Kd.V_mono (ok' := fun k_ => ((P0_ k_ ∨ P1_ k_) ∨ w.heap.size ≤ k_)) ho0 (fun k_ hk_ => (.inr (Nat.le_trans (below_size (by repeat (first | exact HB.out | apply pw_below_drewN | apply below_drew1 | apply below_alloc))) hk_)))) (below_size (by repeat (first | exact HB.out | apply pw_below_drewN | apply below_drew1 | apply below_alloc)))); replace HB := (by first | exact hbS HB hb | exact hbD HB hb)))
     go_ret3
     exact ⟨_, _, by first | rfl | (simp [errW_none, errW_some] <;> rfl) | (simp [*, errW_none, errW_some] <;> rfl), by (with_reducible repeat apply Kd.V_drewN); exact HO189.out, by (with_reducible repeat apply Kd.V_drewN); exact HO193.out, by repeat (first | exact HB.out | apply pw_below_drewN | apply below_drew1 | apply below_alloc)⟩
    ·rw [if_neg c19] at H
     exact absurd H (by simp)
   ·rw [if_neg c18] at H
    have c18b0 : ((t179.length : Int) == 1) = false := beq_eq_false_iff_ne.mpr c18
    have c18b1 : ((t179.length : Int) != 1) = true := bne_iff_ne.mpr c18
    obtain ⟨ji29, hji29⟩ : ∃ j_ : Int, (wrap64 ((t179.length : Int) - 1)) = j_ := ⟨_, rfl⟩
    replace H : (if 0 ≤ (ji29) then (if (ji29) < (t179.length : Int) then ((bits_LeadingZeros32.f (rd t179 (ji29))).bind fun t195 => ((nat_shiftUp.f k t176 (IntKind.u64.wrap (t195))).bind fun t196 => ((nat_shiftUp.f k t179 (IntKind.u64.wrap (t195))).bind fun t199 => (if 0 ≤ (t179.length : Int) then (if (t179.length : Int) ≤ (t199.length : Int) then (if 0 ≤ (wrap64 ((wrap64 ((t176.length : Int) - (t179.length : Int))) + 1)) then (if (wrap64 ((wrap64 ((t176.length : Int) - (t179.length : Int))) + 1) : Int).toNat ≤ 70368744177664 then (nat_DivMod.l0 k (t179.length : Int) (IntKind.u64.wrap (t195)) t196 (t199.take ((t179.length : Int) : Int).toNat) (List.replicate (wrap64 ((wrap64 ((t176.length : Int) - (t179.length : Int))) + 1) : Int).toNat 0) (wrap64 ((t176.length : Int) - (t179.length : Int)))) else (none)) else (none)) else (none)) else (none))))) else (none)) else (none)) = some (r1, r2, r3) := by first | (rw [hji29] at H; exact H) | (simp only [hji29] at H ⊢; exact H)
    (try rw [hji29] at A3)
    (try rw [hji29] at A4)
    (try rw [hji29] at A9)
    have hji29w : (IntKind.i64.wrap ((t179.length : Int) - 1)) = ji29 := (i64_w _).trans hji29
    by_cases c30 : 0 ≤ (ji29)
    ·rw [if_pos c30] at H
     have c30b0 : decide (0 ≤ (ji29)) = true := decide_eq_true c30
     clear c30
     by_cases c31 : (ji29) < (t179.length : Int)
     ·rw [if_pos c31] at H
      have c31b0 : decide ((ji29) < (t179.length : Int)) = true := decide_eq_true c31
      clear c31
      obtain ⟨t195, A32, H⟩ := bindA H
      obtain ⟨t196, A33, H⟩ := bindA H
      obtain ⟨t199, A34, H⟩ := bindA H
      by_cases c35 : 0 ≤ (t179.length : Int)
      ·rw [if_pos c35] at H
       have c35b0 := eq_true c35
       have c35b1 : decide (0 ≤ (t179.length : Int)) = true := decide_eq_true c35
       clear c35
       by_cases c36 : (t179.length : Int) ≤ (t199.length : Int)
       ·rw [if_pos c36] at H
        have c36b0 := eq_true c36
        have c36b1 : decide ((t179.length : Int) ≤ (t199.length : Int)) = true := decide_eq_true c36
        clear c36
        obtain ⟨y202, hy202⟩ : ∃ y_ : List Int, y_ = (t199.take ((t179.length : Int) : Int).toNat) := ⟨_, rfl⟩
        replace H : (if 0 ≤ (wrap64 ((wrap64 ((t176.length : Int) - (t179.length : Int))) + 1)) then (if (wrap64 ((wrap64 ((t176.length : Int) - (t179.length : Int))) + 1) : Int).toNat ≤ 70368744177664 then (nat_DivMod.l0 k (t179.length : Int) (IntKind.u64.wrap (t195)) t196 y202 (List.replicate (wrap64 ((wrap64 ((t176.length : Int) - (t179.length : Int))) + 1) : Int).toNat 0) (wrap64 ((t176.length : Int) - (t179.length : Int)))) else (none)) else (none)) = some (r1, r2, r3) := by first | (rw [hy202]; with_reducible exact H) | (have H2_ := (Option.bind_some _ _).symm.trans H; rw [hy202]; with_reducible exact H2_) | (have H2_ := (Option.bind_some _ _).symm.trans H; with_reducible exact H2_) | with_reducible exact H | (rw [hy202]; exact H) | exact H
        have Ny202 := mk0 hy202
        clear hy202
        obtain ⟨ji37, hji37⟩ : ∃ j_ : Int, (wrap64 ((wrap64 ((t176.length : Int) - (t179.length : Int))) + 1)) = j_ := ⟨_, rfl⟩
        replace H : (if 0 ≤ (ji37) then (if (ji37 : Int).toNat ≤ 70368744177664 then (nat_DivMod.l0 k (t179.length : Int) (IntKind.u64.wrap (t195)) t196 y202 (List.replicate (ji37 : Int).toNat 0) (wrap64 ((t176.length : Int) - (t179.length : Int)))) else (none)) else (none)) = some (r1, r2, r3) := by first | (rw [hji37] at H; exact H) | (simp only [hji37] at H ⊢; exact H)
        (try rw [hji37] at A3)
        (try rw [hji37] at A4)
        (try rw [hji37] at A9)
        (try rw [hji37] at A32)
        (try rw [hji37] at A33)
        (try rw [hji37] at A34)
        have hji37w : (IntKind.i64.wrap ((wrap64 ((t176.length : Int) - (t179.length : Int))) + 1)) = ji37 := (i64_w _).trans hji37
        by_cases c38 : 0 ≤ (ji37)
        ·rw [if_pos c38] at H
         have c38b0 := eq_true c38
         have c38b1 : decide (0 ≤ (ji37)) = true := decide_eq_true c38
         clear c38
         by_cases c39 : (ji37 : Int).toNat ≤ 70368744177664
         ·rw [if_pos c39] at H
          have c39b0 := eq_true c39
          have c39b1 : decide ((ji37 : Int).toNat ≤ 70368744177664) = true := decide_eq_true c39
          clear c39
          obtain ⟨y205, hy205⟩ : ∃ y_ : List Int, y_ = (List.replicate (ji37 : Int).toNat 0) := ⟨_, rfl⟩
          replace H : (nat_DivMod.l0 k (t179.length : Int) (IntKind.u64.wrap (t195)) t196 y202 y205 (wrap64 ((t176.length : Int) - (t179.length : Int)))) = some (r1, r2, r3) := by first | (rw [hy205]; with_reducible exact H) | (have H2_ := (Option.bind_some _ _).symm.trans H; rw [hy205]; with_reducible exact H2_) | (have H2_ := (Option.bind_some _ _).symm.trans H; with_reducible exact H2_) | with_reducible exact H | (rw [hy205]; exact H) | exact H
          have Ny205 := mk0 hy205
          clear hy205
          have H' := mk0 H
          clear H
          go_enter Try.func80, Try.ntmps80
          go_wp2_with (first | ((with_reducible refine gate_callee (f := 81) rfl ?_); refine goesL_ (some 19) rfl rfl Try.func81 (by kernel_rfl) rfl #[.slice A0 l0.length c0] rfl (by go_simp <;> rfl) ?_; (with_reducible refine (nat_trim.calls k (fun k_ => ((P0_ k_ ∨ P1_ k_) ∨ w.heap.size ≤ k_)) _ _ l0 t176 _ ?side1 A3.out).mono ?_); (case side1 => exact HO0.out); rintro e w40 ⟨v177, rfl, ho0, hb⟩; refine ⟨_, rfl, ?_⟩; replace HO0 := mk0 (Kd.V_below (by (with_reducible repeat apply Kd.V_drewN); exact HO0.out) hb); replace HO1 := mk0 (Kd.V_below (by (with_reducible repeat apply Kd.V_drewN); exact HO1.out) hb); have HO178 := mk0 (Kd.V_lower (Kd.V_mono (ok' := fun k_ => ((P0_ k_ ∨ P1_ k_) ∨ w.heap.size ≤ k_)) ho0 (fun k_ hk_ => Or.elim hk_ (fun hs_ => hs_) (fun hn_ => (.inr (Nat.le_trans (below_size (by repeat (first | exact HB.out | apply pw_below_drewN | apply below_drew1 | apply below_alloc))) hn_))))) (below_size (by repeat (first | exact HB.out | apply pw_below_drewN | apply below_drew1 | apply below_alloc)))); replace HB := (by first | exact hbS HB hb | exact hbD HB hb)) | ((with_reducible refine gate_callee (f := 81) rfl ?_); refine goesL_ (some 21) rfl rfl Try.func81 (by kernel_rfl) rfl #[.slice A1 l1.length c1] rfl (by go_simp <;> rfl) ?_; (with_reducible refine (nat_trim.calls k (fun k_ => ((P0_ k_ ∨ P1_ k_) ∨ w.heap.size ≤ k_)) _ _ l1 t179 _ ?side1 A4.out).mono ?_); (case side1 => exact HO1.out); rintro e w41 ⟨v180, rfl, ho0, hb⟩; refine ⟨_, rfl, ?_⟩; replace HO0 := mk0 (Kd.V_below (by (with_reducible repeat apply Kd.V_drewN); exact HO0.out) hb); replace HO1 := mk0 (Kd.V_below (by (with_reducible repeat apply Kd.V_drewN); exact HO1.out) hb); replace HO178 := mk0 (Kd.V_below (by (with_reducible repeat apply Kd.V_drewN); exact HO178.out) hb); have HO181 := mk0 (Kd.V_lower (Kd.V_mono (ok' := fun k_ => ((P0_ k_ ∨ P1_ k_) ∨ w.heap.size ≤ k_)) ho0 (fun k_ hk_ => Or.elim hk_ (fun hs_ => hs_) (fun hn_ => (.inr (Nat.le_trans (below_size (by repeat (first | exact HB.out | apply pw_below_drewN | apply below_drew1 | apply below_alloc))) hn_))))) (below_size (by repeat (first | exact HB.out | apply pw_below_drewN | apply below_drew1 | apply below_alloc)))); replace HB := (by first | exact hbS HB hb | exact hbD HB hb); obtain ⟨Ao42, co42, eo42⟩ := Kd.V_slice HO181.out; subst eo42; obtain ⟨Ao43, co43, eo43⟩ := Kd.V_slice HO178.out; subst eo43) | ((with_reducible refine gate_callee (f := 77) rfl ?_); refine goesL_ (some 29) rfl rfl Try.func77 (by kernel_rfl) rfl #[.slice Ao43 t176.length co43, .slice Ao42 t179.length co42] rfl (by go_simp <;> rfl) ?_; (with_reducible refine (nat_Cmp.calls k _ _ t176 _ _ t179 t182 _ ?side1 ?side2 ?side3 ?side4 A9.out).mono ?_); (case side1 => repeat (first | exact (Kd.V_reads' HO178.out).2.2 | (with_reducible refine Kd.C_alloc ?_ _) | (with_reducible refine Kd.C_drewN ?_ _) | (with_reducible refine Kd.C_drew ?_))); (case side2 => exact (Kd.V_reads' HO178.out).2.1); (case side3 => repeat (first | exact (Kd.V_reads' HO181.out).2.2 | (with_reducible refine Kd.C_alloc ?_ _) | (with_reducible refine Kd.C_drewN ?_ _) | (with_reducible refine Kd.C_drew ?_))); (case side4 => exact (Kd.V_reads' HO181.out).2.1); rintro e w44 ⟨rfl, hb⟩; refine ⟨_, rfl, ?_⟩; replace HO0 := mk0 (Kd.V_below (by (with_reducible repeat apply Kd.V_drewN); exact HO0.out) hb); replace HO1 := mk0 (Kd.V_below (by (with_reducible repeat apply Kd.V_drewN); exact HO1.out) hb); replace HO178 := mk0 (Kd.V_below (by (with_reducible repeat apply Kd.V_drewN); exact HO178.out) hb); replace HO181 := mk0 (Kd.V_below (by (with_reducible repeat apply Kd.V_drewN); exact HO181.out) hb); replace HB := (by first | exact hbS HB hb | exact hbD HB hb); have p194 : 0 ≤ ((ji29) : Int) := of_decide_eq_true (by assumption); have q194 : (ji29) < (t179.length : Int) := of_decide_eq_true (by assumption); obtain ⟨ad194, e194, hx194_0⟩ := Kd.at_int (Kd.V_reads' HO181.out).2.2 (ji29) p194 q194; cases e194; replace p194 := eq_true p194; replace q194 := eq_true q194) | ((with_reducible refine gate_callee (f := 108) rfl ?_); refine goesL_ (some 56) rfl rfl Try.func108 (by kernel_rfl) rfl #[.int .u32 (rd t179 (ji29))] rfl (by (try simp only [mA, mC, mN]); first | done | (simp only [hji29]; rfl) | rfl | (simp only [lD, lT]; rfl)) ?_; (with_reducible refine (bits_LeadingZeros32.calls (rd t179 (ji29)) t195 _ A32.out).mono ?_); rintro e w' ⟨rfl, ⟨nd, rfl⟩⟩; refine ⟨_, rfl, ?_⟩) | ((with_reducible refine gate_callee (f := 109) rfl ?_); refine goesL_ (some 60) rfl rfl Try.func109 (by kernel_rfl) rfl #[.slice Ao43 t176.length co43, .int .u64 (IntKind.u64.wrap (t195))] rfl (by go_simp <;> rfl) ?_; (with_reducible refine (nat_shiftUp.calls k _ _ t176 (IntKind.u64.wrap (t195)) t196 _ ?side1 ?side2 A33.out).mono ?_); (case side1 => repeat (first | exact (Kd.V_reads' HO178.out).2.2 | (with_reducible refine Kd.C_alloc ?_ _) | (with_reducible refine Kd.C_drewN ?_ _) | (with_reducible refine Kd.C_drew ?_))); (case side2 => exact (Kd.V_reads' HO178.out).2.1); rintro e w45 ⟨v197, rfl, ho0, hb⟩; refine ⟨_, rfl, ?_⟩; replace HO0 := mk0 (Kd.V_elder' (by (with_reducible repeat apply Kd.V_drewN); exact HO0.out) (Kd.R_base ho0) hb); replace HO1 := mk0 (Kd.V_elder' (by (with_reducible repeat apply Kd.V_drewN); exact HO1.out) (Kd.R_base ho0) hb); replace HO178 := mk0 (Kd.V_elder' (by (with_reducible repeat apply Kd.V_drewN); exact HO178.out) (Kd.R_base ho0) hb); replace HO181 := mk0 (Kd.V_elder' (by (with_reducible repeat apply Kd.V_drewN); exact HO181.out) (Kd.R_base ho0) hb); have HO198 := mk0 (Kd.R_lower (Kd.R_newM (M := fun k_ => (w.heap.size ≤ k_)) ho0 (below_size (by repeat (first | exact HB.out | apply pw_below_drewN | apply below_drew1 | apply below_alloc))) (fun k_ h_ => h_)) (below_size (by repeat (first | exact HB.out | apply pw_below_drewN | apply below_drew1 | apply below_alloc)))); replace HB := (by first | exact hbS HB hb | exact hbD HB hb)) | ((with_reducible refine gate_callee (f := 109) rfl ?_); refine goesL_ (some 63) rfl rfl Try.func109 (by kernel_rfl) rfl #[.slice (some ad194) t179.length co42, .int .u64 (IntKind.u64.wrap (t195))] rfl (by go_simp <;> rfl) ?_; (with_reducible refine (nat_shiftUp.calls k _ _ t179 (IntKind.u64.wrap (t195)) t199 _ ?side1 ?side2 A34.out).mono ?_); (case side1 => repeat (first | exact (Kd.V_reads' HO181.out).2.2 | (with_reducible refine Kd.C_alloc ?_ _) | (with_reducible refine Kd.C_drewN ?_ _) | (with_reducible refine Kd.C_drew ?_))); (case side2 => exact (Kd.V_reads' HO181.out).2.1); rintro e w46 ⟨v200, rfl, ho0, hb⟩; refine ⟨_, rfl, ?_⟩; replace HO0 := mk0 (Kd.V_elder' (by (with_reducible repeat apply Kd.V_drewN); exact HO0.out) (Kd.R_base ho0) hb); replace HO1 := mk0 (Kd.V_elder' (by (with_reducible repeat apply Kd.V_drewN); exact HO1.out) (Kd.R_base ho0) hb); replace HO178 := mk0 (Kd.V_elder' (by (with_reducible repeat apply Kd.V_drewN); exact HO178.out) (Kd.R_base ho0) hb); replace HO181 := mk0 (Kd.V_elder' (by (with_reducible repeat apply Kd.V_drewN); exact HO181.out) (Kd.R_base ho0) hb); have HO201 := mk0 (Kd.R_lower (Kd.R_new' (Kd.R_newM (M := fun k_ => (w.heap.size ≤ k_)) ho0 (below_size (by repeat (first | exact HB.out | apply pw_below_drewN | apply below_drew1 | apply below_alloc))) (fun k_ h_ => h_)) (Kd.R_lt (by (with_reducible repeat apply Kd.R_drewN); exact HO198.out))) (below_size (by repeat (first | exact HB.out | apply pw_below_drewN | apply below_drew1 | apply below_alloc)))); replace HO198 := mk0 (Kd.R_elder' (by (with_reducible repeat apply Kd.R_drewN); exact HO198.out) (Kd.R_base ho0) hb); replace HB := (by first | exact hbS HB hb | exact hbD HB hb); obtain ⟨Ao47, co47, eo47⟩ := Kd.R_slice HO201.out; subst eo47; have q48 : ((t179.length : Int) : Int) ≤ ((t199.length : Int) : Int) := of_decide_eq_true (by assumption); obtain ⟨i048, hi048, _, hsz48, _⟩ := info_parts info87; have hcut48 := cut_to (P := Try.prog) 25 87 .i64 Try.underlying25 hi048 Ao47 t199.length co47 (t179.length : Int) (of_decide_eq_true (by assumption)) q48 (Kd.R_reads' HO201.out).2.1; have hr48 := Kd.R_take (m := ((t179.length : Int) : Int).toNat) HO201.out (by omega); have hy48 : y202.length = ((t179.length : Int) : Int).toNat := (by rw [Ny202.out, lT]; omega); rw [← Ny202.out] at hr48; rw [← hy48] at hr48 hcut48; clear hy48 hi048 hsz48 HO201; have HO204 := mk0 hr48; clear hr48; replace q48 := eq_true q48) | ((with_reducible refine gate_dst (N := 71) rfl ?_); refine Kd.R_make (Kd.int .u32) _ 87 rfl (N := 71) rfl 25 _ _ rfl ji37 rfl rfl Try.underlying25 (.int .u32 0) 4 info87 rfl (by decide) (by omega) 0 (ok := fun _ => True) (okp := fun _ => True) rfl (fun _ hk => hk) trivial (of_decide_eq_true (by assumption)) (Nat.le_trans (Nat.mul_le_mul_right _ (of_decide_eq_true (by assumption) : ji37.toNat ≤ 70368744177664)) (by omega)) (Below.refl _ _) (Nat.le_refl _) ?_; intro v206 w49 ho50 hb hg_ hnew_; clear hg_ hnew_; (first | rw [← Ny205.out] at ho50 | (simp only [Int.reduceToNat] at ho50; rw [← Ny205.out] at ho50)); replace HO0 := mk0 (Kd.V_elder' (by (with_reducible repeat apply Kd.V_drewN); exact HO0.out) (Kd.R_base ho50) hb); replace HO1 := mk0 (Kd.V_elder' (by (with_reducible repeat apply Kd.V_drewN); exact HO1.out) (Kd.R_base ho50) hb); replace HO178 := mk0 (Kd.V_elder' (by (with_reducible repeat apply Kd.V_drewN); exact HO178.out) (Kd.R_base ho50) hb); replace HO181 := mk0 (Kd.V_elder' (by (with_reducible repeat apply Kd.V_drewN); exact HO181.out) (Kd.R_base ho50) hb); have HO207 := mk0 (Kd.R_lower (Kd.R_new' (Kd.R_new' (Kd.R_newM (M := fun k_ => (w.heap.size ≤ k_)) ho50 (below_size (by repeat (first | exact HB.out | apply pw_below_drewN | apply below_drew1 | apply below_alloc))) (fun k_ h_ => h_)) (Kd.R_lt (by (with_reducible repeat apply Kd.R_drewN); exact HO198.out))) (Kd.R_lt (by (with_reducible repeat apply Kd.R_drewN); exact HO204.out))) (below_size (by repeat (first | exact HB.out | apply pw_below_drewN | apply below_drew1 | apply below_alloc)))); replace HO198 := mk0 (Kd.R_elder' (by (with_reducible repeat apply Kd.R_drewN); exact HO198.out) (Kd.R_base ho50) hb); replace HO204 := mk0 (Kd.R_elder' (by (with_reducible repeat apply Kd.R_drewN); exact HO204.out) (Kd.R_base ho50) hb); replace HB := (by first | exact hbS HB hb | exact hbD HB hb); clear hb ho50))
          go_loopg [16] k (fun kq v16 w' => ∃ (x13_1 : List Int) (x14_1 : List Int) (x15_1 : List Int) (x16_1 : Int), v16 = .int .i64 x16_1 ∧ Aside0 (nat_DivMod.l0 kq (t179.length : Int) (IntKind.u64.wrap (t195)) x13_1 x14_1 x15_1 x16_1 = some (r1, r2, r3)) ∧ Aside0 (kq ≤ k) ∧ Aside0 (Kd.R (Kd.int .u32) 87 w' w.heap.size (fun k_ => (w.heap.size ≤ k_) ∧ some k_ ≠ ((.slice Ao47 y202.length co47) : Value).ownBlock ∧ some k_ ≠ (v206 : Value).ownBlock) v197 x13_1) ∧ Aside0 (Kd.R (Kd.int .u32) 87 w' w.heap.size (fun k_ => (w.heap.size ≤ k_) ∧ some k_ ≠ (v197 : Value).ownBlock ∧ some k_ ≠ (v206 : Value).ownBlock) (.slice Ao47 y202.length co47) x14_1) ∧ Aside0 (Kd.R (Kd.int .u32) 87 w' w.heap.size (fun k_ => (w.heap.size ≤ k_) ∧ some k_ ≠ (v197 : Value).ownBlock ∧ some k_ ≠ ((.slice Ao47 y202.length co47) : Value).ownBlock) v206 x15_1) ∧ Aside0 (Below w.heap.size w w'))
          case atStart => exact ⟨(t196), (y202), (y205), (wrap64 ((t176.length : Int) - (t179.length : Int))), (by first | rfl | (simp; done) | (simp [*]; done)), H', ⟨Nat.le_refl _⟩, ⟨by (with_reducible repeat apply Kd.R_drewN); exact Kd.R_mono HO198.out (fun _ hk => ⟨hk.1.1.1, ⟨fun e_ => hk.1.2 (e_.trans (by cases Ao47 <;> rfl)), hk.2⟩⟩)⟩, ⟨by (with_reducible repeat apply Kd.R_drewN); exact Kd.R_mono HO204.out (fun _ hk => ⟨hk.1.1.1, ⟨hk.1.2, hk.2⟩⟩)⟩, ⟨by (with_reducible repeat apply Kd.R_drewN); exact Kd.R_mono HO207.out (fun _ hk => ⟨hk.1.1.1, ⟨hk.1.2, hk.2⟩⟩)⟩, ⟨by repeat (first | exact HB.out | apply pw_below_drewN | apply below_drew1 | apply below_alloc)⟩⟩
          case round =>
           clear H'
           try clear c1
           try clear p1
           try clear q1
           try clear hx1
           try clear qi1
           try clear p2
           try clear c3
           try clear q4
           try clear c5
           try clear c5b0
           try clear c5b1
           try clear c5b2
           try clear c6
           try clear p6
           try clear c7
           try clear c8
           try clear c10
           try clear c10b0
           try clear c18
           try clear c18b0
           try clear c18b1
           try clear p18
           try clear q18
           try clear hx18
           try clear qi18
           try clear c19
           try clear c19b0
           try clear c19b1
           try clear p19
           try clear q19
           try clear hx19
           try clear c30
           try clear c30b0
           try clear c31
           try clear c31b0
           try clear c35
           try clear c35b0
           try clear c35b1
           try clear c36
           try clear c36b0
           try clear c36b1
           try clear c38
           try clear c38b0
           try clear c38b1
           try clear c39
           try clear c39b0
           try clear c39b1
           try clear q48
           try clear hx186_0
           try clear hx194_0
           try clear p186
           try clear p194
           try clear q186
           try clear q194
           try clear q48
           obtain ⟨x13_1, x14_1, x15_1, x16_1, rfl, HA, HK1, HO_13, HO_14, HO_15, HB⟩ := hrel
           have hl14_1 := (Kd.R_reads' HO_14.out).1
           rw [hl14_1] at HO_14
           (try simp only [hl14_1])
           (try simp only [hl14_1] at HO_13)
           (try simp only [hl14_1] at HO_15)
           cases gk with
           | zero => exact absurd HA.out (by simp [nat_DivMod.l0])
           | succ k1 =>
            have H := HA.out
            clear HA
            simp only [nat_DivMod.l0] at H
            by_cases c51 : x16_1 ≥ 0
            ·rw [if_pos c51] at H
             have c51b0 : decide (0 ≤ x16_1) = true := decide_eq_true c51
             clear c51
             obtain ⟨ji52, hji52⟩ : ∃ j_ : Int, (wrap64 (x16_1 + (t179.length : Int))) = j_ := ⟨_, rfl⟩
             replace H : (if 0 ≤ (ji52) then (if (ji52) < (x13_1.length : Int) then (if 0 ≤ (wrap64 ((ji52) - 1)) then (if (wrap64 ((ji52) - 1)) < (x13_1.length : Int) then (if 0 ≤ (wrap64 ((ji52) - 2)) then (if (wrap64 ((ji52) - 2)) < (x13_1.length : Int) then (if 0 ≤ (wrap64 ((t179.length : Int) - 1)) then (if (wrap64 ((t179.length : Int) - 1)) < (x14_1.length : Int) then (if 0 ≤ (wrap64 ((t179.length : Int) - 2)) then (if (wrap64 ((t179.length : Int) - 2)) < (x14_1.length : Int) then ((nat_guess.f k1 (rd x13_1 (ji52)) (rd x13_1 (wrap64 ((ji52) - 1))) (rd x13_1 (wrap64 ((ji52) - 2))) (rd x14_1 (wrap64 ((t179.length : Int) - 1))) (rd x14_1 (wrap64 ((t179.length : Int) - 2)))).bind fun t223 => (if 0 ≤ x16_1 then (if x16_1 ≤ (wrap64 ((ji52) + 1)) then (if (wrap64 ((ji52) + 1)) ≤ (x13_1.length : Int) then ((nat_subtract.f k1 x13_1 x16_1 (wrap64 ((ji52) + 1)) x14_1 t223).bind fun bt228 => (if bt228.1 = true then ((nat_addBack.f k1 bt228.2 x16_1 (wrap64 ((ji52) + 1)) x14_1).bind fun t234 => (if x16_1 < (x15_1.length : Int) then (nat_DivMod.l0 k1 (t179.length : Int) (IntKind.u64.wrap (t195)) t234 x14_1 (x15_1.set (x16_1 : Int).toNat ((IntKind.u64.wrap (t223 - 1)) % 4294967296)) (wrap64 (x16_1 - 1))) else (none))) else (if x16_1 < (x15_1.length : Int) then (nat_DivMod.l0 k1 (t179.length : Int) (IntKind.u64.wrap (t195)) bt228.2 x14_1 (x15_1.set (x16_1 : Int).toNat ((t223) % 4294967296)) (wrap64 (x16_1 - 1))) else (none)))) else (none)) else (none)) else (none))) else (none)) else (none)) else (none)) else (none)) else (none)) else (none)) else (none)) else (none)) else (none)) else (none)) = some (r1, r2, r3) := by first | (rw [hji52] at H; exact H) | (simp only [hji52] at H ⊢; exact H)
             have hji52w : (IntKind.i64.wrap (x16_1 + (t179.length : Int))) = ji52 := (i64_w _).trans hji52
             by_cases c53 : 0 ≤ (ji52)
             ·rw [if_pos c53] at H
              have c53b0 : decide (0 ≤ (ji52)) = true := decide_eq_true c53
              clear c53
              by_cases c54 : (ji52) < (x13_1.length : Int)
              ·rw [if_pos c54] at H
               have c54b0 : decide ((ji52) < (x13_1.length : Int)) = true := decide_eq_true c54
               clear c54
               obtain ⟨ji55, hji55⟩ : ∃ j_ : Int, (wrap64 ((ji52) - 1)) = j_ := ⟨_, rfl⟩
               replace H : (if 0 ≤ (ji55) then (if (ji55) < (x13_1.length : Int) then (if 0 ≤ (wrap64 ((ji52) - 2)) then (if (wrap64 ((ji52) - 2)) < (x13_1.length : Int) then (if 0 ≤ (wrap64 ((t179.length : Int) - 1)) then (if (wrap64 ((t179.length : Int) - 1)) < (x14_1.length : Int) then (if 0 ≤ (wrap64 ((t179.length : Int) - 2)) then (if (wrap64 ((t179.length : Int) - 2)) < (x14_1.length : Int) then ((nat_guess.f k1 (rd x13_1 (ji52)) (rd x13_1 (ji55)) (rd x13_1 (wrap64 ((ji52) - 2))) (rd x14_1 (wrap64 ((t179.length : Int) - 1))) (rd x14_1 (wrap64 ((t179.length : Int) - 2)))).bind fun t223 => (if 0 ≤ x16_1 then (if x16_1 ≤ (wrap64 ((ji52) + 1)) then (if (wrap64 ((ji52) + 1)) ≤ (x13_1.length : Int) then ((nat_subtract.f k1 x13_1 x16_1 (wrap64 ((ji52) + 1)) x14_1 t223).bind fun bt228 => (if bt228.1 = true then ((nat_addBack.f k1 bt228.2 x16_1 (wrap64 ((ji52) + 1)) x14_1).bind fun t234 => (if x16_1 < (x15_1.length : Int) then (nat_DivMod.l0 k1 (t179.length : Int) (IntKind.u64.wrap (t195)) t234 x14_1 (x15_1.set (x16_1 : Int).toNat ((IntKind.u64.wrap (t223 - 1)) % 4294967296)) (wrap64 (x16_1 - 1))) else (none))) else (if x16_1 < (x15_1.length : Int) then (nat_DivMod.l0 k1 (t179.length : Int) (IntKind.u64.wrap (t195)) bt228.2 x14_1 (x15_1.set (x16_1 : Int).toNat ((t223) % 4294967296)) (wrap64 (x16_1 - 1))) else (none)))) else (none)) else (none)) else (none))) else (none)) else (none)) else (none)) else (none)) else (none)) else (none)) else (none)) else (none)) = some (r1, r2, r3) := by first | (rw [hji55] at H; exact H) | (simp only [hji55] at H ⊢; exact H)
               have hji55w : (IntKind.i64.wrap ((ji52) - 1)) = ji55 := (i64_w _).trans hji55
               by_cases c56 : 0 ≤ (ji55)
               ·rw [if_pos c56] at H
                have c56b0 : decide (0 ≤ (ji55)) = true := decide_eq_true c56
                clear c56
                by_cases c57 : (ji55) < (x13_1.length : Int)
                ·rw [if_pos c57] at H
                 have c57b0 : decide ((ji55) < (x13_1.length : Int)) = true := decide_eq_true c57
                 clear c57
                 obtain ⟨ji58, hji58⟩ : ∃ j_ : Int, (wrap64 ((ji52) - 2)) = j_ := ⟨_, rfl⟩
                 replace H : (if 0 ≤ (ji58) then (if (ji58) < (x13_1.length : Int) then (if 0 ≤ (wrap64 ((t179.length : Int) - 1)) then (if (wrap64 ((t179.length : Int) - 1)) < (x14_1.length : Int) then (if 0 ≤ (wrap64 ((t179.length : Int) - 2)) then (if (wrap64 ((t179.length : Int) - 2)) < (x14_1.length : Int) then ((nat_guess.f k1 (rd x13_1 (ji52)) (rd x13_1 (ji55)) (rd x13_1 (ji58)) (rd x14_1 (wrap64 ((t179.length : Int) - 1))) (rd x14_1 (wrap64 ((t179.length : Int) - 2)))).bind fun t223 => (if 0 ≤ x16_1 then (if x16_1 ≤ (wrap64 ((ji52) + 1)) then (if (wrap64 ((ji52) + 1)) ≤ (x13_1.length : Int) then ((nat_subtract.f k1 x13_1 x16_1 (wrap64 ((ji52) + 1)) x14_1 t223).bind fun bt228 => (if bt228.1 = true then ((nat_addBack.f k1 bt228.2 x16_1 (wrap64 ((ji52) + 1)) x14_1).bind fun t234 => (if x16_1 < (x15_1.length : Int) then (nat_DivMod.l0 k1 (t179.length : Int) (IntKind.u64.wrap (t195)) t234 x14_1 (x15_1.set (x16_1 : Int).toNat ((IntKind.u64.wrap (t223 - 1)) % 4294967296)) (wrap64 (x16_1 - 1))) else (none))) else (if x16_1 < (x15_1.length : Int) then (nat_DivMod.l0 k1 (t179.length : Int) (IntKind.u64.wrap (t195)) bt228.2 x14_1 (x15_1.set (x16_1 : Int).toNat ((t223) % 4294967296)) (wrap64 (x16_1 - 1))) else (none)))) else (none)) else (none)) else (none))) else (none)) else (none)) else (none)) else (none)) else (none)) else (none)) = some (r1, r2, r3) := by first | (rw [hji58] at H; exact H) | (simp only [hji58] at H ⊢; exact H)
                 have hji58w : (IntKind.i64.wrap ((ji52) - 2)) = ji58 := (i64_w _).trans hji58
                 by_cases c59 : 0 ≤ (ji58)
                 ·rw [if_pos c59] at H
                  have c59b0 : decide (0 ≤ (ji58)) = true := decide_eq_true c59
                  clear c59
                  by_cases c60 : (ji58) < (x13_1.length : Int)
                  ·rw [if_pos c60] at H
                   have c60b0 : decide ((ji58) < (x13_1.length : Int)) = true := decide_eq_true c60
                   clear c60
                   obtain ⟨ji61, hji61⟩ : ∃ j_ : Int, (wrap64 ((t179.length : Int) - 1)) = j_ := ⟨_, rfl⟩
                   replace H : (if 0 ≤ (ji61) then (if (ji61) < (x14_1.length : Int) then (if 0 ≤ (wrap64 ((t179.length : Int) - 2)) then (if (wrap64 ((t179.length : Int) - 2)) < (x14_1.length : Int) then ((nat_guess.f k1 (rd x13_1 (ji52)) (rd x13_1 (ji55)) (rd x13_1 (ji58)) (rd x14_1 (ji61)) (rd x14_1 (wrap64 ((t179.length : Int) - 2)))).bind fun t223 => (if 0 ≤ x16_1 then (if x16_1 ≤ (wrap64 ((ji52) + 1)) then (if (wrap64 ((ji52) + 1)) ≤ (x13_1.length : Int) then ((nat_subtract.f k1 x13_1 x16_1 (wrap64 ((ji52) + 1)) x14_1 t223).bind fun bt228 => (if bt228.1 = true then ((nat_addBack.f k1 bt228.2 x16_1 (wrap64 ((ji52) + 1)) x14_1).bind fun t234 => (if x16_1 < (x15_1.length : Int) then (nat_DivMod.l0 k1 (t179.length : Int) (IntKind.u64.wrap (t195)) t234 x14_1 (x15_1.set (x16_1 : Int).toNat ((IntKind.u64.wrap (t223 - 1)) % 4294967296)) (wrap64 (x16_1 - 1))) else (none))) else (if x16_1 < (x15_1.length : Int) then (nat_DivMod.l0 k1 (t179.length : Int) (IntKind.u64.wrap (t195)) bt228.2 x14_1 (x15_1.set (x16_1 : Int).toNat ((t223) % 4294967296)) (wrap64 (x16_1 - 1))) else (none)))) else (none)) else (none)) else (none))) else (none)) else (none)) else (none)) else (none)) = some (r1, r2, r3) := by first | (rw [hji61] at H; exact H) | (simp only [hji61] at H ⊢; exact H)
                   have hji61w : (IntKind.i64.wrap ((t179.length : Int) - 1)) = ji61 := (i64_w _).trans hji61
                   have ej_ : ji29 = ji61 := hji29.symm.trans hji61
                   subst ej_
                   by_cases c62 : 0 ≤ (ji29)
                   ·rw [if_pos c62] at H
                    have c62b0 : decide (0 ≤ (ji29)) = true := decide_eq_true c62
                    clear c62
                    by_cases c63 : (ji29) < (x14_1.length : Int)
                    ·rw [if_pos c63] at H
                     have c63b0 : decide ((ji29) < (x14_1.length : Int)) = true := decide_eq_true c63
                     clear c63
                     obtain ⟨ji64, hji64⟩ : ∃ j_ : Int, (wrap64 ((t179.length : Int) - 2)) = j_ := ⟨_, rfl⟩
                     replace H : (if 0 ≤ (ji64) then (if (ji64) < (x14_1.length : Int) then ((nat_guess.f k1 (rd x13_1 (ji52)) (rd x13_1 (ji55)) (rd x13_1 (ji58)) (rd x14_1 (ji29)) (rd x14_1 (ji64))).bind fun t223 => (if 0 ≤ x16_1 then (if x16_1 ≤ (wrap64 ((ji52) + 1)) then (if (wrap64 ((ji52) + 1)) ≤ (x13_1.length : Int) then ((nat_subtract.f k1 x13_1 x16_1 (wrap64 ((ji52) + 1)) x14_1 t223).bind fun bt228 => (if bt228.1 = true then ((nat_addBack.f k1 bt228.2 x16_1 (wrap64 ((ji52) + 1)) x14_1).bind fun t234 => (if x16_1 < (x15_1.length : Int) then (nat_DivMod.l0 k1 (t179.length : Int) (IntKind.u64.wrap (t195)) t234 x14_1 (x15_1.set (x16_1 : Int).toNat ((IntKind.u64.wrap (t223 - 1)) % 4294967296)) (wrap64 (x16_1 - 1))) else (none))) else (if x16_1 < (x15_1.length : Int) then (nat_DivMod.l0 k1 (t179.length : Int) (IntKind.u64.wrap (t195)) bt228.2 x14_1 (x15_1.set (x16_1 : Int).toNat ((t223) % 4294967296)) (wrap64 (x16_1 - 1))) else (none)))) else (none)) else (none)) else (none))) else (none)) else (none)) = some (r1, r2, r3) := by first | (rw [hji64] at H; exact H) | (simp only [hji64] at H ⊢; exact H)
                     have hji64w : (IntKind.i64.wrap ((t179.length : Int) - 2)) = ji64 := (i64_w _).trans hji64
                     by_cases c65 : 0 ≤ (ji64)
                     ·rw [if_pos c65] at H
                      have c65b0 : decide (0 ≤ (ji64)) = true := decide_eq_true c65
                      clear c65
                      by_cases c66 : (ji64) < (x14_1.length : Int)
                      ·rw [if_pos c66] at H
                       have c66b0 : decide ((ji64) < (x14_1.length : Int)) = true := decide_eq_true c66
                       clear c66
                       obtain ⟨t223, A67, H⟩ := bindA H
                       by_cases c68 : 0 ≤ x16_1
                       ·rw [if_pos c68] at H
                        have c68b0 := eq_true c68
                        have c68b1 : decide (0 ≤ x16_1) = true := decide_eq_true c68
                        clear c68
                        by_cases c69 : x16_1 ≤ (wrap64 ((ji52) + 1))
                        ·rw [if_pos c69] at H
                         have c69b0 := eq_true c69
                         have c69b1 : decide (x16_1 ≤ (wrap64 ((ji52) + 1))) = true := decide_eq_true c69
                         by_cases c70 : (wrap64 ((ji52) + 1)) ≤ (x13_1.length : Int)
                         ·rw [if_pos c70] at H
                          have c70b0 := eq_true c70
                          have c70b1 : decide ((wrap64 ((ji52) + 1)) ≤ (x13_1.length : Int)) = true := decide_eq_true c70
                          obtain ⟨y224, hy224⟩ : ∃ y_ : List Int, y_ = ((x13_1.take ((wrap64 ((ji52) + 1)) : Int).toNat).drop (x16_1 : Int).toNat) := ⟨_, rfl⟩
                          replace H : ((nat_subtract.f k1 x13_1 x16_1 (wrap64 ((ji52) + 1)) x14_1 t223).bind fun bt228 => (if bt228.1 = true then ((nat_addBack.f k1 bt228.2 x16_1 (wrap64 ((ji52) + 1)) x14_1).bind fun t234 => (if x16_1 < (x15_1.length : Int) then (nat_DivMod.l0 k1 (t179.length : Int) (IntKind.u64.wrap (t195)) t234 x14_1 (x15_1.set (x16_1 : Int).toNat ((IntKind.u64.wrap (t223 - 1)) % 4294967296)) (wrap64 (x16_1 - 1))) else (none))) else (if x16_1 < (x15_1.length : Int) then (nat_DivMod.l0 k1 (t179.length : Int) (IntKind.u64.wrap (t195)) bt228.2 x14_1 (x15_1.set (x16_1 : Int).toNat ((t223) % 4294967296)) (wrap64 (x16_1 - 1))) else (none)))) = some (r1, r2, r3) := by first | (rw [hy224]; with_reducible exact H) | (have H2_ := (Option.bind_some _ _).symm.trans H; rw [hy224]; with_reducible exact H2_) | (have H2_ := (Option.bind_some _ _).symm.trans H; with_reducible exact H2_) | with_reducible exact H | (rw [hy224]; exact H) | exact H
                          have Ny224 := mk0 hy224
                          clear hy224
                          obtain ⟨⟨t228, t229⟩, A71, H⟩ := bindA H
                          by_cases c72 : t228 = true
                          ·subst c72
                           have H1 : ((nat_addBack.f k1 t229 x16_1 (wrap64 ((ji52) + 1)) x14_1).bind fun t234 => (if x16_1 < (x15_1.length : Int) then (nat_DivMod.l0 k1 (t179.length : Int) (IntKind.u64.wrap (t195)) t234 x14_1 (x15_1.set (x16_1 : Int).toNat ((IntKind.u64.wrap (t223 - 1)) % 4294967296)) (wrap64 (x16_1 - 1))) else (none))) = some (r1, r2, r3) := by rw [if_pos rfl] at H; exact H
                           clear H
                           have H := H1
                           clear H1
                           have c73b0 := eq_true (of_decide_eq_true (by assumption) : 0 ≤ x16_1)
                           have c74b0 := eq_true (of_decide_eq_true (by assumption) : x16_1 ≤ (wrap64 ((ji52) + 1)))
                           have c75b0 := eq_true (of_decide_eq_true (by assumption) : (wrap64 ((ji52) + 1)) ≤ (x13_1.length : Int))
                           obtain ⟨y230, hy230⟩ : ∃ y_ : List Int, y_ = ((t229.take ((wrap64 ((ji52) + 1)) : Int).toNat).drop (x16_1 : Int).toNat) := ⟨_, rfl⟩
                           replace H : ((nat_addBack.f k1 t229 x16_1 (wrap64 ((ji52) + 1)) x14_1).bind fun t234 => (if x16_1 < (x15_1.length : Int) then (nat_DivMod.l0 k1 (t179.length : Int) (IntKind.u64.wrap (t195)) t234 x14_1 (x15_1.set (x16_1 : Int).toNat ((IntKind.u64.wrap (t223 - 1)) % 4294967296)) (wrap64 (x16_1 - 1))) else (none))) = some (r1, r2, r3) := by first | (rw [hy230]; with_reducible exact H) | (have H2_ := (Option.bind_some _ _).symm.trans H; rw [hy230]; with_reducible exact H2_) | (have H2_ := (Option.bind_some _ _).symm.trans H; with_reducible exact H2_) | with_reducible exact H | (rw [hy230]; exact H) | exact H
                           have Ny230 := mk0 hy230
                           clear hy230
                           obtain ⟨t234, A76, H⟩ := bindA H
                           by_cases c77 : x16_1 < (x15_1.length : Int)
                           ·rw [if_pos c77] at H
                            have c77b0 : decide (x16_1 < (x15_1.length : Int)) = true := decide_eq_true c77
                            clear c77
                            obtain ⟨y235, hy235⟩ : ∃ y_ : List Int, y_ = (x15_1.set (x16_1 : Int).toNat ((IntKind.u64.wrap (t223 - 1)) % 4294967296)) := ⟨_, rfl⟩
                            replace H : (nat_DivMod.l0 k1 (t179.length : Int) (IntKind.u64.wrap (t195)) t234 x14_1 y235 (wrap64 (x16_1 - 1))) = some (r1, r2, r3) := by first | (rw [hy235]; with_reducible exact H) | (have H2_ := (Option.bind_some _ _).symm.trans H; rw [hy235]; with_reducible exact H2_) | (have H2_ := (Option.bind_some _ _).symm.trans H; with_reducible exact H2_) | with_reducible exact H | (rw [hy235]; exact H) | exact H
                            have Ny235 := mk0 hy235
                            clear hy235
                            have H' := mk0 H
                            clear H
                            try go_wp2
                            replace HO_13 := mk0 (Kd.R_drew HO_13.out)
                            replace HO_14 := mk0 (Kd.R_drew HO_14.out)
                            replace HO_15 := mk0 (Kd.R_drew HO_15.out)
                            replace HB := mk0 (below_drew1 HB.out)
                            obtain ⟨Ao80, co80, eo80⟩ := Kd.R_slice HO_13.out
                            (first | subst eo80 | (injection eo80 with f1_ f2_ f3_; have f4_ := f1_.symm; have f5_ := f3_.symm; clear f1_ f2_ f3_; subst f4_; subst f5_))
                            have p218 : 0 ≤ ((ji52) : Int) := of_decide_eq_true (by assumption)
                            have q218 : (ji52) < (x13_1.length : Int) := of_decide_eq_true (by assumption)
                            obtain ⟨ad218, e218, hx218_0⟩ := Kd.at_int (Kd.R_reads' HO_13.out).2.2 (ji52) p218 q218
                            cases e218
                            replace p218 := eq_true p218
                            replace q218 := eq_true q218
                            have p219 : 0 ≤ ((ji55) : Int) := of_decide_eq_true (by assumption)
                            have q219 : (ji55) < (x13_1.length : Int) := of_decide_eq_true (by assumption)
                            obtain ⟨ad219, e219, hx219_0⟩ := Kd.at_int (Kd.R_reads' HO_13.out).2.2 (ji55) p219 q219
                            obtain rfl : ad218 = ad219 := (by injection e219)
                            replace p219 := eq_true p219
                            replace q219 := eq_true q219
                            have p220 : 0 ≤ ((ji58) : Int) := of_decide_eq_true (by assumption)
                            have q220 : (ji58) < (x13_1.length : Int) := of_decide_eq_true (by assumption)
                            obtain ⟨ad220, e220, hx220_0⟩ := Kd.at_int (Kd.R_reads' HO_13.out).2.2 (ji58) p220 q220
                            obtain rfl : ad218 = ad220 := (by injection e220)
                            replace p220 := eq_true p220
                            replace q220 := eq_true q220
                            have p221 : 0 ≤ ((ji29) : Int) := of_decide_eq_true (by assumption)
                            have q221 : (ji29) < (x14_1.length : Int) := of_decide_eq_true (by assumption)
                            obtain ⟨ad221, e221, hx221_0⟩ := Kd.at_int (Kd.R_reads' HO_14.out).2.2 (ji29) p221 q221
                            cases e221
                            replace p221 := eq_true p221
                            replace q221 := eq_true q221
                            have p222 : 0 ≤ ((ji64) : Int) := of_decide_eq_true (by assumption)
                            have q222 : (ji64) < (x14_1.length : Int) := of_decide_eq_true (by assumption)
                            obtain ⟨ad222, e222, hx222_0⟩ := Kd.at_int (Kd.R_reads' HO_14.out).2.2 (ji64) p222 q222
                            obtain rfl : ad221 = ad222 := (by injection e222)
                            replace p222 := eq_true p222
                            replace q222 := eq_true q222
                            refine start_ (n := 32) (S := fun w' => w'.cell? (ad218.add ((ji52)).toNat) = some (.int .u32 (rd x13_1 (ji52))) ∧ w'.cell? (ad218.add ((ji55)).toNat) = some (.int .u32 (rd x13_1 (ji55))) ∧ w'.cell? (ad218.add ((ji58)).toNat) = some (.int .u32 (rd x13_1 (ji58))) ∧ w'.cell? (ad221.add ((ji29)).toNat) = some (.int .u32 (rd x14_1 (ji29))) ∧ w'.cell? (ad221.add ((ji64)).toNat) = some (.int .u32 (rd x14_1 (ji64)))) (ds := []) (bv 32 0) (by kernel_rfl) rfl rfl ⟨hx218_0, hx219_0, hx220_0, hx221_0, hx222_0⟩ (fun hHeld => ?_); refine with_tabW nat_DivMod.tab17 nat_DivMod.bits17 (fun HT_ HW_ => ?_)
                            generalize wr.drew = w79 at HO_13 HO_14 HO_15 HB hx218_0 hx219_0 hx220_0 hx221_0 hx222_0 hHeld ⊢
                            refine puA (i := 0) (N := 80) (v := ?_) (a' := ?_) (bv 32 1) HT_ ?_ ?_ ?_; rotate_left; (intro w'; go_simp; with_reducible rfl); rotate_left; (simp only [Act.put, sA, sZ, sS, i64_w, i32_w]; rfl)
                            refine puA (i := 1) (N := 81) (v := ?_) (a' := ?_) (bv 32 3) HT_ ?_ ?_ ?_; rotate_left; (intro w'; go_simp; with_reducible rfl); rotate_left; (simp only [Act.put, sA, sZ, sS, i64_w, i32_w]; rfl)
                            refine puA (i := 2) (N := 82) (v := ?_) (a' := ?_) (bv 32 7) HT_ ?_ ?_ ?_; rotate_left; (intro w'; go_simp; with_reducible rfl); rotate_left; (simp only [Act.put, sA, sZ, sS, i64_w, i32_w]; rfl)
                            refine puA (i := 3) (N := 83) (v := ?_) (a' := ?_) (bv 32 15) HT_ ?_ ?_ ?_; rotate_left; (intro w'; go_simp; with_reducible rfl); rotate_left; (simp only [Act.put, sA, sZ, sS, i64_w, i32_w]; rfl)
                            refine puA (i := 4) (N := 84) (v := ?_) (a' := ?_) (bv 32 31) HT_ ?_ ?_ ?_; rotate_left; (intro w'; go_simp; with_reducible rfl); rotate_left; (simp only [Act.put, sA, sZ, sS, i64_w, i32_w]; rfl)
                            refine puA (i := 6) (N := 86) (v := ?_) (a' := ?_) (bv 32 95) HT_ ?_ ?_ ?_; rotate_left; (intro w'; go_simp; with_reducible rfl); rotate_left; (simp only [Act.put, sA, sZ, sS, i64_w, i32_w]; rfl)
                            refine puA (i := 7) (N := 87) (v := ?_) (a' := ?_) (bv 32 223) HT_ ?_ ?_ ?_; rotate_left; (intro w'; go_simp; with_reducible rfl); rotate_left; (simp only [Act.put, sA, sZ, sS, i64_w, i32_w]; rfl)
                            refine puA (i := 8) (N := 88) (v := ?_) (a' := ?_) (bv 32 479) HT_ ?_ ?_ ?_; rotate_left; (intro w'; go_simp; with_reducible rfl); rotate_left; (simp only [Act.put, sA, sZ, sS, i64_w, i32_w]; rfl)
                            refine puA (i := 9) (N := 89) (v := ?_) (a' := ?_) (bv 32 991) HT_ ?_ ?_ ?_; rotate_left; (intro w'; go_simp; with_reducible rfl); rotate_left; (simp only [Act.put, sA, sZ, sS, i64_w, i32_w]; rfl)
                            refine puA (i := 10) (N := 90) (v := ?_) (a' := ?_) (bv 32 2015) HT_ ?_ ?_ ?_; rotate_left; (intro w'; go_simp; with_reducible rfl); rotate_left; (simp only [Act.put, sA, sZ, sS, i64_w, i32_w]; rfl)
                            refine puA (i := 11) (N := 91) (v := ?_) (a' := ?_) (bv 32 4063) HT_ ?_ ?_ ?_; rotate_left; (intro w'; go_simp; with_reducible rfl); rotate_left; (simp only [Act.put, sA, sZ, sS, i64_w, i32_w]; rfl)
                            refine puA (i := 13) (N := 93) (v := ?_) (a' := ?_) (bv 32 12255) HT_ ?_ ?_ ?_; rotate_left; (intro w'; go_simp; with_reducible rfl); rotate_left; (simp only [Act.put, sA, sZ, sS, i64_w, i32_w]; rfl)
                            refine puA (i := 14) (N := 94) (v := ?_) (a' := ?_) (bv 32 28639) HT_ ?_ ?_ ?_; rotate_left; (intro w'; go_simp; with_reducible rfl); rotate_left; (simp only [Act.put, sA, sZ, sS, i64_w, i32_w]; rfl)
                            refine puA (i := 15) (N := 95) (v := ?_) (a' := ?_) (bv 32 61407) HT_ ?_ ?_ ?_; rotate_left; (intro w'; go_simp; with_reducible rfl); rotate_left; (simp only [Act.put, sA, sZ, sS, i64_w, i32_w]; rfl)
                            refine puA (i := 16) (N := 96) (v := ?_) (a' := ?_) (bv 32 126943) HT_ ?_ ?_ ?_; rotate_left; (intro w'; go_simp; with_reducible rfl); rotate_left; (simp only [Act.put, sA, sZ, sS, i64_w, i32_w]; rfl)
                            refine puA (i := 17) (N := 97) (v := ?_) (a' := ?_) (bv 32 258015) HT_ ?_ ?_ ?_; rotate_left; (intro w'; go_simp; with_reducible rfl); rotate_left; (simp only [Act.put, sA, sZ, sS, i64_w, i32_w]; rfl)
                            refine puA (i := 18) (N := 98) (v := ?_) (a' := ?_) (bv 32 520159) HT_ ?_ ?_ ?_; rotate_left; (intro w'; go_simp; with_reducible rfl); rotate_left; (simp only [Act.put, sA, sZ, sS, i64_w, i32_w]; rfl)
                            refine puA (i := 20) (N := 100) (v := ?_) (a' := ?_) (bv 32 1568735) HT_ ?_ ?_ ?_; rotate_left; (intro w'; go_simp; with_reducible rfl); rotate_left; (simp only [Act.put, sA, sZ, sS, i64_w, i32_w]; rfl)
                            refine puA (i := 21) (N := 101) (v := ?_) (a' := ?_) (bv 32 3665887) HT_ ?_ ?_ ?_; rotate_left; (intro w'; go_simp; with_reducible rfl); rotate_left; (simp only [Act.put, sA, sZ, sS, i64_w, i32_w]; rfl)
                            refine puA (i := 22) (N := 102) (v := ?_) (a' := ?_) (bv 32 7860191) HT_ ?_ ?_ ?_; rotate_left; (intro w'; go_simp; with_reducible rfl); rotate_left; (simp only [Act.put, sA, sZ, sS, i64_w, i32_w]; rfl)
                            refine puA (i := 23) (N := 103) (v := ?_) (a' := ?_) (bv 32 16248799) HT_ ?_ ?_ ?_; rotate_left; (intro w'; go_simp; with_reducible rfl); rotate_left; (simp only [Act.put, sA, sZ, sS, i64_w, i32_w]; rfl)
                            refine puA (i := 25) (N := 105) (v := ?_) (a' := ?_) (bv 32 49803231) HT_ ?_ ?_ ?_; rotate_left; (intro w'; go_simp; with_reducible rfl); rotate_left; (simp only [Act.put, sA, sZ, sS, i64_w, i32_w]; rfl)
                            refine puA (i := 26) (N := 106) (v := ?_) (a' := ?_) (bv 32 116912095) HT_ ?_ ?_ ?_; rotate_left; (intro w'; go_simp; with_reducible rfl); rotate_left; (simp only [Act.put, sA, sZ, sS, i64_w, i32_w]; rfl)
                            refine puA (i := 27) (N := 107) (v := ?_) (a' := ?_) (bv 32 251129823) HT_ ?_ ?_ ?_; rotate_left; (intro w'; go_simp; with_reducible rfl); rotate_left; (simp only [Act.put, sA, sZ, sS, i64_w, i32_w]; rfl)
                            refine puA (i := 28) (N := 108) (v := ?_) (a' := ?_) (bv 32 519565279) HT_ ?_ ?_ ?_; rotate_left; (intro w'; go_simp; with_reducible rfl); rotate_left; (simp only [Act.put, sA, sZ, sS, i64_w, i32_w]; rfl)
                            refine take_ (i := 5) (N := some 85) (v := ?_) (a' := ?_) (bv 32 519565311) rfl rfl (take_ofW HT_.out HW_.out (by kernel_rfl)) (fun _ _ _ h => h) (Or.inl ⟨by rfl, ?_⟩) hHeld ?_ ?_; rotate_left; (rintro w' ⟨s0, s1, s2, s3, s4⟩; go_simp; with_reducible rfl); rotate_left; (simp only [Act.put, sA, sZ, sS, i64_w, i32_w]; rfl)
                            refine take_ (i := 12) (N := some 92) (v := ?_) (a' := ?_) (bv 32 519569407) rfl rfl (take_ofW HT_.out HW_.out (by kernel_rfl)) (fun _ _ _ h => h) (Or.inl ⟨by rfl, ?_⟩) hHeld ?_ ?_; rotate_left; (rintro w' ⟨s0, s1, s2, s3, s4⟩; go_simp; with_reducible rfl); rotate_left; (simp only [Act.put, sA, sZ, sS, i64_w, i32_w]; rfl)
                            refine take_ (i := 19) (N := some 99) (v := ?_) (a' := ?_) (bv 32 520093695) rfl rfl (take_ofW HT_.out HW_.out (by kernel_rfl)) (fun _ _ _ h => h) (Or.inl ⟨by rfl, ?_⟩) hHeld ?_ ?_; rotate_left; (rintro w' ⟨s0, s1, s2, s3, s4⟩; go_simp; with_reducible rfl); rotate_left; (simp only [Act.put, sA, sZ, sS, i64_w, i32_w]; rfl)
                            refine take_ (i := 24) (N := some 104) (v := ?_) (a' := ?_) (bv 32 536870911) rfl rfl (take_ofW HT_.out HW_.out (by kernel_rfl)) (fun _ _ _ h => h) (Or.inl ⟨by rfl, ?_⟩) hHeld ?_ ?_; rotate_left; (rintro w' ⟨s0, s1, s2, s3, s4⟩; go_simp; with_reducible rfl); rotate_left; (simp only [Act.put, sA, sZ, sS, i64_w, i32_w]; rfl)
                            refine take_ (i := 29) (N := some 109) (v := ?_) (a' := ?_) (bv 32 1073741823) rfl rfl (take_ofW HT_.out HW_.out (by kernel_rfl)) (fun _ _ _ h => h) (Or.inl ⟨by rfl, ?_⟩) hHeld ?_ ?_; rotate_left; (rintro w' ⟨s0, s1, s2, s3, s4⟩; go_simp; with_reducible rfl); rotate_left; (simp only [Act.put, sA, sZ, sS, i64_w, i32_w]; rfl)
                            refine one_ (i := 30) (N := some 110) (bv 32 2147483647) rfl rfl (one_of HT_.out (by kernel_rfl)) (by decide) (fun K hK => ?_)
                            refine goes_ Try.func110 (by kernel_rfl) rfl #[.int .u32 (rd x13_1 (ji52)), .int .u32 (rd x13_1 (ji55)), .int .u32 (rd x13_1 (ji58)), .int .u32 (rd x14_1 (ji29)), .int .u32 (rd x14_1 (ji64))] (by rfl) rfl rfl (by (try simp only [mA, mC, mN]); first | done | (simp only [hji52, hji55, hji58, hji61, hji64]; rfl) | rfl | (simp only [lD, lT]; rfl)) ?_
                            with_reducible refine (nat_guess.calls k1 (rd x13_1 (ji52)) (rd x13_1 (ji55)) (rd x13_1 (ji58)) (rd x14_1 (ji29)) (rd x14_1 (ji64)) t223 _ A67.out).mono ?_
                            rintro e w' ⟨rfl, ⟨nd, rfl⟩⟩
                            refine ⟨_, rfl, ?_⟩
                            refine hK.out _ _ ⟨hHeld.1, hHeld.2.1, hHeld.2.2.1, hHeld.2.2.2.1, hHeld.2.2.2.2⟩ (fun hHeld => ?_)
                            clear hK K
                            refine norm_ (a' := ?_) ?_ ?_
                            rotate_left
                            ·show Act.put _ (some 110) _ = _
                             simp only [Act.put, sA, sZ, sS, i64_w, i32_w]
                             rfl
                            refine puA (i := 31) (N := 17) (v := ?_) (a' := ?_) (bv 32 4294967295) HT_ ?_ ?_ ?_; rotate_left; (intro w'; go_simp; with_reducible rfl); rotate_left; (simp only [Act.put, sA, sZ, sS, i64_w, i32_w]; rfl)
                            refine done_ (done_of HT_.out (by kernel_rfl)) ?_
                            have q81 : ((wrap64 ((ji52) + 1)) : Int) ≤ ((x13_1.length : Int) : Int) := of_decide_eq_true (by assumption)
                            obtain ⟨i081, hi081, _, hsz81, _⟩ := info_parts info87
                            have hroom81 : x13_1.length ≤ co80 := (Kd.R_reads' HO_13.out).2.1
                            have hC81 : Kd.C (Kd.int .u32) _ (some ad218) x13_1.length x13_1 := (Kd.R_reads' HO_13.out).2.2
                            have ql81 : (x16_1 : Int) ≤ ((wrap64 ((ji52) + 1)) : Int) := of_decide_eq_true (by assumption)
                            have q081 : (0 : Int) ≤ (x16_1 : Int) := of_decide_eq_true (by assumption)
                            have hcut81 := cut_mid (P := Try.prog) 25 87 .i64 .i64 Try.underlying25 hi081 1 hsz81 (some ad218) x13_1.length co80 x16_1 (wrap64 ((ji52) + 1)) q081 ql81 q81 hroom81
                            have hr81 := Kd.C_mid (lo := (x16_1 : Int).toNat) (hi := ((wrap64 ((ji52) + 1)) : Int).toNat) (c := co80) hC81 (by omega) (by omega) hroom81
                            obtain ⟨A81, hA81⟩ : ∃ A1, A1 = (if co80 = (x16_1 : Int).toNat then (some ad218) else ((some ad218) : Option Addr).map (·.add ((x16_1 : Int).toNat * 1))) := ⟨_, rfl⟩
                            obtain ⟨c81, hc81⟩ : ∃ c1, c1 = co80 - (x16_1 : Int).toNat := ⟨_, rfl⟩
                            have hy81 : y224.length = ((wrap64 ((ji52) + 1)) : Int).toNat - (x16_1 : Int).toNat := (by rw [Ny224.out, lD, lT] <;> omega)
                            rw [show ((x13_1).take ((wrap64 ((ji52) + 1)) : Int).toNat).drop (x16_1 : Int).toNat = y224 from Ny224.out.symm] at hr81
                            replace hr81 : Kd.C (Kd.int .u32) _ A81 y224.length y224 := (by rw [hA81]; exact hr81)
                            rw [← hy81, ← hA81, ← hc81] at hcut81
                            have HR227 := mk0 hr81
                            have HC227 := mk0 (show y224.length ≤ c81 from by rw [hy81, hc81]; exact Nat.sub_le_sub_right (Nat.le_trans (by omega) hroom81) _)
                            clear hr81 hC81 hroom81 hi081 hsz81 hc81
                            have KY81 := mk0 hy81
                            have KA81 := mk0 hA81
                            clear hy81 hA81
                            have KL81 := mk0 (show ((wrap64 ((ji52) + 1)) : Int).toNat ≤ x13_1.length from by omega)
                            have KM81 := mk0 (show (x16_1 : Int).toNat ≤ ((wrap64 ((ji52) + 1)) : Int).toNat from by omega)
                            replace q81 := eq_true q81
                            try go_wp2_with (first | ((with_reducible refine gate_callee (f := 111) rfl ?_); refine goesL_ (some 120) rfl rfl Try.func111 (by kernel_rfl) rfl #[.slice A81 y224.length c81, .slice (some ad221) x14_1.length co47, .int .u64 t223] rfl (by go_simp <;> rfl) ?_; (with_reducible refine (nat_subtract.calls k1 (fun k_ => some k_ = (.slice (some ad218) x13_1.length co80 : Value).ownBlock) (.slice (some ad218) x13_1.length co80) x13_1 x16_1 (wrap64 ((ji52) + 1)) A81 _ c81 _ _ x14_1 t223 true t229 w _ ?side1 ?side2 ?side3 ?side4 ?side5 ?side6 A71.out).mono ?_); (case side1 => repeat (first | (with_reducible first | exact HB.out | apply below_alloc | apply pw_below_drewN | apply below_drew1) | exact HB.out)); (case side2 => exact Kd.R_tight rfl HO_13.out); (case side3 => intro _ _ _ e_; cases e_; exact KA81.out); (case side4 => exact KY81.out); (case side5 => exact Kd.C_kept_own (HO_14.out) (fun k_ hk_ hs_ => (hk_.2.1) hs_)); (case side6 => exact (Kd.R_reads' HO_14.out).2.1); rintro e w82 ⟨rfl, hy0, hb, hkp⟩; refine ⟨_, rfl, ?_⟩; replace HO_13 := mk0 (Kd.R_reok rfl hy0 (fun k_ e_ => HO_13.out.1 k_ e_)); replace HO_14 := mk0 (Kd.R_mono (ok' := fun k_ => (w.heap.size ≤ k_) ∧ some k_ ≠ (.slice (some ad218) x13_1.length co80 : Value).ownBlock ∧ some k_ ≠ (v206 : Value).ownBlock) (Kd.R_keptB (HO_14.out) hkp (fun k_ hk_ hs_ => (hk_.2.1) hs_)) (fun k_ hk_ => ⟨hk_.1.1, hk_.1.2.1, hk_.1.2.2⟩)); replace HO_15 := mk0 (Kd.R_mono (ok' := fun k_ => (w.heap.size ≤ k_) ∧ some k_ ≠ (.slice (some ad218) x13_1.length co80 : Value).ownBlock ∧ some k_ ≠ (.slice (some ad221) x14_1.length co47 : Value).ownBlock) (Kd.R_keptB (HO_15.out) hkp (fun k_ hk_ hs_ => (hk_.2.1) hs_)) (fun k_ hk_ => ⟨hk_.1.1, hk_.1.2.1, hk_.1.2.2⟩)); replace HB := mk0 (hb); (try clear hkp); (try clear hy0); have hlx83 := (Kd.R_reads' HO_13.out).1; have q83 : ((wrap64 ((ji52) + 1)) : Int) ≤ ((x13_1.length : Int) : Int) := of_decide_eq_true (by assumption); obtain ⟨i083, hi083, _, hsz83, _⟩ := info_parts info87; have hroom83 : x13_1.length ≤ co80 := (Kd.R_reads' HO_13.out).2.1; have hroomc83 : t229.length ≤ co80 := (by rw [← hlx83]; exact hroom83); have hC83 : Kd.C (Kd.int .u32) _ (some ad218) t229.length t229 := (Kd.R_reads' HO_13.out).2.2; have ql83 : (x16_1 : Int) ≤ ((wrap64 ((ji52) + 1)) : Int) := of_decide_eq_true (by assumption); have q083 : (0 : Int) ≤ (x16_1 : Int) := of_decide_eq_true (by assumption); have hcut83 := cut_mid (P := Try.prog) 25 87 .i64 .i64 Try.underlying25 hi083 1 hsz83 (some ad218) x13_1.length co80 x16_1 (wrap64 ((ji52) + 1)) q083 ql83 q83 hroom83; have hr83 := Kd.C_mid (lo := (x16_1 : Int).toNat) (hi := ((wrap64 ((ji52) + 1)) : Int).toNat) (c := co80) hC83 (by omega) (by omega) hroomc83; obtain ⟨A83, hA83⟩ : ∃ A1, A1 = (if co80 = (x16_1 : Int).toNat then (some ad218) else ((some ad218) : Option Addr).map (·.add ((x16_1 : Int).toNat * 1))) := ⟨_, rfl⟩; obtain ⟨c83, hc83⟩ : ∃ c1, c1 = co80 - (x16_1 : Int).toNat := ⟨_, rfl⟩; have hy83 : y230.length = ((wrap64 ((ji52) + 1)) : Int).toNat - (x16_1 : Int).toNat := (by rw [Ny230.out, lD, lT] <;> omega); rw [show ((t229).take ((wrap64 ((ji52) + 1)) : Int).toNat).drop (x16_1 : Int).toNat = y230 from Ny230.out.symm] at hr83; replace hr83 : Kd.C (Kd.int .u32) _ A83 y230.length y230 := (by rw [hA83]; exact hr83); rw [← hy83, ← hA83, ← hc83] at hcut83; have HR233 := mk0 hr83; have HC233 := mk0 (show y230.length ≤ c83 from by rw [hy83, hc83]; exact Nat.sub_le_sub_right (Nat.le_trans (by omega) hroom83) _); clear hr83 hC83 hroom83 hi083 hsz83 hc83 hroomc83; have KY83 := mk0 hy83; have KA83 := mk0 hA83; clear hy83 hA83; have KE83 := mk0 hlx83; have KL83 := mk0 (show ((wrap64 ((ji52) + 1)) : Int).toNat ≤ t229.length from by omega); have KM83 := mk0 (show (x16_1 : Int).toNat ≤ ((wrap64 ((ji52) + 1)) : Int).toNat from by omega); clear hlx83; replace q83 := eq_true q83) | ((with_reducible refine gate_callee (f := 112) rfl ?_); refine goesL_ (some 131) rfl rfl Try.func112 (by kernel_rfl) rfl #[.slice A81 y224.length c81, .slice (some ad221) x14_1.length co47] rfl (by (try simp only [mA, mC, mN, hl14_1]); first | done | rfl | (simp only [lD, lT]; rfl)) ?_; (with_reducible refine (nat_addBack.calls k1 (fun k_ => some k_ = (.slice (some ad218) x13_1.length co80 : Value).ownBlock) (.slice (some ad218) x13_1.length co80) t229 x16_1 (wrap64 ((ji52) + 1)) A81 _ c81 _ _ x14_1 t234 w _ ?side1 ?side2 ?side3 ?side4 ?side5 ?side6 A76.out).mono ?_); (case side1 => repeat (first | (with_reducible first | exact HB.out | apply below_alloc | apply pw_below_drewN | apply below_drew1) | exact HB.out)); (case side2 => exact Kd.R_tight rfl HO_13.out); (case side3 => intro _ _ _ e_; cases e_; exact KA81.out); (case side4 => exact KY81.out); (case side5 => exact Kd.C_kept_own (HO_14.out) (fun k_ hk_ hs_ => (hk_.2.1) hs_)); (case side6 => exact (Kd.R_reads' HO_14.out).2.1); rintro e w84 ⟨rfl, hy0, hb, hkp⟩; refine ⟨_, rfl, ?_⟩; replace HO_13 := mk0 (Kd.R_reok rfl hy0 (fun k_ e_ => HO_13.out.1 k_ e_)); replace HO_14 := mk0 (Kd.R_mono (ok' := fun k_ => (w.heap.size ≤ k_) ∧ some k_ ≠ (.slice (some ad218) x13_1.length co80 : Value).ownBlock ∧ some k_ ≠ (v206 : Value).ownBlock) (Kd.R_keptB (HO_14.out) hkp (fun k_ hk_ hs_ => (hk_.2.1) hs_)) (fun k_ hk_ => ⟨hk_.1.1, hk_.1.2.1, hk_.1.2.2⟩)); replace HO_15 := mk0 (Kd.R_mono (ok' := fun k_ => (w.heap.size ≤ k_) ∧ some k_ ≠ (.slice (some ad218) x13_1.length co80 : Value).ownBlock ∧ some k_ ≠ (.slice (some ad221) x14_1.length co47 : Value).ownBlock) (Kd.R_keptB (HO_15.out) hkp (fun k_ hk_ hs_ => (hk_.2.1) hs_)) (fun k_ hk_ => ⟨hk_.1.1, hk_.1.2.1, hk_.1.2.2⟩)); replace HB := mk0 (hb); (try clear hkp); (try clear hy0); have p78 : 0 ≤ (x16_1 : Int) := of_decide_eq_true (by assumption); have q78 : (x16_1 : Int) < ((x15_1.length : Int) : Int) := of_decide_eq_true (by assumption); obtain ⟨go78, co78, eo78, gb78, gl78, cl78, HG78⟩ := Kd.R_form HO_15.out (by omega); (first | cases eo78 | (injection eo78 with ea_ en_ ec_; (first | subst ea_ | (injection ea_ with ea_; subst ea_)); subst ec_; clear en_)); have GB78 := mk0 gb78; have GG78 := mk0 HG78; clear gb78 gl78 HG78; obtain ⟨hx78_0, hf78_0⟩ := Kd.R_celln 0 HO_15.out (x16_1 : Int) p78 q78; replace p78 := eq_true p78; replace q78 := eq_true q78; obtain ⟨hy85_, hz85_⟩ := Kd.R_celln 0 HO_15.out (x16_1 : Int) (of_decide_eq_true (by assumption)) (of_decide_eq_true (by assumption)); have HP85 := Kd.R_putg HO_15.out (x16_1 : Int) ((IntKind.u64.wrap (t223 - 1)) % 4294967296)) | ((with_reducible refine gate_store (t := 87) (p := 136) rfl ?_); refine store_event (t := 87) (p := 136) (v := ?vo_w86) (w1 := (w84.setCell ⟨go78, (x16_1 : Int).toNat, none⟩ (.int .u32 ((IntKind.u64.wrap (t223 - 1)) % 4294967296)))) ?hg ?ho ?hn ?hr ?_; (case ho => rfl); (case hg => rfl); (case hn => rfl); (case hr => go_simp <;> rfl); intro w86 hw; have hg : w84.grownBy w86 (some go78) := (by rw [hw]; exact HP85.2); have hp_ : Kd.R (Kd.int .u32) 87 w86 w.heap.size (fun k_ => (w.heap.size ≤ k_) ∧ some k_ ≠ (.slice (some ad218) x13_1.length co80 : Value).ownBlock ∧ some k_ ≠ (.slice (some ad221) x14_1.length co47 : Value).ownBlock) (.slice (some ⟨go78, 0, none⟩) x15_1.length co78) y235 := (by rw [hw, Ny235.out]; exact HP85.1); clear HP85; replace HO_13 := mk0 (Kd.R_after (v := (.slice (some ⟨go78, 0, none⟩) x15_1.length co78)) (v1 := (.slice (some ⟨go78, 0, none⟩) x15_1.length co78)) (ok := (fun k_ => (w.heap.size ≤ k_) ∧ some k_ ≠ (.slice (some ad221) x14_1.length co47 : Value).ownBlock)) (by (with_reducible repeat apply Kd.R_drewN); exact Kd.R_mono HO_13.out (fun _ hk => ⟨⟨hk.1, hk.2.1⟩, hk.2.2⟩)) hg (.inl rfl)); replace HO_14 := mk0 (Kd.R_after (v := (.slice (some ⟨go78, 0, none⟩) x15_1.length co78)) (v1 := (.slice (some ⟨go78, 0, none⟩) x15_1.length co78)) (ok := (fun k_ => (w.heap.size ≤ k_) ∧ some k_ ≠ (.slice (some ad218) x13_1.length co80 : Value).ownBlock)) (by (with_reducible repeat apply Kd.R_drewN); exact Kd.R_mono HO_14.out (fun _ hk => ⟨⟨hk.1, hk.2.1⟩, hk.2.2⟩)) hg (.inl rfl)); replace HO_15 := mk0 (hp_); replace HB := mk0 ((by rw [hw]; exact below_set (HB.out) GB78.out : Below w.heap.size w w86)); clear hg hw hp_))
                            (try simp only [← hl14_1])
                            go_roundg k1
                            case measure => have := HK1.out; omega
                            case rel => exact ⟨(t234), (x14_1), (y235), (wrap64 (x16_1 - 1)), (by first | rfl | (simp; done) | (simp [*]; done)), H', ⟨by have := HK1.out; omega⟩, ⟨by (try simp only [hl14_1]); (with_reducible repeat apply Kd.R_drewN); exact Kd.R_mono HO_13.out (fun _ hk => ⟨hk.1.1, ⟨hk.1.2, hk.2⟩⟩)⟩, ⟨by (try simp only [hl14_1]); (with_reducible repeat apply Kd.R_drewN); exact Kd.R_mono HO_14.out (fun _ hk => ⟨hk.1.1, ⟨hk.1.2, hk.2⟩⟩)⟩, ⟨by (try simp only [hl14_1]); (with_reducible repeat apply Kd.R_drewN); exact HO_15.out⟩, ⟨by repeat (first | exact HB.out | apply pw_below_drewN | apply below_drew1 | apply below_alloc)⟩⟩
                           ·rw [if_neg c77] at H
                            exact absurd H (by simp)
                          ·replace c72 := Bool.eq_false_iff.mpr c72
                           subst c72
                           have H1 : (if x16_1 < (x15_1.length : Int) then (nat_DivMod.l0 k1 (t179.length : Int) (IntKind.u64.wrap (t195)) t229 x14_1 (x15_1.set (x16_1 : Int).toNat ((t223) % 4294967296)) (wrap64 (x16_1 - 1))) else (none)) = some (r1, r2, r3) := by rw [if_neg (show ¬ (false = true) by decide)] at H; exact H
                           clear H
                           have H := H1
                           clear H1
                           by_cases c87 : x16_1 < (x15_1.length : Int)
                           ·rw [if_pos c87] at H
                            have c87b0 : decide (x16_1 < (x15_1.length : Int)) = true := decide_eq_true c87
                            clear c87
                            obtain ⟨y236, hy236⟩ : ∃ y_ : List Int, y_ = (x15_1.set (x16_1 : Int).toNat ((t223) % 4294967296)) := ⟨_, rfl⟩
                            replace H : (nat_DivMod.l0 k1 (t179.length : Int) (IntKind.u64.wrap (t195)) t229 x14_1 y236 (wrap64 (x16_1 - 1))) = some (r1, r2, r3) := by first | (rw [hy236]; with_reducible exact H) | (have H2_ := (Option.bind_some _ _).symm.trans H; rw [hy236]; with_reducible exact H2_) | (have H2_ := (Option.bind_some _ _).symm.trans H; with_reducible exact H2_) | with_reducible exact H | (rw [hy236]; exact H) | exact H
                            have Ny236 := mk0 hy236
                            clear hy236
                            have H' := mk0 H
                            clear H
                            try go_wp2
                            replace HO_13 := mk0 (Kd.R_drew HO_13.out)
                            replace HO_14 := mk0 (Kd.R_drew HO_14.out)
                            replace HO_15 := mk0 (Kd.R_drew HO_15.out)
                            replace HB := mk0 (below_drew1 HB.out)
                            obtain ⟨Ao90, co90, eo90⟩ := Kd.R_slice HO_13.out
                            (first | subst eo90 | (injection eo90 with f1_ f2_ f3_; have f4_ := f1_.symm; have f5_ := f3_.symm; clear f1_ f2_ f3_; subst f4_; subst f5_))
                            have p218 : 0 ≤ ((ji52) : Int) := of_decide_eq_true (by assumption)
                            have q218 : (ji52) < (x13_1.length : Int) := of_decide_eq_true (by assumption)
                            obtain ⟨ad218, e218, hx218_0⟩ := Kd.at_int (Kd.R_reads' HO_13.out).2.2 (ji52) p218 q218
                            cases e218
                            replace p218 := eq_true p218
                            replace q218 := eq_true q218
                            have p219 : 0 ≤ ((ji55) : Int) := of_decide_eq_true (by assumption)
                            have q219 : (ji55) < (x13_1.length : Int) := of_decide_eq_true (by assumption)
                            obtain ⟨ad219, e219, hx219_0⟩ := Kd.at_int (Kd.R_reads' HO_13.out).2.2 (ji55) p219 q219
                            obtain rfl : ad218 = ad219 := (by injection e219)
                            replace p219 := eq_true p219
                            replace q219 := eq_true q219
                            have p220 : 0 ≤ ((ji58) : Int) := of_decide_eq_true (by assumption)
                            have q220 : (ji58) < (x13_1.length : Int) := of_decide_eq_true (by assumption)
                            obtain ⟨ad220, e220, hx220_0⟩ := Kd.at_int (Kd.R_reads' HO_13.out).2.2 (ji58) p220 q220
                            obtain rfl : ad218 = ad220 := (by injection e220)
                            replace p220 := eq_true p220
                            replace q220 := eq_true q220
                            have p221 : 0 ≤ ((ji29) : Int) := of_decide_eq_true (by assumption)
                            have q221 : (ji29) < (x14_1.length : Int) := of_decide_eq_true (by assumption)
                            obtain ⟨ad221, e221, hx221_0⟩ := Kd.at_int (Kd.R_reads' HO_14.out).2.2 (ji29) p221 q221
                            cases e221
                            replace p221 := eq_true p221
                            replace q221 := eq_true q221
                            have p222 : 0 ≤ ((ji64) : Int) := of_decide_eq_true (by assumption)
                            have q222 : (ji64) < (x14_1.length : Int) := of_decide_eq_true (by assumption)
                            obtain ⟨ad222, e222, hx222_0⟩ := Kd.at_int (Kd.R_reads' HO_14.out).2.2 (ji64) p222 q222
                            obtain rfl : ad221 = ad222 := (by injection e222)
                            replace p222 := eq_true p222
                            replace q222 := eq_true q222
                            refine start_ (n := 32) (S := fun w' => w'.cell? (ad218.add ((ji52)).toNat) = some (.int .u32 (rd x13_1 (ji52))) ∧ w'.cell? (ad218.add ((ji55)).toNat) = some (.int .u32 (rd x13_1 (ji55))) ∧ w'.cell? (ad218.add ((ji58)).toNat) = some (.int .u32 (rd x13_1 (ji58))) ∧ w'.cell? (ad221.add ((ji29)).toNat) = some (.int .u32 (rd x14_1 (ji29))) ∧ w'.cell? (ad221.add ((ji64)).toNat) = some (.int .u32 (rd x14_1 (ji64)))) (ds := []) (bv 32 0) (by kernel_rfl) rfl rfl ⟨hx218_0, hx219_0, hx220_0, hx221_0, hx222_0⟩ (fun hHeld => ?_); refine with_tabW nat_DivMod.tab17 nat_DivMod.bits17 (fun HT_ HW_ => ?_)
                            generalize wr.drew = w89 at HO_13 HO_14 HO_15 HB hx218_0 hx219_0 hx220_0 hx221_0 hx222_0 hHeld ⊢
                            refine puA (i := 0) (N := 80) (v := ?_) (a' := ?_) (bv 32 1) HT_ ?_ ?_ ?_; rotate_left; (intro w'; go_simp; with_reducible rfl); rotate_left; (simp only [Act.put, sA, sZ, sS, i64_w, i32_w]; rfl)
                            refine puA (i := 1) (N := 81) (v := ?_) (a' := ?_) (bv 32 3) HT_ ?_ ?_ ?_; rotate_left; (intro w'; go_simp; with_reducible rfl); rotate_left; (simp only [Act.put, sA, sZ, sS, i64_w, i32_w]; rfl)
                            refine puA (i := 2) (N := 82) (v := ?_) (a' := ?_) (bv 32 7) HT_ ?_ ?_ ?_; rotate_left; (intro w'; go_simp; with_reducible rfl); rotate_left; (simp only [Act.put, sA, sZ, sS, i64_w, i32_w]; rfl)
                            refine puA (i := 3) (N := 83) (v := ?_) (a' := ?_) (bv 32 15) HT_ ?_ ?_ ?_; rotate_left; (intro w'; go_simp; with_reducible rfl); rotate_left; (simp only [Act.put, sA, sZ, sS, i64_w, i32_w]; rfl)
                            refine puA (i := 4) (N := 84) (v := ?_) (a' := ?_) (bv 32 31) HT_ ?_ ?_ ?_; rotate_left; (intro w'; go_simp; with_reducible rfl); rotate_left; (simp only [Act.put, sA, sZ, sS, i64_w, i32_w]; rfl)
                            refine puA (i := 6) (N := 86) (v := ?_) (a' := ?_) (bv 32 95) HT_ ?_ ?_ ?_; rotate_left; (intro w'; go_simp; with_reducible rfl); rotate_left; (simp only [Act.put, sA, sZ, sS, i64_w, i32_w]; rfl)
                            refine puA (i := 7) (N := 87) (v := ?_) (a' := ?_) (bv 32 223) HT_ ?_ ?_ ?_; rotate_left; (intro w'; go_simp; with_reducible rfl); rotate_left; (simp only [Act.put, sA, sZ, sS, i64_w, i32_w]; rfl)
                            refine puA (i := 8) (N := 88) (v := ?_) (a' := ?_) (bv 32 479) HT_ ?_ ?_ ?_; rotate_left; (intro w'; go_simp; with_reducible rfl); rotate_left; (simp only [Act.put, sA, sZ, sS, i64_w, i32_w]; rfl)
                            refine puA (i := 9) (N := 89) (v := ?_) (a' := ?_) (bv 32 991) HT_ ?_ ?_ ?_; rotate_left; (intro w'; go_simp; with_reducible rfl); rotate_left; (simp only [Act.put, sA, sZ, sS, i64_w, i32_w]; rfl)
                            refine puA (i := 10) (N := 90) (v := ?_) (a' := ?_) (bv 32 2015) HT_ ?_ ?_ ?_; rotate_left; (intro w'; go_simp; with_reducible rfl); rotate_left; (simp only [Act.put, sA, sZ, sS, i64_w, i32_w]; rfl)
                            refine puA (i := 11) (N := 91) (v := ?_) (a' := ?_) (bv 32 4063) HT_ ?_ ?_ ?_; rotate_left; (intro w'; go_simp; with_reducible rfl); rotate_left; (simp only [Act.put, sA, sZ, sS, i64_w, i32_w]; rfl)
                            refine puA (i := 13) (N := 93) (v := ?_) (a' := ?_) (bv 32 12255) HT_ ?_ ?_ ?_; rotate_left; (intro w'; go_simp; with_reducible rfl); rotate_left; (simp only [Act.put, sA, sZ, sS, i64_w, i32_w]; rfl)
                            refine puA (i := 14) (N := 94) (v := ?_) (a' := ?_) (bv 32 28639) HT_ ?_ ?_ ?_; rotate_left; (intro w'; go_simp; with_reducible rfl); rotate_left; (simp only [Act.put, sA, sZ, sS, i64_w, i32_w]; rfl)
                            refine puA (i := 15) (N := 95) (v := ?_) (a' := ?_) (bv 32 61407) HT_ ?_ ?_ ?_; rotate_left; (intro w'; go_simp; with_reducible rfl); rotate_left; (simp only [Act.put, sA, sZ, sS, i64_w, i32_w]; rfl)
                            refine puA (i := 16) (N := 96) (v := ?_) (a' := ?_) (bv 32 126943) HT_ ?_ ?_ ?_; rotate_left; (intro w'; go_simp; with_reducible rfl); rotate_left; (simp only [Act.put, sA, sZ, sS, i64_w, i32_w]; rfl)
                            refine puA (i := 17) (N := 97) (v := ?_) (a' := ?_) (bv 32 258015) HT_ ?_ ?_ ?_; rotate_left; (intro w'; go_simp; with_reducible rfl); rotate_left; (simp only [Act.put, sA, sZ, sS, i64_w, i32_w]; rfl)
                            refine puA (i := 18) (N := 98) (v := ?_) (a' := ?_) (bv 32 520159) HT_ ?_ ?_ ?_; rotate_left; (intro w'; go_simp; with_reducible rfl); rotate_left; (simp only [Act.put, sA, sZ, sS, i64_w, i32_w]; rfl)
                            refine puA (i := 20) (N := 100) (v := ?_) (a' := ?_) (bv 32 1568735) HT_ ?_ ?_ ?_; rotate_left; (intro w'; go_simp; with_reducible rfl); rotate_left; (simp only [Act.put, sA, sZ, sS, i64_w, i32_w]; rfl)
                            refine puA (i := 21) (N := 101) (v := ?_) (a' := ?_) (bv 32 3665887) HT_ ?_ ?_ ?_; rotate_left; (intro w'; go_simp; with_reducible rfl); rotate_left; (simp only [Act.put, sA, sZ, sS, i64_w, i32_w]; rfl)
                            refine puA (i := 22) (N := 102) (v := ?_) (a' := ?_) (bv 32 7860191) HT_ ?_ ?_ ?_; rotate_left; (intro w'; go_simp; with_reducible rfl); rotate_left; (simp only [Act.put, sA, sZ, sS, i64_w, i32_w]; rfl)
                            refine puA (i := 23) (N := 103) (v := ?_) (a' := ?_) (bv 32 16248799) HT_ ?_ ?_ ?_; rotate_left; (intro w'; go_simp; with_reducible rfl); rotate_left; (simp only [Act.put, sA, sZ, sS, i64_w, i32_w]; rfl)
                            refine puA (i := 25) (N := 105) (v := ?_) (a' := ?_) (bv 32 49803231) HT_ ?_ ?_ ?_; rotate_left; (intro w'; go_simp; with_reducible rfl); rotate_left; (simp only [Act.put, sA, sZ, sS, i64_w, i32_w]; rfl)
                            refine puA (i := 26) (N := 106) (v := ?_) (a' := ?_) (bv 32 116912095) HT_ ?_ ?_ ?_; rotate_left; (intro w'; go_simp; with_reducible rfl); rotate_left; (simp only [Act.put, sA, sZ, sS, i64_w, i32_w]; rfl)
                            refine puA (i := 27) (N := 107) (v := ?_) (a' := ?_) (bv 32 251129823) HT_ ?_ ?_ ?_; rotate_left; (intro w'; go_simp; with_reducible rfl); rotate_left; (simp only [Act.put, sA, sZ, sS, i64_w, i32_w]; rfl)
                            refine puA (i := 28) (N := 108) (v := ?_) (a' := ?_) (bv 32 519565279) HT_ ?_ ?_ ?_; rotate_left; (intro w'; go_simp; with_reducible rfl); rotate_left; (simp only [Act.put, sA, sZ, sS, i64_w, i32_w]; rfl)
                            refine take_ (i := 5) (N := some 85) (v := ?_) (a' := ?_) (bv 32 519565311) rfl rfl (take_ofW HT_.out HW_.out (by kernel_rfl)) (fun _ _ _ h => h) (Or.inl ⟨by rfl, ?_⟩) hHeld ?_ ?_; rotate_left; (rintro w' ⟨s0, s1, s2, s3, s4⟩; go_simp; with_reducible rfl); rotate_left; (simp only [Act.put, sA, sZ, sS, i64_w, i32_w]; rfl)
                            refine take_ (i := 12) (N := some 92) (v := ?_) (a' := ?_) (bv 32 519569407) rfl rfl (take_ofW HT_.out HW_.out (by kernel_rfl)) (fun _ _ _ h => h) (Or.inl ⟨by rfl, ?_⟩) hHeld ?_ ?_; rotate_left; (rintro w' ⟨s0, s1, s2, s3, s4⟩; go_simp; with_reducible rfl); rotate_left; (simp only [Act.put, sA, sZ, sS, i64_w, i32_w]; rfl)
                            refine take_ (i := 19) (N := some 99) (v := ?_) (a' := ?_) (bv 32 520093695) rfl rfl (take_ofW HT_.out HW_.out (by kernel_rfl)) (fun _ _ _ h => h) (Or.inl ⟨by rfl, ?_⟩) hHeld ?_ ?_; rotate_left; (rintro w' ⟨s0, s1, s2, s3, s4⟩; go_simp; with_reducible rfl); rotate_left; (simp only [Act.put, sA, sZ, sS, i64_w, i32_w]; rfl)
                            refine take_ (i := 24) (N := some 104) (v := ?_) (a' := ?_) (bv 32 536870911) rfl rfl (take_ofW HT_.out HW_.out (by kernel_rfl)) (fun _ _ _ h => h) (Or.inl ⟨by rfl, ?_⟩) hHeld ?_ ?_; rotate_left; (rintro w' ⟨s0, s1, s2, s3, s4⟩; go_simp; with_reducible rfl); rotate_left; (simp only [Act.put, sA, sZ, sS, i64_w, i32_w]; rfl)
                            refine take_ (i := 29) (N := some 109) (v := ?_) (a' := ?_) (bv 32 1073741823) rfl rfl (take_ofW HT_.out HW_.out (by kernel_rfl)) (fun _ _ _ h => h) (Or.inl ⟨by rfl, ?_⟩) hHeld ?_ ?_; rotate_left; (rintro w' ⟨s0, s1, s2, s3, s4⟩; go_simp; with_reducible rfl); rotate_left; (simp only [Act.put, sA, sZ, sS, i64_w, i32_w]; rfl)
                            refine one_ (i := 30) (N := some 110) (bv 32 2147483647) rfl rfl (one_of HT_.out (by kernel_rfl)) (by decide) (fun K hK => ?_)
                            refine goes_ Try.func110 (by kernel_rfl) rfl #[.int .u32 (rd x13_1 (ji52)), .int .u32 (rd x13_1 (ji55)), .int .u32 (rd x13_1 (ji58)), .int .u32 (rd x14_1 (ji29)), .int .u32 (rd x14_1 (ji64))] (by rfl) rfl rfl (by (try simp only [mA, mC, mN]); first | done | (simp only [hji52, hji55, hji58, hji61, hji64]; rfl) | rfl | (simp only [lD, lT]; rfl)) ?_
                            with_reducible refine (nat_guess.calls k1 (rd x13_1 (ji52)) (rd x13_1 (ji55)) (rd x13_1 (ji58)) (rd x14_1 (ji29)) (rd x14_1 (ji64)) t223 _ A67.out).mono ?_
                            rintro e w' ⟨rfl, ⟨nd, rfl⟩⟩
                            refine ⟨_, rfl, ?_⟩
                            refine hK.out _ _ ⟨hHeld.1, hHeld.2.1, hHeld.2.2.1, hHeld.2.2.2.1, hHeld.2.2.2.2⟩ (fun hHeld => ?_)
                            clear hK K
                            refine norm_ (a' := ?_) ?_ ?_
                            rotate_left
                            ·show Act.put _ (some 110) _ = _
                             simp only [Act.put, sA, sZ, sS, i64_w, i32_w]
                             rfl
                            refine puA (i := 31) (N := 17) (v := ?_) (a' := ?_) (bv 32 4294967295) HT_ ?_ ?_ ?_; rotate_left; (intro w'; go_simp; with_reducible rfl); rotate_left; (simp only [Act.put, sA, sZ, sS, i64_w, i32_w]; rfl)
                            refine done_ (done_of HT_.out (by kernel_rfl)) ?_
                            have q91 : ((wrap64 ((ji52) + 1)) : Int) ≤ ((x13_1.length : Int) : Int) := of_decide_eq_true (by assumption)
                            obtain ⟨i091, hi091, _, hsz91, _⟩ := info_parts info87
                            have hroom91 : x13_1.length ≤ co90 := (Kd.R_reads' HO_13.out).2.1
                            have hC91 : Kd.C (Kd.int .u32) _ (some ad218) x13_1.length x13_1 := (Kd.R_reads' HO_13.out).2.2
                            have ql91 : (x16_1 : Int) ≤ ((wrap64 ((ji52) + 1)) : Int) := of_decide_eq_true (by assumption)
                            have q091 : (0 : Int) ≤ (x16_1 : Int) := of_decide_eq_true (by assumption)
                            have hcut91 := cut_mid (P := Try.prog) 25 87 .i64 .i64 Try.underlying25 hi091 1 hsz91 (some ad218) x13_1.length co90 x16_1 (wrap64 ((ji52) + 1)) q091 ql91 q91 hroom91
                            have hr91 := Kd.C_mid (lo := (x16_1 : Int).toNat) (hi := ((wrap64 ((ji52) + 1)) : Int).toNat) (c := co90) hC91 (by omega) (by omega) hroom91
                            obtain ⟨A91, hA91⟩ : ∃ A1, A1 = (if co90 = (x16_1 : Int).toNat then (some ad218) else ((some ad218) : Option Addr).map (·.add ((x16_1 : Int).toNat * 1))) := ⟨_, rfl⟩
                            obtain ⟨c91, hc91⟩ : ∃ c1, c1 = co90 - (x16_1 : Int).toNat := ⟨_, rfl⟩
                            have hy91 : y224.length = ((wrap64 ((ji52) + 1)) : Int).toNat - (x16_1 : Int).toNat := (by rw [Ny224.out, lD, lT] <;> omega)
                            rw [show ((x13_1).take ((wrap64 ((ji52) + 1)) : Int).toNat).drop (x16_1 : Int).toNat = y224 from Ny224.out.symm] at hr91
                            replace hr91 : Kd.C (Kd.int .u32) _ A91 y224.length y224 := (by rw [hA91]; exact hr91)
                            rw [← hy91, ← hA91, ← hc91] at hcut91
                            have HR227 := mk0 hr91
                            have HC227 := mk0 (show y224.length ≤ c91 from by rw [hy91, hc91]; exact Nat.sub_le_sub_right (Nat.le_trans (by omega) hroom91) _)
                            clear hr91 hC91 hroom91 hi091 hsz91 hc91
                            have KY91 := mk0 hy91
                            have KA91 := mk0 hA91
                            clear hy91 hA91
                            have KL91 := mk0 (show ((wrap64 ((ji52) + 1)) : Int).toNat ≤ x13_1.length from by omega)
                            have KM91 := mk0 (show (x16_1 : Int).toNat ≤ ((wrap64 ((ji52) + 1)) : Int).toNat from by omega)
                            replace q91 := eq_true q91
                            try go_wp2_with (first | ((with_reducible refine gate_callee (f := 111) rfl ?_); refine goesL_ (some 120) rfl rfl Try.func111 (by kernel_rfl) rfl #[.slice A91 y224.length c91, .slice (some ad221) x14_1.length co47, .int .u64 t223] rfl (by go_simp <;> rfl) ?_; (with_reducible refine (nat_subtract.calls k1 (fun k_ => some k_ = (.slice (some ad218) x13_1.length co90 : Value).ownBlock) (.slice (some ad218) x13_1.length co90) x13_1 x16_1 (wrap64 ((ji52) + 1)) A91 _ c91 _ _ x14_1 t223 false t229 w _ ?side1 ?side2 ?side3 ?side4 ?side5 ?side6 A71.out).mono ?_); (case side1 => repeat (first | (with_reducible first | exact HB.out | apply below_alloc | apply pw_below_drewN | apply below_drew1) | exact HB.out)); (case side2 => exact Kd.R_tight rfl HO_13.out); (case side3 => intro _ _ _ e_; cases e_; exact KA91.out); (case side4 => exact KY91.out); (case side5 => exact Kd.C_kept_own (HO_14.out) (fun k_ hk_ hs_ => (hk_.2.1) hs_)); (case side6 => exact (Kd.R_reads' HO_14.out).2.1); rintro e w92 ⟨rfl, hy0, hb, hkp⟩; refine ⟨_, rfl, ?_⟩; replace HO_13 := mk0 (Kd.R_reok rfl hy0 (fun k_ e_ => HO_13.out.1 k_ e_)); replace HO_14 := mk0 (Kd.R_mono (ok' := fun k_ => (w.heap.size ≤ k_) ∧ some k_ ≠ (.slice (some ad218) x13_1.length co90 : Value).ownBlock ∧ some k_ ≠ (v206 : Value).ownBlock) (Kd.R_keptB (HO_14.out) hkp (fun k_ hk_ hs_ => (hk_.2.1) hs_)) (fun k_ hk_ => ⟨hk_.1.1, hk_.1.2.1, hk_.1.2.2⟩)); replace HO_15 := mk0 (Kd.R_mono (ok' := fun k_ => (w.heap.size ≤ k_) ∧ some k_ ≠ (.slice (some ad218) x13_1.length co90 : Value).ownBlock ∧ some k_ ≠ (.slice (some ad221) x14_1.length co47 : Value).ownBlock) (Kd.R_keptB (HO_15.out) hkp (fun k_ hk_ hs_ => (hk_.2.1) hs_)) (fun k_ hk_ => ⟨hk_.1.1, hk_.1.2.1, hk_.1.2.2⟩)); replace HB := mk0 (hb); (try clear hkp); (try clear hy0); have p88 : 0 ≤ (x16_1 : Int) := of_decide_eq_true (by assumption); have q88 : (x16_1 : Int) < ((x15_1.length : Int) : Int) := of_decide_eq_true (by assumption); obtain ⟨go88, co88, eo88, gb88, gl88, cl88, HG88⟩ := Kd.R_form HO_15.out (by omega); (first | cases eo88 | (injection eo88 with ea_ en_ ec_; (first | subst ea_ | (injection ea_ with ea_; subst ea_)); subst ec_; clear en_)); have GB88 := mk0 gb88; have GG88 := mk0 HG88; clear gb88 gl88 HG88; obtain ⟨hx88_0, hf88_0⟩ := Kd.R_celln 0 HO_15.out (x16_1 : Int) p88 q88; replace p88 := eq_true p88; replace q88 := eq_true q88; obtain ⟨hy93_, hz93_⟩ := Kd.R_celln 0 HO_15.out (x16_1 : Int) (of_decide_eq_true (by assumption)) (of_decide_eq_true (by assumption)); have HP93 := Kd.R_putg HO_15.out (x16_1 : Int) ((t223) % 4294967296)) | ((with_reducible refine gate_store (t := 87) (p := 136) rfl ?_); refine store_event (t := 87) (p := 136) (v := ?vo_w94) (w1 := (w92.setCell ⟨go88, (x16_1 : Int).toNat, none⟩ (.int .u32 ((t223) % 4294967296)))) ?hg ?ho ?hn ?hr ?_; (case ho => rfl); (case hg => rfl); (case hn => rfl); (case hr => go_simp <;> rfl); intro w94 hw; have hg : w92.grownBy w94 (some go88) := (by rw [hw]; exact HP93.2); have hp_ : Kd.R (Kd.int .u32) 87 w94 w.heap.size (fun k_ => (w.heap.size ≤ k_) ∧ some k_ ≠ (.slice (some ad218) x13_1.length co90 : Value).ownBlock ∧ some k_ ≠ (.slice (some ad221) x14_1.length co47 : Value).ownBlock) (.slice (some ⟨go88, 0, none⟩) x15_1.length co88) y236 := (by rw [hw, Ny236.out]; exact HP93.1); clear HP93; replace HO_13 := mk0 (Kd.R_after (v := (.slice (some ⟨go88, 0, none⟩) x15_1.length co88)) (v1 := (.slice (some ⟨go88, 0, none⟩) x15_1.length co88)) (ok := (fun k_ => (w.heap.size ≤ k_) ∧ some k_ ≠ (.slice (some ad221) x14_1.length co47 : Value).ownBlock)) (by (with_reducible repeat apply Kd.R_drewN); exact Kd.R_mono HO_13.out (fun _ hk => ⟨⟨hk.1, hk.2.1⟩, hk.2.2⟩)) hg (.inl rfl)); replace HO_14 := mk0 (Kd.R_after (v := (.slice (some ⟨go88, 0, none⟩) x15_1.length co88)) (v1 := (.slice (some ⟨go88, 0, none⟩) x15_1.length co88)) (ok := (fun k_ => (w.heap.size ≤ k_) ∧ some k_ ≠ (.slice (some ad218) x13_1.length co90 : Value).ownBlock)) (by (with_reducible repeat apply Kd.R_drewN); exact Kd.R_mono HO_14.out (fun _ hk => ⟨⟨hk.1, hk.2.1⟩, hk.2.2⟩)) hg (.inl rfl)); replace HO_15 := mk0 (hp_); replace HB := mk0 ((by rw [hw]; exact below_set (HB.out) GB88.out : Below w.heap.size w w94)); clear hg hw hp_))
                            (try simp only [← hl14_1])
                            go_roundg k1
                            case measure => have := HK1.out; omega
                            case rel => exact ⟨(t229), (x14_1), (y236), (wrap64 (x16_1 - 1)), (by first | rfl | (simp; done) | (simp [*]; done)), H', ⟨by have := HK1.out; omega⟩, ⟨by (try simp only [hl14_1]); (with_reducible repeat apply Kd.R_drewN); exact Kd.R_mono HO_13.out (fun _ hk => ⟨hk.1.1, ⟨hk.1.2, hk.2⟩⟩)⟩, ⟨by (try simp only [hl14_1]); (with_reducible repeat apply Kd.R_drewN); exact Kd.R_mono HO_14.out (fun _ hk => ⟨hk.1.1, ⟨hk.1.2, hk.2⟩⟩)⟩, ⟨by (try simp only [hl14_1]); (with_reducible repeat apply Kd.R_drewN); exact HO_15.out⟩, ⟨by repeat (first | exact HB.out | apply pw_below_drewN | apply below_drew1 | apply below_alloc)⟩⟩
                           ·rw [if_neg c87] at H
                            exact absurd H (by simp)
                         ·rw [if_neg c70] at H
                          exact absurd H (by simp)
                        ·rw [if_neg c69] at H
                         exact absurd H (by simp)
                       ·rw [if_neg c68] at H
                        exact absurd H (by simp)
                      ·rw [if_neg c66] at H
                       exact absurd H (by simp)
                     ·rw [if_neg c65] at H
                      exact absurd H (by simp)
                    ·rw [if_neg c63] at H
                     exact absurd H (by simp)
                   ·rw [if_neg c62] at H
                    exact absurd H (by simp)
                  ·rw [if_neg c60] at H
                   exact absurd H (by simp)
                 ·rw [if_neg c59] at H
                  exact absurd H (by simp)
                ·rw [if_neg c57] at H
                 exact absurd H (by simp)
               ·rw [if_neg c56] at H
                exact absurd H (by simp)
              ·rw [if_neg c54] at H
               exact absurd H (by simp)
             ·rw [if_neg c53] at H
              exact absurd H (by simp)
            ·rw [if_neg c51] at H
             have c51b0 : decide (0 ≤ x16_1) = false := decide_eq_false c51
             clear c51
             obtain ⟨t208, A95, H⟩ := bindA H
             by_cases c96 : 0 ≤ (t179.length : Int)
             ·rw [if_pos c96] at H
              have c96b0 := eq_true c96
              have c96b1 : decide (0 ≤ (t179.length : Int)) = true := decide_eq_true c96
              clear c96
              by_cases c97 : (t179.length : Int) ≤ (x13_1.length : Int)
              ·rw [if_pos c97] at H
               have c97b0 := eq_true c97
               have c97b1 : decide ((t179.length : Int) ≤ (x13_1.length : Int)) = true := decide_eq_true c97
               clear c97
               obtain ⟨y211, hy211⟩ : ∃ y_ : List Int, y_ = (x13_1.take ((t179.length : Int) : Int).toNat) := ⟨_, rfl⟩
               replace H : ((nat_shiftDown.f k1 y211 (IntKind.u64.wrap (t195))).bind fun t215 => (some (t208, t215, true))) = some (r1, r2, r3) := by first | (rw [hy211]; with_reducible exact H) | (have H2_ := (Option.bind_some _ _).symm.trans H; rw [hy211]; with_reducible exact H2_) | (have H2_ := (Option.bind_some _ _).symm.trans H; with_reducible exact H2_) | with_reducible exact H | (rw [hy211]; exact H) | exact H
               have Ny211 := mk0 hy211
               clear hy211
               obtain ⟨t215, A98, H⟩ := bindA H
               simp only [Option.some.injEq, Prod.mk.injEq] at H
               obtain ⟨rfl, rfl, rfl⟩ := H
               try go_wp2
               replace HO_13 := mk0 (Kd.R_drew HO_13.out)
               replace HO_14 := mk0 (Kd.R_drew HO_14.out)
               replace HO_15 := mk0 (Kd.R_drew HO_15.out)
               replace HB := mk0 (below_drew1 HB.out)
               obtain ⟨Ao101, co101, eo101⟩ := Kd.R_slice HO_13.out
               (first | subst eo101 | (injection eo101 with f1_ f2_ f3_; have f4_ := f1_.symm; have f5_ := f3_.symm; clear f1_ f2_ f3_; subst f4_; subst f5_))
               have q100 : ((t179.length : Int) : Int) ≤ ((x13_1.length : Int) : Int) := of_decide_eq_true (by assumption)
               obtain ⟨i0100, hi0100, _, hsz100, _⟩ := info_parts info87
               have hroom100 : x13_1.length ≤ co101 := (Kd.R_reads' HO_13.out).2.1
               have hC100 : Kd.C (Kd.int .u32) _ Ao101 x13_1.length x13_1 := (Kd.R_reads' HO_13.out).2.2
               have hcut100 := cut_to (P := Try.prog) 25 87 .i64 Try.underlying25 hi0100 Ao101 x13_1.length co101 (t179.length : Int) (of_decide_eq_true (by assumption)) q100 hroom100
               have hr100 := Kd.C_take (m := ((t179.length : Int) : Int).toNat) hC100 (by omega)
               have hy100 : y211.length = ((t179.length : Int) : Int).toNat := (by rw [Ny211.out, lT]; omega)
               rw [← Ny211.out] at hr100
               rw [← hy100] at hcut100
               have HR214 := mk0 hr100
               have HC214 := mk0 (show y211.length ≤ co101 from by omega)
               clear hr100 hC100 hroom100 hi0100 hsz100
               have KY100 := mk0 hy100
               clear hy100
               have KL100 := mk0 (show ((t179.length : Int) : Int).toNat ≤ x13_1.length from by omega)
               replace q100 := eq_true q100
               obtain ⟨Ao102, co102, eo102⟩ := Kd.R_slice HO_15.out
               (first | subst eo102 | (injection eo102 with f1_ f2_ f3_; have f4_ := f1_.symm; have f5_ := f3_.symm; clear f1_ f2_ f3_; subst f4_; subst f5_))
               refine start_ (n := 10) (S := fun w' => True) (ds := []) (bv 10 0) (by kernel_rfl) rfl rfl trivial (fun hHeld => ?_); refine with_tabW nat_DivMod.tab22 nat_DivMod.bits22 (fun HT_ HW_ => ?_)
               generalize wr.drew = w99 at HO_13 HO_14 HO_15 HB HR214 hHeld ⊢
               refine puA (i := 0) (N := 137) (v := ?_) (a' := ?_) (bv 10 1) HT_ ?_ ?_ ?_; rotate_left; (intro w'; go_simp; with_reducible rfl); rotate_left; (simp only [Act.put, sA, sZ, sS, i64_w, i32_w]; rfl)
               refine puA (i := 2) (N := 139) (v := ?_) (a' := ?_) (bv 10 5) HT_ ?_ ?_ ?_; rotate_left; (intro w'; go_simp; with_reducible rfl); rotate_left; (simp only [Act.put, sA, sZ, sS, i64_w, i32_w]; rfl)
               refine puA (i := 3) (N := 140) (v := ?_) (a' := ?_) (bv 10 13) HT_ ?_ ?_ ?_; rotate_left; (intro w'; go_simp; with_reducible rfl); rotate_left; (simp only [Act.put, sA, sZ, sS, i64_w, i32_w]; rfl)
               refine puA (i := 4) (N := 141) (v := ?_) (a' := ?_) (bv 10 29) HT_ ?_ ?_ ?_; rotate_left; (intro w'; go_simp; with_reducible rfl); rotate_left; (simp only [Act.put, sA, sZ, sS, i64_w, i32_w]; rfl)
               refine puA (i := 5) (N := 142) (v := ?_) (a' := ?_) (bv 10 61) HT_ ?_ ?_ ?_; rotate_left; (intro w'; go_simp; with_reducible rfl); rotate_left; (simp only [Act.put, sA, sZ, sS, i64_w, i32_w]; rfl)
               refine one_ (i := 1) (N := some 138) (bv 10 63) rfl rfl (one_of HT_.out (by kernel_rfl)) (by decide) (fun K hK => ?_)
               refine goes_ Try.func81 (by kernel_rfl) rfl #[.slice Ao102 x15_1.length co102] (by rfl) rfl rfl (by go_simp <;> rfl) ?_
               with_reducible refine (nat_trim.calls k1 (fun k_ => some k_ = (.slice Ao102 x15_1.length co102 : Value).ownBlock) _ _ x15_1 t208 _ ?side1 A95.out).mono ?_
               (case side1 => exact Kd.R_V (Kd.R_tight rfl (HO_15.out)))
               rintro e w103 ⟨v209, rfl, ho0, hb⟩
               refine ⟨_, rfl, ?_⟩
               have HO210 := mk0 (Kd.V_lower (Kd.V_mono (ok' := fun k_ => ((P0_ k_ ∨ P1_ k_) ∨ w.heap.size ≤ k_) ∧ some k_ ≠ (.slice Ao101 x13_1.length co101 : Value).ownBlock ∧ some k_ ≠ (.slice Ao47 x14_1.length co47 : Value).ownBlock) ho0 (fun k_ hk_ => ⟨Or.elim hk_ (fun hs_ => (.inr (((HO_15.out).1 k_ hs_.symm).1))) (fun hn_ => (.inr (Nat.le_trans (below_size (by repeat (first | exact HB.out | apply pw_below_drewN | apply below_drew1 | apply below_alloc))) hn_))), Or.elim hk_ (fun hs_ => ((HO_15.out).1 k_ hs_.symm).2.1) (fun hn_ => (Kd.fresh' (Kd.R_lt (by (with_reducible repeat apply Kd.R_drewN); exact HO_13.out)) k_ hn_)), Or.elim hk_ (fun hs_ => ((HO_15.out).1 k_ hs_.symm).2.2) (fun hn_ => (Kd.fresh' (Kd.R_lt (by (with_reducible repeat apply Kd.R_drewN); exact HO_14.out)) k_ hn_))⟩)) (below_size (by repeat (first | exact HB.out | apply pw_below_drewN | apply below_drew1 | apply below_alloc))))
               replace HO_13 := (by first | exact rB HO_13 hb | exact rD HO_13 hb)
               replace HO_14 := (by first | exact rB HO_14 hb | exact rD HO_14 hb)
               replace HO_15 := (by first | exact rB HO_15 hb | exact rD HO_15 hb)
               replace HR214 := mk0 (Kd.C_below (by repeat (first | (with_reducible exact HR214.out) | (with_reducible refine Kd.C_alloc ?_ _) | (with_reducible refine Kd.C_drewN ?_ _) | (with_reducible refine Kd.C_drew ?_) | exact HR214.out)) hb)
               replace HB := (by first | exact hbS HB hb | exact hbD HB hb)
               refine hK.out _ _ trivial (fun hHeld => ?_)
               clear hK K
               refine norm_ (a' := ?_) ?_ ?_
               rotate_left
               ·show Act.put _ (some 138) _ = _
                simp only [Act.put, sA, sZ, sS, i64_w, i32_w]
                rfl
               refine one_ (i := 6) (N := some 143) (bv 10 127) rfl rfl (one_of HT_.out (by kernel_rfl)) (by decide) (fun K hK => ?_)
               refine goes_ Try.func113 (by kernel_rfl) rfl #[.slice Ao101 y211.length co101, .int .u64 (IntKind.u64.wrap (t195))] (by rfl) rfl rfl (by go_simp <;> rfl) ?_
               with_reducible refine (nat_shiftDown.calls k1 _ _ y211 (IntKind.u64.wrap (t195)) t215 _ ?side1 ?side2 A98.out).mono ?_
               (case side1 => repeat (first | exact (by repeat (first | (with_reducible exact HR214.out) | (with_reducible refine Kd.C_alloc ?_ _) | (with_reducible refine Kd.C_drewN ?_ _) | (with_reducible refine Kd.C_drew ?_) | exact HR214.out)) | (with_reducible refine Kd.C_alloc ?_ _) | (with_reducible refine Kd.C_drewN ?_ _) | (with_reducible refine Kd.C_drew ?_)))
               (case side2 => exact HC214.out)
               rintro e w104 ⟨v216, rfl, ho0, hb⟩
               refine ⟨_, rfl, ?_⟩
               replace HO210 := mk0 (Kd.V_below (by (with_reducible repeat apply Kd.V_drewN); exact HO210.out) hb)
               have HO217 := mk0 (Kd.V_lower (Kd.V_mono (ok' := fun k_ => ((P0_ k_ ∨ P1_ k_) ∨ w.heap.size ≤ k_) ∧ some k_ ≠ (.slice Ao101 x13_1.length co101 : Value).ownBlock ∧ some k_ ≠ (.slice Ao47 x14_1.length co47 : Value).ownBlock ∧ some k_ ≠ (.slice Ao102 x15_1.length co102 : Value).ownBlock) ho0 (fun k_ hk_ => ⟨(.inr (Nat.le_trans (below_size (by repeat (first | exact HB.out | apply pw_below_drewN | apply below_drew1 | apply below_alloc))) hk_)), (Kd.fresh' (Kd.R_lt (by (with_reducible repeat apply Kd.R_drewN); exact HO_13.out)) k_ hk_), (Kd.fresh' (Kd.R_lt (by (with_reducible repeat apply Kd.R_drewN); exact HO_14.out)) k_ hk_), (Kd.fresh' (Kd.R_lt (by (with_reducible repeat apply Kd.R_drewN); exact HO_15.out)) k_ hk_)⟩)) (below_size (by repeat (first | exact HB.out | apply pw_below_drewN | apply below_drew1 | apply below_alloc))))
               replace HO_13 := (by first | exact rB HO_13 hb | exact rD HO_13 hb)
               replace HO_14 := (by first | exact rB HO_14 hb | exact rD HO_14 hb)
               replace HO_15 := (by first | exact rB HO_15 hb | exact rD HO_15 hb)
               replace HR214 := mk0 (Kd.C_below (by repeat (first | (with_reducible exact HR214.out) | (with_reducible refine Kd.C_alloc ?_ _) | (with_reducible refine Kd.C_drewN ?_ _) | (with_reducible refine Kd.C_drew ?_) | exact HR214.out)) hb)
               replace HB := (by first | exact hbS HB hb | exact hbD HB hb)
               refine hK.out _ _ trivial (fun hHeld => ?_)
               clear hK K
               refine norm_ (a' := ?_) ?_ ?_
               rotate_left
               ·show Act.put _ (some 143) _ = _
                simp only [Act.put, sA, sZ, sS, i64_w, i32_w]
                rfl
               refine puA (i := 7) (N := 4) (v := ?_) (a' := ?_) (bv 10 255) HT_ ?_ ?_ ?_; rotate_left; (intro w'; go_simp; with_reducible rfl); rotate_left; (simp only [Act.put, sA, sZ, sS, i64_w, i32_w]; rfl)
               refine puA (i := 8) (N := 5) (v := ?_) (a' := ?_) (bv 10 511) HT_ ?_ ?_ ?_; rotate_left; (intro w'; go_simp; with_reducible rfl); rotate_left; (simp only [Act.put, sA, sZ, sS, i64_w, i32_w]; rfl)
               refine puA (i := 9) (N := 6) (v := ?_) (a' := ?_) (bv 10 1023) HT_ ?_ ?_ ?_; rotate_left; (intro w'; go_simp; with_reducible rfl); rotate_left; (simp only [Act.put, sA, sZ, sS, i64_w, i32_w]; rfl)
               refine done_ (done_of HT_.out (by kernel_rfl)) ?_
               try go_wp2
               go_ret3
               exact ⟨_, _, by first | rfl | (simp [errW_none, errW_some] <;> rfl) | (simp only [← hji29, ← hji37]; first | rfl | (simp [errW_none, errW_some] <;> rfl)) | (simp [*, errW_none, errW_some] <;> rfl), by (with_reducible repeat apply Kd.V_drewN); exact Kd.V_mono HO210.out (fun _ hk => hk.1), by (with_reducible repeat apply Kd.V_drewN); exact Kd.V_mono HO217.out (fun _ hk => hk.1), by repeat (first | exact HB.out | apply pw_below_drewN | apply below_drew1 | apply below_alloc)⟩
              ·rw [if_neg c97] at H
               exact absurd H (by simp)
             ·rw [if_neg c96] at H
              exact absurd H (by simp)
         ·rw [if_neg c39] at H
          exact absurd H (by simp)
        ·rw [if_neg c38] at H
         exact absurd H (by simp)
       ·rw [if_neg c36] at H
        exact absurd H (by simp)
      ·rw [if_neg c35] at H
       exact absurd H (by simp)
     ·rw [if_neg c31] at H
      exact absurd H (by simp)
    ·rw [if_neg c30] at H
     exact absurd H (by simp)
set_option maxHeartbeats 8000000 in
set_option maxRecDepth 100000 in
theorem nat_Gcd.calls (k : Nat) (A0 : Option Addr) (c0 : Nat) (l0 : List Int) (A1 : Option Addr) (c1 : Nat) (l1 : List Int) (r : List Int) (w : World) (hr0 : Kd.C (Kd.int .u32) w A0 l0.length l0) (hc0 : l0.length ≤ c0) (hr1 : Kd.C (Kd.int .u32) w A1 l1.length l1) (hc1 : l1.length ≤ c1) (h : nat_Gcd.f k l0 l1 = some r) :
  Calls Try.prog 79 #[.slice A0 l0.length c0, .slice A1 l1.length c1] w fun e w' => ∃ v0_ : Value, e = .returned (v0_) ∧ Kd.V (Kd.int .u32) 87 w' w.heap.size (fun k_ => (w.heap.size ≤ k_)) v0_ r ∧ Below w.heap.size w w' := by
 have HR0 := mk0 hr0
 have HC0 := mk0 hc0
 clear hr0 hc0
 have HR1 := mk0 hr1
 have HC1 := mk0 hc1
 clear hr1 hc1
 have HB := mk0 (Below.refl w.heap.size w)
 have H : ((nat_Norm.f k l0).bind fun t237 => ((nat_Norm.f k l1).bind fun t240 => (nat_Gcd.l0 k t237 t240))) = some r := h
 clear h
 obtain ⟨t237, A3, H⟩ := bindA H
 obtain ⟨t240, A4, H⟩ := bindA H
 have H' := mk0 H
 clear H
 go_enter Try.func79, Try.ntmps79
 go_wp2_with (first | ((with_reducible refine gate_callee (f := 106) rfl ?_); refine goA 11 Try.func106 #[.slice A0 l0.length c0] ?_; (with_reducible refine (nat_Norm.calls k _ _ l0 t237 _ HR0.out HC0.out A3.out).mono ?_); rintro e w5 ⟨v238, rfl, ho0, hb⟩; refine ⟨_, rfl, ?_⟩; have HO239 := mk0 (Rl (Kd.R_newM (M := fun k_ => (w.heap.size ≤ k_)) ho0 (bZ HB.out) (fun k_ h_ => h_)) (bZ HB.out)); replace HB := hbS HB hb) | ((with_reducible refine gate_callee (f := 106) rfl ?_); refine goA 13 Try.func106 #[.slice A1 l1.length c1] ?_; (with_reducible refine (nat_Norm.calls k _ _ l1 t240 _ (by exact Cb HR1.out HB.out) HC1.out A4.out).mono ?_); rintro e w6 ⟨v241, rfl, ho0, hb⟩; refine ⟨_, rfl, ?_⟩; have HO242 := mk0 (Rl (Rn (Kd.R_newM (M := fun k_ => (w.heap.size ≤ k_)) ho0 (bZ HB.out) (fun k_ h_ => h_)) (Rq HO239.out)) (bZ HB.out)); replace HO239 := mk0 (Re HO239.out (Rs ho0) hb); replace HB := hbS HB hb))
 go_loopg [5, 6] k (fun kq v5 v6 w' => ∃ (x5_1 : List Int) (x6_1 : List Int), Aside0 (nat_Gcd.l0 kq x5_1 x6_1 = some r) ∧ Aside0 (kq ≤ k) ∧ Aside0 (Kd.V (Kd.int .u32) 87 w' w.heap.size (fun k_ => (w.heap.size ≤ k_)) v5 x5_1) ∧ Aside0 (Kd.V (Kd.int .u32) 87 w' w.heap.size (fun k_ => (w.heap.size ≤ k_)) v6 x6_1) ∧ Aside0 (Below w.heap.size w w'))
 case atStart => exact ⟨(t237), (t240), H', ⟨Nat.le_refl _⟩, ⟨Kd.R_V (Rm HO239.out (fun _ hk => hk.1.1))⟩, ⟨Kd.R_V (Rm HO242.out (fun _ hk => hk.1.1))⟩, ⟨by repeat (first | exact HB.out | apply bN | apply b1 | apply bA)⟩⟩
 case round =>
  clear H'
  try clear c1
  try clear p2
  obtain ⟨x5_1, x6_1, HA, HK1, HO_5, HO_6, HB⟩ := hrel
  cases gk with
  | zero => exact absurd HA.out (by simp [nat_Gcd.l0])
  | succ k1 =>
   have H := HA.out
   clear HA
   simp only [nat_Gcd.l0] at H
   by_cases c7 : (x6_1.length : Int) > 0
   ·rw [if_pos c7] at H
    have c7b0 : decide (0 < (x6_1.length : Int)) = true := decide_eq_true c7
    have c7b1 : decide (0 < x6_1.length) = true := decide_eq_true (by omega)
    clear c7
    obtain ⟨⟨t243, t246, t249⟩, A8, H⟩ := bindA H
    have H' := mk0 H
    clear H
    obtain ⟨Ao9, co9, eo9⟩ := Kd.V_slice HO_6.out
    subst eo9
    obtain ⟨Ao10, co10, eo10⟩ := Kd.V_slice HO_5.out
    subst eo10
    go_wp2_with (first | ((with_reducible refine gate_callee (f := 80) rfl ?_); refine goA 20 Try.func80 #[.slice Ao10 x5_1.length co10, .slice Ao9 x6_1.length co9] ?_; (with_reducible refine (nat_DivMod.calls k1 (fun k_ => (w.heap.size ≤ k_)) _ _ x5_1 (fun k_ => (w.heap.size ≤ k_)) _ _ x6_1 t243 t246 t249 _ HO_5.out HO_6.out A8.out).mono ?_); rintro e w11 ⟨v244, v247, rfl, ho0, ho1, hb⟩; refine ⟨_, rfl, ?_⟩; replace HO_5 := mk0 (Kd.V_below HO_5.out hb); replace HO_6 := mk0 (Kd.V_below HO_6.out hb); have HO248 := mk0 (Vl (Vm (ok' := fun k_ => (w.heap.size ≤ k_)) ho1 (fun k_ hk_ => Or.elim hk_ (fun hs_ => Or.elim hs_ (fun hs_ => hs_) (fun hs_ => hs_)) (fun hn_ => (Nat.le_trans (bZ HB.out) hn_)))) (bZ HB.out)); replace HB := hbS HB hb))
    go_roundg k1
    case measure => have := HK1.out; omega
    case rel => exact ⟨(x6_1), (t246), H', ⟨by have := HK1.out; omega⟩, ⟨HO_6.out⟩, ⟨HO248.out⟩, ⟨by repeat (first | exact HB.out | apply bN | apply b1 | apply bA)⟩⟩
   ·rw [if_neg c7] at H
    have c7b0 : decide (0 < (x6_1.length : Int)) = false := decide_eq_false c7
    have c7b1 : decide (0 < x6_1.length) = false := decide_eq_false (by omega)
    clear c7
    obtain rfl := Option.some.inj H
    obtain ⟨Ao12, co12, eo12⟩ := Kd.V_slice HO_6.out
    subst eo12
    go_wp2
    go_ret
    exact ⟨_, by first | rfl | (simp [errW_none, errW_some] <;> rfl) | (simp [*, errW_none, errW_some] <;> rfl), HO_5.out, by repeat (first | exact HB.out | apply bN | apply b1 | apply bA)⟩
set_option maxHeartbeats 8000000 in
set_option maxRecDepth 100000 in
theorem ratio_lowest.calls (k : Nat) (a0_0 : Bool) (P0_1_ : Nat → Prop) (A0_1 : Option Addr) (c0_1 : Nat) (l0_1 : List Int) (P1_ : Nat → Prop) (A1 : Option Addr) (c1 : Nat) (l1 : List Int) (r1 : Bool) (r2 : List Int) (r3 : List Int) (w : World) (hs0_1 : Kd.V (Kd.int .u32) 87 w w.heap.size (fun k_ => P0_1_ k_) (.slice A0_1 l0_1.length c0_1) l0_1) (hs1 : Kd.V (Kd.int .u32) 87 w w.heap.size (fun k_ => P1_ k_) (.slice A1 l1.length c1) l1) (h : ratio_lowest.f k a0_0 l0_1 l1 = some (r1, r2, r3)) :
  Calls Try.prog 53 #[.agg #[.bool a0_0, .slice A0_1 l0_1.length c0_1], .slice A1 l1.length c1] w fun e w' => ∃ v1_ v2_ : Value, e = .returned (.agg #[.bool r1, v1_, v2_]) ∧ Kd.R (Kd.int .u32) 87 w' w.heap.size (fun k_ => (w.heap.size ≤ k_)) v1_ r2 ∧ Kd.V (Kd.int .u32) 87 w' w.heap.size (fun k_ => ((P0_1_ k_ ∨ P1_ k_) ∨ w.heap.size ≤ k_) ∧ some k_ ≠ (v1_ : Value).ownBlock) v2_ r3 ∧ Below w.heap.size w w' := by
 have hu27 := Try.underlying27
 have hu29 := Try.underlying29
 have HO0_1 := mk0 (show Kd.V (Kd.int .u32) 87 w w.heap.size (fun k_ => ((P0_1_ k_ ∨ P1_ k_) ∨ w.heap.size ≤ k_)) (.slice A0_1 l0_1.length c0_1) l0_1 from Vm hs0_1 (fun k_ hk => .inl (.inl hk)))
 have HO1 := mk0 (show Kd.V (Kd.int .u32) 87 w w.heap.size (fun k_ => ((P0_1_ k_ ∨ P1_ k_) ∨ w.heap.size ≤ k_)) (.slice A1 l1.length c1) l1 from Vm hs1 (fun k_ hk => .inl (.inr hk)))
 have HB := mk0 (Below.refl w.heap.size w)
 have H : ((nat_Gcd.f k l0_1 l1).bind fun t252 => ((nat_Bits.f k l1).bind fun t255 => (if t255 = 0 then (ratio_lowest.j0 k l1 t252 true a0_0 l0_1) else ((nat_Bits.f k l0_1).bind fun t256 => (ratio_lowest.j0 k l1 t252 (t256 == 0) a0_0 l0_1))))) = some (r1, r2, r3) := h
 clear h
 obtain ⟨t252, A3, H⟩ := bindA H
 have HC4 := mk0 H
 clear H
 go_enter Try.func53, Try.ntmps53
 go_upto_region 2 with (first | ((with_reducible refine gate_dst (N := 2) rfl ?_); refine box_event rfl (N := 2) rfl (cs := #[.bool a0_0, .slice A0_1 l0_1.length c0_1]) (t := 27) (by go_simp <;> rfl) ?_; intro gb250 hg w5 hbox hb; replace HO0_1 := vB HO0_1 hg hb; replace HO1 := vB HO1 hg hb; have BK250 := mk0 (hbox); have GE250 := geB hg HB; replace HB := hbS HB hb; clear hb hbox hg) | ((with_reducible refine gate_dst (N := 4) rfl ?_); refine box_event rfl (N := 4) rfl (cs := #[.bool false, .slice none 0 0, .slice none 0 0]) (t := 29) (by go_simp <;> rfl) ?_; intro gb251 hg w6 hbox hb; replace HO0_1 := vB HO0_1 hg hb; replace HO1 := vB HO1 hg hb; have BK251 := mk0 (hbox); have GE251 := geB hg HB; replace HB := hbS HB hb; have NB250_251 := nbA hg BK250; have NB251_250 := nbB hg BK250; replace BK250 := bkB BK250 hb; clear hb hbox hg; have hnb7 := NB250_251.out; have hnc7 := NB251_250.out; obtain ⟨hcz8_0, hcz8_1, hfz8_0, hfz8_1⟩ := cz2 BK250) | ((with_reducible refine gate_callee (f := 79) rfl ?_); refine goA 15 Try.func79 #[.slice A0_1 l0_1.length c0_1, .slice A1 l1.length c1] ?_; (with_reducible refine (nat_Gcd.calls k _ _ l0_1 _ _ l1 t252 _ (by exact (Kd.V_reads' HO0_1.out).2.2) (by exact (Kd.V_reads' HO0_1.out).2.1) (by exact (Kd.V_reads' HO1.out).2.2) (by exact (Kd.V_reads' HO1.out).2.1) A3.out).mono ?_); rintro e w9 ⟨v253, rfl, ho0, hb⟩; refine ⟨_, rfl, ?_⟩; replace HO0_1 := mk0 (Kd.V_below HO0_1.out hb); replace HO1 := mk0 (Kd.V_below HO1.out hb); have HO254 := mk0 (Vl (Vm (ok' := fun k_ => ((P0_1_ k_ ∨ P1_ k_) ∨ w.heap.size ≤ k_) ∧ k_ ≠ gb250 ∧ k_ ≠ gb251) ho0 (fun k_ hk_ => ⟨(.inr (Nat.le_trans (bZ HB.out) hk_)), (Kd.freshB BK250.out k_ hk_), (Kd.freshB BK251.out k_ hk_)⟩)) (bZ HB.out)); replace BK250 := bkB BK250 hb; replace BK251 := bkB BK251 hb; replace HB := hbS HB hb))
 (try simp only [Act.put, sA, sZ, sS])
 go_cut [24] (fun v24 wc => ∃ (kq : Nat) (x24_3 : Bool), v24 = .bool x24_3 ∧ Aside0 (ratio_lowest.j0 kq l1 t252 x24_3 a0_0 l0_1 = some (r1, r2, r3)) ∧ Aside0 (kq ≤ k) ∧ Aside0 (Kd.V (Kd.int .u32) 87 wc w.heap.size (fun k_ => ((P0_1_ k_ ∨ P1_ k_) ∨ w.heap.size ≤ k_) ∧ k_ ≠ gb250 ∧ k_ ≠ gb251) (.slice A1 l1.length c1) l1) ∧ Aside0 (Kd.V (Kd.int .u32) 87 wc w.heap.size (fun k_ => ((P0_1_ k_ ∨ P1_ k_) ∨ w.heap.size ≤ k_) ∧ k_ ≠ gb250 ∧ k_ ≠ gb251) v253 t252) ∧ Aside0 (Kd.V (Kd.int .u32) 87 wc w.heap.size (fun k_ => ((P0_1_ k_ ∨ P1_ k_) ∨ w.heap.size ≤ k_) ∧ k_ ≠ gb250 ∧ k_ ≠ gb251) (.slice A0_1 l0_1.length c0_1) l0_1) ∧ Aside0 (wc.heap[gb250]? = some (.cells #[.bool a0_0, (.slice A0_1 l0_1.length c0_1)] 27 (0, 0))) ∧ Aside0 (wc.heap[gb251]? = some (.cells #[.bool false, (.slice none 0 0), (.slice none 0 0)] 29 (0, 0))) ∧ Aside0 (Below w.heap.size w wc))
 case first =>
  have H := HC4.out
  clear HC4
  obtain ⟨t255, A10, H⟩ := bindA H
  by_cases c11 : t255 = 0
  ·rw [if_pos c11] at H
   have c11b0 : (t255 == 0) = true := beq_iff_eq.mpr c11
   have c11b1 : (t255 != 0) = false := bne_eq_false_iff_eq.mpr c11
   clear c11
   (first | rw [c11b0] | (simp only [i64_w, i32_w]; rw [c11b0]) | skip)
   have H' := mk0 H
   clear H
   go_wp2_with (first | ((with_reducible refine gate_callee (f := 64) rfl ?_); refine goA 17 Try.func64 #[.slice A1 l1.length c1] ?_; (with_reducible refine (nat_Bits.calls k _ _ l1 t255 _ (by exact (Kd.V_reads' HO1.out).2.2) (by exact (Kd.V_reads' HO1.out).2.1) A10.out).mono ?_); rintro e w12 ⟨rfl, hb⟩; refine ⟨_, rfl, ?_⟩; replace HO0_1 := mk0 (Kd.V_below HO0_1.out hb); replace HO1 := mk0 (Kd.V_below HO1.out hb); replace HO254 := mk0 (Kd.V_below HO254.out hb); replace BK250 := bkB BK250 hb; replace BK251 := bkB BK251 hb; replace HB := hbS HB hb))
   go_meet
   case rel => exact ⟨_, (true), (by first | rfl | (simp; done) | (simp [*]; done)), H', ⟨by first | omega | exact Nat.le_refl _⟩, ⟨Vm HO1.out (fun _ hk => ⟨hk.1.1, ⟨hk.1.2, hk.2⟩⟩)⟩, ⟨HO254.out⟩, ⟨Vm HO0_1.out (fun _ hk => ⟨hk.1.1, ⟨hk.1.2, hk.2⟩⟩)⟩, ⟨BK250.out⟩, ⟨BK251.out⟩, ⟨by repeat (first | exact HB.out | apply bN | apply b1 | apply bA | refine bS ?_ GE250.out | refine bS ?_ GE251.out)⟩⟩
  ·rw [if_neg c11] at H
   have c11b0 : (t255 == 0) = false := beq_eq_false_iff_ne.mpr c11
   have c11b1 : (t255 != 0) = true := bne_iff_ne.mpr c11
   (first | rw [c11b0] | (simp only [i64_w, i32_w]; rw [c11b0]) | skip)
   obtain ⟨t256, A13, H⟩ := bindA H
   have H' := mk0 H
   clear H
   go_wp2_with (first | ((with_reducible refine gate_callee (f := 64) rfl ?_); refine goA 17 Try.func64 #[.slice A1 l1.length c1] ?_; (with_reducible refine (nat_Bits.calls k _ _ l1 t255 _ (by exact (Kd.V_reads' HO1.out).2.2) (by exact (Kd.V_reads' HO1.out).2.1) A10.out).mono ?_); rintro e w14 ⟨rfl, hb⟩; refine ⟨_, rfl, ?_⟩; replace HO0_1 := mk0 (Kd.V_below HO0_1.out hb); replace HO1 := mk0 (Kd.V_below HO1.out hb); replace HO254 := mk0 (Kd.V_below HO254.out hb); replace BK250 := bkB BK250 hb; replace BK251 := bkB BK251 hb; replace HB := hbS HB hb; have hnb15 := NB250_251.out; have hnc15 := NB251_250.out; obtain ⟨hcz16_0, hcz16_1, hfz16_0, hfz16_1⟩ := cz2 BK250) | (go_at_call 64; (with_reducible refine (nat_Bits.calls k _ _ l0_1 t256 _ (by exact (Kd.V_reads' HO0_1.out).2.2) (by exact (Kd.V_reads' HO0_1.out).2.1) A13.out).mono ?_); rintro e w17 ⟨rfl, hb⟩; replace HO0_1 := mk0 (Kd.V_below HO0_1.out hb); replace HO1 := mk0 (Kd.V_below HO1.out hb); replace HO254 := mk0 (Kd.V_below HO254.out hb); replace BK250 := bkB BK250 hb; replace BK251 := bkB BK251 hb; replace HB := hbS HB hb))
   go_meet
   case rel => exact ⟨_, ((t256 == 0)), (by first | rfl | (simp; done) | (simp [*]; done)), H', ⟨by first | omega | exact Nat.le_refl _⟩, ⟨Vm HO1.out (fun _ hk => ⟨hk.1.1, ⟨hk.1.2, hk.2⟩⟩)⟩, ⟨HO254.out⟩, ⟨Vm HO0_1.out (fun _ hk => ⟨hk.1.1, ⟨hk.1.2, hk.2⟩⟩)⟩, ⟨BK250.out⟩, ⟨BK251.out⟩, ⟨by repeat (first | exact HB.out | apply bN | apply b1 | apply bA | refine bS ?_ GE250.out | refine bS ?_ GE251.out)⟩⟩
 case rest =>
  clear HC4
  try clear c1
  try clear p2
  try clear c5
  try clear c6
  try clear c7
  try clear c11
  try clear c11b0
  try clear c11b1
  try clear c15
  try clear hcz16_0
  try clear hcz16_1
  try clear hcz8_0
  try clear hcz8_1
  try clear hfz16_0
  try clear hfz16_1
  try clear hfz8_0
  try clear hfz8_1
  obtain ⟨kq, x24_3, rfl, HA, HJ3, HO_1, HO_5, HO_251001, BK250, BK251, HB⟩ := hcut
  cases kq with
  | zero => exact absurd HA.out (by simp [ratio_lowest.j0])
  | succ kj3 =>
   have H := HA.out
   clear HA
   simp only [ratio_lowest.j0] at H
   by_cases c18 : x24_3 = true
   ·subst c18
    have H1 : ((ratio_zero.f kj3).bind fun bt257 => (some (bt257.1, bt257.2.1, bt257.2.2))) = some (r1, r2, r3) := by rw [if_pos rfl] at H; exact H
    clear H
    have H := H1
    clear H1
    obtain ⟨⟨t257, t258, t261⟩, A19, H⟩ := bindA H
    simp only [Option.some.injEq, Prod.mk.injEq] at H
    obtain ⟨rfl, rfl, rfl⟩ := H
    go_wp2_with (first | ((with_reducible refine gate_callee (f := 67) rfl ?_); refine goA 25 Try.func67 #[] ?_; (with_reducible refine (ratio_zero.calls kj3  t257 t258 t261 _ A19.out).mono ?_); rintro e w20 ⟨v259, v262, rfl, ho0, ho1, hb⟩; refine ⟨_, rfl, ?_⟩; replace HO_1 := mk0 (Kd.V_elder' HO_1.out (Rs ho0) hb); replace HO_5 := mk0 (Kd.V_elder' HO_5.out (Rs ho0) hb); replace HO_251001 := mk0 (Kd.V_elder' HO_251001.out (Rs ho0) hb); have HO260 := mk0 (Rl (Kd.R_newM (M := fun k_ => (w.heap.size ≤ k_)) (Rm (ok' := fun k_ => True) ho0 tv) (bZ HB.out) (fun k_ h_ => h_)) (bZ HB.out)); have HO263 := mk0 (Vl (Vm (ok' := fun k_ => ((P0_1_ k_ ∨ P1_ k_) ∨ w.heap.size ≤ k_) ∧ some k_ ≠ (v259 : Value).ownBlock ∧ k_ ≠ gb250 ∧ k_ ≠ gb251) ho1 (fun k_ hk_ => ⟨(.inr (Nat.le_trans (bZ HB.out) hk_.1)), hk_.2, (Kd.freshB BK250.out k_ hk_.1), (Kd.freshB BK251.out k_ hk_.1)⟩)) (bZ HB.out)); replace BK250 := bkB BK250 hb; replace BK251 := bkB BK251 hb; replace HB := hbS HB hb; have hnb21 := NB251_250.out; have hnc21 := NB250_251.out; obtain ⟨hcz22_0, hcz22_1, hcz22_2, hfz22_0, hfz22_1, hfz22_2⟩ := cz3 BK251; obtain ⟨Ao23, co23, eo23⟩ := Kd.R_slice HO260.out; subst eo23; obtain ⟨Ao24, co24, eo24⟩ := Kd.V_slice HO263.out; subst eo24))
    refine bodyPost_ret (results_cell_row rfl _ _ gb251 29 #[.bool t257, .slice Ao23 t258.length co23, .slice Ao24 t261.length co24] (0, 0) _ rfl (by refine blk_put (cs := #[.bool t257, .slice Ao23 t258.length co23, .slice none 0 0]) ?_ 2 _ rfl; refine blk_put (cs := #[.bool t257, .slice none 0 0, .slice none 0 0]) ?_ 1 _ rfl; refine blk_put (cs := #[.bool false, .slice none 0 0, .slice none 0 0]) ?_ 0 _ rfl; exact BK251.out) Try.underlying29 rfl (by kernel_rfl)) rfl ?_
    exact ⟨_, _, by first | rfl | (simp [errW_none, errW_some] <;> rfl) | (simp [*, errW_none, errW_some] <;> rfl), Rm (Rf (p := ⟨gb251, 2, none⟩) (Rf (p := ⟨gb251, 1, none⟩) (Rf (p := ⟨gb251, 0, none⟩) (Rt HO260.out BK251.out (by decide)) (fun _ hk => hk.2) (.bool t257)) (fun _ hk => hk.2) (.slice Ao23 t258.length co23)) (fun _ hk => hk.2) (.slice Ao24 t261.length co24)) (fun _ hk => hk.1.1), Vm (Vf (p := ⟨gb251, 2, none⟩) (Vf (p := ⟨gb251, 1, none⟩) (Vf (p := ⟨gb251, 0, none⟩) (Vm HO263.out (fun k_ hk => (⟨hk, hk.2.2.2⟩ : _ ∧ k_ ≠ gb251))) (fun _ hk => hk.2) (.bool t257)) (fun _ hk => hk.2) (.slice Ao23 t258.length co23)) (fun _ hk => hk.2) (.slice Ao24 t261.length co24)) (fun _ hk => ⟨hk.1.1, hk.1.2.1⟩), by repeat (first | exact HB.out | apply bN | apply b1 | apply bA | refine bS ?_ GE250.out | refine bS ?_ GE251.out)⟩
   ·replace c18 := Bool.eq_false_iff.mpr c18
    subst c18
    have H1 : ((nat_DivMod.f kj3 l0_1 t252).bind fun bt264 => ((nat_DivMod.f kj3 l1 t252).bind fun bt271 => ((integer_Make.f kj3 a0_0 bt264.1).bind fun bt278 => (some (bt278.1, bt278.2, bt271.1))))) = some (r1, r2, r3) := by rw [if_neg (show ¬ (false = true) by decide)] at H; exact H
    clear H
    have H := H1
    clear H1
    obtain ⟨⟨t264, t267, t270⟩, A25, H⟩ := bindA H
    obtain ⟨⟨t271, t274, t277⟩, A26, H⟩ := bindA H
    obtain ⟨⟨t278, t279⟩, A27, H⟩ := bindA H
    simp only [Option.some.injEq, Prod.mk.injEq] at H
    obtain ⟨rfl, rfl, rfl⟩ := H
    have hnb28 := NB250_251.out
    have hnc28 := NB251_250.out
    obtain ⟨hcz29_0, hcz29_1, hfz29_0, hfz29_1⟩ := cz2 BK250
    obtain ⟨Ao30, co30, eo30⟩ := Kd.V_slice HO_5.out
    subst eo30
    go_wp2_with (first | ((with_reducible refine gate_callee (f := 80) rfl ?_); refine goA 30 Try.func80 #[.slice A0_1 l0_1.length c0_1, .slice Ao30 t252.length co30] ?_; (with_reducible refine (nat_DivMod.calls kj3 (fun k_ => (((P0_1_ k_ ∨ P1_ k_) ∨ w.heap.size ≤ k_) ∧ (k_ ≠ gb250 ∧ k_ ≠ gb251))) _ _ l0_1 (fun k_ => (((P0_1_ k_ ∨ P1_ k_) ∨ w.heap.size ≤ k_) ∧ (k_ ≠ gb250 ∧ k_ ≠ gb251))) _ _ t252 t264 t267 t270 _ HO_251001.out HO_5.out A25.out).mono ?_); rintro e w31 ⟨v265, v268, rfl, ho0, ho1, hb⟩; refine ⟨_, rfl, ?_⟩; replace HO_1 := mk0 (Kd.V_below HO_1.out hb); replace HO_5 := mk0 (Kd.V_below HO_5.out hb); replace HO_251001 := mk0 (Kd.V_below HO_251001.out hb); have HO266 := mk0 (Vl (Vm (ok' := fun k_ => ((P0_1_ k_ ∨ P1_ k_) ∨ w.heap.size ≤ k_) ∧ k_ ≠ gb250 ∧ k_ ≠ gb251) ho0 (fun k_ hk_ => ⟨Or.elim hk_ (fun hs_ => Or.elim hs_ (fun hs_ => hs_.1) (fun hs_ => hs_.1)) (fun hn_ => (.inr (Nat.le_trans (bZ HB.out) hn_))), Or.elim hk_ (fun hs_ => Or.elim hs_ (fun hs_ => hs_.2.1) (fun hs_ => hs_.2.1)) (fun hn_ => (Kd.freshB BK250.out k_ hn_)), Or.elim hk_ (fun hs_ => Or.elim hs_ (fun hs_ => hs_.2.2) (fun hs_ => hs_.2.2)) (fun hn_ => (Kd.freshB BK251.out k_ hn_))⟩)) (bZ HB.out)); replace BK250 := bkB BK250 hb; replace BK251 := bkB BK251 hb; replace HB := hbS HB hb) | ((with_reducible refine gate_callee (f := 80) rfl ?_); refine goA 37 Try.func80 #[.slice A1 l1.length c1, .slice Ao30 t252.length co30] ?_; (with_reducible refine (nat_DivMod.calls kj3 (fun k_ => (((P0_1_ k_ ∨ P1_ k_) ∨ w.heap.size ≤ k_) ∧ (k_ ≠ gb250 ∧ k_ ≠ gb251))) _ _ l1 (fun k_ => (((P0_1_ k_ ∨ P1_ k_) ∨ w.heap.size ≤ k_) ∧ (k_ ≠ gb250 ∧ k_ ≠ gb251))) _ _ t252 t271 t274 t277 _ HO_1.out HO_5.out A26.out).mono ?_); rintro e w32 ⟨v272, v275, rfl, ho0, ho1, hb⟩; refine ⟨_, rfl, ?_⟩; replace HO_1 := mk0 (Kd.V_below HO_1.out hb); replace HO_5 := mk0 (Kd.V_below HO_5.out hb); replace HO_251001 := mk0 (Kd.V_below HO_251001.out hb); replace HO266 := mk0 (Kd.V_below HO266.out hb); have HO273 := mk0 (Vl (Vm (ok' := fun k_ => ((P0_1_ k_ ∨ P1_ k_) ∨ w.heap.size ≤ k_) ∧ k_ ≠ gb250 ∧ k_ ≠ gb251) ho0 (fun k_ hk_ => ⟨Or.elim hk_ (fun hs_ => Or.elim hs_ (fun hs_ => hs_.1) (fun hs_ => hs_.1)) (fun hn_ => (.inr (Nat.le_trans (bZ HB.out) hn_))), Or.elim hk_ (fun hs_ => Or.elim hs_ (fun hs_ => hs_.2.1) (fun hs_ => hs_.2.1)) (fun hn_ => (Kd.freshB BK250.out k_ hn_)), Or.elim hk_ (fun hs_ => Or.elim hs_ (fun hs_ => hs_.2.2) (fun hs_ => hs_.2.2)) (fun hn_ => (Kd.freshB BK251.out k_ hn_))⟩)) (bZ HB.out)); replace BK250 := bkB BK250 hb; replace BK251 := bkB BK251 hb; replace HB := hbS HB hb; obtain ⟨hcz33_0, hcz33_1, hfz33_0, hfz33_1⟩ := cz2 BK250; obtain ⟨Ao34, co34, eo34⟩ := Kd.V_slice HO266.out; subst eo34) | ((with_reducible refine gate_callee (f := 78) rfl ?_); refine goA 44 Try.func78 #[.bool a0_0, .slice Ao34 t264.length co34] ?_; (with_reducible refine (integer_Make.calls kj3 a0_0 _ _ t264 t278 t279 _ (by exact (Kd.V_reads' HO266.out).2.2) (by exact (Kd.V_reads' HO266.out).2.1) A27.out).mono ?_); rintro e w35 ⟨v280, rfl, ho0, hb⟩; refine ⟨_, rfl, ?_⟩; replace HO_1 := mk0 (Kd.V_elder' HO_1.out (Rs ho0) hb); replace HO_5 := mk0 (Kd.V_elder' HO_5.out (Rs ho0) hb); replace HO_251001 := mk0 (Kd.V_elder' HO_251001.out (Rs ho0) hb); replace HO266 := mk0 (Kd.V_elder' HO266.out (Rs ho0) hb); replace HO273 := mk0 (Kd.V_elder' HO273.out (Rs ho0) hb); have HO281 := mk0 (Rl (Kd.R_newM (M := fun k_ => (w.heap.size ≤ k_)) ho0 (bZ HB.out) (fun k_ h_ => h_)) (bZ HB.out)); replace BK250 := bkB BK250 hb; replace BK251 := bkB BK251 hb; replace HB := hbS HB hb; obtain ⟨Ao36, co36, eo36⟩ := Kd.V_slice HO273.out; subst eo36; obtain ⟨Ao37, co37, eo37⟩ := Kd.R_slice HO281.out; subst eo37; obtain ⟨hcz38_0, hcz38_1, hcz38_2, hfz38_0, hfz38_1, hfz38_2⟩ := cz3 BK251))
    refine bodyPost_ret (results_cell_row rfl _ _ gb251 29 #[.bool t278, .slice Ao37 t279.length co37, .slice Ao36 t271.length co36] (0, 0) _ rfl (by refine blk_put (cs := #[.bool t278, .slice Ao37 t279.length co37, .slice none 0 0]) ?_ 2 _ rfl; refine blk_put (cs := #[.bool t278, .slice none 0 0, .slice none 0 0]) ?_ 1 _ rfl; refine blk_put (cs := #[.bool false, .slice none 0 0, .slice none 0 0]) ?_ 0 _ rfl; exact BK251.out) Try.underlying29 rfl (by kernel_rfl)) rfl ?_
    exact ⟨_, _, by first | rfl | (simp [errW_none, errW_some] <;> rfl) | (simp [*, errW_none, errW_some] <;> rfl), Rm (Rf (p := ⟨gb251, 2, none⟩) (Rf (p := ⟨gb251, 1, none⟩) (Rf (p := ⟨gb251, 0, none⟩) (Rt HO281.out BK251.out (by decide)) (fun _ hk => hk.2) (.bool t278)) (fun _ hk => hk.2) (.slice Ao37 t279.length co37)) (fun _ hk => hk.2) (.slice Ao36 t271.length co36)) (fun _ hk => hk.1.1), Vm (Vf (p := ⟨gb251, 2, none⟩) (Vf (p := ⟨gb251, 1, none⟩) (Vf (p := ⟨gb251, 0, none⟩) (Vm HO273.out (fun k_ hk => (⟨hk, hk.1.2.2⟩ : _ ∧ k_ ≠ gb251))) (fun _ hk => hk.2) (.bool t278)) (fun _ hk => hk.2) (.slice Ao37 t279.length co37)) (fun _ hk => hk.2) (.slice Ao36 t271.length co36)) (fun _ hk => ⟨hk.1.1.1, hk.1.2⟩), by repeat (first | exact HB.out | apply bN | apply b1 | apply bA | refine bS ?_ GE250.out | refine bS ?_ GE251.out)⟩
def ratio_Mul.T3 : Bool × List (List Nat × List Nat) := (true, [([], []), ([], []), ([0, 1], [0, 1]), ([], []), ([3], [3]), ([], []), ([5], [5]), ([4, 6, 2], [4, 6]), ([2, 7, 7], [2, 7]), ([8, 8, 0, 1, 2, 3, 4, 5, 6, 7, 8], [8])])
def ratio_Mul.B3 : List Nat := [0, 0, 3, 0, 8, 0, 32, 127, 255, 511]
theorem ratio_Mul.tab3 : rtab .any (opsOf Try.f27 3) = ratio_Mul.T3 := by kernel_rfl
theorem ratio_Mul.bits3 : waitsOk ratio_Mul.T3.2 ratio_Mul.B3 = true := by kernel_rfl
set_option maxHeartbeats 8000000 in
set_option maxRecDepth 100000 in
theorem ratio_Mul.calls (k : Nat) (a0_0 : Bool) (P0_1_ : Nat → Prop) (A0_1 : Option Addr) (c0_1 : Nat) (l0_1 : List Int) (A0_2 : Option Addr) (c0_2 : Nat) (l0_2 : List Int) (a1_0 : Bool) (P1_1_ : Nat → Prop) (A1_1 : Option Addr) (c1_1 : Nat) (l1_1 : List Int) (A1_2 : Option Addr) (c1_2 : Nat) (l1_2 : List Int) (r1 : Bool) (r2 : List Int) (r3 : List Int) (w : World) (hs0_1 : Kd.V (Kd.int .u32) 87 w w.heap.size (fun k_ => P0_1_ k_) (.slice A0_1 l0_1.length c0_1) l0_1) (hr0_2 : Kd.C (Kd.int .u32) w A0_2 l0_2.length l0_2) (hc0_2 : l0_2.length ≤ c0_2) (hs1_1 : Kd.V (Kd.int .u32) 87 w w.heap.size (fun k_ => P1_1_ k_) (.slice A1_1 l1_1.length c1_1) l1_1) (hr1_2 : Kd.C (Kd.int .u32) w A1_2 l1_2.length l1_2) (hc1_2 : l1_2.length ≤ c1_2) (h : ratio_Mul.f k a0_0 l0_1 l0_2 a1_0 l1_1 l1_2 = some (r1, r2, r3)) :
  Calls Try.prog 27 #[.agg #[.bool a0_0, .slice A0_1 l0_1.length c0_1, .slice A0_2 l0_2.length c0_2], .agg #[.bool a1_0, .slice A1_1 l1_1.length c1_1, .slice A1_2 l1_2.length c1_2]] w fun e w' => ∃ v1_ v2_ : Value, e = .returned (.agg #[.bool r1, v1_, v2_]) ∧ Kd.R (Kd.int .u32) 87 w' w.heap.size (fun k_ => (w.heap.size ≤ k_)) v1_ r2 ∧ Kd.V (Kd.int .u32) 87 w' w.heap.size (fun k_ => ((P0_1_ k_ ∨ P1_1_ k_) ∨ w.heap.size ≤ k_) ∧ some k_ ≠ (v1_ : Value).ownBlock) v2_ r3 ∧ Below w.heap.size w w' := by
 have hu29 := Try.underlying29
 have hu27 := Try.underlying27
 have HO0_1 := mk0 (show Kd.V (Kd.int .u32) 87 w w.heap.size (fun k_ => ((P0_1_ k_ ∨ P1_1_ k_) ∨ w.heap.size ≤ k_)) (.slice A0_1 l0_1.length c0_1) l0_1 from Vm hs0_1 (fun k_ hk => .inl (.inl hk)))
 have HR0_2 := mk0 hr0_2
 have HC0_2 := mk0 hc0_2
 clear hr0_2 hc0_2
 have HO1_1 := mk0 (show Kd.V (Kd.int .u32) 87 w w.heap.size (fun k_ => ((P0_1_ k_ ∨ P1_1_ k_) ∨ w.heap.size ≤ k_)) (.slice A1_1 l1_1.length c1_1) l1_1 from Vm hs1_1 (fun k_ hk => .inl (.inr hk)))
 have HR1_2 := mk0 hr1_2
 have HC1_2 := mk0 hc1_2
 clear hr1_2 hc1_2
 have HB := mk0 (Below.refl w.heap.size w)
 have H : ((ratio_parts.f k a0_0 l0_1 l0_2).bind fun bt816 => ((ratio_parts.f k a1_0 l1_1 l1_2).bind fun bt826 => ((integer_Mul.f k bt816.1 bt816.2.1 bt826.1 bt826.2.1).bind fun bt836 => ((nat_Mul.f k bt816.2.2.2 bt826.2.2.2).bind fun t840 => ((ratio_lowest.f k bt836.1 bt836.2 t840).bind fun bt843 => (some (bt843.1, bt843.2.1, bt843.2.2))))))) = some (r1, r2, r3) := h
 clear h
 obtain ⟨⟨t816, t817, t820, t821⟩, A3, H⟩ := bindA H
 obtain ⟨⟨t826, t827, t830, t831⟩, A4, H⟩ := bindA H
 obtain ⟨⟨t836, t837⟩, A5, H⟩ := bindA H
 obtain ⟨t840, A6, H⟩ := bindA H
 obtain ⟨⟨t843, t844, t847⟩, A7, H⟩ := bindA H
 simp only [Option.some.injEq, Prod.mk.injEq] at H
 obtain ⟨rfl, rfl, rfl⟩ := H
 go_enter Try.func27, Try.ntmps27
 try go_wp2_with (first | ((with_reducible refine gate_dst (N := 2) rfl ?_); refine box_event rfl (N := 2) rfl (cs := #[.bool a0_0, .slice A0_1 l0_1.length c0_1, .slice A0_2 l0_2.length c0_2]) (t := 29) (by go_simp <;> rfl) ?_; intro gb813 hg w8 hbox hb; replace HO0_1 := vB HO0_1 hg hb; replace HO1_1 := vB HO1_1 hg hb; have BK813 := mk0 (hbox); have GE813 := geB hg HB; replace HB := hbS HB hb; clear hb hbox hg) | ((with_reducible refine gate_dst (N := 3) rfl ?_); refine box_event rfl (N := 3) rfl (cs := #[.bool a1_0, .slice A1_1 l1_1.length c1_1, .slice A1_2 l1_2.length c1_2]) (t := 29) (by go_simp <;> rfl) ?_; intro gb814 hg w9 hbox hb; replace HO0_1 := vB HO0_1 hg hb; replace HO1_1 := vB HO1_1 hg hb; have BK814 := mk0 (hbox); have GE814 := geB hg HB; replace HB := hbS HB hb; have NB813_814 := nbA hg BK813; have NB814_813 := nbB hg BK813; replace BK813 := bkB BK813 hb; clear hb hbox hg) | ((with_reducible refine gate_dst (N := 4) rfl ?_); refine box_event rfl (N := 4) rfl (cs := #[.bool false, .slice none 0 0, .slice none 0 0]) (t := 29) (by go_simp <;> rfl) ?_; intro gb815 hg w10 hbox hb; replace HO0_1 := vB HO0_1 hg hb; replace HO1_1 := vB HO1_1 hg hb; have BK815 := mk0 (hbox); have GE815 := geB hg HB; replace HB := hbS HB hb; have NB813_815 := nbA hg BK813; have NB815_813 := nbB hg BK813; replace BK813 := bkB BK813 hb; have NB814_815 := nbA hg BK814; have NB815_814 := nbB hg BK814; replace BK814 := bkB BK814 hb; clear hb hbox hg; have hnb11 := NB813_814.out; have hnc11 := NB814_813.out; have hnb12 := NB813_815.out; have hnc12 := NB815_813.out; obtain ⟨hcz13_0, hcz13_1, hcz13_2, hfz13_0, hfz13_1, hfz13_2⟩ := cz3 BK813) | ((with_reducible refine gate_callee (f := 36) rfl ?_); refine goA 11 Try.func36 #[.agg #[.bool a0_0, .slice A0_1 l0_1.length c0_1, .slice A0_2 l0_2.length c0_2]] ?_; (with_reducible refine (ratio_parts.calls k a0_0 (fun k_ => (((((P0_1_ k_ ∨ P1_1_ k_) ∨ w.heap.size ≤ k_) ∧ k_ ≠ gb813) ∧ k_ ≠ gb814) ∧ k_ ≠ gb815)) _ _ l0_1 _ _ l0_2 t816 t817 t820 t821 _ HO0_1.out (by exact Cb HR0_2.out HB.out) HC0_2.out A3.out).mono ?_); rintro e w14 ⟨v818, v822, rfl, ho0, ho1, hb⟩; refine ⟨_, rfl, ?_⟩; replace HO0_1 := mk0 (Kd.V_elder' HO0_1.out (Rs ho1) hb); replace HO1_1 := mk0 (Kd.V_elder' HO1_1.out (Rs ho1) hb); have HO819 := mk0 (Vl (Vm (ok' := fun k_ => ((P0_1_ k_ ∨ P1_1_ k_) ∨ w.heap.size ≤ k_) ∧ some k_ ≠ (v822 : Value).ownBlock ∧ k_ ≠ gb813 ∧ k_ ≠ gb814 ∧ k_ ≠ gb815) ho0 (fun k_ hk_ => ⟨Or.elim hk_.1 (fun hs_ => hs_.1.1.1) (fun hn_ => (.inr (Nat.le_trans (bZ HB.out) hn_))), hk_.2, Or.elim hk_.1 (fun hs_ => hs_.1.1.2) (fun hn_ => (Kd.freshB BK813.out k_ hn_)), Or.elim hk_.1 (fun hs_ => hs_.1.2) (fun hn_ => (Kd.freshB BK814.out k_ hn_)), Or.elim hk_.1 (fun hs_ => hs_.2) (fun hn_ => (Kd.freshB BK815.out k_ hn_))⟩)) (bZ HB.out)); have HO823 := mk0 (Rl (Kd.R_newM (M := fun k_ => (w.heap.size ≤ k_)) (Rm (ok' := fun k_ => True) ho1 tv) (bZ HB.out) (fun k_ h_ => h_)) (bZ HB.out)); replace BK813 := bkB BK813 hb; replace BK814 := bkB BK814 hb; replace BK815 := bkB BK815 hb; replace HB := hbS HB hb) | ((with_reducible refine gate_dst (N := 5) rfl ?_); refine box_event rfl (N := 5) rfl (cs := #[.bool false, .slice none 0 0]) (t := 27) (by go_simp <;> rfl) ?_; intro gb824 hg w15 hbox hb; replace HO0_1 := vB HO0_1 hg hb; replace HO1_1 := vB HO1_1 hg hb; replace HO819 := vB HO819 hg hb; replace HO823 := rB HO823 hb; have BK824 := mk0 (hbox); have GE824 := geB hg HB; replace HB := hbS HB hb; have NB813_824 := nbA hg BK813; have NB824_813 := nbB hg BK813; replace BK813 := bkB BK813 hb; have NB814_824 := nbA hg BK814; have NB824_814 := nbB hg BK814; replace BK814 := bkB BK814 hb; have NB815_824 := nbA hg BK815; have NB824_815 := nbB hg BK815; replace BK815 := bkB BK815 hb; clear hb hbox hg) | ((with_reducible refine gate_dst (N := 6) rfl ?_); refine box_event rfl (N := 6) rfl (cs := #[.bool false, .slice none 0 0]) (t := 27) (by go_simp <;> rfl) ?_; intro gb825 hg w16 hbox hb; replace HO0_1 := vB HO0_1 hg hb; replace HO1_1 := vB HO1_1 hg hb; replace HO819 := vB HO819 hg hb; replace HO823 := rB HO823 hb; have BK825 := mk0 (hbox); have GE825 := geB hg HB; replace HB := hbS HB hb; have NB813_825 := nbA hg BK813; have NB825_813 := nbB hg BK813; replace BK813 := bkB BK813 hb; have NB814_825 := nbA hg BK814; have NB825_814 := nbB hg BK814; replace BK814 := bkB BK814 hb; have NB815_825 := nbA hg BK815; have NB825_815 := nbB hg BK815; replace BK815 := bkB BK815 hb; have NB824_825 := nbA hg BK824; have NB825_824 := nbB hg BK824; replace BK824 := bkB BK824 hb; clear hb hbox hg; have hnb17 := NB824_813.out; have hnc17 := NB813_824.out; have hnb18 := NB824_814.out; have hnc18 := NB814_824.out; have hnb19 := NB824_815.out; have hnc19 := NB815_824.out; have hnb20 := NB824_825.out; have hnc20 := NB825_824.out; obtain ⟨hcz21_0, hcz21_1, hfz21_0, hfz21_1⟩ := cz2 BK824; obtain ⟨Ao22, co22, eo22⟩ := Kd.V_slice HO819.out; subst eo22) | ((with_reducible refine gate_store (t := 27) (p := 5) rfl ?_); refine store_event (t := 27) (p := 5) (v := ?vo_w23) (w1 := ((w16.setCell ⟨gb824, 0, none⟩ (.bool t816)).setCell ⟨gb824, 1, none⟩ (.slice Ao22 t817.length co22))) ?hg ?ho ?hn ?hr ?_; (case ho => rfl); (case hg => rfl); (case hn => rfl); (case hr => go_simp <;> rfl); intro w23 hw; replace HO0_1 : Aside0 (Kd.V (Kd.int .u32) 87 w23 w.heap.size (fun k_ => ((P0_1_ k_ ∨ P1_1_ k_) ∨ w.heap.size ≤ k_) ∧ some k_ ≠ (v822 : Value).ownBlock ∧ k_ ≠ gb813 ∧ k_ ≠ gb814 ∧ k_ ≠ gb815 ∧ k_ ≠ gb824 ∧ k_ ≠ gb825) (.slice A0_1 l0_1.length c0_1) l0_1) := ⟨(by rw [hw]; exact (Vm (Vf (p := ⟨gb824, 1, none⟩) (Vf (p := ⟨gb824, 0, none⟩) (Vm HO0_1.out (fun k_ hk => (⟨hk, hk.1.2⟩ : _ ∧ k_ ≠ gb824))) (fun _ hk => hk.2) (.bool t816)) (fun _ hk => hk.2) (.slice Ao22 t817.length co22)) (fun _ hk => ⟨hk.1.1.1.1.1.1.1, ⟨hk.1.1.1.2, ⟨hk.1.1.1.1.1.1.2, ⟨hk.1.1.1.1.1.2, ⟨hk.1.1.1.1.2, ⟨hk.1.1.2, hk.1.2⟩⟩⟩⟩⟩⟩)))⟩; replace HO1_1 : Aside0 (Kd.V (Kd.int .u32) 87 w23 w.heap.size (fun k_ => ((P0_1_ k_ ∨ P1_1_ k_) ∨ w.heap.size ≤ k_) ∧ some k_ ≠ (v822 : Value).ownBlock ∧ k_ ≠ gb813 ∧ k_ ≠ gb814 ∧ k_ ≠ gb815 ∧ k_ ≠ gb824 ∧ k_ ≠ gb825) (.slice A1_1 l1_1.length c1_1) l1_1) := ⟨(by rw [hw]; exact (Vm (Vf (p := ⟨gb824, 1, none⟩) (Vf (p := ⟨gb824, 0, none⟩) (Vm HO1_1.out (fun k_ hk => (⟨hk, hk.1.2⟩ : _ ∧ k_ ≠ gb824))) (fun _ hk => hk.2) (.bool t816)) (fun _ hk => hk.2) (.slice Ao22 t817.length co22)) (fun _ hk => ⟨hk.1.1.1.1.1.1.1, ⟨hk.1.1.1.2, ⟨hk.1.1.1.1.1.1.2, ⟨hk.1.1.1.1.1.2, ⟨hk.1.1.1.1.2, ⟨hk.1.1.2, hk.1.2⟩⟩⟩⟩⟩⟩)))⟩; replace HO819 : Aside0 (Kd.V (Kd.int .u32) 87 w23 w.heap.size (fun k_ => ((P0_1_ k_ ∨ P1_1_ k_) ∨ w.heap.size ≤ k_) ∧ some k_ ≠ (v822 : Value).ownBlock ∧ k_ ≠ gb813 ∧ k_ ≠ gb814 ∧ k_ ≠ gb815 ∧ k_ ≠ gb824 ∧ k_ ≠ gb825) (.slice Ao22 t817.length co22) t817) := ⟨(by rw [hw]; exact (Vm (Vf (p := ⟨gb824, 1, none⟩) (Vf (p := ⟨gb824, 0, none⟩) (Vm HO819.out (fun k_ hk => (⟨hk, hk.1.2⟩ : _ ∧ k_ ≠ gb824))) (fun _ hk => hk.2) (.bool t816)) (fun _ hk => hk.2) (.slice Ao22 t817.length co22)) (fun _ hk => ⟨hk.1.1.1.1, ⟨hk.1.1.1.2.1, ⟨hk.1.1.1.2.2.1, ⟨hk.1.1.1.2.2.2.1, ⟨hk.1.1.1.2.2.2.2, ⟨hk.1.1.2, hk.1.2⟩⟩⟩⟩⟩⟩)))⟩; replace HO823 : Aside0 (Kd.R (Kd.int .u32) 87 w23 w.heap.size (fun k_ => (w.heap.size ≤ k_)) v822 t821) := ⟨(by rw [hw]; exact (Rm (Rf (p := ⟨gb824, 1, none⟩) (Rf (p := ⟨gb824, 0, none⟩) (Rt HO823.out BK824.out (by decide)) (fun _ hk => hk.2) (.bool t816)) (fun _ hk => hk.2) (.slice Ao22 t817.length co22)) (fun _ hk => hk.1.1)))⟩; replace BK813 : Aside0 (w23.heap[gb813]? = some (.cells #[.bool a0_0, .slice A0_1 l0_1.length c0_1, .slice A0_2 l0_2.length c0_2] 29 (0, 0))) := ⟨(by rw [hw]; exact (by refine blk_far ?_ NB813_824.out _; refine blk_far ?_ NB813_824.out _; exact BK813.out))⟩; replace BK814 : Aside0 (w23.heap[gb814]? = some (.cells #[.bool a1_0, .slice A1_1 l1_1.length c1_1, .slice A1_2 l1_2.length c1_2] 29 (0, 0))) := ⟨(by rw [hw]; exact (by refine blk_far ?_ NB814_824.out _; refine blk_far ?_ NB814_824.out _; exact BK814.out))⟩; replace BK815 : Aside0 (w23.heap[gb815]? = some (.cells #[.bool false, .slice none 0 0, .slice none 0 0] 29 (0, 0))) := ⟨(by rw [hw]; exact (by refine blk_far ?_ NB815_824.out _; refine blk_far ?_ NB815_824.out _; exact BK815.out))⟩; replace BK824 : Aside0 (w23.heap[gb824]? = some (.cells #[.bool t816, .slice Ao22 t817.length co22] 27 (0, 0))) := ⟨(by rw [hw]; exact (by refine blk_put (cs := #[.bool t816, .slice none 0 0]) ?_ 1 _ rfl; refine blk_put (cs := #[.bool false, .slice none 0 0]) ?_ 0 _ rfl; exact BK824.out))⟩; replace BK825 : Aside0 (w23.heap[gb825]? = some (.cells #[.bool false, .slice none 0 0] 27 (0, 0))) := ⟨(by rw [hw]; exact (by refine blk_far ?_ NB825_824.out _; refine blk_far ?_ NB825_824.out _; exact BK825.out))⟩; replace HB : Aside0 (Below w.heap.size w w23) := ⟨(by rw [hw]; exact (by repeat (first | exact HB.out | refine bS ?_ GE815.out | refine bS ?_ GE824.out | refine bS ?_ GE825.out)))⟩; clear hw; have hnb24 := NB825_813.out; have hnc24 := NB813_825.out; have hnb25 := NB825_814.out; have hnc25 := NB814_825.out; have hnb26 := NB825_815.out; have hnc26 := NB815_825.out; obtain ⟨hcz27_0, hcz27_1, hfz27_0, hfz27_1⟩ := cz2 BK825; obtain ⟨Ao28, co28, eo28⟩ := Kd.R_slice HO823.out; subst eo28) | ((with_reducible refine gate_store (t := 27) (p := 6) rfl ?_); refine store_event (t := 27) (p := 6) (v := ?vo_w29) (w1 := ((w23.setCell ⟨gb825, 0, none⟩ (.bool t820)).setCell ⟨gb825, 1, none⟩ (.slice Ao28 t821.length co28))) ?hg ?ho ?hn ?hr ?_; (case ho => rfl); (case hg => rfl); (case hn => rfl); (case hr => go_simp <;> rfl); intro w29 hw; replace HO0_1 : Aside0 (Kd.V (Kd.int .u32) 87 w29 w.heap.size (fun k_ => ((P0_1_ k_ ∨ P1_1_ k_) ∨ w.heap.size ≤ k_) ∧ some k_ ≠ (.slice Ao28 t821.length co28 : Value).ownBlock ∧ k_ ≠ gb813 ∧ k_ ≠ gb814 ∧ k_ ≠ gb815 ∧ k_ ≠ gb824 ∧ k_ ≠ gb825) (.slice A0_1 l0_1.length c0_1) l0_1) := ⟨(by rw [hw]; exact (Vm (Vf (p := ⟨gb825, 1, none⟩) (Vf (p := ⟨gb825, 0, none⟩) (Vm HO0_1.out (fun k_ hk => (⟨hk, hk.2.2.2.2.2.2⟩ : _ ∧ k_ ≠ gb825))) (fun _ hk => hk.2) (.bool t820)) (fun _ hk => hk.2) (.slice Ao28 t821.length co28)) (fun _ hk => ⟨hk.1.1, ⟨hk.1.2.1, ⟨hk.1.2.2.1, ⟨hk.1.2.2.2.1, ⟨hk.1.2.2.2.2.1, ⟨hk.1.2.2.2.2.2.1, hk.1.2.2.2.2.2.2⟩⟩⟩⟩⟩⟩)))⟩; replace HO1_1 : Aside0 (Kd.V (Kd.int .u32) 87 w29 w.heap.size (fun k_ => ((P0_1_ k_ ∨ P1_1_ k_) ∨ w.heap.size ≤ k_) ∧ some k_ ≠ (.slice Ao28 t821.length co28 : Value).ownBlock ∧ k_ ≠ gb813 ∧ k_ ≠ gb814 ∧ k_ ≠ gb815 ∧ k_ ≠ gb824 ∧ k_ ≠ gb825) (.slice A1_1 l1_1.length c1_1) l1_1) := ⟨(by rw [hw]; exact (Vm (Vf (p := ⟨gb825, 1, none⟩) (Vf (p := ⟨gb825, 0, none⟩) (Vm HO1_1.out (fun k_ hk => (⟨hk, hk.2.2.2.2.2.2⟩ : _ ∧ k_ ≠ gb825))) (fun _ hk => hk.2) (.bool t820)) (fun _ hk => hk.2) (.slice Ao28 t821.length co28)) (fun _ hk => ⟨hk.1.1, ⟨hk.1.2.1, ⟨hk.1.2.2.1, ⟨hk.1.2.2.2.1, ⟨hk.1.2.2.2.2.1, ⟨hk.1.2.2.2.2.2.1, hk.1.2.2.2.2.2.2⟩⟩⟩⟩⟩⟩)))⟩; replace HO819 : Aside0 (Kd.V (Kd.int .u32) 87 w29 w.heap.size (fun k_ => ((P0_1_ k_ ∨ P1_1_ k_) ∨ w.heap.size ≤ k_) ∧ some k_ ≠ (.slice Ao28 t821.length co28 : Value).ownBlock ∧ k_ ≠ gb813 ∧ k_ ≠ gb814 ∧ k_ ≠ gb815 ∧ k_ ≠ gb824 ∧ k_ ≠ gb825) (.slice Ao22 t817.length co22) t817) := ⟨(by rw [hw]; exact (Vm (Vf (p := ⟨gb825, 1, none⟩) (Vf (p := ⟨gb825, 0, none⟩) (Vm HO819.out (fun k_ hk => (⟨hk, hk.2.2.2.2.2.2⟩ : _ ∧ k_ ≠ gb825))) (fun _ hk => hk.2) (.bool t820)) (fun _ hk => hk.2) (.slice Ao28 t821.length co28)) (fun _ hk => ⟨hk.1.1, ⟨hk.1.2.1, ⟨hk.1.2.2.1, ⟨hk.1.2.2.2.1, ⟨hk.1.2.2.2.2.1, ⟨hk.1.2.2.2.2.2.1, hk.1.2.2.2.2.2.2⟩⟩⟩⟩⟩⟩)))⟩; replace HO823 : Aside0 (Kd.R (Kd.int .u32) 87 w29 w.heap.size (fun k_ => (w.heap.size ≤ k_)) (.slice Ao28 t821.length co28) t821) := ⟨(by rw [hw]; exact (Rm (Rf (p := ⟨gb825, 1, none⟩) (Rf (p := ⟨gb825, 0, none⟩) (Rt HO823.out BK825.out (by decide)) (fun _ hk => hk.2) (.bool t820)) (fun _ hk => hk.2) (.slice Ao28 t821.length co28)) (fun _ hk => hk.1)))⟩; replace BK813 : Aside0 (w29.heap[gb813]? = some (.cells #[.bool a0_0, .slice A0_1 l0_1.length c0_1, .slice A0_2 l0_2.length c0_2] 29 (0, 0))) := ⟨(by rw [hw]; exact (by refine blk_far ?_ NB813_825.out _; refine blk_far ?_ NB813_825.out _; exact BK813.out))⟩; replace BK814 : Aside0 (w29.heap[gb814]? = some (.cells #[.bool a1_0, .slice A1_1 l1_1.length c1_1, .slice A1_2 l1_2.length c1_2] 29 (0, 0))) := ⟨(by rw [hw]; exact (by refine blk_far ?_ NB814_825.out _; refine blk_far ?_ NB814_825.out _; exact BK814.out))⟩; replace BK815 : Aside0 (w29.heap[gb815]? = some (.cells #[.bool false, .slice none 0 0, .slice none 0 0] 29 (0, 0))) := ⟨(by rw [hw]; exact (by refine blk_far ?_ NB815_825.out _; refine blk_far ?_ NB815_825.out _; exact BK815.out))⟩; replace BK824 : Aside0 (w29.heap[gb824]? = some (.cells #[.bool t816, .slice Ao22 t817.length co22] 27 (0, 0))) := ⟨(by rw [hw]; exact (by refine blk_far ?_ NB824_825.out _; refine blk_far ?_ NB824_825.out _; exact BK824.out))⟩; replace BK825 : Aside0 (w29.heap[gb825]? = some (.cells #[.bool t820, .slice Ao28 t821.length co28] 27 (0, 0))) := ⟨(by rw [hw]; exact (by refine blk_put (cs := #[.bool t820, .slice none 0 0]) ?_ 1 _ rfl; refine blk_put (cs := #[.bool false, .slice none 0 0]) ?_ 0 _ rfl; exact BK825.out))⟩; replace HB : Aside0 (Below w.heap.size w w29) := ⟨(by rw [hw]; exact (by repeat (first | exact HB.out | refine bS ?_ GE815.out | refine bS ?_ GE824.out | refine bS ?_ GE825.out)))⟩; clear hw; have hnb30 := NB814_815.out; have hnc30 := NB815_814.out; obtain ⟨hcz31_0, hcz31_1, hcz31_2, hfz31_0, hfz31_1, hfz31_2⟩ := cz3 BK814) | ((with_reducible refine gate_callee (f := 36) rfl ?_); refine goA 16 Try.func36 #[.agg #[.bool a1_0, .slice A1_1 l1_1.length c1_1, .slice A1_2 l1_2.length c1_2]] ?_; (with_reducible refine (ratio_parts.calls k a1_0 (fun k_ => (((P0_1_ k_ ∨ P1_1_ k_) ∨ w.heap.size ≤ k_) ∧ (some k_ ≠ (.slice Ao28 t821.length co28 : Value).ownBlock ∧ (k_ ≠ gb813 ∧ (k_ ≠ gb814 ∧ (k_ ≠ gb815 ∧ (k_ ≠ gb824 ∧ k_ ≠ gb825))))))) _ _ l1_1 _ _ l1_2 t826 t827 t830 t831 _ HO1_1.out (by exact Cb HR1_2.out HB.out) HC1_2.out A4.out).mono ?_); rintro e w32 ⟨v828, v832, rfl, ho0, ho1, hb⟩; refine ⟨_, rfl, ?_⟩; replace HO0_1 := mk0 (Kd.V_elder' HO0_1.out (Rs ho1) hb); replace HO1_1 := mk0 (Kd.V_elder' HO1_1.out (Rs ho1) hb); replace HO819 := mk0 (Kd.V_elder' HO819.out (Rs ho1) hb); have HO829 := mk0 (Vl (Vm (ok' := fun k_ => ((P0_1_ k_ ∨ P1_1_ k_) ∨ w.heap.size ≤ k_) ∧ some k_ ≠ (v832 : Value).ownBlock ∧ some k_ ≠ (.slice Ao28 t821.length co28 : Value).ownBlock ∧ k_ ≠ gb813 ∧ k_ ≠ gb814 ∧ k_ ≠ gb815 ∧ k_ ≠ gb824 ∧ k_ ≠ gb825) ho0 (fun k_ hk_ => ⟨Or.elim hk_.1 (fun hs_ => hs_.1) (fun hn_ => (.inr (Nat.le_trans (bZ HB.out) hn_))), hk_.2, Or.elim hk_.1 (fun hs_ => hs_.2.1) (fun hn_ => (Kd.fresh' (Rq HO823.out) k_ hn_)), Or.elim hk_.1 (fun hs_ => hs_.2.2.1) (fun hn_ => (Kd.freshB BK813.out k_ hn_)), Or.elim hk_.1 (fun hs_ => hs_.2.2.2.1) (fun hn_ => (Kd.freshB BK814.out k_ hn_)), Or.elim hk_.1 (fun hs_ => hs_.2.2.2.2.1) (fun hn_ => (Kd.freshB BK815.out k_ hn_)), Or.elim hk_.1 (fun hs_ => hs_.2.2.2.2.2.1) (fun hn_ => (Kd.freshB BK824.out k_ hn_)), Or.elim hk_.1 (fun hs_ => hs_.2.2.2.2.2.2) (fun hn_ => (Kd.freshB BK825.out k_ hn_))⟩)) (bZ HB.out)); have HO833 := mk0 (Rl (Rn (Kd.R_newM (M := fun k_ => (w.heap.size ≤ k_)) (Rm (ok' := fun k_ => True) ho1 tv) (bZ HB.out) (fun k_ h_ => h_)) (Rq HO823.out)) (bZ HB.out)); replace HO823 := mk0 (Re HO823.out (Rs ho1) hb); replace BK813 := bkB BK813 hb; replace BK814 := bkB BK814 hb; replace BK815 := bkB BK815 hb; replace BK824 := bkB BK824 hb; replace BK825 := bkB BK825 hb; replace HB := hbS HB hb) | ((with_reducible refine gate_dst (N := 7) rfl ?_); refine box_event rfl (N := 7) rfl (cs := #[.bool false, .slice none 0 0]) (t := 27) (by go_simp <;> rfl) ?_; intro gb834 hg w33 hbox hb; replace HO0_1 := vB HO0_1 hg hb; replace HO1_1 := vB HO1_1 hg hb; replace HO819 := vB HO819 hg hb; replace HO823 := rB HO823 hb; replace HO829 := vB HO829 hg hb; replace HO833 := rB HO833 hb; have BK834 := mk0 (hbox); have GE834 := geB hg HB; replace HB := hbS HB hb; have NB813_834 := nbA hg BK813; have NB834_813 := nbB hg BK813; replace BK813 := bkB BK813 hb; have NB814_834 := nbA hg BK814; have NB834_814 := nbB hg BK814; replace BK814 := bkB BK814 hb; have NB815_834 := nbA hg BK815; have NB834_815 := nbB hg BK815; replace BK815 := bkB BK815 hb; have NB824_834 := nbA hg BK824; have NB834_824 := nbB hg BK824; replace BK824 := bkB BK824 hb; have NB825_834 := nbA hg BK825; have NB834_825 := nbB hg BK825; replace BK825 := bkB BK825 hb; clear hb hbox hg) | ((with_reducible refine gate_dst (N := 8) rfl ?_); refine box_event rfl (N := 8) rfl (cs := #[.bool false, .slice none 0 0]) (t := 27) (by go_simp <;> rfl) ?_; intro gb835 hg w34 hbox hb; replace HO0_1 := vB HO0_1 hg hb; replace HO1_1 := vB HO1_1 hg hb; replace HO819 := vB HO819 hg hb; replace HO823 := rB HO823 hb; replace HO829 := vB HO829 hg hb; replace HO833 := rB HO833 hb; have BK835 := mk0 (hbox); have GE835 := geB hg HB; replace HB := hbS HB hb; have NB813_835 := nbA hg BK813; have NB835_813 := nbB hg BK813; replace BK813 := bkB BK813 hb; have NB814_835 := nbA hg BK814; have NB835_814 := nbB hg BK814; replace BK814 := bkB BK814 hb; have NB815_835 := nbA hg BK815; have NB835_815 := nbB hg BK815; replace BK815 := bkB BK815 hb; have NB824_835 := nbA hg BK824; have NB835_824 := nbB hg BK824; replace BK824 := bkB BK824 hb; have NB825_835 := nbA hg BK825; have NB835_825 := nbB hg BK825; replace BK825 := bkB BK825 hb; have NB834_835 := nbA hg BK834; have NB835_834 := nbB hg BK834; replace BK834 := bkB BK834 hb; clear hb hbox hg; have hnb35 := NB834_813.out; have hnc35 := NB813_834.out; have hnb36 := NB834_814.out; have hnc36 := NB814_834.out; have hnb37 := NB834_815.out; have hnc37 := NB815_834.out; have hnb38 := NB834_824.out; have hnc38 := NB824_834.out; have hnb39 := NB834_825.out; have hnc39 := NB825_834.out; have hnb40 := NB834_835.out; have hnc40 := NB835_834.out; obtain ⟨hcz41_0, hcz41_1, hfz41_0, hfz41_1⟩ := cz2 BK834; obtain ⟨Ao42, co42, eo42⟩ := Kd.V_slice HO829.out; subst eo42; have hnb43 := NB835_813.out; have hnc43 := NB813_835.out; have hnb44 := NB835_814.out; have hnc44 := NB814_835.out; have hnb45 := NB835_815.out; have hnc45 := NB815_835.out; have hnb46 := NB835_824.out; have hnc46 := NB824_835.out; have hnb47 := NB835_825.out; have hnc47 := NB825_835.out; obtain ⟨hcz48_0, hcz48_1, hfz48_0, hfz48_1⟩ := cz2 BK835; obtain ⟨Ao49, co49, eo49⟩ := Kd.R_slice HO833.out; subst eo49))
 have n0_ : Aside0 (Kd.V (Kd.int .u32) 87 ((((w34.setCell ⟨gb834, 0, none⟩ (.bool t826)).setCell ⟨gb834, 1, none⟩ (.slice Ao42 t827.length co42)).setCell ⟨gb835, 0, none⟩ (.bool t830)).setCell ⟨gb835, 1, none⟩ (.slice Ao49 t831.length co49)) w.heap.size (fun k_ => ((P0_1_ k_ ∨ P1_1_ k_) ∨ w.heap.size ≤ k_) ∧ some k_ ≠ (.slice Ao28 t821.length co28 : Value).ownBlock ∧ some k_ ≠ (.slice Ao49 t831.length co49 : Value).ownBlock ∧ k_ ≠ gb813 ∧ k_ ≠ gb814 ∧ k_ ≠ gb815 ∧ k_ ≠ gb824 ∧ k_ ≠ gb825 ∧ k_ ≠ gb834 ∧ k_ ≠ gb835) (.slice A0_1 l0_1.length c0_1) l0_1) := ⟨Vm (Vf (p := ⟨gb835, 1, none⟩) (Vf (p := ⟨gb835, 0, none⟩) (Vf (p := ⟨gb834, 1, none⟩) (Vf (p := ⟨gb834, 0, none⟩) (Vm (Vm HO0_1.out (fun k_ hk => (⟨hk, hk.1.2⟩ : _ ∧ k_ ≠ gb834))) (fun k_ hk => (⟨hk, hk.1.2⟩ : _ ∧ k_ ≠ gb835))) (fun _ hk => hk.1.2) (.bool t826)) (fun _ hk => hk.1.2) (.slice Ao42 t827.length co42)) (fun _ hk => hk.2) (.bool t830)) (fun _ hk => hk.2) (.slice Ao49 t831.length co49)) (fun _ hk => ⟨hk.1.1.1.1.1.1, ⟨hk.1.1.1.1.1.2.1, ⟨hk.1.1.1.1.2, ⟨hk.1.1.1.1.1.2.2.1, ⟨hk.1.1.1.1.1.2.2.2.1, ⟨hk.1.1.1.1.1.2.2.2.2.1, ⟨hk.1.1.1.1.1.2.2.2.2.2.1, ⟨hk.1.1.1.1.1.2.2.2.2.2.2, ⟨hk.1.1.1.2, hk.1.1.2⟩⟩⟩⟩⟩⟩⟩⟩⟩)⟩
 have n1_ : Aside0 (Kd.V (Kd.int .u32) 87 ((((w34.setCell ⟨gb834, 0, none⟩ (.bool t826)).setCell ⟨gb834, 1, none⟩ (.slice Ao42 t827.length co42)).setCell ⟨gb835, 0, none⟩ (.bool t830)).setCell ⟨gb835, 1, none⟩ (.slice Ao49 t831.length co49)) w.heap.size (fun k_ => ((P0_1_ k_ ∨ P1_1_ k_) ∨ w.heap.size ≤ k_) ∧ some k_ ≠ (.slice Ao28 t821.length co28 : Value).ownBlock ∧ some k_ ≠ (.slice Ao49 t831.length co49 : Value).ownBlock ∧ k_ ≠ gb813 ∧ k_ ≠ gb814 ∧ k_ ≠ gb815 ∧ k_ ≠ gb824 ∧ k_ ≠ gb825 ∧ k_ ≠ gb834 ∧ k_ ≠ gb835) (.slice A1_1 l1_1.length c1_1) l1_1) := ⟨Vm (Vf (p := ⟨gb835, 1, none⟩) (Vf (p := ⟨gb835, 0, none⟩) (Vf (p := ⟨gb834, 1, none⟩) (Vf (p := ⟨gb834, 0, none⟩) (Vm (Vm HO1_1.out (fun k_ hk => (⟨hk, hk.1.2⟩ : _ ∧ k_ ≠ gb834))) (fun k_ hk => (⟨hk, hk.1.2⟩ : _ ∧ k_ ≠ gb835))) (fun _ hk => hk.1.2) (.bool t826)) (fun _ hk => hk.1.2) (.slice Ao42 t827.length co42)) (fun _ hk => hk.2) (.bool t830)) (fun _ hk => hk.2) (.slice Ao49 t831.length co49)) (fun _ hk => ⟨hk.1.1.1.1.1.1, ⟨hk.1.1.1.1.1.2.1, ⟨hk.1.1.1.1.2, ⟨hk.1.1.1.1.1.2.2.1, ⟨hk.1.1.1.1.1.2.2.2.1, ⟨hk.1.1.1.1.1.2.2.2.2.1, ⟨hk.1.1.1.1.1.2.2.2.2.2.1, ⟨hk.1.1.1.1.1.2.2.2.2.2.2, ⟨hk.1.1.1.2, hk.1.1.2⟩⟩⟩⟩⟩⟩⟩⟩⟩)⟩
 have n2_ : Aside0 (Kd.V (Kd.int .u32) 87 ((((w34.setCell ⟨gb834, 0, none⟩ (.bool t826)).setCell ⟨gb834, 1, none⟩ (.slice Ao42 t827.length co42)).setCell ⟨gb835, 0, none⟩ (.bool t830)).setCell ⟨gb835, 1, none⟩ (.slice Ao49 t831.length co49)) w.heap.size (fun k_ => ((P0_1_ k_ ∨ P1_1_ k_) ∨ w.heap.size ≤ k_) ∧ some k_ ≠ (.slice Ao28 t821.length co28 : Value).ownBlock ∧ some k_ ≠ (.slice Ao49 t831.length co49 : Value).ownBlock ∧ k_ ≠ gb813 ∧ k_ ≠ gb814 ∧ k_ ≠ gb815 ∧ k_ ≠ gb824 ∧ k_ ≠ gb825 ∧ k_ ≠ gb834 ∧ k_ ≠ gb835) (.slice Ao22 t817.length co22) t817) := ⟨Vm (Vf (p := ⟨gb835, 1, none⟩) (Vf (p := ⟨gb835, 0, none⟩) (Vf (p := ⟨gb834, 1, none⟩) (Vf (p := ⟨gb834, 0, none⟩) (Vm (Vm HO819.out (fun k_ hk => (⟨hk, hk.1.2⟩ : _ ∧ k_ ≠ gb834))) (fun k_ hk => (⟨hk, hk.1.2⟩ : _ ∧ k_ ≠ gb835))) (fun _ hk => hk.1.2) (.bool t826)) (fun _ hk => hk.1.2) (.slice Ao42 t827.length co42)) (fun _ hk => hk.2) (.bool t830)) (fun _ hk => hk.2) (.slice Ao49 t831.length co49)) (fun _ hk => ⟨hk.1.1.1.1.1.1, ⟨hk.1.1.1.1.1.2.1, ⟨hk.1.1.1.1.2, ⟨hk.1.1.1.1.1.2.2.1, ⟨hk.1.1.1.1.1.2.2.2.1, ⟨hk.1.1.1.1.1.2.2.2.2.1, ⟨hk.1.1.1.1.1.2.2.2.2.2.1, ⟨hk.1.1.1.1.1.2.2.2.2.2.2, ⟨hk.1.1.1.2, hk.1.1.2⟩⟩⟩⟩⟩⟩⟩⟩⟩)⟩
 have n3_ : Aside0 (Kd.R (Kd.int .u32) 87 ((((w34.setCell ⟨gb834, 0, none⟩ (.bool t826)).setCell ⟨gb834, 1, none⟩ (.slice Ao42 t827.length co42)).setCell ⟨gb835, 0, none⟩ (.bool t830)).setCell ⟨gb835, 1, none⟩ (.slice Ao49 t831.length co49)) w.heap.size (fun k_ => (w.heap.size ≤ k_) ∧ some k_ ≠ (.slice Ao49 t831.length co49 : Value).ownBlock) (.slice Ao28 t821.length co28) t821) := ⟨Rm (Rf (p := ⟨gb835, 1, none⟩) (Rf (p := ⟨gb835, 0, none⟩) (Rf (p := ⟨gb834, 1, none⟩) (Rf (p := ⟨gb834, 0, none⟩) (Rt (Rt HO823.out BK834.out (by decide)) BK835.out (by decide)) (fun _ hk => hk.1.2) (.bool t826)) (fun _ hk => hk.1.2) (.slice Ao42 t827.length co42)) (fun _ hk => hk.2) (.bool t830)) (fun _ hk => hk.2) (.slice Ao49 t831.length co49)) (fun _ hk => ⟨hk.1.1.1, hk.1.1.2⟩)⟩
 have n4_ : Aside0 (Kd.V (Kd.int .u32) 87 ((((w34.setCell ⟨gb834, 0, none⟩ (.bool t826)).setCell ⟨gb834, 1, none⟩ (.slice Ao42 t827.length co42)).setCell ⟨gb835, 0, none⟩ (.bool t830)).setCell ⟨gb835, 1, none⟩ (.slice Ao49 t831.length co49)) w.heap.size (fun k_ => ((P0_1_ k_ ∨ P1_1_ k_) ∨ w.heap.size ≤ k_) ∧ some k_ ≠ (.slice Ao28 t821.length co28 : Value).ownBlock ∧ some k_ ≠ (.slice Ao49 t831.length co49 : Value).ownBlock ∧ k_ ≠ gb813 ∧ k_ ≠ gb814 ∧ k_ ≠ gb815 ∧ k_ ≠ gb824 ∧ k_ ≠ gb825 ∧ k_ ≠ gb834 ∧ k_ ≠ gb835) (.slice Ao42 t827.length co42) t827) := ⟨Vm (Vf (p := ⟨gb835, 1, none⟩) (Vf (p := ⟨gb835, 0, none⟩) (Vf (p := ⟨gb834, 1, none⟩) (Vf (p := ⟨gb834, 0, none⟩) (Vm (Vm HO829.out (fun k_ hk => (⟨hk, hk.1.2⟩ : _ ∧ k_ ≠ gb834))) (fun k_ hk => (⟨hk, hk.1.2⟩ : _ ∧ k_ ≠ gb835))) (fun _ hk => hk.1.2) (.bool t826)) (fun _ hk => hk.1.2) (.slice Ao42 t827.length co42)) (fun _ hk => hk.2) (.bool t830)) (fun _ hk => hk.2) (.slice Ao49 t831.length co49)) (fun _ hk => ⟨hk.1.1.1.1.1, ⟨hk.1.1.1.1.2.2.1, ⟨hk.1.1.1.1.2.1, ⟨hk.1.1.1.1.2.2.2.1, ⟨hk.1.1.1.1.2.2.2.2.1, ⟨hk.1.1.1.1.2.2.2.2.2.1, ⟨hk.1.1.1.1.2.2.2.2.2.2.1, ⟨hk.1.1.1.1.2.2.2.2.2.2.2, ⟨hk.1.1.1.2, hk.1.1.2⟩⟩⟩⟩⟩⟩⟩⟩⟩)⟩
 have n5_ : Aside0 (Kd.R (Kd.int .u32) 87 ((((w34.setCell ⟨gb834, 0, none⟩ (.bool t826)).setCell ⟨gb834, 1, none⟩ (.slice Ao42 t827.length co42)).setCell ⟨gb835, 0, none⟩ (.bool t830)).setCell ⟨gb835, 1, none⟩ (.slice Ao49 t831.length co49)) w.heap.size (fun k_ => (w.heap.size ≤ k_) ∧ some k_ ≠ (.slice Ao28 t821.length co28 : Value).ownBlock) (.slice Ao49 t831.length co49) t831) := ⟨Rm (Rf (p := ⟨gb835, 1, none⟩) (Rf (p := ⟨gb835, 0, none⟩) (Rf (p := ⟨gb834, 1, none⟩) (Rf (p := ⟨gb834, 0, none⟩) (Rt (Rt HO833.out BK834.out (by decide)) BK835.out (by decide)) (fun _ hk => hk.1.2) (.bool t826)) (fun _ hk => hk.1.2) (.slice Ao42 t827.length co42)) (fun _ hk => hk.2) (.bool t830)) (fun _ hk => hk.2) (.slice Ao49 t831.length co49)) (fun _ hk => ⟨hk.1.1.1.1, hk.1.1.2⟩)⟩
 have n6_ : Aside0 (((((w34.setCell ⟨gb834, 0, none⟩ (.bool t826)).setCell ⟨gb834, 1, none⟩ (.slice Ao42 t827.length co42)).setCell ⟨gb835, 0, none⟩ (.bool t830)).setCell ⟨gb835, 1, none⟩ (.slice Ao49 t831.length co49)).heap[gb813]? = some (.cells #[.bool a0_0, .slice A0_1 l0_1.length c0_1, .slice A0_2 l0_2.length c0_2] 29 (0, 0))) := ⟨by refine blk_far ?_ NB813_835.out _; refine blk_far ?_ NB813_835.out _; refine blk_far ?_ NB813_834.out _; refine blk_far ?_ NB813_834.out _; exact BK813.out⟩
 have n7_ : Aside0 (((((w34.setCell ⟨gb834, 0, none⟩ (.bool t826)).setCell ⟨gb834, 1, none⟩ (.slice Ao42 t827.length co42)).setCell ⟨gb835, 0, none⟩ (.bool t830)).setCell ⟨gb835, 1, none⟩ (.slice Ao49 t831.length co49)).heap[gb814]? = some (.cells #[.bool a1_0, .slice A1_1 l1_1.length c1_1, .slice A1_2 l1_2.length c1_2] 29 (0, 0))) := ⟨by refine blk_far ?_ NB814_835.out _; refine blk_far ?_ NB814_835.out _; refine blk_far ?_ NB814_834.out _; refine blk_far ?_ NB814_834.out _; exact BK814.out⟩
 have n8_ : Aside0 (((((w34.setCell ⟨gb834, 0, none⟩ (.bool t826)).setCell ⟨gb834, 1, none⟩ (.slice Ao42 t827.length co42)).setCell ⟨gb835, 0, none⟩ (.bool t830)).setCell ⟨gb835, 1, none⟩ (.slice Ao49 t831.length co49)).heap[gb815]? = some (.cells #[.bool false, .slice none 0 0, .slice none 0 0] 29 (0, 0))) := ⟨by refine blk_far ?_ NB815_835.out _; refine blk_far ?_ NB815_835.out _; refine blk_far ?_ NB815_834.out _; refine blk_far ?_ NB815_834.out _; exact BK815.out⟩
 have n9_ : Aside0 (((((w34.setCell ⟨gb834, 0, none⟩ (.bool t826)).setCell ⟨gb834, 1, none⟩ (.slice Ao42 t827.length co42)).setCell ⟨gb835, 0, none⟩ (.bool t830)).setCell ⟨gb835, 1, none⟩ (.slice Ao49 t831.length co49)).heap[gb824]? = some (.cells #[.bool t816, .slice Ao22 t817.length co22] 27 (0, 0))) := ⟨by refine blk_far ?_ NB824_835.out _; refine blk_far ?_ NB824_835.out _; refine blk_far ?_ NB824_834.out _; refine blk_far ?_ NB824_834.out _; exact BK824.out⟩
 have n10_ : Aside0 (((((w34.setCell ⟨gb834, 0, none⟩ (.bool t826)).setCell ⟨gb834, 1, none⟩ (.slice Ao42 t827.length co42)).setCell ⟨gb835, 0, none⟩ (.bool t830)).setCell ⟨gb835, 1, none⟩ (.slice Ao49 t831.length co49)).heap[gb825]? = some (.cells #[.bool t820, .slice Ao28 t821.length co28] 27 (0, 0))) := ⟨by refine blk_far ?_ NB825_835.out _; refine blk_far ?_ NB825_835.out _; refine blk_far ?_ NB825_834.out _; refine blk_far ?_ NB825_834.out _; exact BK825.out⟩
 have n11_ : Aside0 (((((w34.setCell ⟨gb834, 0, none⟩ (.bool t826)).setCell ⟨gb834, 1, none⟩ (.slice Ao42 t827.length co42)).setCell ⟨gb835, 0, none⟩ (.bool t830)).setCell ⟨gb835, 1, none⟩ (.slice Ao49 t831.length co49)).heap[gb834]? = some (.cells #[.bool t826, .slice Ao42 t827.length co42] 27 (0, 0))) := ⟨by refine blk_far ?_ NB834_835.out _; refine blk_far ?_ NB834_835.out _; refine blk_put (cs := #[.bool t826, .slice none 0 0]) ?_ 1 _ rfl; refine blk_put (cs := #[.bool false, .slice none 0 0]) ?_ 0 _ rfl; exact BK834.out⟩
 have n12_ : Aside0 (((((w34.setCell ⟨gb834, 0, none⟩ (.bool t826)).setCell ⟨gb834, 1, none⟩ (.slice Ao42 t827.length co42)).setCell ⟨gb835, 0, none⟩ (.bool t830)).setCell ⟨gb835, 1, none⟩ (.slice Ao49 t831.length co49)).heap[gb835]? = some (.cells #[.bool t830, .slice Ao49 t831.length co49] 27 (0, 0))) := ⟨by refine blk_put (cs := #[.bool t830, .slice none 0 0]) ?_ 1 _ rfl; refine blk_put (cs := #[.bool false, .slice none 0 0]) ?_ 0 _ rfl; refine blk_far ?_ NB835_834.out _; refine blk_far ?_ NB835_834.out _; exact BK835.out⟩
 have n13_ : Aside0 (Below w.heap.size w ((((w34.setCell ⟨gb834, 0, none⟩ (.bool t826)).setCell ⟨gb834, 1, none⟩ (.slice Ao42 t827.length co42)).setCell ⟨gb835, 0, none⟩ (.bool t830)).setCell ⟨gb835, 1, none⟩ (.slice Ao49 t831.length co49))) := ⟨by repeat (first | exact HB.out | apply bN | apply b1 | apply bA | refine bS ?_ GE813.out | refine bS ?_ GE814.out | refine bS ?_ GE815.out | refine bS ?_ GE824.out | refine bS ?_ GE825.out | refine bS ?_ GE834.out | refine bS ?_ GE835.out)⟩
 (try clear HO0_1)
 (try clear HO1_1)
 (try clear HO819)
 (try clear HO823)
 (try clear HO829)
 (try clear HO833)
 (try clear BK813)
 (try clear BK814)
 (try clear BK815)
 (try clear BK824)
 (try clear BK825)
 (try clear BK834)
 (try clear BK835)
 (try clear HB)
 generalize ((((w34.setCell ⟨gb834, 0, none⟩ (.bool t826)).setCell ⟨gb834, 1, none⟩ (.slice Ao42 t827.length co42)).setCell ⟨gb835, 0, none⟩ (.bool t830)).setCell ⟨gb835, 1, none⟩ (.slice Ao49 t831.length co49)) = w50 at n0_ n1_ n2_ n3_ n4_ n5_ n6_ n7_ n8_ n9_ n10_ n11_ n12_ n13_ ⊢
 have HO0_1 := n0_
 have HO1_1 := n1_
 have HO819 := n2_
 have HO823 := n3_
 have HO829 := n4_
 have HO833 := n5_
 have BK813 := n6_
 have BK814 := n7_
 have BK815 := n8_
 have BK824 := n9_
 have BK825 := n10_
 have BK834 := n11_
 have BK835 := n12_
 have HB := n13_
 clear n0_ n1_ n2_ n3_ n4_ n5_ n6_ n7_ n8_ n9_ n10_ n11_ n12_ n13_
 replace HO0_1 := mk0 (Kd.V_drew HO0_1.out)
 replace HO1_1 := mk0 (Kd.V_drew HO1_1.out)
 replace HO819 := mk0 (Kd.V_drew HO819.out)
 replace HO823 := mk0 (Kd.R_drew HO823.out)
 replace HO829 := mk0 (Kd.V_drew HO829.out)
 replace HO833 := mk0 (Kd.R_drew HO833.out)
 replace BK813 := mk0 (blk_drew BK813.out)
 replace BK814 := mk0 (blk_drew BK814.out)
 replace BK815 := mk0 (blk_drew BK815.out)
 replace BK824 := mk0 (blk_drew BK824.out)
 replace BK825 := mk0 (blk_drew BK825.out)
 replace BK834 := mk0 (blk_drew BK834.out)
 replace BK835 := mk0 (blk_drew BK835.out)
 replace HB := mk0 (b1 HB.out)
 refine start_ (n := 10) (S := fun w' => w'.cell? ⟨gb824, 0, none⟩ = some (.bool t816) ∧ w'.cell? ⟨gb824, 1, none⟩ = some (.slice Ao22 t817.length co22) ∧ w'.cell? ⟨gb834, 0, none⟩ = some (.bool t826) ∧ w'.cell? ⟨gb834, 1, none⟩ = some (.slice Ao42 t827.length co42) ∧ w'.cell? ⟨gb825, 0, none⟩ = some (.bool t820) ∧ w'.cell? ⟨gb825, 1, none⟩ = some (.slice Ao28 t821.length co28) ∧ w'.cell? ⟨gb835, 0, none⟩ = some (.bool t830) ∧ w'.cell? ⟨gb835, 1, none⟩ = some (.slice Ao49 t831.length co49)) (ds := []) (bv 10 0) (by kernel_rfl) rfl rfl ⟨(blk_cell BK824.out 0).trans rfl, (blk_cell BK824.out 1).trans rfl, (blk_cell BK834.out 0).trans rfl, (blk_cell BK834.out 1).trans rfl, (blk_cell BK825.out 0).trans rfl, (blk_cell BK825.out 1).trans rfl, (blk_cell BK835.out 0).trans rfl, (blk_cell BK835.out 1).trans rfl⟩ (fun hHeld => ?_); refine with_tabW ratio_Mul.tab3 ratio_Mul.bits3 (fun HT_ HW_ => ?_)
 generalize w50.drew = w51 at HO0_1 HO1_1 HO819 HO823 HO829 HO833 BK813 BK814 BK815 BK824 BK825 BK834 BK835 HB hHeld ⊢
 refine puA (i := 3) (N := 22) (v := ?_) (a' := ?_) (bv 10 8) HT_ ?_ ?_ ?_; rotate_left; (intro w'; go_simp; with_reducible rfl); rotate_left; (simp only [Act.put, sA, sZ, sS, i64_w, i32_w]; rfl)
 refine puA (i := 5) (N := 24) (v := ?_) (a' := ?_) (bv 10 40) HT_ ?_ ?_ ?_; rotate_left; (intro w'; go_simp; with_reducible rfl); rotate_left; (simp only [Act.put, sA, sZ, sS, i64_w, i32_w]; rfl)
 refine take_ (i := 0) (N := some 19) (v := ?_) (a' := ?_) (bv 10 41) rfl rfl (take_ofW HT_.out HW_.out (by kernel_rfl)) (fun _ _ _ h => h) (Or.inl ⟨by rfl, ?_⟩) hHeld ?_ ?_; rotate_left; (rintro w' ⟨s0, s1, s2, s3, s4, s5, s6, s7⟩; go_simp; with_reducible rfl); rotate_left; (simp only [Act.put, sA, sZ, sS, i64_w, i32_w]; rfl)
 refine take_ (i := 1) (N := some 20) (v := ?_) (a' := ?_) (bv 10 43) rfl rfl (take_ofW HT_.out HW_.out (by kernel_rfl)) (fun _ _ _ h => h) (Or.inl ⟨by rfl, ?_⟩) hHeld ?_ ?_; rotate_left; (rintro w' ⟨s0, s1, s2, s3, s4, s5, s6, s7⟩; go_simp; with_reducible rfl); rotate_left; (simp only [Act.put, sA, sZ, sS, i64_w, i32_w]; rfl)
 refine take_ (i := 4) (N := some 23) (v := ?_) (a' := ?_) (bv 10 59) rfl rfl (take_ofW HT_.out HW_.out (by kernel_rfl)) (fun _ _ _ h => h) (Or.inl ⟨by rfl, ?_⟩) hHeld ?_ ?_; rotate_left; (rintro w' ⟨s0, s1, s2, s3, s4, s5, s6, s7⟩; go_simp; with_reducible rfl); rotate_left; (simp only [Act.put, sA, sZ, sS, i64_w, i32_w]; rfl)
 refine take_ (i := 6) (N := some 25) (v := ?_) (a' := ?_) (bv 10 123) rfl rfl (take_ofW HT_.out HW_.out (by kernel_rfl)) (fun _ _ _ h => h) (Or.inl ⟨by rfl, ?_⟩) hHeld ?_ ?_; rotate_left; (rintro w' ⟨s0, s1, s2, s3, s4, s5, s6, s7⟩; go_simp; with_reducible rfl); rotate_left; (simp only [Act.put, sA, sZ, sS, i64_w, i32_w]; rfl)
 refine one_ (i := 2) (N := some 21) (bv 10 127) rfl rfl (one_of HT_.out (by kernel_rfl)) (by decide) (fun K hK => ?_)
 refine goes_ Try.func52 (by kernel_rfl) rfl #[.agg #[.bool t816, .slice Ao22 t817.length co22], .agg #[.bool t826, .slice Ao42 t827.length co42]] (by rfl) rfl rfl (by go_simp <;> rfl) ?_
 with_reducible refine (integer_Mul.calls k t816 _ _ t817 t826 _ _ t827 t836 t837 _ ?side1 ?side2 ?side3 ?side4 A5.out).mono ?_
 (case side1 => repeat (first | exact (Kd.V_reads' HO819.out).2.2 | (with_reducible refine Kd.C_alloc ?_ _) | (with_reducible refine Kd.C_drewN ?_ _) | (with_reducible refine Kd.C_drew ?_)))
 (case side2 => exact (Kd.V_reads' HO819.out).2.1)
 (case side3 => repeat (first | exact (Kd.V_reads' HO829.out).2.2 | (with_reducible refine Kd.C_alloc ?_ _) | (with_reducible refine Kd.C_drewN ?_ _) | (with_reducible refine Kd.C_drew ?_)))
 (case side4 => exact (Kd.V_reads' HO829.out).2.1)
 rintro e w52 ⟨v838, rfl, ho0, hb⟩
 refine ⟨_, rfl, ?_⟩
 replace HO0_1 := mk0 (Kd.V_elder' HO0_1.out (Rs ho0) hb)
 replace HO1_1 := mk0 (Kd.V_elder' HO1_1.out (Rs ho0) hb)
 replace HO819 := mk0 (Kd.V_elder' HO819.out (Rs ho0) hb)
 replace HO829 := mk0 (Kd.V_elder' HO829.out (Rs ho0) hb)
 have HO839 := mk0 (Rl (Rn (Rn (Kd.R_newM (M := fun k_ => (w.heap.size ≤ k_)) ho0 (bZ (by repeat (first | exact HB.out | apply bN | apply b1 | apply bA | refine bS ?_ GE813.out | refine bS ?_ GE814.out | refine bS ?_ GE815.out | refine bS ?_ GE824.out | refine bS ?_ GE825.out | refine bS ?_ GE834.out | refine bS ?_ GE835.out))) (fun k_ h_ => h_)) (Rq HO823.out)) (Rq HO833.out)) (bZ (by repeat (first | exact HB.out | apply bN | apply b1 | apply bA | refine bS ?_ GE813.out | refine bS ?_ GE814.out | refine bS ?_ GE815.out | refine bS ?_ GE824.out | refine bS ?_ GE825.out | refine bS ?_ GE834.out | refine bS ?_ GE835.out))))
 replace HO823 := mk0 (Re HO823.out (Rs ho0) hb)
 replace HO833 := mk0 (Re HO833.out (Rs ho0) hb)
 replace BK813 := bkB BK813 hb
 replace BK814 := bkB BK814 hb
 replace BK815 := bkB BK815 hb
 replace BK824 := bkB BK824 hb
 replace BK825 := bkB BK825 hb
 replace BK834 := bkB BK834 hb
 replace BK835 := bkB BK835 hb
 replace HB := mk0 (below_step (by repeat (first | exact HB.out | apply bN | apply b1 | apply bA | refine bS ?_ GE813.out | refine bS ?_ GE814.out | refine bS ?_ GE815.out | refine bS ?_ GE824.out | refine bS ?_ GE825.out | refine bS ?_ GE834.out | refine bS ?_ GE835.out)) hb)
 refine hK.out _ _ ⟨(blk_cell BK824.out 0).trans rfl, (blk_cell BK824.out 1).trans rfl, (blk_cell BK834.out 0).trans rfl, (blk_cell BK834.out 1).trans rfl, (blk_cell BK825.out 0).trans rfl, (blk_cell BK825.out 1).trans rfl, (blk_cell BK835.out 0).trans rfl, (blk_cell BK835.out 1).trans rfl⟩ (fun hHeld => ?_)
 clear hK K
 refine norm_ (a' := ?_) ?_ ?_
 rotate_left
 ·show Act.put _ (some 21) _ = _
  simp only [Act.put, sA, sZ, sS, i64_w, i32_w]
  rfl
 refine one_ (i := 7) (N := some 26) (bv 10 255) rfl rfl (one_of HT_.out (by kernel_rfl)) (by decide) (fun K hK => ?_)
 refine goes_ Try.func54 (by kernel_rfl) rfl #[.slice Ao28 t821.length co28, .slice Ao49 t831.length co49] (by rfl) rfl rfl (by go_simp <;> rfl) ?_
 with_reducible refine (nat_Mul.calls k (fun k_ => some k_ = (.slice Ao28 t821.length co28 : Value).ownBlock) _ _ t821 (fun k_ => some k_ = (.slice Ao49 t831.length co49 : Value).ownBlock) _ _ t831 t840 _ ?side1 ?side2 A6.out).mono ?_
 (case side1 => exact Kd.R_V (Kd.R_tight rfl (Rt (Rt (Rt (Rt (Rt (Rt (Rt (HO823.out) BK813.out (by decide)) BK814.out (by decide)) BK815.out (by decide)) BK824.out (by decide)) BK825.out (by decide)) BK834.out (by decide)) BK835.out (by decide))))
 (case side2 => exact Kd.R_V (Kd.R_tight rfl (Rt (Rt (Rt (Rt (Rt (Rt (Rt (HO833.out) BK813.out (by decide)) BK814.out (by decide)) BK815.out (by decide)) BK824.out (by decide)) BK825.out (by decide)) BK834.out (by decide)) BK835.out (by decide))))
 rintro e w53 ⟨v841, rfl, ho0, hb⟩
 refine ⟨_, rfl, ?_⟩
 replace HO0_1 := mk0 (Kd.V_below HO0_1.out hb)
 replace HO1_1 := mk0 (Kd.V_below HO1_1.out hb)
 replace HO819 := mk0 (Kd.V_below HO819.out hb)
 replace HO829 := mk0 (Kd.V_below HO829.out hb)
 have HO842 := mk0 (Vl (Vm (ok' := fun k_ => ((P0_1_ k_ ∨ P1_1_ k_) ∨ w.heap.size ≤ k_) ∧ some k_ ≠ (v838 : Value).ownBlock ∧ k_ ≠ gb813 ∧ k_ ≠ gb814 ∧ k_ ≠ gb815 ∧ k_ ≠ gb824 ∧ k_ ≠ gb825 ∧ k_ ≠ gb834 ∧ k_ ≠ gb835) ho0 (fun k_ hk_ => ⟨Or.elim hk_ (fun hs_ => Or.elim hs_ (fun hs_ => (.inr (((Rt (Rt (Rt (Rt (Rt (Rt (Rt (HO823.out) BK813.out (by decide)) BK814.out (by decide)) BK815.out (by decide)) BK824.out (by decide)) BK825.out (by decide)) BK834.out (by decide)) BK835.out (by decide)).1 k_ hs_.symm).1.1.1.1.1.1.1.1.1))) (fun hs_ => (.inr (((Rt (Rt (Rt (Rt (Rt (Rt (Rt (HO833.out) BK813.out (by decide)) BK814.out (by decide)) BK815.out (by decide)) BK824.out (by decide)) BK825.out (by decide)) BK834.out (by decide)) BK835.out (by decide)).1 k_ hs_.symm).1.1.1.1.1.1.1.1.1)))) (fun hn_ => (.inr (Nat.le_trans (bZ (by repeat (first | exact HB.out | apply bN | apply b1 | apply bA | refine bS ?_ GE813.out | refine bS ?_ GE814.out | refine bS ?_ GE815.out | refine bS ?_ GE824.out | refine bS ?_ GE825.out | refine bS ?_ GE834.out | refine bS ?_ GE835.out))) hn_))), Or.elim hk_ (fun hs_ => Or.elim hs_ (fun hs_ => ((Rt (Rt (Rt (Rt (Rt (Rt (Rt (HO823.out) BK813.out (by decide)) BK814.out (by decide)) BK815.out (by decide)) BK824.out (by decide)) BK825.out (by decide)) BK834.out (by decide)) BK835.out (by decide)).1 k_ hs_.symm).1.1.1.1.1.1.1.2) (fun hs_ => ((Rt (Rt (Rt (Rt (Rt (Rt (Rt (HO833.out) BK813.out (by decide)) BK814.out (by decide)) BK815.out (by decide)) BK824.out (by decide)) BK825.out (by decide)) BK834.out (by decide)) BK835.out (by decide)).1 k_ hs_.symm).1.1.1.1.1.1.1.2)) (fun hn_ => (Kd.fresh' (Rq HO839.out) k_ hn_)), Or.elim hk_ (fun hs_ => Or.elim hs_ (fun hs_ => ((Rt (Rt (Rt (Rt (Rt (Rt (Rt (HO823.out) BK813.out (by decide)) BK814.out (by decide)) BK815.out (by decide)) BK824.out (by decide)) BK825.out (by decide)) BK834.out (by decide)) BK835.out (by decide)).1 k_ hs_.symm).1.1.1.1.1.1.2) (fun hs_ => ((Rt (Rt (Rt (Rt (Rt (Rt (Rt (HO833.out) BK813.out (by decide)) BK814.out (by decide)) BK815.out (by decide)) BK824.out (by decide)) BK825.out (by decide)) BK834.out (by decide)) BK835.out (by decide)).1 k_ hs_.symm).1.1.1.1.1.1.2)) (fun hn_ => (Kd.freshB BK813.out k_ hn_)), Or.elim hk_ (fun hs_ => Or.elim hs_ (fun hs_ => ((Rt (Rt (Rt (Rt (Rt (Rt (Rt (HO823.out) BK813.out (by decide)) BK814.out (by decide)) BK815.out (by decide)) BK824.out (by decide)) BK825.out (by decide)) BK834.out (by decide)) BK835.out (by decide)).1 k_ hs_.symm).1.1.1.1.1.2) (fun hs_ => ((Rt (Rt (Rt (Rt (Rt (Rt (Rt (HO833.out) BK813.out (by decide)) BK814.out (by decide)) BK815.out (by decide)) BK824.out (by decide)) BK825.out (by decide)) BK834.out (by decide)) BK835.out (by decide)).1 k_ hs_.symm).1.1.1.1.1.2)) (fun hn_ => (Kd.freshB BK814.out k_ hn_)), Or.elim hk_ (fun hs_ => Or.elim hs_ (fun hs_ => ((Rt (Rt (Rt (Rt (Rt (Rt (Rt (HO823.out) BK813.out (by decide)) BK814.out (by decide)) BK815.out (by decide)) BK824.out (by decide)) BK825.out (by decide)) BK834.out (by decide)) BK835.out (by decide)).1 k_ hs_.symm).1.1.1.1.2) (fun hs_ => ((Rt (Rt (Rt (Rt (Rt (Rt (Rt (HO833.out) BK813.out (by decide)) BK814.out (by decide)) BK815.out (by decide)) BK824.out (by decide)) BK825.out (by decide)) BK834.out (by decide)) BK835.out (by decide)).1 k_ hs_.symm).1.1.1.1.2)) (fun hn_ => (Kd.freshB BK815.out k_ hn_)), Or.elim hk_ (fun hs_ => Or.elim hs_ (fun hs_ => ((Rt (Rt (Rt (Rt (Rt (Rt (Rt (HO823.out) BK813.out (by decide)) BK814.out (by decide)) BK815.out (by decide)) BK824.out (by decide)) BK825.out (by decide)) BK834.out (by decide)) BK835.out (by decide)).1 k_ hs_.symm).1.1.1.2) (fun hs_ => ((Rt (Rt (Rt (Rt (Rt (Rt (Rt (HO833.out) BK813.out (by decide)) BK814.out (by decide)) BK815.out (by decide)) BK824.out (by decide)) BK825.out (by decide)) BK834.out (by decide)) BK835.out (by decide)).1 k_ hs_.symm).1.1.1.2)) (fun hn_ => (Kd.freshB BK824.out k_ hn_)), Or.elim hk_ (fun hs_ => Or.elim hs_ (fun hs_ => ((Rt (Rt (Rt (Rt (Rt (Rt (Rt (HO823.out) BK813.out (by decide)) BK814.out (by decide)) BK815.out (by decide)) BK824.out (by decide)) BK825.out (by decide)) BK834.out (by decide)) BK835.out (by decide)).1 k_ hs_.symm).1.1.2) (fun hs_ => ((Rt (Rt (Rt (Rt (Rt (Rt (Rt (HO833.out) BK813.out (by decide)) BK814.out (by decide)) BK815.out (by decide)) BK824.out (by decide)) BK825.out (by decide)) BK834.out (by decide)) BK835.out (by decide)).1 k_ hs_.symm).1.1.2)) (fun hn_ => (Kd.freshB BK825.out k_ hn_)), Or.elim hk_ (fun hs_ => Or.elim hs_ (fun hs_ => ((Rt (Rt (Rt (Rt (Rt (Rt (Rt (HO823.out) BK813.out (by decide)) BK814.out (by decide)) BK815.out (by decide)) BK824.out (by decide)) BK825.out (by decide)) BK834.out (by decide)) BK835.out (by decide)).1 k_ hs_.symm).1.2) (fun hs_ => ((Rt (Rt (Rt (Rt (Rt (Rt (Rt (HO833.out) BK813.out (by decide)) BK814.out (by decide)) BK815.out (by decide)) BK824.out (by decide)) BK825.out (by decide)) BK834.out (by decide)) BK835.out (by decide)).1 k_ hs_.symm).1.2)) (fun hn_ => (Kd.freshB BK834.out k_ hn_)), Or.elim hk_ (fun hs_ => Or.elim hs_ (fun hs_ => ((Rt (Rt (Rt (Rt (Rt (Rt (Rt (HO823.out) BK813.out (by decide)) BK814.out (by decide)) BK815.out (by decide)) BK824.out (by decide)) BK825.out (by decide)) BK834.out (by decide)) BK835.out (by decide)).1 k_ hs_.symm).2) (fun hs_ => ((Rt (Rt (Rt (Rt (Rt (Rt (Rt (HO833.out) BK813.out (by decide)) BK814.out (by decide)) BK815.out (by decide)) BK824.out (by decide)) BK825.out (by decide)) BK834.out (by decide)) BK835.out (by decide)).1 k_ hs_.symm).2)) (fun hn_ => (Kd.freshB BK835.out k_ hn_))⟩)) (bZ (by repeat (first | exact HB.out | apply bN | apply b1 | apply bA | refine bS ?_ GE813.out | refine bS ?_ GE814.out | refine bS ?_ GE815.out | refine bS ?_ GE824.out | refine bS ?_ GE825.out | refine bS ?_ GE834.out | refine bS ?_ GE835.out))))
 replace HO823 := rB HO823 hb
 replace HO833 := rB HO833 hb
 replace HO839 := rB HO839 hb
 replace BK813 := bkB BK813 hb
 replace BK814 := bkB BK814 hb
 replace BK815 := bkB BK815 hb
 replace BK824 := bkB BK824 hb
 replace BK825 := bkB BK825 hb
 replace BK834 := bkB BK834 hb
 replace BK835 := bkB BK835 hb
 replace HB := mk0 (below_step (by repeat (first | exact HB.out | apply bN | apply b1 | apply bA | refine bS ?_ GE813.out | refine bS ?_ GE814.out | refine bS ?_ GE815.out | refine bS ?_ GE824.out | refine bS ?_ GE825.out | refine bS ?_ GE834.out | refine bS ?_ GE835.out)) hb)
 obtain ⟨Ao54, co54, eo54⟩ := Kd.R_slice HO839.out
 (first | subst eo54 | (injection eo54 with f1_ f2_ f3_; have f4_ := f1_.symm; have f5_ := f3_.symm; clear f1_ f2_ f3_; subst f4_; subst f5_))
 obtain ⟨Ao55, co55, eo55⟩ := Kd.V_slice HO842.out
 (first | subst eo55 | (injection eo55 with f1_ f2_ f3_; have f4_ := f1_.symm; have f5_ := f3_.symm; clear f1_ f2_ f3_; subst f4_; subst f5_))
 refine hK.out _ _ ⟨(blk_cell BK824.out 0).trans rfl, (blk_cell BK824.out 1).trans rfl, (blk_cell BK834.out 0).trans rfl, (blk_cell BK834.out 1).trans rfl, (blk_cell BK825.out 0).trans rfl, (blk_cell BK825.out 1).trans rfl, (blk_cell BK835.out 0).trans rfl, (blk_cell BK835.out 1).trans rfl⟩ (fun hHeld => ?_)
 clear hK K
 refine norm_ (a' := ?_) ?_ ?_
 rotate_left
 ·show Act.put _ (some 26) _ = _
  simp only [Act.put, sA, sZ, sS, i64_w, i32_w]
  rfl
 refine one_ (i := 8) (N := some 27) (bv 10 511) rfl rfl (one_of HT_.out (by kernel_rfl)) (by decide) (fun K hK => ?_)
 refine goes_ Try.func53 (by kernel_rfl) rfl #[.agg #[.bool t836, .slice Ao54 t837.length co54], .slice Ao55 t840.length co55] (by rfl) rfl rfl (by go_simp <;> rfl) ?_
 with_reducible refine (ratio_lowest.calls k t836 (fun k_ => some k_ = (.slice Ao54 t837.length co54 : Value).ownBlock) _ _ t837 (fun k_ => (((P0_1_ k_ ∨ P1_1_ k_) ∨ w.heap.size ≤ k_) ∧ (some k_ ≠ (.slice Ao54 t837.length co54 : Value).ownBlock ∧ (k_ ≠ gb813 ∧ (k_ ≠ gb814 ∧ (k_ ≠ gb815 ∧ (k_ ≠ gb824 ∧ (k_ ≠ gb825 ∧ (k_ ≠ gb834 ∧ k_ ≠ gb835))))))))) _ _ t840 t843 t844 t847 _ ?side1 ?side2 A7.out).mono ?_
 (case side1 => exact Kd.R_V (Kd.R_tight rfl (Rt (Rt (Rt (Rt (Rt (Rt (Rt (HO839.out) BK813.out (by decide)) BK814.out (by decide)) BK815.out (by decide)) BK824.out (by decide)) BK825.out (by decide)) BK834.out (by decide)) BK835.out (by decide))))
 (case side2 => exact HO842.out)
 rintro e w56 ⟨v845, v848, rfl, ho0, ho1, hb⟩
 refine ⟨_, rfl, ?_⟩
 replace HO0_1 := mk0 (Kd.V_elder' HO0_1.out (Rs ho0) hb)
 replace HO1_1 := mk0 (Kd.V_elder' HO1_1.out (Rs ho0) hb)
 replace HO819 := mk0 (Kd.V_elder' HO819.out (Rs ho0) hb)
 replace HO829 := mk0 (Kd.V_elder' HO829.out (Rs ho0) hb)
 replace HO842 := mk0 (Kd.V_elder' HO842.out (Rs ho0) hb)
 have HO846 := mk0 (Rl (Rn (Rn (Rn (Kd.R_newM (M := fun k_ => (w.heap.size ≤ k_)) (Rm (ok' := fun k_ => True) ho0 tv) (bZ (by repeat (first | exact HB.out | apply bN | apply b1 | apply bA | refine bS ?_ GE813.out | refine bS ?_ GE814.out | refine bS ?_ GE815.out | refine bS ?_ GE824.out | refine bS ?_ GE825.out | refine bS ?_ GE834.out | refine bS ?_ GE835.out))) (fun k_ h_ => h_)) (Rq HO823.out)) (Rq HO833.out)) (Rq HO839.out)) (bZ (by repeat (first | exact HB.out | apply bN | apply b1 | apply bA | refine bS ?_ GE813.out | refine bS ?_ GE814.out | refine bS ?_ GE815.out | refine bS ?_ GE824.out | refine bS ?_ GE825.out | refine bS ?_ GE834.out | refine bS ?_ GE835.out))))
 replace HO823 := mk0 (Re HO823.out (Rs ho0) hb)
 replace HO833 := mk0 (Re HO833.out (Rs ho0) hb)
 have HO849 := mk0 (Vl (Vm (ok' := fun k_ => ((P0_1_ k_ ∨ P1_1_ k_) ∨ w.heap.size ≤ k_) ∧ some k_ ≠ (v845 : Value).ownBlock ∧ k_ ≠ gb813 ∧ k_ ≠ gb814 ∧ k_ ≠ gb815 ∧ k_ ≠ gb824 ∧ k_ ≠ gb825 ∧ k_ ≠ gb834 ∧ k_ ≠ gb835) ho1 (fun k_ hk_ => ⟨Or.elim hk_.1 (fun hs_ => Or.elim hs_ (fun hs_ => (.inr (((Rt (Rt (Rt (Rt (Rt (Rt (Rt (HO839.out) BK813.out (by decide)) BK814.out (by decide)) BK815.out (by decide)) BK824.out (by decide)) BK825.out (by decide)) BK834.out (by decide)) BK835.out (by decide)).1 k_ hs_.symm).1.1.1.1.1.1.1.1.1.1))) (fun hs_ => hs_.1)) (fun hn_ => (.inr (Nat.le_trans (bZ (by repeat (first | exact HB.out | apply bN | apply b1 | apply bA | refine bS ?_ GE813.out | refine bS ?_ GE814.out | refine bS ?_ GE815.out | refine bS ?_ GE824.out | refine bS ?_ GE825.out | refine bS ?_ GE834.out | refine bS ?_ GE835.out))) hn_))), hk_.2, Or.elim hk_.1 (fun hs_ => Or.elim hs_ (fun hs_ => ((Rt (Rt (Rt (Rt (Rt (Rt (Rt (HO839.out) BK813.out (by decide)) BK814.out (by decide)) BK815.out (by decide)) BK824.out (by decide)) BK825.out (by decide)) BK834.out (by decide)) BK835.out (by decide)).1 k_ hs_.symm).1.1.1.1.1.1.2) (fun hs_ => hs_.2.2.1)) (fun hn_ => (Kd.freshB BK813.out k_ hn_)), Or.elim hk_.1 (fun hs_ => Or.elim hs_ (fun hs_ => ((Rt (Rt (Rt (Rt (Rt (Rt (Rt (HO839.out) BK813.out (by decide)) BK814.out (by decide)) BK815.out (by decide)) BK824.out (by decide)) BK825.out (by decide)) BK834.out (by decide)) BK835.out (by decide)).1 k_ hs_.symm).1.1.1.1.1.2) (fun hs_ => hs_.2.2.2.1)) (fun hn_ => (Kd.freshB BK814.out k_ hn_)), Or.elim hk_.1 (fun hs_ => Or.elim hs_ (fun hs_ => ((Rt (Rt (Rt (Rt (Rt (Rt (Rt (HO839.out) BK813.out (by decide)) BK814.out (by decide)) BK815.out (by decide)) BK824.out (by decide)) BK825.out (by decide)) BK834.out (by decide)) BK835.out (by decide)).1 k_ hs_.symm).1.1.1.1.2) (fun hs_ => hs_.2.2.2.2.1)) (fun hn_ => (Kd.freshB BK815.out k_ hn_)), Or.elim hk_.1 (fun hs_ => Or.elim hs_ (fun hs_ => ((Rt (Rt (Rt (Rt (Rt (Rt (Rt (HO839.out) BK813.out (by decide)) BK814.out (by decide)) BK815.out (by decide)) BK824.out (by decide)) BK825.out (by decide)) BK834.out (by decide)) BK835.out (by decide)).1 k_ hs_.symm).1.1.1.2) (fun hs_ => hs_.2.2.2.2.2.1)) (fun hn_ => (Kd.freshB BK824.out k_ hn_)), Or.elim hk_.1 (fun hs_ => Or.elim hs_ (fun hs_ => ((Rt (Rt (Rt (Rt (Rt (Rt (Rt (HO839.out) BK813.out (by decide)) BK814.out (by decide)) BK815.out (by decide)) BK824.out (by decide)) BK825.out (by decide)) BK834.out (by decide)) BK835.out (by decide)).1 k_ hs_.symm).1.1.2) (fun hs_ => hs_.2.2.2.2.2.2.1)) (fun hn_ => (Kd.freshB BK825.out k_ hn_)), Or.elim hk_.1 (fun hs_ => Or.elim hs_ (fun hs_ => ((Rt (Rt (Rt (Rt (Rt (Rt (Rt (HO839.out) BK813.out (by decide)) BK814.out (by decide)) BK815.out (by decide)) BK824.out (by decide)) BK825.out (by decide)) BK834.out (by decide)) BK835.out (by decide)).1 k_ hs_.symm).1.2) (fun hs_ => hs_.2.2.2.2.2.2.2.1)) (fun hn_ => (Kd.freshB BK834.out k_ hn_)), Or.elim hk_.1 (fun hs_ => Or.elim hs_ (fun hs_ => ((Rt (Rt (Rt (Rt (Rt (Rt (Rt (HO839.out) BK813.out (by decide)) BK814.out (by decide)) BK815.out (by decide)) BK824.out (by decide)) BK825.out (by decide)) BK834.out (by decide)) BK835.out (by decide)).1 k_ hs_.symm).2) (fun hs_ => hs_.2.2.2.2.2.2.2.2)) (fun hn_ => (Kd.freshB BK835.out k_ hn_))⟩)) (bZ (by repeat (first | exact HB.out | apply bN | apply b1 | apply bA | refine bS ?_ GE813.out | refine bS ?_ GE814.out | refine bS ?_ GE815.out | refine bS ?_ GE824.out | refine bS ?_ GE825.out | refine bS ?_ GE834.out | refine bS ?_ GE835.out))))
 replace HO839 := mk0 (Re HO839.out (Rs ho0) hb)
 replace BK813 := bkB BK813 hb
 replace BK814 := bkB BK814 hb
 replace BK815 := bkB BK815 hb
 replace BK824 := bkB BK824 hb
 replace BK825 := bkB BK825 hb
 replace BK834 := bkB BK834 hb
 replace BK835 := bkB BK835 hb
 replace HB := mk0 (below_step (by repeat (first | exact HB.out | apply bN | apply b1 | apply bA | refine bS ?_ GE813.out | refine bS ?_ GE814.out | refine bS ?_ GE815.out | refine bS ?_ GE824.out | refine bS ?_ GE825.out | refine bS ?_ GE834.out | refine bS ?_ GE835.out)) hb)
 obtain ⟨Ao58, co58, eo58⟩ := Kd.R_slice HO846.out
 (first | subst eo58 | (injection eo58 with f1_ f2_ f3_; have f4_ := f1_.symm; have f5_ := f3_.symm; clear f1_ f2_ f3_; subst f4_; subst f5_))
 obtain ⟨Ao60, co60, eo60⟩ := Kd.V_slice HO849.out
 (first | subst eo60 | (injection eo60 with f1_ f2_ f3_; have f4_ := f1_.symm; have f5_ := f3_.symm; clear f1_ f2_ f3_; subst f4_; subst f5_))
 refine hK.out _ _ ⟨(blk_cell BK824.out 0).trans rfl, (blk_cell BK824.out 1).trans rfl, (blk_cell BK834.out 0).trans rfl, (blk_cell BK834.out 1).trans rfl, (blk_cell BK825.out 0).trans rfl, (blk_cell BK825.out 1).trans rfl, (blk_cell BK835.out 0).trans rfl, (blk_cell BK835.out 1).trans rfl⟩ (fun hHeld => ?_)
 clear hK K
 refine norm_ (a' := ?_) ?_ ?_
 rotate_left
 ·show Act.put _ (some 27) _ = _
  simp only [Act.put, sA, sZ, sS, i64_w, i32_w]
  rfl
 refine one_ (i := 9) (N := none) (bv 10 1023) rfl rfl (one_of HT_.out (by kernel_rfl)) (by decide) (fun K hK => ?_)
 have hs57 : w56.cell? ⟨gb815, 0, none⟩ = some (.bool false) := (blk_cell BK815.out 0).trans rfl
 have hfs57 := blk_frozen BK815.out 0
 have hns57_0 := NB813_815.out
 have hns57_1 := NB814_815.out
 have hns57_3 := NB824_815.out
 have hns57_4 := NB825_815.out
 have hns57_5 := NB834_815.out
 have hns57_6 := NB835_815.out
 have hms57_0 := NB815_813.out
 have hms57_1 := NB815_814.out
 have hms57_3 := NB815_824.out
 have hms57_4 := NB815_825.out
 have hms57_5 := NB815_834.out
 have hms57_6 := NB815_835.out
 have hs59 : w56.cell? ⟨gb815, 1, none⟩ = some (.slice none 0 0) := (blk_cell BK815.out 1).trans rfl
 have hfs59 := blk_frozen BK815.out 1
 have hns59_0 := NB813_815.out
 have hns59_1 := NB814_815.out
 have hns59_3 := NB824_815.out
 have hns59_4 := NB825_815.out
 have hns59_5 := NB834_815.out
 have hns59_6 := NB835_815.out
 have hms59_0 := NB815_813.out
 have hms59_1 := NB815_814.out
 have hms59_3 := NB815_824.out
 have hms59_4 := NB815_825.out
 have hms59_5 := NB815_834.out
 have hms59_6 := NB815_835.out
 have hs61 : w56.cell? ⟨gb815, 2, none⟩ = some (.slice none 0 0) := (blk_cell BK815.out 2).trans rfl
 have hfs61 := blk_frozen BK815.out 2
 have hns61_0 := NB813_815.out
 have hns61_1 := NB814_815.out
 have hns61_3 := NB824_815.out
 have hns61_4 := NB825_815.out
 have hns61_5 := NB834_815.out
 have hns61_6 := NB835_815.out
 have hms61_0 := NB815_813.out
 have hms61_1 := NB815_814.out
 have hms61_3 := NB815_824.out
 have hms61_4 := NB815_825.out
 have hms61_5 := NB815_834.out
 have hms61_6 := NB815_835.out
 refine skip_ (w1 := ?_) (by rfl) rfl ?_ ?_
 rotate_left
 ·go_simp
  rfl
 refine hK.out _ _ ⟨((cell_far (p := ⟨gb815, _, none⟩) NB824_815.out _).trans (((cell_far (p := ⟨gb815, _, none⟩) NB824_815.out _).trans (((cell_far (p := ⟨gb815, _, none⟩) NB824_815.out _).trans (hHeld.1)))))), ((cell_far (p := ⟨gb815, _, none⟩) NB824_815.out _).trans (((cell_far (p := ⟨gb815, _, none⟩) NB824_815.out _).trans (((cell_far (p := ⟨gb815, _, none⟩) NB824_815.out _).trans (hHeld.2.1)))))), ((cell_far (p := ⟨gb815, _, none⟩) NB834_815.out _).trans (((cell_far (p := ⟨gb815, _, none⟩) NB834_815.out _).trans (((cell_far (p := ⟨gb815, _, none⟩) NB834_815.out _).trans (hHeld.2.2.1)))))), ((cell_far (p := ⟨gb815, _, none⟩) NB834_815.out _).trans (((cell_far (p := ⟨gb815, _, none⟩) NB834_815.out _).trans (((cell_far (p := ⟨gb815, _, none⟩) NB834_815.out _).trans (hHeld.2.2.2.1)))))), ((cell_far (p := ⟨gb815, _, none⟩) NB825_815.out _).trans (((cell_far (p := ⟨gb815, _, none⟩) NB825_815.out _).trans (((cell_far (p := ⟨gb815, _, none⟩) NB825_815.out _).trans (hHeld.2.2.2.2.1)))))), ((cell_far (p := ⟨gb815, _, none⟩) NB825_815.out _).trans (((cell_far (p := ⟨gb815, _, none⟩) NB825_815.out _).trans (((cell_far (p := ⟨gb815, _, none⟩) NB825_815.out _).trans (hHeld.2.2.2.2.2.1)))))), ((cell_far (p := ⟨gb815, _, none⟩) NB835_815.out _).trans (((cell_far (p := ⟨gb815, _, none⟩) NB835_815.out _).trans (((cell_far (p := ⟨gb815, _, none⟩) NB835_815.out _).trans (hHeld.2.2.2.2.2.2.1)))))), ((cell_far (p := ⟨gb815, _, none⟩) NB835_815.out _).trans (((cell_far (p := ⟨gb815, _, none⟩) NB835_815.out _).trans (((cell_far (p := ⟨gb815, _, none⟩) NB835_815.out _).trans (hHeld.2.2.2.2.2.2.2))))))⟩ (fun hHeld => ?_)
 clear hK K
 refine done_ (done_of HT_.out (by kernel_rfl)) ?_
 try go_wp2
 refine bodyPost_ret (results_cell_row rfl _ _ gb815 29 #[.bool t843, .slice Ao58 t844.length co58, .slice Ao60 t847.length co60] (0, 0) _ rfl (by refine blk_put (cs := #[.bool t843, .slice Ao58 t844.length co58, .slice none 0 0]) ?_ 2 _ rfl; refine blk_put (cs := #[.bool t843, .slice none 0 0, .slice none 0 0]) ?_ 1 _ rfl; refine blk_put (cs := #[.bool false, .slice none 0 0, .slice none 0 0]) ?_ 0 _ rfl; exact BK815.out) Try.underlying29 rfl (by kernel_rfl)) rfl ?_
 exact ⟨_, _, by first | rfl | (simp [errW_none, errW_some] <;> rfl) | (simp [*, errW_none, errW_some] <;> rfl), Rm (Rf (p := ⟨gb815, 2, none⟩) (Rf (p := ⟨gb815, 1, none⟩) (Rf (p := ⟨gb815, 0, none⟩) (Rt HO846.out BK815.out (by decide)) (fun _ hk => hk.2) (.bool t843)) (fun _ hk => hk.2) (.slice Ao58 t844.length co58)) (fun _ hk => hk.2) (.slice Ao60 t847.length co60)) (fun _ hk => hk.1.1.1.1.1), Vm (Vf (p := ⟨gb815, 2, none⟩) (Vf (p := ⟨gb815, 1, none⟩) (Vf (p := ⟨gb815, 0, none⟩) (Vm HO849.out (fun k_ hk => (⟨hk, hk.2.2.2.2.1⟩ : _ ∧ k_ ≠ gb815))) (fun _ hk => hk.2) (.bool t843)) (fun _ hk => hk.2) (.slice Ao58 t844.length co58)) (fun _ hk => hk.2) (.slice Ao60 t847.length co60)) (fun _ hk => ⟨hk.1.1, hk.1.2.1⟩), by repeat (first | exact HB.out | apply bN | apply b1 | apply bA | refine bS ?_ GE813.out | refine bS ?_ GE814.out | refine bS ?_ GE815.out | refine bS ?_ GE824.out | refine bS ?_ GE825.out | refine bS ?_ GE834.out | refine bS ?_ GE835.out)⟩
set_option maxHeartbeats 8000000 in
set_option maxRecDepth 100000 in
theorem ratio_Make.calls (k : Nat) (a0_0 : Bool) (P0_1_ : Nat → Prop) (A0_1 : Option Addr) (c0_1 : Nat) (l0_1 : List Int) (a1_0 : Bool) (P1_1_ : Nat → Prop) (A1_1 : Option Addr) (c1_1 : Nat) (l1_1 : List Int) (r1 : Bool) (r2 : List Int) (r3 : List Int) (r4 : Bool) (w : World) (hs0_1 : Kd.V (Kd.int .u32) 87 w w.heap.size (fun k_ => P0_1_ k_) (.slice A0_1 l0_1.length c0_1) l0_1) (hs1_1 : Kd.V (Kd.int .u32) 87 w w.heap.size (fun k_ => P1_1_ k_) (.slice A1_1 l1_1.length c1_1) l1_1) (h : ratio_Make.f k a0_0 l0_1 a1_0 l1_1 = some (r1, r2, r3, r4)) :
  Calls Try.prog 38 #[.agg #[.bool a0_0, .slice A0_1 l0_1.length c0_1], .agg #[.bool a1_0, .slice A1_1 l1_1.length c1_1]] w fun e w' => ∃ v1_ v2_ : Value, e = .returned (.tuple #[.agg #[.bool r1, v1_, v2_], .bool r4]) ∧ Kd.R (Kd.int .u32) 87 w' w.heap.size (fun k_ => (w.heap.size ≤ k_)) v1_ r2 ∧ Kd.V (Kd.int .u32) 87 w' w.heap.size (fun k_ => ((P0_1_ k_ ∨ P1_1_ k_) ∨ w.heap.size ≤ k_) ∧ some k_ ≠ (v1_ : Value).ownBlock) v2_ r3 ∧ Below w.heap.size w w' := by
 have hu27 := Try.underlying27
 have hu29 := Try.underlying29
 have HO0_1 := mk0 (show Kd.V (Kd.int .u32) 87 w w.heap.size (fun k_ => ((P0_1_ k_ ∨ P1_1_ k_) ∨ w.heap.size ≤ k_)) (.slice A0_1 l0_1.length c0_1) l0_1 from Vm hs0_1 (fun k_ hk => .inl (.inl hk)))
 have HO1_1 := mk0 (show Kd.V (Kd.int .u32) 87 w w.heap.size (fun k_ => ((P0_1_ k_ ∨ P1_1_ k_) ∨ w.heap.size ≤ k_)) (.slice A1_1 l1_1.length c1_1) l1_1 from Vm hs1_1 (fun k_ hk => .inl (.inr hk)))
 have HB := mk0 (Below.refl w.heap.size w)
 have H : ((nat_Bits.f k l1_1).bind fun t285 => (if t285 = 0 then ((ratio_zero.f k).bind fun bt286 => (some (bt286.1, bt286.2.1, bt286.2.2, false))) else ((ratio_lowest.f k (a0_0 != a1_0) l0_1 l1_1).bind fun bt293 => (some (bt293.1, bt293.2.1, bt293.2.2, true))))) = some (r1, r2, r3, r4) := h
 clear h
 obtain ⟨t285, A3, H⟩ := bindA H
 by_cases c4 : t285 = 0
 ·rw [if_pos c4] at H
  have c4b0 : (t285 == 0) = true := beq_iff_eq.mpr c4
  have c4b1 : (t285 != 0) = false := bne_eq_false_iff_eq.mpr c4
  clear c4
  obtain ⟨⟨t286, t287, t290⟩, A5, H⟩ := bindA H
  simp only [Option.some.injEq, Prod.mk.injEq] at H
  obtain ⟨rfl, rfl, rfl, rfl⟩ := H
  go_enter Try.func38, Try.ntmps38
  go_wp2_with (first | ((with_reducible refine gate_dst (N := 2) rfl ?_); refine box_event rfl (N := 2) rfl (cs := #[.bool a0_0, .slice A0_1 l0_1.length c0_1]) (t := 27) (by go_simp <;> rfl) ?_; intro gb282 hg w6 hbox hb; replace HO0_1 := vB HO0_1 hg hb; replace HO1_1 := vB HO1_1 hg hb; have BK282 := mk0 (hbox); have GE282 := geB hg HB; replace HB := hbS HB hb; clear hb hbox hg) | ((with_reducible refine gate_dst (N := 3) rfl ?_); refine box_event rfl (N := 3) rfl (cs := #[.bool a1_0, .slice A1_1 l1_1.length c1_1]) (t := 27) (by go_simp <;> rfl) ?_; intro gb283 hg w7 hbox hb; replace HO0_1 := vB HO0_1 hg hb; replace HO1_1 := vB HO1_1 hg hb; have BK283 := mk0 (hbox); have GE283 := geB hg HB; replace HB := hbS HB hb; have NB282_283 := nbA hg BK282; have NB283_282 := nbB hg BK282; replace BK282 := bkB BK282 hb; clear hb hbox hg) | ((with_reducible refine gate_dst (N := 4) rfl ?_); refine box_event rfl (N := 4) rfl (cs := #[.bool false, .slice none 0 0, .slice none 0 0]) (t := 29) (by go_simp <;> rfl) ?_; intro gb284 hg w8 hbox hb; replace HO0_1 := vB HO0_1 hg hb; replace HO1_1 := vB HO1_1 hg hb; have BK284 := mk0 (hbox); have GE284 := geB hg HB; replace HB := hbS HB hb; have NB282_284 := nbA hg BK282; have NB284_282 := nbB hg BK282; replace BK282 := bkB BK282 hb; have NB283_284 := nbA hg BK283; have NB284_283 := nbB hg BK283; replace BK283 := bkB BK283 hb; clear hb hbox hg; have hnb9 := NB283_282.out; have hnc9 := NB282_283.out; have hnb10 := NB283_284.out; have hnc10 := NB284_283.out; obtain ⟨hcz11_0, hcz11_1, hfz11_0, hfz11_1⟩ := cz2 BK283) | ((with_reducible refine gate_callee (f := 64) rfl ?_); refine goesL_ (some 8) rfl rfl Try.func64 (by kernel_rfl) rfl #[.slice A1_1 l1_1.length c1_1] rfl (by (try simp only [mA, mC, mN]); first | done | rfl | (simp only [lD, lT]; rfl)) ?_; (with_reducible refine (nat_Bits.calls k _ _ l1_1 t285 _ (by exact (Kd.V_reads' HO1_1.out).2.2) (by exact (Kd.V_reads' HO1_1.out).2.1) A3.out).mono ?_); rintro e w12 ⟨rfl, hb⟩; refine ⟨_, rfl, ?_⟩; replace HO0_1 := mk0 (Kd.V_below HO0_1.out hb); replace HO1_1 := mk0 (Kd.V_below HO1_1.out hb); replace BK282 := bkB BK282 hb; replace BK283 := bkB BK283 hb; replace BK284 := bkB BK284 hb; replace HB := hbS HB hb) | ((with_reducible refine gate_callee (f := 67) rfl ?_); refine goesL_ (some 10) rfl rfl Try.func67 (by kernel_rfl) rfl #[] rfl (by (try simp only [mA, mC, mN]); first | done | rfl | (simp only [lD, lT]; rfl)) ?_; (with_reducible refine (ratio_zero.calls k  t286 t287 t290 _ A5.out).mono ?_); rintro e w13 ⟨v288, v291, rfl, ho0, ho1, hb⟩; refine ⟨_, rfl, ?_⟩; replace HO0_1 := mk0 (Kd.V_elder' HO0_1.out (Rs ho0) hb); replace HO1_1 := mk0 (Kd.V_elder' HO1_1.out (Rs ho0) hb); have HO289 := mk0 (Rl (Kd.R_newM (M := fun k_ => (w.heap.size ≤ k_)) (Rm (ok' := fun k_ => True) ho0 tv) (bZ HB.out) (fun k_ h_ => h_)) (bZ HB.out)); have HO292 := mk0 (Vl (Vm (ok' := fun k_ => ((P0_1_ k_ ∨ P1_1_ k_) ∨ w.heap.size ≤ k_) ∧ some k_ ≠ (v288 : Value).ownBlock ∧ k_ ≠ gb282 ∧ k_ ≠ gb283 ∧ k_ ≠ gb284) ho1 (fun k_ hk_ => ⟨(.inr (Nat.le_trans (bZ HB.out) hk_.1)), hk_.2, (Kd.freshB BK282.out k_ hk_.1), (Kd.freshB BK283.out k_ hk_.1), (Kd.freshB BK284.out k_ hk_.1)⟩)) (bZ HB.out)); replace BK282 := bkB BK282 hb; replace BK283 := bkB BK283 hb; replace BK284 := bkB BK284 hb; replace HB := hbS HB hb; have hnb14 := NB284_282.out; have hnc14 := NB282_284.out; obtain ⟨hcz15_0, hcz15_1, hcz15_2, hfz15_0, hfz15_1, hfz15_2⟩ := cz3 BK284; obtain ⟨Ao16, co16, eo16⟩ := Kd.R_slice HO289.out; subst eo16; obtain ⟨Ao17, co17, eo17⟩ := Kd.V_slice HO292.out; subst eo17))
  refine bodyPost_ret (results_ct rfl _ _ gb284 29 #[.bool t286, .slice Ao16 t287.length co16, .slice Ao17 t290.length co17] (0, 0) _ rfl (by refine blk_put (cs := #[.bool t286, .slice Ao16 t287.length co16, .slice none 0 0]) ?_ 2 _ rfl; refine blk_put (cs := #[.bool t286, .slice none 0 0, .slice none 0 0]) ?_ 1 _ rfl; refine blk_put (cs := #[.bool false, .slice none 0 0, .slice none 0 0]) ?_ 0 _ rfl; exact BK284.out) Try.underlying29 rfl (by kernel_rfl)) rfl ?_
  exact ⟨_, _, by first | rfl | (simp [errW_none, errW_some] <;> rfl) | (simp [*, errW_none, errW_some] <;> rfl), Rm (Rf (p := ⟨gb284, 2, none⟩) (Rf (p := ⟨gb284, 1, none⟩) (Rf (p := ⟨gb284, 0, none⟩) (Rt HO289.out BK284.out (by decide)) (fun _ hk => hk.2) (.bool t286)) (fun _ hk => hk.2) (.slice Ao16 t287.length co16)) (fun _ hk => hk.2) (.slice Ao17 t290.length co17)) (fun _ hk => hk.1.1), Vm (Vf (p := ⟨gb284, 2, none⟩) (Vf (p := ⟨gb284, 1, none⟩) (Vf (p := ⟨gb284, 0, none⟩) (Vm HO292.out (fun k_ hk => (⟨hk, hk.2.2.2.2⟩ : _ ∧ k_ ≠ gb284))) (fun _ hk => hk.2) (.bool t286)) (fun _ hk => hk.2) (.slice Ao16 t287.length co16)) (fun _ hk => hk.2) (.slice Ao17 t290.length co17)) (fun _ hk => ⟨hk.1.1, hk.1.2.1⟩), by repeat (first | exact HB.out | apply bN | apply b1 | apply bA | refine bS ?_ GE282.out | refine bS ?_ GE283.out | refine bS ?_ GE284.out)⟩
 ·rw [if_neg c4] at H
  have c4b0 : (t285 == 0) = false := beq_eq_false_iff_ne.mpr c4
  have c4b1 : (t285 != 0) = true := bne_iff_ne.mpr c4
  obtain ⟨⟨t293, t294, t297⟩, A18, H⟩ := bindA H
  simp only [Option.some.injEq, Prod.mk.injEq] at H
  obtain ⟨rfl, rfl, rfl, rfl⟩ := H
  go_enter Try.func38, Try.ntmps38
  go_wp2_with (first | ((with_reducible refine gate_dst (N := 2) rfl ?_); refine box_event rfl (N := 2) rfl (cs := #[.bool a0_0, .slice A0_1 l0_1.length c0_1]) (t := 27) (by go_simp <;> rfl) ?_; intro gb282 hg w19 hbox hb; replace HO0_1 := vB HO0_1 hg hb; replace HO1_1 := vB HO1_1 hg hb; have BK282 := mk0 (hbox); have GE282 := geB hg HB; replace HB := hbS HB hb; clear hb hbox hg) | ((with_reducible refine gate_dst (N := 3) rfl ?_); refine box_event rfl (N := 3) rfl (cs := #[.bool a1_0, .slice A1_1 l1_1.length c1_1]) (t := 27) (by go_simp <;> rfl) ?_; intro gb283 hg w20 hbox hb; replace HO0_1 := vB HO0_1 hg hb; replace HO1_1 := vB HO1_1 hg hb; have BK283 := mk0 (hbox); have GE283 := geB hg HB; replace HB := hbS HB hb; have NB282_283 := nbA hg BK282; have NB283_282 := nbB hg BK282; replace BK282 := bkB BK282 hb; clear hb hbox hg) | ((with_reducible refine gate_dst (N := 4) rfl ?_); refine box_event rfl (N := 4) rfl (cs := #[.bool false, .slice none 0 0, .slice none 0 0]) (t := 29) (by go_simp <;> rfl) ?_; intro gb284 hg w21 hbox hb; replace HO0_1 := vB HO0_1 hg hb; replace HO1_1 := vB HO1_1 hg hb; have BK284 := mk0 (hbox); have GE284 := geB hg HB; replace HB := hbS HB hb; have NB282_284 := nbA hg BK282; have NB284_282 := nbB hg BK282; replace BK282 := bkB BK282 hb; have NB283_284 := nbA hg BK283; have NB284_283 := nbB hg BK283; replace BK283 := bkB BK283 hb; clear hb hbox hg; have hnb22 := NB283_282.out; have hnc22 := NB282_283.out; have hnb23 := NB283_284.out; have hnc23 := NB284_283.out; obtain ⟨hcz24_0, hcz24_1, hfz24_0, hfz24_1⟩ := cz2 BK283) | ((with_reducible refine gate_callee (f := 64) rfl ?_); refine goesL_ (some 8) rfl rfl Try.func64 (by kernel_rfl) rfl #[.slice A1_1 l1_1.length c1_1] rfl (by (try simp only [mA, mC, mN]); first | done | rfl | (simp only [lD, lT]; rfl)) ?_; (with_reducible refine (nat_Bits.calls k _ _ l1_1 t285 _ (by exact (Kd.V_reads' HO1_1.out).2.2) (by exact (Kd.V_reads' HO1_1.out).2.1) A3.out).mono ?_); rintro e w25 ⟨rfl, hb⟩; refine ⟨_, rfl, ?_⟩; replace HO0_1 := mk0 (Kd.V_below HO0_1.out hb); replace HO1_1 := mk0 (Kd.V_below HO1_1.out hb); replace BK282 := bkB BK282 hb; replace BK283 := bkB BK283 hb; replace BK284 := bkB BK284 hb; replace HB := hbS HB hb; have hnb26 := NB282_284.out; have hnc26 := NB284_282.out; obtain ⟨hcz27_0, hcz27_1, hfz27_0, hfz27_1⟩ := cz2 BK282; obtain ⟨hcz28_0, hcz28_1, hfz28_0, hfz28_1⟩ := cz2 BK283) | ((with_reducible refine gate_callee (f := 53) rfl ?_); refine goesL_ (some 21) rfl rfl Try.func53 (by kernel_rfl) rfl #[.agg #[.bool (a0_0 != a1_0), .slice A0_1 l0_1.length c0_1], .slice A1_1 l1_1.length c1_1] rfl (by (try simp only [mA, mC, mN]); first | done | rfl | (simp only [lD, lT]; rfl)) ?_; (with_reducible refine (ratio_lowest.calls k (a0_0 != a1_0) (fun k_ => (((((P0_1_ k_ ∨ P1_1_ k_) ∨ w.heap.size ≤ k_) ∧ k_ ≠ gb282) ∧ k_ ≠ gb283) ∧ k_ ≠ gb284)) _ _ l0_1 (fun k_ => (((((P0_1_ k_ ∨ P1_1_ k_) ∨ w.heap.size ≤ k_) ∧ k_ ≠ gb282) ∧ k_ ≠ gb283) ∧ k_ ≠ gb284)) _ _ l1_1 t293 t294 t297 _ HO0_1.out HO1_1.out A18.out).mono ?_); rintro e w29 ⟨v295, v298, rfl, ho0, ho1, hb⟩; refine ⟨_, rfl, ?_⟩; replace HO0_1 := mk0 (Kd.V_elder' HO0_1.out (Rs ho0) hb); replace HO1_1 := mk0 (Kd.V_elder' HO1_1.out (Rs ho0) hb); have HO296 := mk0 (Rl (Kd.R_newM (M := fun k_ => (w.heap.size ≤ k_)) (Rm (ok' := fun k_ => True) ho0 tv) (bZ HB.out) (fun k_ h_ => h_)) (bZ HB.out)); have HO299 := mk0 (Vl (Vm (ok' := fun k_ => ((P0_1_ k_ ∨ P1_1_ k_) ∨ w.heap.size ≤ k_) ∧ some k_ ≠ (v295 : Value).ownBlock ∧ k_ ≠ gb282 ∧ k_ ≠ gb283 ∧ k_ ≠ gb284) ho1 (fun k_ hk_ => ⟨Or.elim hk_.1 (fun hs_ => Or.elim hs_ (fun hs_ => hs_.1.1.1) (fun hs_ => hs_.1.1.1)) (fun hn_ => (.inr (Nat.le_trans (bZ HB.out) hn_))), hk_.2, Or.elim hk_.1 (fun hs_ => Or.elim hs_ (fun hs_ => hs_.1.1.2) (fun hs_ => hs_.1.1.2)) (fun hn_ => (Kd.freshB BK282.out k_ hn_)), Or.elim hk_.1 (fun hs_ => Or.elim hs_ (fun hs_ => hs_.1.2) (fun hs_ => hs_.1.2)) (fun hn_ => (Kd.freshB BK283.out k_ hn_)), Or.elim hk_.1 (fun hs_ => Or.elim hs_ (fun hs_ => hs_.2) (fun hs_ => hs_.2)) (fun hn_ => (Kd.freshB BK284.out k_ hn_))⟩)) (bZ HB.out)); replace BK282 := bkB BK282 hb; replace BK283 := bkB BK283 hb; replace BK284 := bkB BK284 hb; replace HB := hbS HB hb; obtain ⟨hcz30_0, hcz30_1, hcz30_2, hfz30_0, hfz30_1, hfz30_2⟩ := cz3 BK284; obtain ⟨Ao31, co31, eo31⟩ := Kd.R_slice HO296.out; subst eo31; obtain ⟨Ao32, co32, eo32⟩ := Kd.V_slice HO299.out; subst eo32))
  refine bodyPost_ret (results_ct rfl _ _ gb284 29 #[.bool t293, .slice Ao31 t294.length co31, .slice Ao32 t297.length co32] (0, 0) _ rfl (by refine blk_put (cs := #[.bool t293, .slice Ao31 t294.length co31, .slice none 0 0]) ?_ 2 _ rfl; refine blk_put (cs := #[.bool t293, .slice none 0 0, .slice none 0 0]) ?_ 1 _ rfl; refine blk_put (cs := #[.bool false, .slice none 0 0, .slice none 0 0]) ?_ 0 _ rfl; exact BK284.out) Try.underlying29 rfl (by kernel_rfl)) rfl ?_
  exact ⟨_, _, by first | rfl | (simp [errW_none, errW_some] <;> rfl) | (simp [*, errW_none, errW_some] <;> rfl), Rm (Rf (p := ⟨gb284, 2, none⟩) (Rf (p := ⟨gb284, 1, none⟩) (Rf (p := ⟨gb284, 0, none⟩) (Rt HO296.out BK284.out (by decide)) (fun _ hk => hk.2) (.bool t293)) (fun _ hk => hk.2) (.slice Ao31 t294.length co31)) (fun _ hk => hk.2) (.slice Ao32 t297.length co32)) (fun _ hk => hk.1.1), Vm (Vf (p := ⟨gb284, 2, none⟩) (Vf (p := ⟨gb284, 1, none⟩) (Vf (p := ⟨gb284, 0, none⟩) (Vm HO299.out (fun k_ hk => (⟨hk, hk.2.2.2.2⟩ : _ ∧ k_ ≠ gb284))) (fun _ hk => hk.2) (.bool t293)) (fun _ hk => hk.2) (.slice Ao31 t294.length co31)) (fun _ hk => hk.2) (.slice Ao32 t297.length co32)) (fun _ hk => ⟨hk.1.1, hk.1.2.1⟩), by repeat (first | exact HB.out | apply bN | apply b1 | apply bA | refine bS ?_ GE282.out | refine bS ?_ GE283.out | refine bS ?_ GE284.out)⟩
set_option maxHeartbeats 8000000 in
set_option maxRecDepth 100000 in
theorem integer_Of.calls (k : Nat) (a0 : Int) (r1 : Bool) (r2 : List Int) (w : World) (h : integer_Of.f k a0 = some (r1, r2)) :
  Calls Try.prog 39 #[.int .i64 a0] w fun e w' => ∃ v1_ : Value, e = .returned (.agg #[.bool r1, v1_]) ∧ Kd.V (Kd.int .u32) 87 w' w.heap.size (fun k_ => (w.heap.size ≤ k_)) v1_ r2 ∧ Below w.heap.size w w' := by
 have hu27 := Try.underlying27
 have HB := mk0 (Below.refl w.heap.size w)
 have H : (if a0 < 0 then ((nat_Of.f k (IntKind.u64.wrap ((IntKind.u64.wrap (wrap64 (-(wrap64 (a0 + 1))))) + 1))).bind fun t301 => (some (true, t301))) else ((nat_Of.f k (IntKind.u64.wrap (a0))).bind fun t304 => (some (false, t304)))) = some (r1, r2) := h
 clear h
 by_cases c2 : a0 < 0
 ·rw [if_pos c2] at H
  have c2b0 : decide (a0 < 0) = true := decide_eq_true c2
  clear c2
  obtain ⟨t301, A3, H⟩ := bindA H
  simp only [Option.some.injEq, Prod.mk.injEq] at H
  obtain ⟨rfl, rfl⟩ := H
  go_enter Try.func39, Try.ntmps39
  go_wp2_with (first | ((with_reducible refine gate_dst (N := 2) rfl ?_); refine box_event rfl (N := 2) rfl (cs := #[.bool false, .slice none 0 0]) (t := 27) (by go_simp <;> rfl) ?_; intro gb300 hg w4 hbox hb; have BK300 := mk0 (hbox); have GE300 := geB hg HB; replace HB := hbS HB hb; clear hb hbox hg) | ((with_reducible refine gate_callee (f := 66) rfl ?_); refine goA 10 Try.func66 #[.int .u64 (IntKind.u64.wrap ((IntKind.u64.wrap (wrap64 (-(wrap64 (a0 + 1))))) + 1))] ?_; (with_reducible refine (nat_Of.calls k (IntKind.u64.wrap ((IntKind.u64.wrap (wrap64 (-(wrap64 (a0 + 1))))) + 1)) t301 _ A3.out).mono ?_); rintro e w5 ⟨v302, rfl, ho0, hb⟩; refine ⟨_, rfl, ?_⟩; have HO303 := mk0 (Vl (Vm (ok' := fun k_ => (w.heap.size ≤ k_) ∧ k_ ≠ gb300) ho0 (fun k_ hk_ => ⟨(Nat.le_trans (bZ HB.out) hk_), (Kd.freshB BK300.out k_ hk_)⟩)) (bZ HB.out)); replace BK300 := bkB BK300 hb; replace HB := hbS HB hb; obtain ⟨Ao6, co6, eo6⟩ := Kd.V_slice HO303.out; subst eo6; obtain ⟨hcz7_0, hcz7_1, hfz7_0, hfz7_1⟩ := cz2 BK300))
  refine bodyPost_ret (results_cell_row rfl _ _ gb300 27 #[.bool true, .slice Ao6 t301.length co6] (0, 0) _ rfl (by refine blk_put (cs := #[.bool true, .slice none 0 0]) ?_ 1 _ rfl; refine blk_put (cs := #[.bool false, .slice none 0 0]) ?_ 0 _ rfl; exact BK300.out) Try.underlying27 rfl (by kernel_rfl)) rfl ?_
  exact ⟨_, by first | rfl | (simp [errW_none, errW_some] <;> rfl) | (simp [*, errW_none, errW_some] <;> rfl), Vm (Vf (p := ⟨gb300, 1, none⟩) (Vf (p := ⟨gb300, 0, none⟩) (Vm HO303.out (fun k_ hk => (⟨hk, hk.2⟩ : _ ∧ k_ ≠ gb300))) (fun _ hk => hk.2) (.bool true)) (fun _ hk => hk.2) (.slice Ao6 t301.length co6)) (fun _ hk => hk.1.1), by repeat (first | exact HB.out | apply bN | apply b1 | apply bA | refine bS ?_ GE300.out)⟩
 ·rw [if_neg c2] at H
  have c2b0 : decide (a0 < 0) = false := decide_eq_false c2
  clear c2
  obtain ⟨t304, A8, H⟩ := bindA H
  simp only [Option.some.injEq, Prod.mk.injEq] at H
  obtain ⟨rfl, rfl⟩ := H
  go_enter Try.func39, Try.ntmps39
  go_wp2_with (first | ((with_reducible refine gate_dst (N := 2) rfl ?_); refine box_event rfl (N := 2) rfl (cs := #[.bool false, .slice none 0 0]) (t := 27) (by go_simp <;> rfl) ?_; intro gb300 hg w9 hbox hb; have BK300 := mk0 (hbox); have GE300 := geB hg HB; replace HB := hbS HB hb; clear hb hbox hg) | ((with_reducible refine gate_callee (f := 66) rfl ?_); refine goA 14 Try.func66 #[.int .u64 (IntKind.u64.wrap (a0))] ?_; (with_reducible refine (nat_Of.calls k (IntKind.u64.wrap (a0)) t304 _ A8.out).mono ?_); rintro e w10 ⟨v305, rfl, ho0, hb⟩; refine ⟨_, rfl, ?_⟩; have HO306 := mk0 (Vl (Vm (ok' := fun k_ => (w.heap.size ≤ k_) ∧ k_ ≠ gb300) ho0 (fun k_ hk_ => ⟨(Nat.le_trans (bZ HB.out) hk_), (Kd.freshB BK300.out k_ hk_)⟩)) (bZ HB.out)); replace BK300 := bkB BK300 hb; replace HB := hbS HB hb; obtain ⟨Ao11, co11, eo11⟩ := Kd.V_slice HO306.out; subst eo11; obtain ⟨hcz12_0, hcz12_1, hfz12_0, hfz12_1⟩ := cz2 BK300))
  refine bodyPost_ret (results_cell_row rfl _ _ gb300 27 #[.bool false, .slice Ao11 t304.length co11] (0, 0) _ rfl (by refine blk_put (cs := #[.bool false, .slice none 0 0]) ?_ 1 _ rfl; refine blk_put (cs := #[.bool false, .slice none 0 0]) ?_ 0 _ rfl; exact BK300.out) Try.underlying27 rfl (by kernel_rfl)) rfl ?_
  exact ⟨_, by first | rfl | (simp [errW_none, errW_some] <;> rfl) | (simp [*, errW_none, errW_some] <;> rfl), Vm (Vf (p := ⟨gb300, 1, none⟩) (Vf (p := ⟨gb300, 0, none⟩) (Vm HO306.out (fun k_ hk => (⟨hk, hk.2⟩ : _ ∧ k_ ≠ gb300))) (fun _ hk => hk.2) (.bool false)) (fun _ hk => hk.2) (.slice Ao11 t304.length co11)) (fun _ hk => hk.1.1), by repeat (first | exact HB.out | apply bN | apply b1 | apply bA | refine bS ?_ GE300.out)⟩
set_option maxHeartbeats 8000000 in
set_option maxRecDepth 100000 in
theorem ratio_Of.calls (k : Nat) (a0 : Int) (a1 : Int) (r1 : Bool) (r2 : List Int) (r3 : List Int) (r4 : Bool) (w : World) (h : ratio_Of.f k a0 a1 = some (r1, r2, r3, r4)) :
  Calls Try.prog 16 #[.int .i64 a0, .int .i64 a1] w fun e w' => ∃ v1_ v2_ : Value, e = .returned (.tuple #[.agg #[.bool r1, v1_, v2_], .bool r4]) ∧ Kd.R (Kd.int .u32) 87 w' w.heap.size (fun k_ => (w.heap.size ≤ k_)) v1_ r2 ∧ Kd.V (Kd.int .u32) 87 w' w.heap.size (fun k_ => (w.heap.size ≤ k_) ∧ some k_ ≠ (v1_ : Value).ownBlock) v2_ r3 ∧ Below w.heap.size w w' := by
 have hu29 := Try.underlying29
 have HB := mk0 (Below.refl w.heap.size w)
 have H : ((integer_Of.f k a0).bind fun bt308 => ((integer_Of.f k a1).bind fun bt312 => ((ratio_Make.f k bt308.1 bt308.2 bt312.1 bt312.2).bind fun bt316 => (some (bt316.1, bt316.2.1, bt316.2.2.1, bt316.2.2.2))))) = some (r1, r2, r3, r4) := h
 clear h
 obtain ⟨⟨t308, t309⟩, A3, H⟩ := bindA H
 obtain ⟨⟨t312, t313⟩, A4, H⟩ := bindA H
 obtain ⟨⟨t316, t317, t320, t323⟩, A5, H⟩ := bindA H
 simp only [Option.some.injEq, Prod.mk.injEq] at H
 obtain ⟨rfl, rfl, rfl, rfl⟩ := H
 go_enter Try.func16, Try.ntmps16
 go_wp2_with (first | ((with_reducible refine gate_dst (N := 4) rfl ?_); refine box_event rfl (N := 4) rfl (cs := #[.bool false, .slice none 0 0, .slice none 0 0]) (t := 29) (by go_simp <;> rfl) ?_; intro gb307 hg w6 hbox hb; have BK307 := mk0 (hbox); have GE307 := geB hg HB; replace HB := hbS HB hb; clear hb hbox hg) | ((with_reducible refine gate_callee (f := 39) rfl ?_); refine goA 7 Try.func39 #[.int .i64 a0] ?_; (with_reducible refine (integer_Of.calls k a0 t308 t309 _ A3.out).mono ?_); rintro e w7 ⟨v310, rfl, ho0, hb⟩; refine ⟨_, rfl, ?_⟩; have HO311 := mk0 (Vl (Vm (ok' := fun k_ => (w.heap.size ≤ k_) ∧ k_ ≠ gb307) ho0 (fun k_ hk_ => ⟨(Nat.le_trans (bZ HB.out) hk_), (Kd.freshB BK307.out k_ hk_)⟩)) (bZ HB.out)); replace BK307 := bkB BK307 hb; replace HB := hbS HB hb) | ((with_reducible refine gate_callee (f := 39) rfl ?_); refine goA 9 Try.func39 #[.int .i64 a1] ?_; (with_reducible refine (integer_Of.calls k a1 t312 t313 _ A4.out).mono ?_); rintro e w8 ⟨v314, rfl, ho0, hb⟩; refine ⟨_, rfl, ?_⟩; replace HO311 := mk0 (Kd.V_below HO311.out hb); have HO315 := mk0 (Vl (Vm (ok' := fun k_ => (w.heap.size ≤ k_) ∧ k_ ≠ gb307) ho0 (fun k_ hk_ => ⟨(Nat.le_trans (bZ HB.out) hk_), (Kd.freshB BK307.out k_ hk_)⟩)) (bZ HB.out)); replace BK307 := bkB BK307 hb; replace HB := hbS HB hb; obtain ⟨Ao9, co9, eo9⟩ := Kd.V_slice HO311.out; subst eo9; obtain ⟨Ao10, co10, eo10⟩ := Kd.V_slice HO315.out; subst eo10) | ((with_reducible refine gate_callee (f := 38) rfl ?_); refine goA 10 Try.func38 #[.agg #[.bool t308, .slice Ao9 t309.length co9], .agg #[.bool t312, .slice Ao10 t313.length co10]] ?_; (with_reducible refine (ratio_Make.calls k t308 (fun k_ => ((w.heap.size ≤ k_) ∧ k_ ≠ gb307)) _ _ t309 t312 (fun k_ => ((w.heap.size ≤ k_) ∧ k_ ≠ gb307)) _ _ t313 t316 t317 t320 t323 _ HO311.out HO315.out A5.out).mono ?_); rintro e w11 ⟨v318, v321, rfl, ho0, ho1, hb⟩; refine ⟨_, rfl, ?_⟩; replace HO311 := mk0 (Kd.V_elder' HO311.out (Rs ho0) hb); replace HO315 := mk0 (Kd.V_elder' HO315.out (Rs ho0) hb); have HO319 := mk0 (Rl (Kd.R_newM (M := fun k_ => (w.heap.size ≤ k_)) (Rm (ok' := fun k_ => True) ho0 tv) (bZ HB.out) (fun k_ h_ => h_)) (bZ HB.out)); have HO322 := mk0 (Vl (Vm (ok' := fun k_ => (w.heap.size ≤ k_) ∧ some k_ ≠ (v318 : Value).ownBlock ∧ k_ ≠ gb307) ho1 (fun k_ hk_ => ⟨Or.elim hk_.1 (fun hs_ => Or.elim hs_ (fun hs_ => hs_.1) (fun hs_ => hs_.1)) (fun hn_ => (Nat.le_trans (bZ HB.out) hn_)), hk_.2, Or.elim hk_.1 (fun hs_ => Or.elim hs_ (fun hs_ => hs_.2) (fun hs_ => hs_.2)) (fun hn_ => (Kd.freshB BK307.out k_ hn_))⟩)) (bZ HB.out)); replace BK307 := bkB BK307 hb; replace HB := hbS HB hb; obtain ⟨hcz12_0, hcz12_1, hcz12_2, hfz12_0, hfz12_1, hfz12_2⟩ := cz3 BK307; obtain ⟨Ao13, co13, eo13⟩ := Kd.R_slice HO319.out; subst eo13; obtain ⟨Ao14, co14, eo14⟩ := Kd.V_slice HO322.out; subst eo14))
 refine bodyPost_ret (results_ct rfl _ _ gb307 29 #[.bool t316, .slice Ao13 t317.length co13, .slice Ao14 t320.length co14] (0, 0) _ rfl (by refine blk_put (cs := #[.bool t316, .slice Ao13 t317.length co13, .slice none 0 0]) ?_ 2 _ rfl; refine blk_put (cs := #[.bool t316, .slice none 0 0, .slice none 0 0]) ?_ 1 _ rfl; refine blk_put (cs := #[.bool false, .slice none 0 0, .slice none 0 0]) ?_ 0 _ rfl; exact BK307.out) Try.underlying29 rfl (by kernel_rfl)) rfl ?_
 exact ⟨_, _, by first | rfl | (simp [errW_none, errW_some] <;> rfl) | (simp [*, errW_none, errW_some] <;> rfl), Rm (Rf (p := ⟨gb307, 2, none⟩) (Rf (p := ⟨gb307, 1, none⟩) (Rf (p := ⟨gb307, 0, none⟩) (Rt HO319.out BK307.out (by decide)) (fun _ hk => hk.2) (.bool t316)) (fun _ hk => hk.2) (.slice Ao13 t317.length co13)) (fun _ hk => hk.2) (.slice Ao14 t320.length co14)) (fun _ hk => hk.1.1), Vm (Vf (p := ⟨gb307, 2, none⟩) (Vf (p := ⟨gb307, 1, none⟩) (Vf (p := ⟨gb307, 0, none⟩) (Vm HO322.out (fun k_ hk => (⟨hk, hk.2.2⟩ : _ ∧ k_ ≠ gb307))) (fun _ hk => hk.2) (.bool t316)) (fun _ hk => hk.2) (.slice Ao13 t317.length co13)) (fun _ hk => hk.2) (.slice Ao14 t320.length co14)) (fun _ hk => ⟨hk.1.1, hk.1.2.1⟩), by repeat (first | exact HB.out | apply bN | apply b1 | apply bA | refine bS ?_ GE307.out)⟩
set_option maxHeartbeats 8000000 in
set_option maxRecDepth 100000 in
theorem exposure_fraction.calls (k : Nat) (a0 : Int) (a1 : Int) (r1 : Bool) (r2 : List Int) (r3 : List Int) (w : World) (h : exposure_fraction.f k a0 a1 = some (r1, r2, r3)) :
  Calls Try.prog 30 #[.int .i64 a0, .int .i64 a1] w fun e w' => ∃ v1_ v2_ : Value, e = .returned (.agg #[.bool r1, v1_, v2_]) ∧ Kd.R (Kd.int .u32) 87 w' w.heap.size (fun k_ => (w.heap.size ≤ k_)) v1_ r2 ∧ Kd.V (Kd.int .u32) 87 w' w.heap.size (fun k_ => (w.heap.size ≤ k_) ∧ some k_ ≠ (v1_ : Value).ownBlock) v2_ r3 ∧ Below w.heap.size w w' := by
 have hu29 := Try.underlying29
 have HB := mk0 (Below.refl w.heap.size w)
 have H : ((ratio_Of.f k a0 a1).bind fun bt851 => (some (bt851.1, bt851.2.1, bt851.2.2.1))) = some (r1, r2, r3) := h
 clear h
 obtain ⟨⟨t851, t852, t855, t858⟩, A3, H⟩ := bindA H
 simp only [Option.some.injEq, Prod.mk.injEq] at H
 obtain ⟨rfl, rfl, rfl⟩ := H
 go_enter Try.func30, Try.ntmps30
 go_wp2_with (first | ((with_reducible refine gate_dst (N := 4) rfl ?_); refine box_event rfl (N := 4) rfl (cs := #[.bool false, .slice none 0 0, .slice none 0 0]) (t := 29) (by go_simp <;> rfl) ?_; intro gb850 hg w4 hbox hb; have BK850 := mk0 (hbox); have GE850 := geB hg HB; replace HB := hbS HB hb; clear hb hbox hg) | ((with_reducible refine gate_callee (f := 16) rfl ?_); refine goesL_ (some 10) rfl rfl Try.func16 (by kernel_rfl) rfl #[.int .i64 a0, .int .i64 a1] rfl (by (try simp only [mA, mC, mN]); first | done | rfl | (simp only [lD, lT]; rfl)) ?_; (with_reducible refine (ratio_Of.calls k a0 a1 t851 t852 t855 t858 _ A3.out).mono ?_); rintro e w5 ⟨v853, v856, rfl, ho0, ho1, hb⟩; refine ⟨_, rfl, ?_⟩; have HO854 := mk0 (Kd.R_lower (Kd.R_newM (M := fun k_ => (w.heap.size ≤ k_)) (Kd.R_mono (ok' := fun k_ => True) ho0 (fun _ hk_ => trivial)) (below_size HB.out) (fun k_ h_ => h_)) (below_size HB.out)); have HO857 := mk0 (Kd.V_lower (Kd.V_mono (ok' := fun k_ => (w.heap.size ≤ k_) ∧ some k_ ≠ (v853 : Value).ownBlock ∧ k_ ≠ gb850) ho1 (fun k_ hk_ => ⟨(Nat.le_trans (below_size HB.out) hk_.1), hk_.2, (Kd.freshB BK850.out k_ hk_.1)⟩)) (below_size HB.out)); replace BK850 := bkB BK850 hb; replace HB := hbS HB hb) | ((with_reducible refine gate_dst (N := 5) rfl ?_); refine box_event rfl (N := 5) rfl (cs := #[.bool false, .slice none 0 0, .slice none 0 0]) (t := 29) (by go_simp <;> rfl) ?_; intro gb859 hg w6 hbox hb; replace HO854 := rB HO854 hb; replace HO857 := vB HO857 hg hb; have BK859 := mk0 (hbox); have GE859 := geB hg HB; replace HB := hbS HB hb; have NB850_859 := nbA hg BK850; have NB859_850 := nbB hg BK850; replace BK850 := bkB BK850 hb; clear hb hbox hg; have hnb7 := NB859_850.out; have hnc7 := NB850_859.out; obtain ⟨hcz8_0, hcz8_1, hcz8_2, hfz8_0, hfz8_1, hfz8_2⟩ := cz3 BK859; obtain ⟨Ao9, co9, eo9⟩ := Kd.R_slice HO854.out; subst eo9; obtain ⟨Ao10, co10, eo10⟩ := Kd.V_slice HO857.out; subst eo10; obtain ⟨hcz11_0, hcz11_1, hcz11_2, hfz11_0, hfz11_1, hfz11_2⟩ := cz3 BK850))
 refine bodyPost_ret (results_cell_row rfl _ _ gb850 29 #[.bool t851, .slice Ao9 t852.length co9, .slice Ao10 t855.length co10] (0, 0) _ rfl (by refine blk_put (cs := #[.bool t851, .slice Ao9 t852.length co9, .slice none 0 0]) ?_ 2 _ rfl; refine blk_put (cs := #[.bool t851, .slice none 0 0, .slice none 0 0]) ?_ 1 _ rfl; refine blk_put (cs := #[.bool false, .slice none 0 0, .slice none 0 0]) ?_ 0 _ rfl; refine blk_far ?_ NB850_859.out _; refine blk_far ?_ NB850_859.out _; refine blk_far ?_ NB850_859.out _; exact BK850.out) Try.underlying29 rfl (by kernel_rfl)) rfl ?_
 exact ⟨_, _, by first | rfl | (simp [errW_none, errW_some] <;> rfl) | (simp [*, errW_none, errW_some] <;> rfl), Kd.R_mono (Kd.R_far (p := ⟨gb850, 2, none⟩) (Kd.R_far (p := ⟨gb850, 1, none⟩) (Kd.R_far (p := ⟨gb850, 0, none⟩) (Kd.R_far (p := ⟨gb859, 2, none⟩) (Kd.R_far (p := ⟨gb859, 1, none⟩) (Kd.R_far (p := ⟨gb859, 0, none⟩) (Kd.R_types (Kd.R_types HO854.out BK859.out (by decide)) BK850.out (by decide)) (fun _ hk => hk.1.2) (.bool t851)) (fun _ hk => hk.1.2) (.slice Ao9 t852.length co9)) (fun _ hk => hk.1.2) (.slice Ao10 t855.length co10)) (fun _ hk => hk.2) (.bool t851)) (fun _ hk => hk.2) (.slice Ao9 t852.length co9)) (fun _ hk => hk.2) (.slice Ao10 t855.length co10)) (fun _ hk => hk.1.1.1), Kd.V_mono (Kd.V_far (p := ⟨gb850, 2, none⟩) (Kd.V_far (p := ⟨gb850, 1, none⟩) (Kd.V_far (p := ⟨gb850, 0, none⟩) (Kd.V_far (p := ⟨gb859, 2, none⟩) (Kd.V_far (p := ⟨gb859, 1, none⟩) (Kd.V_far (p := ⟨gb859, 0, none⟩) (Kd.V_mono (Kd.V_mono HO857.out (fun k_ hk => (⟨hk, hk.2⟩ : _ ∧ k_ ≠ gb859))) (fun k_ hk => (⟨hk, hk.1.1.2.2⟩ : _ ∧ k_ ≠ gb850))) (fun _ hk => hk.1.2) (.bool t851)) (fun _ hk => hk.1.2) (.slice Ao9 t852.length co9)) (fun _ hk => hk.1.2) (.slice Ao10 t855.length co10)) (fun _ hk => hk.2) (.bool t851)) (fun _ hk => hk.2) (.slice Ao9 t852.length co9)) (fun _ hk => hk.2) (.slice Ao10 t855.length co10)) (fun _ hk => ⟨hk.1.1.1.1, hk.1.1.1.2.1⟩), by repeat (first | exact HB.out | apply pw_below_drewN | apply below_drew1 | apply below_alloc | refine below_set ?_ GE850.out | refine below_set ?_ GE859.out)⟩
set_option maxHeartbeats 8000000 in
set_option maxRecDepth 100000 in
theorem exposure_bounded.calls (a0 : Int) (r : Int) (w : World) (h : exposure_bounded.f a0 = some r) :
  Calls Try.prog 31 #[.int .i64 a0] w fun e w' => e = .returned (.int .i64 r) ∧ Below w.heap.size w w' := by
 have HB := mk0 (Below.refl w.heap.size w)
 have H : (some (mn (mx a0 0) 1000000)) = some r := h
 clear h
 obtain ⟨ji2, hji2⟩ : ∃ j_ : Int, (mx a0 0) = j_ := ⟨_, rfl⟩
 replace H : (some (mn (ji2) 1000000)) = some r := by first | (rw [hji2] at H; exact H) | (simp only [hji2] at H ⊢; exact H)
 (try (have hji2l : 0 ≤ ji2 := by (rw [← hji2]; unfold mx; (repeat' split) <;> omega)))
 (try (have hji2m : 0 ≤ ji2 := by omega))
 have hji2_ : (if a0 < 0 then 0 else a0) = ji2 := hji2
 obtain ⟨ji3, hji3⟩ : ∃ j_ : Int, (mn (ji2) 1000000) = j_ := ⟨_, rfl⟩
 replace H : (some ji3) = some r := by first | (rw [hji3] at H; exact H) | (simp only [hji3] at H ⊢; exact H)
 have hji3_ : (if 1000000 < (ji2) then 1000000 else (ji2)) = ji3 := hji3
 obtain rfl := Option.some.inj H
 go_enter Try.func31, Try.ntmps31
 go_wp2
 go_ret
 exact ⟨by first | rfl | (simp [errW_none, errW_some] <;> rfl) | (simp only [← hji2, ← hji3]; first | rfl | (simp [errW_none, errW_some] <;> rfl)) | (simp [*, errW_none, errW_some] <;> rfl), by repeat (first | exact HB.out | apply bN | apply b1 | apply bA)⟩
def exposure_Eligible.T2 : Bool × List (List Nat × List Nat) := (true, [([], []), ([0], [0]), ([1], [1]), ([2, 1], [2]), ([], []), ([], []), ([4, 5, 3], [4, 5]), ([3, 6, 6], [3, 6]), ([7], [7]), ([8, 7, 0, 1, 2, 3, 4, 5, 6, 7, 8], [8])])
def exposure_Eligible.B2 : List Nat := [0, 1, 3, 7, 0, 0, 63, 127, 255, 511]
theorem exposure_Eligible.tab2 : rtab .any (opsOf Try.f13 2) = exposure_Eligible.T2 := by kernel_rfl
theorem exposure_Eligible.bits2 : waitsOk exposure_Eligible.T2.2 exposure_Eligible.B2 = true := by kernel_rfl
set_option maxHeartbeats 8000000 in
set_option maxRecDepth 100000 in
theorem exposure_Eligible.calls (k : Nat) (a0 : Int) (a1 : Int) (a2_0 : Bool) (A2_1 : Option Addr) (c2_1 : Nat) (l2_1 : List Int) (A2_2 : Option Addr) (c2_2 : Nat) (l2_2 : List Int) (a3 : Int) (r : Bool) (w : World) (hr2_1 : Kd.C (Kd.int .u32) w A2_1 l2_1.length l2_1) (hc2_1 : l2_1.length ≤ c2_1) (hr2_2 : Kd.C (Kd.int .u32) w A2_2 l2_2.length l2_2) (hc2_2 : l2_2.length ≤ c2_2) (h : exposure_Eligible.f k a0 a1 a2_0 l2_1 l2_2 a3 = some r) :
  Calls Try.prog 13 #[.int .i64 a0, .int .i64 a1, .agg #[.bool a2_0, .slice A2_1 l2_1.length c2_1, .slice A2_2 l2_2.length c2_2], .int .i64 a3] w fun e w' => e = .returned (.bool r) ∧ Below w.heap.size w w' := by
 have hu29 := Try.underlying29
 have HR2_1 := mk0 hr2_1
 have HC2_1 := mk0 hc2_1
 clear hr2_1 hc2_1
 have HR2_2 := mk0 hr2_2
 have HC2_2 := mk0 hc2_2
 clear hr2_2 hc2_2
 have HB := mk0 (Below.refl w.heap.size w)
 have H : ((exposure_bounded.f a1).bind fun t861 => ((exposure_bounded.f a3).bind fun t862 => ((exposure_fraction.f k (wrap64 ((wrap64 (t861 + 1)) + t862)) 1).bind fun bt863 => ((exposure_bounded.f a0).bind fun t871 => ((exposure_fraction.f k (wrap64 (t871 + 1)) 1).bind fun bt872 => ((ratio_Mul.f k a2_0 l2_1 l2_2 bt863.1 bt863.2.1 bt863.2.2).bind fun bt879 => ((ratio_Cmp.f k bt872.1 bt872.2.1 bt872.2.2 bt879.1 bt879.2.1 bt879.2.2).bind fun t886 => (some (decide (t886 ≤ 0)))))))))) = some r := h
 clear h
 obtain ⟨t861, A5, H⟩ := bindA H
 obtain ⟨t862, A6, H⟩ := bindA H
 obtain ⟨⟨t863, t864, t867⟩, A7, H⟩ := bindA H
 obtain ⟨t871, A8, H⟩ := bindA H
 obtain ⟨⟨t872, t873, t876⟩, A9, H⟩ := bindA H
 obtain ⟨⟨t879, t880, t883⟩, A10, H⟩ := bindA H
 obtain ⟨t886, A11, H⟩ := bindA H
 obtain rfl := Option.some.inj H
 go_enter Try.func13, Try.ntmps13
 try go_wp2_with (first | ((with_reducible refine gate_dst (N := 6) rfl ?_); refine box_event rfl (N := 6) rfl (cs := #[.bool a2_0, .slice A2_1 l2_1.length c2_1, .slice A2_2 l2_2.length c2_2]) (t := 29) (by go_simp <;> rfl) ?_; intro gb860 hg w12 hbox hb; have BK860 := mk0 (hbox); have GE860 := geB hg HB; replace HB := hbS HB hb; clear hb hbox hg) | ((with_reducible refine gate_callee (f := 31) rfl ?_); refine goA 11 Try.func31 #[.int .i64 a1] ?_; (with_reducible refine (exposure_bounded.calls a1 t861 _ A5.out).mono ?_); rintro e w13 ⟨rfl, hb⟩; refine ⟨_, rfl, ?_⟩; replace BK860 := bkB BK860 hb; replace HB := hbS HB hb) | ((with_reducible refine gate_callee (f := 31) rfl ?_); refine goA 14 Try.func31 #[.int .i64 a3] ?_; (with_reducible refine (exposure_bounded.calls a3 t862 _ A6.out).mono ?_); rintro e w14 ⟨rfl, hb⟩; refine ⟨_, rfl, ?_⟩; replace BK860 := bkB BK860 hb; replace HB := hbS HB hb) | ((with_reducible refine gate_callee (f := 30) rfl ?_); refine goA 16 Try.func30 #[.int .i64 (wrap64 ((wrap64 (t861 + 1)) + t862)), .int .i64 1] ?_; (with_reducible refine (exposure_fraction.calls k (wrap64 ((wrap64 (t861 + 1)) + t862)) 1 t863 t864 t867 _ A7.out).mono ?_); rintro e w15 ⟨v865, v868, rfl, ho0, ho1, hb⟩; refine ⟨_, rfl, ?_⟩; have HO866 := mk0 (Rl (Rm (ok' := fun k_ => True) ho0 tv) (bZ HB.out)); have HO869 := mk0 (Vl (Vm (ok' := fun k_ => some k_ ≠ (v865 : Value).ownBlock ∧ k_ ≠ gb860) ho1 (fun k_ hk_ => ⟨hk_.2, (Kd.freshB BK860.out k_ hk_.1)⟩)) (bZ HB.out)); replace BK860 := bkB BK860 hb; replace HB := hbS HB hb) | ((with_reducible refine gate_dst (N := 9) rfl ?_); refine box_event rfl (N := 9) rfl (cs := #[.bool false, .slice none 0 0, .slice none 0 0]) (t := 29) (by go_simp <;> rfl) ?_; intro gb870 hg w16 hbox hb; replace HO866 := rB HO866 hb; replace HO869 := vB HO869 hg hb; have BK870 := mk0 (hbox); have GE870 := geB hg HB; replace HB := hbS HB hb; have NB860_870 := nbA hg BK860; have NB870_860 := nbB hg BK860; replace BK860 := bkB BK860 hb; clear hb hbox hg; have hnb17 := NB870_860.out; have hnc17 := NB860_870.out; obtain ⟨hcz18_0, hcz18_1, hcz18_2, hfz18_0, hfz18_1, hfz18_2⟩ := cz3 BK870; obtain ⟨Ao19, co19, eo19⟩ := Kd.R_slice HO866.out; subst eo19; obtain ⟨Ao20, co20, eo20⟩ := Kd.V_slice HO869.out; subst eo20))
 have n0_ : Aside0 (Kd.R (Kd.int .u32) 87 (((w16.setCell ⟨gb870, 0, none⟩ (.bool t863)).setCell ⟨gb870, 1, none⟩ (.slice Ao19 t864.length co19)).setCell ⟨gb870, 2, none⟩ (.slice Ao20 t867.length co20)) w.heap.size (fun _ => True) (.slice Ao19 t864.length co19) t864) := ⟨Rm (Rf (p := ⟨gb870, 2, none⟩) (Rf (p := ⟨gb870, 1, none⟩) (Rf (p := ⟨gb870, 0, none⟩) (Rt HO866.out BK870.out (by decide)) (fun _ hk => hk.2) (.bool t863)) (fun _ hk => hk.2) (.slice Ao19 t864.length co19)) (fun _ hk => hk.2) (.slice Ao20 t867.length co20)) tv⟩
 have n1_ : Aside0 (Kd.V (Kd.int .u32) 87 (((w16.setCell ⟨gb870, 0, none⟩ (.bool t863)).setCell ⟨gb870, 1, none⟩ (.slice Ao19 t864.length co19)).setCell ⟨gb870, 2, none⟩ (.slice Ao20 t867.length co20)) w.heap.size (fun k_ => some k_ ≠ (.slice Ao19 t864.length co19 : Value).ownBlock ∧ k_ ≠ gb860 ∧ k_ ≠ gb870) (.slice Ao20 t867.length co20) t867) := ⟨Vm (Vf (p := ⟨gb870, 2, none⟩) (Vf (p := ⟨gb870, 1, none⟩) (Vf (p := ⟨gb870, 0, none⟩) (Vm HO869.out (fun k_ hk => (⟨hk, hk.2⟩ : _ ∧ k_ ≠ gb870))) (fun _ hk => hk.2) (.bool t863)) (fun _ hk => hk.2) (.slice Ao19 t864.length co19)) (fun _ hk => hk.2) (.slice Ao20 t867.length co20)) (fun _ hk => ⟨hk.1.1.1, ⟨hk.1.1.2, hk.1.2⟩⟩)⟩
 have n2_ : Aside0 ((((w16.setCell ⟨gb870, 0, none⟩ (.bool t863)).setCell ⟨gb870, 1, none⟩ (.slice Ao19 t864.length co19)).setCell ⟨gb870, 2, none⟩ (.slice Ao20 t867.length co20)).heap[gb860]? = some (.cells #[.bool a2_0, .slice A2_1 l2_1.length c2_1, .slice A2_2 l2_2.length c2_2] 29 (0, 0))) := ⟨by refine blk_far ?_ NB860_870.out _; refine blk_far ?_ NB860_870.out _; refine blk_far ?_ NB860_870.out _; exact BK860.out⟩
 have n3_ : Aside0 ((((w16.setCell ⟨gb870, 0, none⟩ (.bool t863)).setCell ⟨gb870, 1, none⟩ (.slice Ao19 t864.length co19)).setCell ⟨gb870, 2, none⟩ (.slice Ao20 t867.length co20)).heap[gb870]? = some (.cells #[.bool t863, .slice Ao19 t864.length co19, .slice Ao20 t867.length co20] 29 (0, 0))) := ⟨by refine blk_put (cs := #[.bool t863, .slice Ao19 t864.length co19, .slice none 0 0]) ?_ 2 _ rfl; refine blk_put (cs := #[.bool t863, .slice none 0 0, .slice none 0 0]) ?_ 1 _ rfl; refine blk_put (cs := #[.bool false, .slice none 0 0, .slice none 0 0]) ?_ 0 _ rfl; exact BK870.out⟩
 have n4_ : Aside0 (Below w.heap.size w (((w16.setCell ⟨gb870, 0, none⟩ (.bool t863)).setCell ⟨gb870, 1, none⟩ (.slice Ao19 t864.length co19)).setCell ⟨gb870, 2, none⟩ (.slice Ao20 t867.length co20))) := ⟨by repeat (first | exact HB.out | apply bN | apply b1 | apply bA | refine bS ?_ GE860.out | refine bS ?_ GE870.out)⟩
 (try clear HO866)
 (try clear HO869)
 (try clear BK860)
 (try clear BK870)
 (try clear HB)
 generalize (((w16.setCell ⟨gb870, 0, none⟩ (.bool t863)).setCell ⟨gb870, 1, none⟩ (.slice Ao19 t864.length co19)).setCell ⟨gb870, 2, none⟩ (.slice Ao20 t867.length co20)) = w21 at n0_ n1_ n2_ n3_ n4_ ⊢
 have HO866 := n0_
 have HO869 := n1_
 have BK860 := n2_
 have BK870 := n3_
 have HB := n4_
 clear n0_ n1_ n2_ n3_ n4_
 replace HO866 := mk0 (Kd.R_drew HO866.out)
 replace HO869 := mk0 (Kd.V_drew HO869.out)
 replace BK860 := mk0 (blk_drew BK860.out)
 replace BK870 := mk0 (blk_drew BK870.out)
 replace HB := mk0 (b1 HB.out)
 refine start_ (n := 10) (S := fun w' => w'.cell? ⟨gb860, 0, none⟩ = some (.bool a2_0) ∧ w'.cell? ⟨gb860, 1, none⟩ = some (.slice A2_1 l2_1.length c2_1) ∧ w'.cell? ⟨gb860, 2, none⟩ = some (.slice A2_2 l2_2.length c2_2) ∧ w'.cell? ⟨gb870, 0, none⟩ = some (.bool t863) ∧ w'.cell? ⟨gb870, 1, none⟩ = some (.slice Ao19 t864.length co19) ∧ w'.cell? ⟨gb870, 2, none⟩ = some (.slice Ao20 t867.length co20)) (ds := []) (bv 10 0) (by kernel_rfl) rfl rfl ⟨(blk_cell BK860.out 0).trans rfl, (blk_cell BK860.out 1).trans rfl, (blk_cell BK860.out 2).trans rfl, (blk_cell BK870.out 0).trans rfl, (blk_cell BK870.out 1).trans rfl, (blk_cell BK870.out 2).trans rfl⟩ (fun hHeld => ?_); refine with_tabW exposure_Eligible.tab2 exposure_Eligible.bits2 (fun HT_ HW_ => ?_)
 generalize w21.drew = w22 at HO866 HO869 BK860 BK870 HB hHeld ⊢
 refine puA (i := 0) (N := 17) (v := ?_) (a' := ?_) (bv 10 1) HT_ ?_ ?_ ?_; rotate_left; (intro w'; go_simp; with_reducible rfl); rotate_left; (simp only [Act.put, sA, sZ, sS, i64_w, i32_w]; rfl)
 refine take_ (i := 4) (N := some 21) (v := ?_) (a' := ?_) (bv 10 17) rfl rfl (take_ofW HT_.out HW_.out (by kernel_rfl)) (fun _ _ _ h => h) (Or.inl ⟨by rfl, ?_⟩) hHeld ?_ ?_; rotate_left; (rintro w' ⟨s0, s1, s2, s3, s4, s5⟩; go_simp; with_reducible rfl); rotate_left; (simp only [Act.put, sA, sZ, sS, i64_w, i32_w]; rfl)
 refine take_ (i := 5) (N := some 22) (v := ?_) (a' := ?_) (bv 10 49) rfl rfl (take_ofW HT_.out HW_.out (by kernel_rfl)) (fun _ _ _ h => h) (Or.inl ⟨by rfl, ?_⟩) hHeld ?_ ?_; rotate_left; (rintro w' ⟨s0, s1, s2, s3, s4, s5⟩; go_simp; with_reducible rfl); rotate_left; (simp only [Act.put, sA, sZ, sS, i64_w, i32_w]; rfl)
 refine one_ (i := 1) (N := some 18) (bv 10 51) rfl rfl (one_of HT_.out (by kernel_rfl)) (by decide) (fun K hK => ?_)
 refine goes_ Try.func31 (by kernel_rfl) rfl #[.int .i64 a0] (by rfl) rfl rfl (by go_simp <;> rfl) ?_
 with_reducible refine (exposure_bounded.calls a0 t871 _ A8.out).mono ?_
 rintro e w23 ⟨rfl, hb⟩
 refine ⟨_, rfl, ?_⟩
 replace HO866 := rB HO866 hb
 replace HO869 := mk0 (Kd.V_below HO869.out hb)
 replace BK860 := bkB BK860 hb
 replace BK870 := bkB BK870 hb
 replace HB := mk0 (below_step (by repeat (first | exact HB.out | apply bN | apply b1 | apply bA | refine bS ?_ GE860.out | refine bS ?_ GE870.out)) hb)
 refine hK.out _ _ ⟨(blk_cell BK860.out 0).trans rfl, (blk_cell BK860.out 1).trans rfl, (blk_cell BK860.out 2).trans rfl, (blk_cell BK870.out 0).trans rfl, (blk_cell BK870.out 1).trans rfl, (blk_cell BK870.out 2).trans rfl⟩ (fun hHeld => ?_)
 clear hK K
 refine norm_ (a' := ?_) ?_ ?_
 rotate_left
 ·show Act.put _ (some 18) _ = _
  simp only [Act.put, sA, sZ, sS, i64_w, i32_w]
  rfl
 refine puA (i := 2) (N := 19) (v := ?_) (a' := ?_) (bv 10 55) HT_ ?_ ?_ ?_; rotate_left; (intro w'; go_simp; with_reducible rfl); rotate_left; (simp only [Act.put, sA, sZ, sS, i64_w, i32_w]; rfl)
 refine one_ (i := 3) (N := some 20) (bv 10 63) rfl rfl (one_of HT_.out (by kernel_rfl)) (by decide) (fun K hK => ?_)
 refine goes_ Try.func30 (by kernel_rfl) rfl #[.int .i64 (wrap64 (t871 + 1)), .int .i64 1] (by rfl) rfl rfl (by go_simp <;> rfl) ?_
 with_reducible refine (exposure_fraction.calls k (wrap64 (t871 + 1)) 1 t872 t873 t876 _ A9.out).mono ?_
 rintro e w24 ⟨v874, v877, rfl, ho0, ho1, hb⟩
 refine ⟨_, rfl, ?_⟩
 replace HO869 := mk0 (Kd.V_elder' HO869.out (Rs ho0) hb)
 have HO875 := mk0 (Rl (Rn (Rm (ok' := fun k_ => True) ho0 tv) (Rq HO866.out)) (bZ (by repeat (first | exact HB.out | apply bN | apply b1 | apply bA | refine bS ?_ GE860.out | refine bS ?_ GE870.out))))
 have HO878 := mk0 (Vl (Vm (ok' := fun k_ => some k_ ≠ (v874 : Value).ownBlock ∧ some k_ ≠ (.slice Ao19 t864.length co19 : Value).ownBlock ∧ k_ ≠ gb860 ∧ k_ ≠ gb870) ho1 (fun k_ hk_ => ⟨hk_.2, (Kd.fresh' (Rq HO866.out) k_ hk_.1), (Kd.freshB BK860.out k_ hk_.1), (Kd.freshB BK870.out k_ hk_.1)⟩)) (bZ (by repeat (first | exact HB.out | apply bN | apply b1 | apply bA | refine bS ?_ GE860.out | refine bS ?_ GE870.out))))
 replace HO866 := mk0 (Re HO866.out (Rs ho0) hb)
 replace BK860 := bkB BK860 hb
 replace BK870 := bkB BK870 hb
 replace HB := mk0 (below_step (by repeat (first | exact HB.out | apply bN | apply b1 | apply bA | refine bS ?_ GE860.out | refine bS ?_ GE870.out)) hb)
 refine hK.out _ _ ⟨(blk_cell BK860.out 0).trans rfl, (blk_cell BK860.out 1).trans rfl, (blk_cell BK860.out 2).trans rfl, (blk_cell BK870.out 0).trans rfl, (blk_cell BK870.out 1).trans rfl, (blk_cell BK870.out 2).trans rfl⟩ (fun hHeld => ?_)
 clear hK K
 refine norm_ (a' := ?_) ?_ ?_
 rotate_left
 ·show Act.put _ (some 20) _ = _
  simp only [Act.put, sA, sZ, sS, i64_w, i32_w]
  rfl
 refine one_ (i := 6) (N := some 23) (bv 10 127) rfl rfl (one_of HT_.out (by kernel_rfl)) (by decide) (fun K hK => ?_)
 refine goes_ Try.func27 (by kernel_rfl) rfl #[.agg #[.bool a2_0, .slice A2_1 l2_1.length c2_1, .slice A2_2 l2_2.length c2_2], .agg #[.bool t863, .slice Ao19 t864.length co19, .slice Ao20 t867.length co20]] (by rfl) rfl rfl (by go_simp <;> rfl) ?_
 with_reducible refine (ratio_Mul.calls k a2_0 (fun k_ => k_ < w.heap.size) _ _ l2_1 _ _ l2_2 t863 (fun k_ => some k_ = (.slice Ao19 t864.length co19 : Value).ownBlock) _ _ t864 _ _ t867 t879 t880 t883 _ ?side1 ?side2 ?side3 ?side4 ?side5 ?side6 A10.out).mono ?_
 (case side1 => exact Kd.V_mk HC2_1.out (Kd.F_below (Kd.C_F (Kd.heap_int .u32) HR2_1.out) (by repeat (first | exact HB.out | apply bN | apply b1 | apply bA | refine bS ?_ GE860.out | refine bS ?_ GE870.out))))
 (case side2 => repeat (first | exact (Cb HR2_2.out HB.out) | (with_reducible refine Kd.C_alloc ?_ _) | (with_reducible refine Kd.C_drewN ?_ _) | (with_reducible refine Kd.C_drew ?_)))
 (case side3 => exact HC2_2.out)
 (case side4 => exact Kd.R_V (Kd.R_tight rfl (Rt (Rt (HO866.out) BK860.out (by decide)) BK870.out (by decide))))
 (case side5 => repeat (first | exact (Kd.V_reads' HO869.out).2.2 | (with_reducible refine Kd.C_alloc ?_ _) | (with_reducible refine Kd.C_drewN ?_ _) | (with_reducible refine Kd.C_drew ?_)))
 (case side6 => exact (Kd.V_reads' HO869.out).2.1)
 rintro e w25 ⟨v881, v884, rfl, ho0, ho1, hb⟩
 refine ⟨_, rfl, ?_⟩
 replace HO869 := mk0 (Kd.V_elder' HO869.out (Rs ho0) hb)
 replace HO878 := mk0 (Kd.V_elder' HO878.out (Rs ho0) hb)
 have HO882 := mk0 (Rl (Rn (Rn (Rm (ok' := fun k_ => True) ho0 tv) (Rq HO866.out)) (Rq HO875.out)) (bZ (by repeat (first | exact HB.out | apply bN | apply b1 | apply bA | refine bS ?_ GE860.out | refine bS ?_ GE870.out))))
 have HO885 := mk0 (Vl (Vm (ok' := fun k_ => some k_ ≠ (v881 : Value).ownBlock ∧ some k_ ≠ (v874 : Value).ownBlock ∧ k_ ≠ gb860 ∧ k_ ≠ gb870) ho1 (fun k_ hk_ => ⟨hk_.2, Or.elim hk_.1 (fun hs_ => Or.elim hs_ (fun hs_ => fun e_ => Nat.not_le.2 hs_ (Rs HO875.out k_ e_.symm)) (fun hs_ => ((Rt (Rt (HO866.out) BK860.out (by decide)) BK870.out (by decide)).1 k_ hs_.symm).1.1.2)) (fun hn_ => (Kd.fresh' (Rq HO875.out) k_ hn_)), Or.elim hk_.1 (fun hs_ => Or.elim hs_ (fun hs_ => fun e_ => Nat.not_le.2 hs_ (by rw [e_]; exact GE860.out)) (fun hs_ => ((Rt (Rt (HO866.out) BK860.out (by decide)) BK870.out (by decide)).1 k_ hs_.symm).1.2)) (fun hn_ => (Kd.freshB BK860.out k_ hn_)), Or.elim hk_.1 (fun hs_ => Or.elim hs_ (fun hs_ => fun e_ => Nat.not_le.2 hs_ (by rw [e_]; exact GE870.out)) (fun hs_ => ((Rt (Rt (HO866.out) BK860.out (by decide)) BK870.out (by decide)).1 k_ hs_.symm).2)) (fun hn_ => (Kd.freshB BK870.out k_ hn_))⟩)) (bZ (by repeat (first | exact HB.out | apply bN | apply b1 | apply bA | refine bS ?_ GE860.out | refine bS ?_ GE870.out))))
 replace HO866 := mk0 (Re HO866.out (Rs ho0) hb)
 replace HO875 := mk0 (Re HO875.out (Rs ho0) hb)
 replace BK860 := bkB BK860 hb
 replace BK870 := bkB BK870 hb
 replace HB := mk0 (below_step (by repeat (first | exact HB.out | apply bN | apply b1 | apply bA | refine bS ?_ GE860.out | refine bS ?_ GE870.out)) hb)
 obtain ⟨Ao26, co26, eo26⟩ := Kd.R_slice HO875.out
 (first | subst eo26 | (injection eo26 with f1_ f2_ f3_; have f4_ := f1_.symm; have f5_ := f3_.symm; clear f1_ f2_ f3_; subst f4_; subst f5_))
 obtain ⟨Ao27, co27, eo27⟩ := Kd.V_slice HO878.out
 (first | subst eo27 | (injection eo27 with f1_ f2_ f3_; have f4_ := f1_.symm; have f5_ := f3_.symm; clear f1_ f2_ f3_; subst f4_; subst f5_))
 obtain ⟨Ao28, co28, eo28⟩ := Kd.R_slice HO882.out
 (first | subst eo28 | (injection eo28 with f1_ f2_ f3_; have f4_ := f1_.symm; have f5_ := f3_.symm; clear f1_ f2_ f3_; subst f4_; subst f5_))
 obtain ⟨Ao29, co29, eo29⟩ := Kd.V_slice HO885.out
 (first | subst eo29 | (injection eo29 with f1_ f2_ f3_; have f4_ := f1_.symm; have f5_ := f3_.symm; clear f1_ f2_ f3_; subst f4_; subst f5_))
 refine hK.out _ _ ⟨(blk_cell BK860.out 0).trans rfl, (blk_cell BK860.out 1).trans rfl, (blk_cell BK860.out 2).trans rfl, (blk_cell BK870.out 0).trans rfl, (blk_cell BK870.out 1).trans rfl, (blk_cell BK870.out 2).trans rfl⟩ (fun hHeld => ?_)
 clear hK K
 refine norm_ (a' := ?_) ?_ ?_
 rotate_left
 ·show Act.put _ (some 23) _ = _
  simp only [Act.put, sA, sZ, sS, i64_w, i32_w]
  rfl
 refine one_ (i := 7) (N := some 24) (bv 10 255) rfl rfl (one_of HT_.out (by kernel_rfl)) (by decide) (fun K hK => ?_)
 refine goes_ Try.func26 (by kernel_rfl) rfl #[.agg #[.bool t872, .slice Ao26 t873.length co26, .slice Ao27 t876.length co27], .agg #[.bool t879, .slice Ao28 t880.length co28, .slice Ao29 t883.length co29]] (by rfl) rfl rfl (by go_simp <;> rfl) ?_
 with_reducible refine (ratio_Cmp.calls k t872 _ _ t873 _ _ t876 t879 _ _ t880 _ _ t883 t886 _ ?side1 ?side2 ?side3 ?side4 ?side5 ?side6 ?side7 ?side8 A11.out).mono ?_
 (case side1 => repeat (first | exact (Kd.R_reads' HO875.out).2.2 | (with_reducible refine Kd.C_alloc ?_ _) | (with_reducible refine Kd.C_drewN ?_ _) | (with_reducible refine Kd.C_drew ?_)))
 (case side2 => exact (Kd.R_reads' HO875.out).2.1)
 (case side3 => repeat (first | exact (Kd.V_reads' HO878.out).2.2 | (with_reducible refine Kd.C_alloc ?_ _) | (with_reducible refine Kd.C_drewN ?_ _) | (with_reducible refine Kd.C_drew ?_)))
 (case side4 => exact (Kd.V_reads' HO878.out).2.1)
 (case side5 => repeat (first | exact (Kd.R_reads' HO882.out).2.2 | (with_reducible refine Kd.C_alloc ?_ _) | (with_reducible refine Kd.C_drewN ?_ _) | (with_reducible refine Kd.C_drew ?_)))
 (case side6 => exact (Kd.R_reads' HO882.out).2.1)
 (case side7 => repeat (first | exact (Kd.V_reads' HO885.out).2.2 | (with_reducible refine Kd.C_alloc ?_ _) | (with_reducible refine Kd.C_drewN ?_ _) | (with_reducible refine Kd.C_drew ?_)))
 (case side8 => exact (Kd.V_reads' HO885.out).2.1)
 rintro e w30 ⟨rfl, hb⟩
 refine ⟨_, rfl, ?_⟩
 replace HO866 := rB HO866 hb
 replace HO869 := mk0 (Kd.V_below HO869.out hb)
 replace HO875 := rB HO875 hb
 replace HO878 := mk0 (Kd.V_below HO878.out hb)
 replace HO882 := rB HO882 hb
 replace HO885 := mk0 (Kd.V_below HO885.out hb)
 replace BK860 := bkB BK860 hb
 replace BK870 := bkB BK870 hb
 replace HB := mk0 (below_step (by repeat (first | exact HB.out | apply bN | apply b1 | apply bA | refine bS ?_ GE860.out | refine bS ?_ GE870.out)) hb)
 refine hK.out _ _ ⟨(blk_cell BK860.out 0).trans rfl, (blk_cell BK860.out 1).trans rfl, (blk_cell BK860.out 2).trans rfl, (blk_cell BK870.out 0).trans rfl, (blk_cell BK870.out 1).trans rfl, (blk_cell BK870.out 2).trans rfl⟩ (fun hHeld => ?_)
 clear hK K
 refine norm_ (a' := ?_) ?_ ?_
 rotate_left
 ·show Act.put _ (some 24) _ = _
  simp only [Act.put, sA, sZ, sS, i64_w, i32_w]
  rfl
 refine puA (i := 8) (N := 25) (v := ?_) (a' := ?_) (bv 10 511) HT_ ?_ ?_ ?_; rotate_left; (intro w'; go_simp; with_reducible rfl); rotate_left; (simp only [Act.put, sA, sZ, sS, i64_w, i32_w]; rfl)
 refine puA (i := 9) (N := 8) (v := ?_) (a' := ?_) (bv 10 1023) HT_ ?_ ?_ ?_; rotate_left; (intro w'; go_simp; with_reducible rfl); rotate_left; (simp only [Act.put, sA, sZ, sS, i64_w, i32_w]; rfl)
 refine done_ (done_of HT_.out (by kernel_rfl)) ?_
 try go_wp2
 go_ret
 exact ⟨by first | rfl | (simp [errW_none, errW_some] <;> rfl) | (simp [*, errW_none, errW_some] <;> rfl), by repeat (first | exact HB.out | apply bN | apply b1 | apply bA | refine bS ?_ GE860.out | refine bS ?_ GE870.out)⟩
set_option maxHeartbeats 8000000 in
set_option maxRecDepth 100000 in
theorem examboardref01_Norm.calls (k : Nat) (A0 : Option Addr) (c0 : Nat) (l0 : List Int) (r : List Int) (w : World) (hr0 : Kd.C (Kd.int .u32) w A0 l0.length l0) (hc0 : l0.length ≤ c0) (h : examboardref01_Norm.f k l0 = some r) :
  Calls Try.prog 89 #[.slice A0 l0.length c0] w fun e w' => ∃ v0_ : Value, e = .returned (v0_) ∧ Kd.R (Kd.int .u32) 87 w' w.heap.size (fun _ => True) v0_ r ∧ Below w.heap.size w w' := by
 have HR0 := mk0 hr0
 have HC0 := mk0 hc0
 clear hr0 hc0
 have HB := mk0 (Below.refl w.heap.size w)
 have H : (examboardref01_Norm.l0 k l0 (l0.length : Int)) = some r := h
 clear h
 have H' := mk0 H
 clear H
 go_enter Try.func89, Try.ntmps89
 go_wp2
 go_loopg [3] k (fun kq v3 w' => ∃ (x3_1 : Int), v3 = .int .i64 x3_1 ∧ Aside0 (examboardref01_Norm.l0 kq l0 x3_1 = some r) ∧ Aside0 (kq ≤ k) ∧ Aside0 (Below w.heap.size w w'))
 case atStart => exact ⟨((l0.length : Int)), (by first | rfl | (simp; done) | (simp [*]; done)), H', ⟨Nat.le_refl _⟩, ⟨by repeat (first | exact HB.out | apply bN | apply b1 | apply bA)⟩⟩
 case round =>
  clear H'
  obtain ⟨x3_1, rfl, HA, HK1, HB⟩ := hrel
  cases gk with
  | zero => exact absurd HA.out (by simp [examboardref01_Norm.l0])
  | succ k1 =>
   have H := HA.out
   clear HA
   simp only [examboardref01_Norm.l0] at H
   by_cases c2 : x3_1 > 0
   ·rw [if_pos c2] at H
    have c2b0 : decide (0 < x3_1) = true := decide_eq_true c2
    clear c2
    obtain ⟨ji3, hji3⟩ : ∃ j_ : Int, (wrap64 (x3_1 - 1)) = j_ := ⟨_, rfl⟩
    replace H : (if 0 ≤ (ji3) then (if (ji3) < (l0.length : Int) then (if (rd l0 (ji3)) = 0 then (examboardref01_Norm.l0 k1 l0 ji3) else (if 0 ≤ x3_1 then (if (x3_1 : Int).toNat ≤ 70368744177664 then (if (x3_1 : Int).toNat ≤ l0.length then (some (l0.take (x3_1 : Int).toNat)) else (none)) else (none)) else (none))) else (none)) else (none)) = some r := by first | (rw [hji3] at H; exact H) | (simp only [hji3] at H ⊢; exact H)
    have hji3w : (IntKind.i64.wrap (x3_1 - 1)) = ji3 := (i64_w _).trans hji3
    by_cases c4 : 0 ≤ (ji3)
    ·rw [if_pos c4] at H
     have c4b0 : decide (0 ≤ (ji3)) = true := decide_eq_true c4
     clear c4
     by_cases c5 : (ji3) < (l0.length : Int)
     ·rw [if_pos c5] at H
      have c5b0 : decide ((ji3) < (l0.length : Int)) = true := decide_eq_true c5
      clear c5
      by_cases c6 : (rd l0 (ji3)) = 0
      ·rw [if_pos c6] at H
       have c6b0 : ((rd l0 (ji3)) == 0) = true := beq_iff_eq.mpr c6
       have c6b1 : ((rd l0 (ji3)) != 0) = false := bne_eq_false_iff_eq.mpr c6
       clear c6
       have H' := mk0 H
       clear H
       have p101 : 0 ≤ ((ji3) : Int) := of_decide_eq_true (by assumption)
       have q101 : (ji3) < (l0.length : Int) := of_decide_eq_true (by assumption)
       obtain ⟨ad101, e101, hx101_0⟩ := Kd.at_int HR0.out (ji3) p101 q101
       cases e101
       replace hx101_0 := (HB.out.cell (World.block_lt_of_cell? w _ hx101_0)).trans hx101_0
       replace p101 := eq_true p101
       replace q101 := eq_true q101
       go_wp2
       go_roundg k1
       case measure => have := HK1.out; omega
       case rel => exact ⟨(ji3), (by first | rfl | (simp; done) | (simp only [← hji3] <;> (first | rfl | simp)) | (simp [*]; done)), H', ⟨by have := HK1.out; omega⟩, ⟨by repeat (first | exact HB.out | apply bN | apply b1 | apply bA)⟩⟩
      ·rw [if_neg c6] at H
       have c6b0 : ((rd l0 (ji3)) == 0) = false := beq_eq_false_iff_ne.mpr c6
       have c6b1 : ((rd l0 (ji3)) != 0) = true := bne_iff_ne.mpr c6
       by_cases c7 : 0 ≤ x3_1
       ·rw [if_pos c7] at H
        have c7b0 := eq_true c7
        have c7b1 : decide (0 ≤ x3_1) = true := decide_eq_true c7
        clear c7
        by_cases c8 : (x3_1 : Int).toNat ≤ 70368744177664
        ·rw [if_pos c8] at H
         have c8b0 := eq_true c8
         have c8b1 : decide ((x3_1 : Int).toNat ≤ 70368744177664) = true := decide_eq_true c8
         clear c8
         by_cases cL : (x3_1 : Int).toNat ≤ l0.length
         case neg => rw [if_neg cL] at H; exact absurd H (by simp)
         rw [if_pos cL] at H
         have HCL := mk0 cL
         clear cL
         obtain ⟨y102, hy102⟩ : ∃ y_ : List Int, y_ = (List.replicate (x3_1 : Int).toNat 0) := ⟨_, rfl⟩
         have Ny102 := mk0 hy102
         clear hy102
         obtain rfl := Option.some.inj H
         have p101 : 0 ≤ ((ji3) : Int) := of_decide_eq_true (by assumption)
         have q101 : (ji3) < (l0.length : Int) := of_decide_eq_true (by assumption)
         obtain ⟨ad101, e101, hx101_0⟩ := Kd.at_int HR0.out (ji3) p101 q101
         cases e101
         replace hx101_0 := (HB.out.cell (World.block_lt_of_cell? w _ hx101_0)).trans hx101_0
         replace p101 := eq_true p101
         replace q101 := eq_true q101
         go_wp2_with (first | ((with_reducible refine gate_dst (N := 20) rfl ?_); refine Kd.R_make (Kd.int .u32) _ 87 rfl (N := 20) rfl 25 _ _ rfl x3_1 rfl rfl Try.underlying25 (.int .u32 0) 4 info87 rfl (by decide) (by omega) 0 (ok := fun _ => True) (okp := fun _ => True) rfl (fun _ hk => hk) trivial (of_decide_eq_true (by assumption)) (Nat.le_trans (Nat.mul_le_mul_right _ (of_decide_eq_true (by assumption) : x3_1.toNat ≤ 70368744177664)) (by omega)) (Below.refl _ _) (Nat.le_refl _) ?_; intro v103 w9 ho10 hb hg_ hnew_; clear hg_ hnew_; (first | rw [← Ny102.out] at ho10 | (simp only [Int.reduceToNat] at ho10; rw [← Ny102.out] at ho10)); have HO104 := mk0 (Rl ho10 (bZ HB.out)); replace HB := hbS HB hb; clear hb ho10) | (with_reducible refine gate_builtin (b := .copy) (xs := #[.tmp 21, .tmp 22]) rfl ?_; refine copy_event (p := 21) (q := 22) (dT := 25) (e := 87) rfl rfl Try.underlying25 info87 rfl rfl HO104.out (Cb HR0.out HB.out) (by rw [Ny102.out, List.length_replicate]; exact HCL.out) HB.out ?_; intro n_ w_ hc_ hb_; have HO104c := mk0 hc_; replace HB := mk0 hb_))
         go_ret
         exact ⟨_, by first | rfl | (simp [errW_none, errW_some] <;> rfl) | (simp only [← hji3]; first | rfl | (simp [errW_none, errW_some] <;> rfl)) | (simp [*, errW_none, errW_some] <;> rfl), by (with_reducible repeat (first | apply Kd.R_alloc | apply Kd.R_drewN | apply Kd.R_drew)); have z_ := HO104c.out; rw [Ny102.out, List.length_replicate] at z_; exact z_, by repeat (first | exact HB.out | apply bN | apply b1 | apply bA)⟩
        ·rw [if_neg c8] at H
         exact absurd H (by simp)
       ·rw [if_neg c7] at H
        exact absurd H (by simp)
     ·rw [if_neg c5] at H
      exact absurd H (by simp)
    ·rw [if_neg c4] at H
     exact absurd H (by simp)
   ·rw [if_neg c2] at H
    have c2b0 : decide (0 < x3_1) = false := decide_eq_false c2
    clear c2
    by_cases c11 : 0 ≤ x3_1
    ·rw [if_pos c11] at H
     have c11b0 := eq_true c11
     have c11b1 : decide (0 ≤ x3_1) = true := decide_eq_true c11
     clear c11
     by_cases c12 : (x3_1 : Int).toNat ≤ 70368744177664
     ·rw [if_pos c12] at H
      have c12b0 := eq_true c12
      have c12b1 : decide ((x3_1 : Int).toNat ≤ 70368744177664) = true := decide_eq_true c12
      clear c12
      by_cases cL : (x3_1 : Int).toNat ≤ l0.length
      case neg => rw [if_neg cL] at H; exact absurd H (by simp)
      rw [if_pos cL] at H
      have HCL := mk0 cL
      clear cL
      obtain ⟨y105, hy105⟩ : ∃ y_ : List Int, y_ = (List.replicate (x3_1 : Int).toNat 0) := ⟨_, rfl⟩
      have Ny105 := mk0 hy105
      clear hy105
      obtain rfl := Option.some.inj H
      go_wp2_with (first | ((with_reducible refine gate_dst (N := 20) rfl ?_); refine Kd.R_make (Kd.int .u32) _ 87 rfl (N := 20) rfl 25 _ _ rfl x3_1 rfl rfl Try.underlying25 (.int .u32 0) 4 info87 rfl (by decide) (by omega) 0 (ok := fun _ => True) (okp := fun _ => True) rfl (fun _ hk => hk) trivial (of_decide_eq_true (by assumption)) (Nat.le_trans (Nat.mul_le_mul_right _ (of_decide_eq_true (by assumption) : x3_1.toNat ≤ 70368744177664)) (by omega)) (Below.refl _ _) (Nat.le_refl _) ?_; intro v106 w13 ho14 hb hg_ hnew_; clear hg_ hnew_; (first | rw [← Ny105.out] at ho14 | (simp only [Int.reduceToNat] at ho14; rw [← Ny105.out] at ho14)); have HO107 := mk0 (Rl ho14 (bZ HB.out)); replace HB := hbS HB hb; clear hb ho14) | (with_reducible refine gate_builtin (b := .copy) (xs := #[.tmp 21, .tmp 22]) rfl ?_; refine copy_event (p := 21) (q := 22) (dT := 25) (e := 87) rfl rfl Try.underlying25 info87 rfl rfl HO107.out (Cb HR0.out HB.out) (by rw [Ny105.out, List.length_replicate]; exact HCL.out) HB.out ?_; intro n_ w_ hc_ hb_; have HO107c := mk0 hc_; replace HB := mk0 hb_))
      go_ret
      exact ⟨_, by first | rfl | (simp [errW_none, errW_some] <;> rfl) | (simp [*, errW_none, errW_some] <;> rfl), by (with_reducible repeat (first | apply Kd.R_alloc | apply Kd.R_drewN | apply Kd.R_drew)); have z_ := HO107c.out; rw [Ny105.out, List.length_replicate] at z_; exact z_, by repeat (first | exact HB.out | apply bN | apply b1 | apply bA)⟩
     ·rw [if_neg c12] at H
      exact absurd H (by simp)
    ·rw [if_neg c11] at H
     exact absurd H (by simp)
set_option maxHeartbeats 8000000 in
set_option maxRecDepth 100000 in
theorem examboardref02_Norm.calls (k : Nat) (a0_0 : Bool) (A0_1 : Option Addr) (c0_1 : Nat) (l0_1 : List Int) (r1 : Bool) (r2 : List Int) (w : World) (hr0_1 : Kd.C (Kd.int .u32) w A0_1 l0_1.length l0_1) (hc0_1 : l0_1.length ≤ c0_1) (h : examboardref02_Norm.f k a0_0 l0_1 = some (r1, r2)) :
  Calls Try.prog 84 #[.agg #[.bool a0_0, .slice A0_1 l0_1.length c0_1]] w fun e w' => ∃ v1_ : Value, e = .returned (.agg #[.bool r1, v1_]) ∧ Kd.R (Kd.int .u32) 87 w' w.heap.size (fun _ => True) v1_ r2 ∧ Below w.heap.size w w' := by
 have hu27 := Try.underlying27
 have HR0_1 := mk0 hr0_1
 have HC0_1 := mk0 hc0_1
 clear hr0_1 hc0_1
 have HB := mk0 (Below.refl w.heap.size w)
 have H : ((examboardref01_Norm.f k l0_1).bind fun t429 => (if a0_0 = true then (some (decide (0 < t429.length), t429)) else (some (false, t429)))) = some (r1, r2) := h
 clear h
 obtain ⟨t429, A2, H⟩ := bindA H
 by_cases c3 : a0_0 = true
 ·subst c3
  have H1 : (some (decide (0 < t429.length), t429)) = some (r1, r2) := by rw [if_pos rfl] at H; exact H
  clear H
  have H := H1
  clear H1
  simp only [Option.some.injEq, Prod.mk.injEq] at H
  obtain ⟨rfl, rfl⟩ := H
  go_enter Try.func84, Try.ntmps84
  go_wp2_with (first | ((with_reducible refine gate_dst (N := 1) rfl ?_); (try (refine gate_guard (by rfl) ?_; dsimp only)); refine box_event rfl (N := 1) rfl (cs := #[.bool true, .slice A0_1 l0_1.length c0_1]) (t := 27) (by go_simp <;> rfl) ?_; intro gb427 hg w4 hbox hb; have BK427 := mk0 (hbox); have GE427 := geB hg HB; replace HB := hbS HB hb; clear hb hbox hg) | ((with_reducible refine gate_dst (N := 2) rfl ?_); (try (refine gate_guard (by rfl) ?_; dsimp only)); refine box_event rfl (N := 2) rfl (cs := #[.bool false, .slice none 0 0]) (t := 27) (by go_simp <;> rfl) ?_; intro gb428 hg w5 hbox hb; have BK428 := mk0 (hbox); have GE428 := geB hg HB; replace HB := hbS HB hb; have NB427_428 := nbA hg BK427; have NB428_427 := nbB hg BK427; replace BK427 := bkB BK427 hb; clear hb hbox hg; have hnb6 := NB427_428.out; have hnc6 := NB428_427.out; obtain ⟨hcz7_0, hcz7_1, hfz7_0, hfz7_1⟩ := cz2 BK427) | ((with_reducible refine gate_callee (f := 89) rfl ?_); refine goA 6 Try.func89 #[.slice A0_1 l0_1.length c0_1] ?_; (with_reducible refine (examboardref01_Norm.calls k _ _ l0_1 t429 _ (by exact Cb HR0_1.out HB.out) HC0_1.out A2.out).mono ?_); rintro e w8 ⟨v430, rfl, ho0, hb⟩; refine ⟨_, rfl, ?_⟩; have HO431 := mk0 (Rl ho0 (bZ HB.out)); replace BK427 := bkB BK427 hb; replace BK428 := bkB BK428 hb; replace HB := hbS HB hb; obtain ⟨hcz9_0, hcz9_1, hfz9_0, hfz9_1⟩ := cz2 BK427; obtain ⟨Ao10, co10, eo10⟩ := Kd.R_slice HO431.out; subst eo10; obtain ⟨hcz11_0, hcz11_1, hfz11_0, hfz11_1⟩ := cz2 BK428))
  refine bodyPost_ret (results_cell_row rfl _ _ gb428 27 #[.bool (decide (0 < t429.length)), .slice Ao10 t429.length co10] (0, 0) _ rfl (by refine blk_put (cs := #[.bool (decide (0 < t429.length)), .slice none 0 0]) ?_ 1 _ rfl; refine blk_put (cs := #[.bool false, .slice none 0 0]) ?_ 0 _ rfl; exact BK428.out) Try.underlying27 rfl (by kernel_rfl)) rfl ?_
  exact ⟨_, by first | rfl | (simp [errW_none, errW_some] <;> rfl) | (simp [*, errW_none, errW_some] <;> rfl), Rm (Rf (p := ⟨gb428, 1, none⟩) (Rf (p := ⟨gb428, 0, none⟩) (Rt HO431.out BK428.out (by decide)) (fun _ hk => hk.2) (.bool (decide (0 < t429.length)))) (fun _ hk => hk.2) (.slice Ao10 t429.length co10)) tv, by repeat (first | exact HB.out | apply bN | apply b1 | apply bA | refine bS ?_ GE427.out | refine bS ?_ GE428.out)⟩
 ·replace c3 := Bool.eq_false_iff.mpr c3
  subst c3
  have H1 : (some (false, t429)) = some (r1, r2) := by rw [if_neg (show ¬ (false = true) by decide)] at H; exact H
  clear H
  have H := H1
  clear H1
  simp only [Option.some.injEq, Prod.mk.injEq] at H
  obtain ⟨rfl, rfl⟩ := H
  go_enter Try.func84, Try.ntmps84
  go_wp2_with (first | ((with_reducible refine gate_dst (N := 1) rfl ?_); (try (refine gate_guard (by rfl) ?_; dsimp only)); refine box_event rfl (N := 1) rfl (cs := #[.bool false, .slice A0_1 l0_1.length c0_1]) (t := 27) (by go_simp <;> rfl) ?_; intro gb427 hg w12 hbox hb; have BK427 := mk0 (hbox); have GE427 := geB hg HB; replace HB := hbS HB hb; clear hb hbox hg) | ((with_reducible refine gate_dst (N := 2) rfl ?_); (try (refine gate_guard (by rfl) ?_; dsimp only)); refine box_event rfl (N := 2) rfl (cs := #[.bool false, .slice none 0 0]) (t := 27) (by go_simp <;> rfl) ?_; intro gb428 hg w13 hbox hb; have BK428 := mk0 (hbox); have GE428 := geB hg HB; replace HB := hbS HB hb; have NB427_428 := nbA hg BK427; have NB428_427 := nbB hg BK427; replace BK427 := bkB BK427 hb; clear hb hbox hg; have hnb14 := NB427_428.out; have hnc14 := NB428_427.out; obtain ⟨hcz15_0, hcz15_1, hfz15_0, hfz15_1⟩ := cz2 BK427) | ((with_reducible refine gate_callee (f := 89) rfl ?_); refine goA 6 Try.func89 #[.slice A0_1 l0_1.length c0_1] ?_; (with_reducible refine (examboardref01_Norm.calls k _ _ l0_1 t429 _ (by exact Cb HR0_1.out HB.out) HC0_1.out A2.out).mono ?_); rintro e w16 ⟨v430, rfl, ho0, hb⟩; refine ⟨_, rfl, ?_⟩; have HO431 := mk0 (Rl ho0 (bZ HB.out)); replace BK427 := bkB BK427 hb; replace BK428 := bkB BK428 hb; replace HB := hbS HB hb; obtain ⟨hcz17_0, hcz17_1, hfz17_0, hfz17_1⟩ := cz2 BK427; obtain ⟨Ao18, co18, eo18⟩ := Kd.R_slice HO431.out; subst eo18; obtain ⟨hcz19_0, hcz19_1, hfz19_0, hfz19_1⟩ := cz2 BK428))
  refine bodyPost_ret (results_cell_row rfl _ _ gb428 27 #[.bool false, .slice Ao18 t429.length co18] (0, 0) _ rfl (by refine blk_put (cs := #[.bool false, .slice none 0 0]) ?_ 1 _ rfl; refine blk_put (cs := #[.bool false, .slice none 0 0]) ?_ 0 _ rfl; exact BK428.out) Try.underlying27 rfl (by kernel_rfl)) rfl ?_
  exact ⟨_, by first | rfl | (simp [errW_none, errW_some] <;> rfl) | (simp [*, errW_none, errW_some] <;> rfl), Rm (Rf (p := ⟨gb428, 1, none⟩) (Rf (p := ⟨gb428, 0, none⟩) (Rt HO431.out BK428.out (by decide)) (fun _ hk => hk.2) (.bool false)) (fun _ hk => hk.2) (.slice Ao18 t429.length co18)) tv, by repeat (first | exact HB.out | apply bN | apply b1 | apply bA | refine bS ?_ GE427.out | refine bS ?_ GE428.out)⟩
set_option maxHeartbeats 8000000 in
set_option maxRecDepth 100000 in
theorem examboardref02_Make.calls (k : Nat) (a0 : Bool) (A1 : Option Addr) (c1 : Nat) (l1 : List Int) (r1 : Bool) (r2 : List Int) (w : World) (hr1 : Kd.C (Kd.int .u32) w A1 l1.length l1) (hc1 : l1.length ≤ c1) (h : examboardref02_Make.f k a0 l1 = some (r1, r2)) :
  Calls Try.prog 62 #[.bool a0, .slice A1 l1.length c1] w fun e w' => ∃ v1_ : Value, e = .returned (.agg #[.bool r1, v1_]) ∧ Kd.R (Kd.int .u32) 87 w' w.heap.size (fun _ => True) v1_ r2 ∧ Below w.heap.size w w' := by
 have hu27 := Try.underlying27
 have HR1 := mk0 hr1
 have HC1 := mk0 hc1
 clear hr1 hc1
 have HB := mk0 (Below.refl w.heap.size w)
 have H : ((examboardref02_Norm.f k a0 l1).bind fun bt433 => (some (bt433.1, bt433.2))) = some (r1, r2) := h
 clear h
 obtain ⟨⟨t433, t434⟩, A3, H⟩ := bindA H
 simp only [Option.some.injEq, Prod.mk.injEq] at H
 obtain ⟨rfl, rfl⟩ := H
 go_enter Try.func62, Try.ntmps62
 go_wp2_with (first | ((with_reducible refine gate_dst (N := 4) rfl ?_); refine box_event rfl (N := 4) rfl (cs := #[.bool false, .slice none 0 0]) (t := 27) (by go_simp <;> rfl) ?_; intro gb432 hg w4 hbox hb; have BK432 := mk0 (hbox); have GE432 := geB hg HB; replace HB := hbS HB hb; clear hb hbox hg) | ((with_reducible refine gate_callee (f := 84) rfl ?_); refine goA 8 Try.func84 #[.agg #[.bool a0, .slice A1 l1.length c1]] ?_; (with_reducible refine (examboardref02_Norm.calls k a0 _ _ l1 t433 t434 _ (by exact Cb HR1.out HB.out) HC1.out A3.out).mono ?_); rintro e w5 ⟨v435, rfl, ho0, hb⟩; refine ⟨_, rfl, ?_⟩; have HO436 := mk0 (Rl ho0 (bZ HB.out)); replace BK432 := bkB BK432 hb; replace HB := hbS HB hb; obtain ⟨hcz6_0, hcz6_1, hfz6_0, hfz6_1⟩ := cz2 BK432; obtain ⟨Ao7, co7, eo7⟩ := Kd.R_slice HO436.out; subst eo7))
 refine bodyPost_ret (results_cell_row rfl _ _ gb432 27 #[.bool t433, .slice Ao7 t434.length co7] (0, 0) _ rfl (by refine blk_put (cs := #[.bool t433, .slice none 0 0]) ?_ 1 _ rfl; refine blk_put (cs := #[.bool false, .slice none 0 0]) ?_ 0 _ rfl; exact BK432.out) Try.underlying27 rfl (by kernel_rfl)) rfl ?_
 exact ⟨_, by first | rfl | (simp [errW_none, errW_some] <;> rfl) | (simp [*, errW_none, errW_some] <;> rfl), Rm (Rf (p := ⟨gb432, 1, none⟩) (Rf (p := ⟨gb432, 0, none⟩) (Rt HO436.out BK432.out (by decide)) (fun _ hk => hk.2) (.bool t433)) (fun _ hk => hk.2) (.slice Ao7 t434.length co7)) tv, by repeat (first | exact HB.out | apply bN | apply b1 | apply bA | refine bS ?_ GE432.out)⟩
set_option maxHeartbeats 8000000 in
set_option maxRecDepth 100000 in
theorem examboardref01_Bits.calls (k : Nat) (A0 : Option Addr) (c0 : Nat) (l0 : List Int) (r : Int) (w : World) (hr0 : Kd.C (Kd.int .u32) w A0 l0.length l0) (hc0 : l0.length ≤ c0) (h : examboardref01_Bits.f k l0 = some r) :
  Calls Try.prog 85 #[.slice A0 l0.length c0] w fun e w' => e = .returned (.int .i64 r) ∧ Below w.heap.size w w' := by
 have HR0 := mk0 hr0
 have HC0 := mk0 hc0
 clear hr0 hc0
 have HB := mk0 (Below.refl w.heap.size w)
 have H : ((examboardref01_Norm.f k l0).bind fun t437 => (if (t437.length : Int) = 0 then (some 0) else (if 0 ≤ (wrap64 ((t437.length : Int) - 1)) then (if (wrap64 ((t437.length : Int) - 1)) < (t437.length : Int) then (examboardref01_Bits.l0 k (wrap64 (32 * (wrap64 ((t437.length : Int) - 1)))) (rd t437 (wrap64 ((t437.length : Int) - 1)))) else (none)) else (none)))) = some r := h
 clear h
 obtain ⟨t437, A2, H⟩ := bindA H
 by_cases c3 : (t437.length : Int) = 0
 ·rw [if_pos c3] at H
  have c3b0 : ((t437.length : Int) == 0) = true := beq_iff_eq.mpr c3
  have c3b1 : ((t437.length : Int) != 0) = false := bne_eq_false_iff_eq.mpr c3
  clear c3
  obtain rfl := Option.some.inj H
  go_enter Try.func85, Try.ntmps85
  go_wp2_with (first | ((with_reducible refine gate_callee (f := 89) rfl ?_); refine goA 6 Try.func89 #[.slice A0 l0.length c0] ?_; (with_reducible refine (examboardref01_Norm.calls k _ _ l0 t437 _ HR0.out HC0.out A2.out).mono ?_); rintro e w4 ⟨v438, rfl, ho0, hb⟩; refine ⟨_, rfl, ?_⟩; have HO439 := mk0 (Rl ho0 (bZ HB.out)); replace HB := hbS HB hb; obtain ⟨Ao5, co5, eo5⟩ := Kd.R_slice HO439.out; subst eo5))
  go_ret
  exact ⟨by first | rfl | (simp [errW_none, errW_some] <;> rfl) | (simp [*, errW_none, errW_some] <;> rfl), by repeat (first | exact HB.out | apply bN | apply b1 | apply bA)⟩
 ·rw [if_neg c3] at H
  have c3b0 : ((t437.length : Int) == 0) = false := beq_eq_false_iff_ne.mpr c3
  have c3b1 : ((t437.length : Int) != 0) = true := bne_iff_ne.mpr c3
  have c3b2 : ¬ (t437 = []) := fun h_ => c3 (by rw [h_]; rfl)
  obtain ⟨ji6, hji6⟩ : ∃ j_ : Int, (wrap64 ((t437.length : Int) - 1)) = j_ := ⟨_, rfl⟩
  replace H : (if 0 ≤ (ji6) then (if (ji6) < (t437.length : Int) then (examboardref01_Bits.l0 k (wrap64 (32 * (ji6))) (rd t437 (ji6))) else (none)) else (none)) = some r := by first | (rw [hji6] at H; exact H) | (simp only [hji6] at H ⊢; exact H)
  (try rw [hji6] at A2)
  have hji6w : (IntKind.i64.wrap ((t437.length : Int) - 1)) = ji6 := (i64_w _).trans hji6
  by_cases c7 : 0 ≤ (ji6)
  ·rw [if_pos c7] at H
   have c7b0 : decide (0 ≤ (ji6)) = true := decide_eq_true c7
   clear c7
   by_cases c8 : (ji6) < (t437.length : Int)
   ·rw [if_pos c8] at H
    have c8b0 : decide ((ji6) < (t437.length : Int)) = true := decide_eq_true c8
    clear c8
    have H' := mk0 H
    clear H
    go_enter Try.func85, Try.ntmps85
    go_wp2_with (first | ((with_reducible refine gate_callee (f := 89) rfl ?_); refine goA 6 Try.func89 #[.slice A0 l0.length c0] ?_; (with_reducible refine (examboardref01_Norm.calls k _ _ l0 t437 _ HR0.out HC0.out A2.out).mono ?_); rintro e w9 ⟨v438, rfl, ho0, hb⟩; refine ⟨_, rfl, ?_⟩; have HO439 := mk0 (Rl ho0 (bZ HB.out)); replace HB := hbS HB hb; obtain ⟨Ao10, co10, eo10⟩ := Kd.R_slice HO439.out; subst eo10; have p440 : 0 ≤ ((ji6) : Int) := of_decide_eq_true (by assumption); have q440 : (ji6) < (t437.length : Int) := of_decide_eq_true (by assumption); obtain ⟨ad440, e440, hx440_0⟩ := Kd.at_int (Kd.R_reads' HO439.out).2.2 (ji6) p440 q440; cases e440; replace p440 := eq_true p440; replace q440 := eq_true q440))
    go_loopg [3, 4] k (fun kq v3 v4 w' => ∃ (x3_1 : Int) (x4_1 : Int), v3 = .int .i64 x3_1 ∧ v4 = .int .u32 x4_1 ∧ Aside0 (examboardref01_Bits.l0 kq x3_1 x4_1 = some r) ∧ Aside0 (kq ≤ k) ∧ Aside0 (Below w.heap.size w w'))
    case atStart => exact ⟨(wrap64 (32 * (ji6))), (rd t437 (ji6)), (by first | rfl | (simp; done) | (simp only [← hji6] <;> (first | rfl | simp)) | (simp [*]; done)), (by first | rfl | (simp; done) | (simp only [← hji6] <;> (first | rfl | simp)) | (simp [*]; done)), H', ⟨Nat.le_refl _⟩, ⟨by repeat (first | exact HB.out | apply bN | apply b1 | apply bA)⟩⟩
    case round =>
     clear H'
     try clear p2
     try clear c3
     try clear c3b0
     try clear c3b1
     try clear c3b2
     try clear p4
     try clear q4
     try clear hx4
     try clear p6
     try clear c7
     try clear c7b0
     try clear c8
     try clear c8b0
     try clear hx440_0
     try clear p440
     try clear q440
     obtain ⟨x3_1, x4_1, rfl, rfl, HA, HK1, HB⟩ := hrel
     cases gk with
     | zero => exact absurd HA.out (by simp [examboardref01_Bits.l0])
     | succ k1 =>
      have H := HA.out
      clear HA
      simp only [examboardref01_Bits.l0] at H
      by_cases c11 : x4_1 > 0
      ·rw [if_pos c11] at H
       have c11b0 : decide (0 < x4_1) = true := decide_eq_true c11
       clear c11
       have H' := mk0 H
       clear H
       go_wp2
       go_roundg k1
       case measure => have := HK1.out; omega
       case rel => exact ⟨(wrap64 (x3_1 + 1)), ((Int.tdiv x4_1 2) % 4294967296), (by first | rfl | (simp; done) | (simp [*]; done)), (by first | rfl | (simp; done) | (simp [*]; done)), H', ⟨by have := HK1.out; omega⟩, ⟨by repeat (first | exact HB.out | apply bN | apply b1 | apply bA)⟩⟩
      ·rw [if_neg c11] at H
       have c11b0 : decide (0 < x4_1) = false := decide_eq_false c11
       clear c11
       obtain rfl := Option.some.inj H
       go_wp2
       go_ret
       exact ⟨by first | rfl | (simp [errW_none, errW_some] <;> rfl) | (simp only [← hji6]; first | rfl | (simp [errW_none, errW_some] <;> rfl)) | (simp [*, errW_none, errW_some] <;> rfl), by repeat (first | exact HB.out | apply bN | apply b1 | apply bA)⟩
   ·rw [if_neg c8] at H
    exact absurd H (by simp)
  ·rw [if_neg c7] at H
   exact absurd H (by simp)
set_option maxHeartbeats 8000000 in
set_option maxRecDepth 100000 in
theorem examboardref01_Of.calls (k : Nat) (a0 : Int) (r : List Int) (w : World) (h : examboardref01_Of.f k a0 = some r) :
  Calls Try.prog 90 #[.int .u64 a0] w fun e w' => ∃ v0_ : Value, e = .returned (v0_) ∧ Kd.R (Kd.int .u32) 87 w' w.heap.size (fun _ => True) v0_ r ∧ Below w.heap.size w w' := by
 have HB := mk0 (Below.refl w.heap.size w)
 have H : ((examboardref01_Norm.f k (([(a0) % 4294967296, (a0 / 4294967296) % 4294967296] : List Int))).bind fun t444 => (some t444)) = some r := h
 clear h
 obtain ⟨y441, hy441⟩ : ∃ y_ : List Int, y_ = (([(a0) % 4294967296, (a0 / 4294967296) % 4294967296] : List Int)) := ⟨_, rfl⟩
 replace H : ((examboardref01_Norm.f k y441).bind fun t444 => (some t444)) = some r := by first | (rw [hy441]; with_reducible exact H) | (have H2_ := (Option.bind_some _ _).symm.trans H; rw [hy441]; with_reducible exact H2_) | (have H2_ := (Option.bind_some _ _).symm.trans H; with_reducible exact H2_) | with_reducible exact H | (rw [hy441]; exact H) | exact H
 have Ny441 := mk0 hy441
 clear hy441
 obtain ⟨t444, A2, H⟩ := bindA H
 obtain rfl := Option.some.inj H
 go_enter Try.func90, Try.ntmps90
 go_wp2_with (first | ((with_reducible refine gate_dst (N := 8) rfl ?_); refine Kd.R_lit (Kd.int .u32) _ 87 ?hg (N := 8) ?hd (xs := ([(a0) % 4294967296, (a0 / 4294967296) % 4294967296] : List Int)) (inner := [.int .u32 ((a0) % 4294967296), .int .u32 ((a0 / 4294967296) % 4294967296)]) (ok := fun _ => True) (okp := fun _ => True) ?hr ?hp (fun _ hk => hk) trivial (Below.refl _ _) (Nat.le_refl _) (by simp) ?_; (case hd => rfl); (case hg => rfl); (case hr => go_simp <;> rfl); (case hp => exact (Reps.one (show Kd.M (Kd.int .u32) _ _ _ ((a0) % 4294967296) [.int .u32 ((a0) % 4294967296)] from rfl) (Reps.one (show Kd.M (Kd.int .u32) _ _ _ ((a0 / 4294967296) % 4294967296) [.int .u32 ((a0 / 4294967296) % 4294967296)] from rfl) (Reps.none _ _)))); intro v442 w3 ho4 hb hg_ hnew_; clear hg_ hnew_; (first | rw [← Ny441.out] at ho4 | (simp only [Int.reduceToNat] at ho4; rw [← Ny441.out] at ho4)); have HO443 := mk0 (Rl ho4 (bZ HB.out)); replace HB := hbS HB hb; clear hb ho4; obtain ⟨Ao5, co5, eo5⟩ := Kd.R_slice HO443.out; subst eo5) | ((with_reducible refine gate_callee (f := 89) rfl ?_); refine goA 9 Try.func89 #[.slice Ao5 y441.length co5] ?_; (with_reducible refine (examboardref01_Norm.calls k _ _ y441 t444 _ (by exact (Kd.R_reads' HO443.out).2.2) (by exact (Kd.R_reads' HO443.out).2.1) A2.out).mono ?_); rintro e w6 ⟨v445, rfl, ho0, hb⟩; refine ⟨_, rfl, ?_⟩; have HO446 := mk0 (Rl (Rn ho0 (Rq HO443.out)) (bZ HB.out)); replace HO443 := mk0 (Re HO443.out (Rs ho0) hb); replace HB := hbS HB hb))
 go_ret
 exact ⟨_, by first | rfl | (simp [errW_none, errW_some] <;> rfl) | (simp [*, errW_none, errW_some] <;> rfl), Rm HO446.out tv, by repeat (first | exact HB.out | apply bN | apply b1 | apply bA)⟩
set_option maxHeartbeats 8000000 in
set_option maxRecDepth 100000 in
theorem examboardref03_zero.calls (k : Nat)  (r1 : Bool) (r2 : List Int) (r3 : List Int) (w : World) (h : examboardref03_zero.f k  = some (r1, r2, r3)) :
  Calls Try.prog 86 #[] w fun e w' => ∃ v1_ v2_ : Value, e = .returned (.agg #[.bool r1, v1_, v2_]) ∧ Kd.R (Kd.int .u32) 87 w' w.heap.size (fun k_ => some k_ ≠ (v2_ : Value).ownBlock) v1_ r2 ∧ Kd.R (Kd.int .u32) 87 w' w.heap.size (fun k_ => some k_ ≠ (v1_ : Value).ownBlock) v2_ r3 ∧ Below w.heap.size w w' := by
 have hu29 := Try.underlying29
 have HB := mk0 (Below.refl w.heap.size w)
 have H : ((examboardref01_Of.f k 1).bind fun t448 => (some (false, ([] : List Int), t448))) = some (r1, r2, r3) := h
 clear h
 obtain ⟨t448, A1, H⟩ := bindA H
 simp only [Option.some.injEq, Prod.mk.injEq] at H
 obtain ⟨rfl, rfl, rfl⟩ := H
 go_enter Try.func86, Try.ntmps86
 go_wp2_with (first | ((with_reducible refine gate_dst (N := 0) rfl ?_); refine box_event rfl (N := 0) rfl (cs := #[.bool false, .slice none 0 0, .slice none 0 0]) (t := 29) (by go_simp <;> rfl) ?_; intro gb447 hg w2 hbox hb; have BK447 := mk0 (hbox); have GE447 := geB hg HB; replace HB := hbS HB hb; clear hb hbox hg) | ((with_reducible refine gate_callee (f := 90) rfl ?_); refine goA 1 Try.func90 #[.int .u64 1] ?_; (with_reducible refine (examboardref01_Of.calls k 1 t448 _ A1.out).mono ?_); rintro e w3 ⟨v449, rfl, ho0, hb⟩; refine ⟨_, rfl, ?_⟩; have HO450 := mk0 (Rl ho0 (bZ HB.out)); replace BK447 := bkB BK447 hb; replace HB := hbS HB hb; obtain ⟨Ao4, co4, eo4⟩ := Kd.R_slice HO450.out; subst eo4; obtain ⟨hcz5_0, hcz5_1, hcz5_2, hfz5_0, hfz5_1, hfz5_2⟩ := cz3 BK447))
 refine bodyPost_ret (results_cell_row rfl _ _ gb447 29 #[.bool false, .slice none 0 0, .slice Ao4 t448.length co4] (0, 0) _ rfl (by refine blk_put (cs := #[.bool false, .slice none 0 0, .slice none 0 0]) ?_ 2 _ rfl; refine blk_put (cs := #[.bool false, .slice none 0 0, .slice none 0 0]) ?_ 1 _ rfl; refine blk_put (cs := #[.bool false, .slice none 0 0, .slice none 0 0]) ?_ 0 _ rfl; exact BK447.out) Try.underlying29 rfl (by kernel_rfl)) rfl ?_
 exact ⟨_, _, by first | rfl | (simp [errW_none, errW_some] <;> rfl) | (simp [*, errW_none, errW_some] <;> rfl), by first | exact Kd.R_nil _ _ _ _ _ | exact Kd.N_nil _ _ _ _ _ | exact Kd.V_nil _ _ _ _ _ | exact Kd.Q_nil _ _ _ _ _ | exact Kd.S_nil _ _ _ _ _, Rm (Rf (p := ⟨gb447, 2, none⟩) (Rf (p := ⟨gb447, 1, none⟩) (Rf (p := ⟨gb447, 0, none⟩) (Rt HO450.out BK447.out (by decide)) (fun _ hk => hk.2) (.bool false)) (fun _ hk => hk.2) (.slice none 0 0)) (fun _ hk => hk.2) (.slice Ao4 t448.length co4)) (fun _ hk => (by simp [Value.ownBlock])), by repeat (first | exact HB.out | apply bN | apply b1 | apply bA | refine bS ?_ GE447.out)⟩
end Go.Proofs.Ythamhjmhgcpdgaa.Q
end
