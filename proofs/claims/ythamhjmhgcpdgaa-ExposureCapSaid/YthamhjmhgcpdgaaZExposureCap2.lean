/- Lemmas and contracts for the law ExposureCap: words of the print, contracts of the functions that the law reaches, and what these compute, as far as the law needs them; packed by a program of this session. -/
import Derived.Test.YthamhjmhgcpdgaaZExposureCap1
section
namespace Go.Proofs.Ythamhjmhgcpdgaa.Q
open Go.RowKit Go.Proofs.YthamhjmhgcpdgaaW.PrintWords Go.Proofs.YthamhjmhgcpdgaaW.PrintLast Go.Proofs.YthamhjmhgcpdgaaW.PrintMore Go.Proofs.Ythamhjmhgcpdgaa.MyWords
attribute [local go_sem] max2_int min2_int max_two min_two
set_option linter.unusedVariables false
set_option linter.unusedSimpArgs false
def nat_DivMod.T17 : Bool × List (List Nat × List Nat) := (true, [([], []), ([], []), ([], []), ([1, 2], [1, 2]), ([0, 3], [0, 3]), ([4], [4]), ([], []), ([], []), ([], []), ([7, 8], [7, 8]), ([9], [9]), ([6, 10], [6, 10]), ([11], [11]), ([], []), ([], []), ([], []), ([14, 15], [14, 15]), ([16], [16]), ([13, 17], [13, 17]), ([18], [18]), ([], []), ([], []), ([21], [21]), ([20, 22], [20, 22]), ([23], [23]), ([], []), ([], []), ([26], [26]), ([25, 27], [25, 27]), ([28], [28]), ([5, 12, 19, 24, 29], [5, 12, 19, 24, 29]), ([30, 30, 0, 1, 2, 3, 4, 5, 6, 7, 8, 9, 10, 11, 12, 13, 14, 15, 16, 17, 18, 19, 20, 21, 22, 23, 24, 25, 26, 27, 28, 29, 30], [30])])
def nat_DivMod.B17 : List Nat := [0, 0, 0, 6, 15, 31, 0, 0, 0, 384, 896, 1984, 4032, 0, 0, 0, 49152, 114688, 253952, 516096, 0, 0, 2097152, 7340032, 15728640, 0, 0, 67108864, 234881024, 503316480, 1073741823, 2147483647]
theorem nat_DivMod.tab17 : rtab .any (opsOf Try.f80 17) = nat_DivMod.T17 := by kernel_rfl
theorem nat_DivMod.bits17 : waitsOk nat_DivMod.T17.2 nat_DivMod.B17 = true := by kernel_rfl
def nat_DivMod.T22 : Bool × List (List Nat × List Nat) := (true, [([], []), ([0], [0]), ([], []), ([], []), ([2, 3], [2, 3]), ([], []), ([4, 5, 1], [4, 5]), ([1, 6, 0, 1], [1]), ([6, 7, 0, 1, 2, 3, 4, 5, 6, 7], [6]), ([8, 0, 1, 2, 3, 4, 5, 6, 7, 8], [])])
def nat_DivMod.B22 : List Nat := [0, 1, 0, 0, 12, 0, 63, 127, 255, 511]
theorem nat_DivMod.tab22 : rtab .any (opsOf Try.f80 22) = nat_DivMod.T22 := by kernel_rfl
theorem nat_DivMod.bits22 : waitsOk nat_DivMod.T22.2 nat_DivMod.B22 = true := by kernel_rfl
set_option maxHeartbeats 8000000 in
set_option maxRecDepth 100000 in
theorem nat_DivMod.calls (k : Nat) (P0_ : Nat → Prop) (A0 : Option Addr) (c0 : Nat) (l0 : List Int) (P1_ : Nat → Prop) (A1 : Option Addr) (c1 : Nat) (l1 : List Int) (r1 : List Int) (r2 : List Int) (r3 : Bool) (w : World) (hs0 : Kd.V (Kd.int .u32) 87 w w.heap.size (fun k_ => P0_ k_) (.slice A0 l0.length c0) l0) (hs1 : Kd.V (Kd.int .u32) 87 w w.heap.size (fun k_ => P1_ k_) (.slice A1 l1.length c1) l1) (h : nat_DivMod.f k l0 l1 = some (r1, r2, r3)) :
  Calls Try.prog 80 #[.slice A0 l0.length c0, .slice A1 l1.length c1] w fun e w' => ∃ v0_ v1_ : Value, e = .returned (.tuple #[v0_, v1_, .bool r3]) ∧ Kd.V (Kd.int .u32) 87 w' w.heap.size (fun k_ => ((P0_ k_ ∨ P1_ k_) ∨ w.heap.size ≤ k_)) v0_ r1 ∧ Kd.V (Kd.int .u32) 87 w' w.heap.size (fun k_ => ((P0_ k_ ∨ P1_ k_) ∨ w.heap.size ≤ k_)) v1_ r2 ∧ Below w.heap.size w w' := by
 have HO0 := mk0 (show Kd.V (Kd.int .u32) 87 w w.heap.size (fun k_ => ((P0_ k_ ∨ P1_ k_) ∨ w.heap.size ≤ k_)) (.slice A0 l0.length c0) l0 from Vm hs0 (fun k_ hk => .inl (.inl hk)))
 have HO1 := mk0 (show Kd.V (Kd.int .u32) 87 w w.heap.size (fun k_ => ((P0_ k_ ∨ P1_ k_) ∨ w.heap.size ≤ k_)) (.slice A1 l1.length c1) l1 from Vm hs1 (fun k_ hk => .inl (.inr hk)))
 have HB := mk0 (Below.refl w.heap.size w)
 have H : ((nat_trim.f k l0).bind fun t176 => ((nat_trim.f k l1).bind fun t179 => (if (t179.length : Int) = 0 then (some (([] : List Int), ([] : List Int), false)) else ((nat_Cmp.f k t176 t179).bind fun t182 => (if t182 < 0 then ((nat_Norm.f k t176).bind fun t183 => (some (([] : List Int), t183, true))) else (if (t179.length : Int) = 1 then (if 0 < (t179.length : Int) then ((nat_divSmall.f k t176 (rd t179 0)).bind fun bt187 => ((nat_Of.f k (IntKind.u64.wrap (bt187.2))).bind fun t191 => (some (bt187.1, t191, true)))) else (none)) else (if 0 ≤ (wrap64 ((t179.length : Int) - 1)) then (if (wrap64 ((t179.length : Int) - 1)) < (t179.length : Int) then ((bits_LeadingZeros32.f (rd t179 (wrap64 ((t179.length : Int) - 1)))).bind fun t195 => ((nat_shiftUp.f k t176 (IntKind.u64.wrap (t195))).bind fun t196 => ((nat_shiftUp.f k t179 (IntKind.u64.wrap (t195))).bind fun t199 => (if 0 ≤ (t179.length : Int) then (if (t179.length : Int) ≤ (t199.length : Int) then (if 0 ≤ (wrap64 ((wrap64 ((t176.length : Int) - (t179.length : Int))) + 1)) then (if (wrap64 ((wrap64 ((t176.length : Int) - (t179.length : Int))) + 1) : Int).toNat ≤ 70368744177664 then (nat_DivMod.l0 k (t179.length : Int) (IntKind.u64.wrap (t195)) t196 (t199.take ((t179.length : Int) : Int).toNat) (List.replicate (wrap64 ((wrap64 ((t176.length : Int) - (t179.length : Int))) + 1) : Int).toNat 0) (wrap64 ((t176.length : Int) - (t179.length : Int)))) else (none)) else (none)) else (none)) else (none))))) else (none)) else (none)))))))) = some (r1, r2, r3) := h
 clear h
 obtain ⟨t176, A3, H⟩ := bindA H
 obtain ⟨t179, A4, H⟩ := bindA H
 by_cases c5 : (t179.length : Int) = 0
 ·rw [if_pos c5] at H
  have c5b0 : ((t179.length : Int) == 0) = true := beq_iff_eq.mpr c5
  have c5b1 : ((t179.length : Int) != 0) = false := bne_eq_false_iff_eq.mpr c5
  clear c5
  simp only [Option.some.injEq, Prod.mk.injEq] at H
  obtain ⟨rfl, rfl, rfl⟩ := H
  go_enter Try.func80, Try.ntmps80
  go_wp2_with (first | ((with_reducible refine gate_callee (f := 81) rfl ?_); refine goesL_ (some 19) rfl rfl Try.func81 (by kernel_rfl) rfl #[.slice A0 l0.length c0] rfl (by (try simp only [mA, mC, mN]); first | done | rfl | (simp only [lD, lT]; rfl)) ?_; (with_reducible refine (nat_trim.calls k (fun k_ => ((P0_ k_ ∨ P1_ k_) ∨ w.heap.size ≤ k_)) _ _ l0 t176 _ ?side1 A3.out).mono ?_); (case side1 => exact HO0.out); rintro e w6 ⟨v177, rfl, ho0, hb⟩; refine ⟨_, rfl, ?_⟩; replace HO0 := mk0 (Kd.V_below (by (with_reducible repeat apply Kd.V_drewN); exact HO0.out) hb); replace HO1 := mk0 (Kd.V_below (by (with_reducible repeat apply Kd.V_drewN); exact HO1.out) hb); have HO178 := mk0 (Vl (Vm (ok' := fun k_ => ((P0_ k_ ∨ P1_ k_) ∨ w.heap.size ≤ k_)) ho0 (fun k_ hk_ => Or.elim hk_ (fun hs_ => hs_) (fun hn_ => (.inr (Nat.le_trans (bZ (by repeat (first | exact HB.out | apply bN | apply b1 | apply bA))) hn_))))) (bZ (by repeat (first | exact HB.out | apply bN | apply b1 | apply bA)))); replace HB := (by first | exact hbS HB hb | exact hbD HB hb); (try clear hb); (try clear hb2); (try clear hk); (try clear hi); (try clear ho0)) | ((with_reducible refine gate_callee (f := 81) rfl ?_); refine goesL_ (some 21) rfl rfl Try.func81 (by kernel_rfl) rfl #[.slice A1 l1.length c1] rfl (by (try simp only [mA, mC, mN]); first | done | rfl | (simp only [lD, lT]; rfl)) ?_; (with_reducible refine (nat_trim.calls k (fun k_ => ((P0_ k_ ∨ P1_ k_) ∨ w.heap.size ≤ k_)) _ _ l1 t179 _ ?side1 A4.out).mono ?_); (case side1 => exact HO1.out); rintro e w7 ⟨v180, rfl, ho0, hb⟩; refine ⟨_, rfl, ?_⟩; replace HO0 := mk0 (Kd.V_below (by (with_reducible repeat apply Kd.V_drewN); exact HO0.out) hb); replace HO1 := mk0 (Kd.V_below (by (with_reducible repeat apply Kd.V_drewN); exact HO1.out) hb); replace HO178 := mk0 (Kd.V_below (by (with_reducible repeat apply Kd.V_drewN); exact HO178.out) hb); have HO181 := mk0 (Vl (Vm (ok' := fun k_ => ((P0_ k_ ∨ P1_ k_) ∨ w.heap.size ≤ k_)) ho0 (fun k_ hk_ => Or.elim hk_ (fun hs_ => hs_) (fun hn_ => (.inr (Nat.le_trans (bZ (by repeat (first | exact HB.out | apply bN | apply b1 | apply bA))) hn_))))) (bZ (by repeat (first | exact HB.out | apply bN | apply b1 | apply bA)))); replace HB := (by first | exact hbS HB hb | exact hbD HB hb); (try clear hb); (try clear hb2); (try clear hk); (try clear hi); (try clear ho0); obtain ⟨Ao8, co8, eo8⟩ := Kd.V_slice HO181.out; subst eo8))
  go_ret3
  exact ⟨_, _, by first | rfl | (simp [errW_none, errW_some] <;> rfl) | (simp [*, errW_none, errW_some] <;> rfl), (Kd.V_nil _ _ _ _ _), (Kd.V_nil _ _ _ _ _), by repeat (first | exact HB.out | apply bN | apply b1 | apply bA)⟩
 ·rw [if_neg c5] at H
  have c5b0 : ((t179.length : Int) == 0) = false := beq_eq_false_iff_ne.mpr c5
  have c5b1 : ((t179.length : Int) != 0) = true := bne_iff_ne.mpr c5
  have c5b2 : ¬ (t179 = []) := fun h_ => c5 (by rw [h_]; rfl)
  obtain ⟨t182, A9, H⟩ := bindA H
  by_cases c10 : t182 < 0
  ·rw [if_pos c10] at H
   have c10b0 : decide (t182 < 0) = true := decide_eq_true c10
   clear c10
   obtain ⟨t183, A11, H⟩ := bindA H
   simp only [Option.some.injEq, Prod.mk.injEq] at H
   obtain ⟨rfl, rfl, rfl⟩ := H
   go_enter Try.func80, Try.ntmps80
   go_wp2_with (first | ((with_reducible refine gate_callee (f := 81) rfl ?_); refine goesL_ (some 19) rfl rfl Try.func81 (by kernel_rfl) rfl #[.slice A0 l0.length c0] rfl (by (try simp only [mA, mC, mN]); first | done | rfl | (simp only [lD, lT]; rfl)) ?_; (with_reducible refine (nat_trim.calls k (fun k_ => ((P0_ k_ ∨ P1_ k_) ∨ w.heap.size ≤ k_)) _ _ l0 t176 _ ?side1 A3.out).mono ?_); (case side1 => exact HO0.out); rintro e w12 ⟨v177, rfl, ho0, hb⟩; refine ⟨_, rfl, ?_⟩; replace HO0 := mk0 (Kd.V_below (by (with_reducible repeat apply Kd.V_drewN); exact HO0.out) hb); replace HO1 := mk0 (Kd.V_below (by (with_reducible repeat apply Kd.V_drewN); exact HO1.out) hb); have HO178 := mk0 (Vl (Vm (ok' := fun k_ => ((P0_ k_ ∨ P1_ k_) ∨ w.heap.size ≤ k_)) ho0 (fun k_ hk_ => Or.elim hk_ (fun hs_ => hs_) (fun hn_ => (.inr (Nat.le_trans (bZ (by repeat (first | exact HB.out | apply bN | apply b1 | apply bA))) hn_))))) (bZ (by repeat (first | exact HB.out | apply bN | apply b1 | apply bA)))); replace HB := (by first | exact hbS HB hb | exact hbD HB hb); (try clear hb); (try clear hb2); (try clear hk); (try clear hi); (try clear ho0)) | ((with_reducible refine gate_callee (f := 81) rfl ?_); refine goesL_ (some 21) rfl rfl Try.func81 (by kernel_rfl) rfl #[.slice A1 l1.length c1] rfl (by (try simp only [mA, mC, mN]); first | done | rfl | (simp only [lD, lT]; rfl)) ?_; (with_reducible refine (nat_trim.calls k (fun k_ => ((P0_ k_ ∨ P1_ k_) ∨ w.heap.size ≤ k_)) _ _ l1 t179 _ ?side1 A4.out).mono ?_); (case side1 => exact HO1.out); rintro e w13 ⟨v180, rfl, ho0, hb⟩; refine ⟨_, rfl, ?_⟩; replace HO0 := mk0 (Kd.V_below (by (with_reducible repeat apply Kd.V_drewN); exact HO0.out) hb); replace HO1 := mk0 (Kd.V_below (by (with_reducible repeat apply Kd.V_drewN); exact HO1.out) hb); replace HO178 := mk0 (Kd.V_below (by (with_reducible repeat apply Kd.V_drewN); exact HO178.out) hb); have HO181 := mk0 (Vl (Vm (ok' := fun k_ => ((P0_ k_ ∨ P1_ k_) ∨ w.heap.size ≤ k_)) ho0 (fun k_ hk_ => Or.elim hk_ (fun hs_ => hs_) (fun hn_ => (.inr (Nat.le_trans (bZ (by repeat (first | exact HB.out | apply bN | apply b1 | apply bA))) hn_))))) (bZ (by repeat (first | exact HB.out | apply bN | apply b1 | apply bA)))); replace HB := (by first | exact hbS HB hb | exact hbD HB hb); (try clear hb); (try clear hb2); (try clear hk); (try clear hi); (try clear ho0); obtain ⟨Ao14, co14, eo14⟩ := Kd.V_slice HO181.out; subst eo14; obtain ⟨Ao15, co15, eo15⟩ := Kd.V_slice HO178.out; subst eo15) | ((with_reducible refine gate_callee (f := 77) rfl ?_); refine goesL_ (some 29) rfl rfl Try.func77 (by kernel_rfl) rfl #[.slice Ao15 t176.length co15, .slice Ao14 t179.length co14] rfl (by (try simp only [mA, mC, mN]); first | done | rfl | (simp only [lD, lT]; rfl)) ?_; (with_reducible refine (nat_Cmp.calls k _ _ t176 _ _ t179 t182 _ ?side1 ?side2 ?side3 ?side4 A9.out).mono ?_); (case side1 => repeat (first | exact (Kd.V_reads' HO178.out).2.2 | (with_reducible refine Kd.C_alloc ?_ _) | (with_reducible refine Kd.C_drewN ?_ _) | (with_reducible refine Kd.C_drew ?_))); (case side2 => exact (Kd.V_reads' HO178.out).2.1); (case side3 => repeat (first | exact (Kd.V_reads' HO181.out).2.2 | (with_reducible refine Kd.C_alloc ?_ _) | (with_reducible refine Kd.C_drewN ?_ _) | (with_reducible refine Kd.C_drew ?_))); (case side4 => exact (Kd.V_reads' HO181.out).2.1); rintro e w16 ⟨rfl, hb⟩; refine ⟨_, rfl, ?_⟩; replace HO0 := mk0 (Kd.V_below (by (with_reducible repeat apply Kd.V_drewN); exact HO0.out) hb); replace HO1 := mk0 (Kd.V_below (by (with_reducible repeat apply Kd.V_drewN); exact HO1.out) hb); replace HO178 := mk0 (Kd.V_below (by (with_reducible repeat apply Kd.V_drewN); exact HO178.out) hb); replace HO181 := mk0 (Kd.V_below (by (with_reducible repeat apply Kd.V_drewN); exact HO181.out) hb); replace HB := (by first | exact hbS HB hb | exact hbD HB hb); (try clear hb); (try clear hb2); (try clear hk); (try clear hi)) | ((with_reducible refine gate_callee (f := 106) rfl ?_); refine goesL_ (some 32) rfl rfl Try.func106 (by kernel_rfl) rfl #[.slice Ao15 t176.length co15] rfl (by (try simp only [mA, mC, mN]); first | done | rfl | (simp only [lD, lT]; rfl)) ?_; (with_reducible refine (nat_Norm.calls k _ _ t176 t183 _ ?side1 ?side2 A11.out).mono ?_); (case side1 => repeat (first | exact (Kd.V_reads' HO178.out).2.2 | (with_reducible refine Kd.C_alloc ?_ _) | (with_reducible refine Kd.C_drewN ?_ _) | (with_reducible refine Kd.C_drew ?_))); (case side2 => exact (Kd.V_reads' HO178.out).2.1); rintro e w17 ⟨v184, rfl, ho0, hb⟩; refine ⟨_, rfl, ?_⟩; replace HO0 := mk0 (Kd.V_elder' (by (with_reducible repeat apply Kd.V_drewN); exact HO0.out) (Rs ho0) hb); replace HO1 := mk0 (Kd.V_elder' (by (with_reducible repeat apply Kd.V_drewN); exact HO1.out) (Rs ho0) hb); replace HO178 := mk0 (Kd.V_elder' (by (with_reducible repeat apply Kd.V_drewN); exact HO178.out) (Rs ho0) hb); replace HO181 := mk0 (Kd.V_elder' (by (with_reducible repeat apply Kd.V_drewN); exact HO181.out) (Rs ho0) hb); have HO185 := mk0 (Rl (Kd.R_newM (M := fun k_ => (w.heap.size ≤ k_)) ho0 (bZ (by repeat (first | exact HB.out | apply bN | apply b1 | apply bA))) (fun k_ h_ => h_)) (bZ (by repeat (first | exact HB.out | apply bN | apply b1 | apply bA)))); replace HB := (by first | exact hbS HB hb | exact hbD HB hb); (try clear hb); (try clear hb2); (try clear hk); (try clear hi); (try clear ho0)))
   go_ret3
   exact ⟨_, _, by first | rfl | (simp [errW_none, errW_some] <;> rfl) | (simp [*, errW_none, errW_some] <;> rfl), (Kd.V_nil _ _ _ _ _), Vm (Kd.R_V (by (with_reducible repeat apply Kd.R_drewN); exact Rm HO185.out (fun _ hk => hk.1))) (fun k_ hk => by first | exact ⟨(.inr (hk.1)), hk.2⟩ | exact (.inr (hk))), by repeat (first | exact HB.out | apply bN | apply b1 | apply bA)⟩
  ·rw [if_neg c10] at H
   have c10b0 : decide (t182 < 0) = false := decide_eq_false c10
   clear c10
   by_cases c18 : (t179.length : Int) = 1
   ·rw [if_pos c18] at H
    have c18b0 : ((t179.length : Int) == 1) = true := beq_iff_eq.mpr c18
    have c18b1 : ((t179.length : Int) != 1) = false := bne_eq_false_iff_eq.mpr c18
    clear c18
    by_cases c19 : 0 < (t179.length : Int)
    ·rw [if_pos c19] at H
     have c19b0 : decide (0 < (t179.length : Int)) = true := decide_eq_true c19
     have c19b1 : decide (0 < t179.length) = true := decide_eq_true (by omega)
     clear c19
     obtain ⟨⟨t187, t190⟩, A20, H⟩ := bindA H
     obtain ⟨t191, A21, H⟩ := bindA H
     simp only [Option.some.injEq, Prod.mk.injEq] at H
     obtain ⟨rfl, rfl, rfl⟩ := H
     go_enter Try.func80, Try.ntmps80
     go_wp2_with (first | ((with_reducible refine gate_callee (f := 81) rfl ?_); refine goesL_ (some 19) rfl rfl Try.func81 (by kernel_rfl) rfl #[.slice A0 l0.length c0] rfl (by (try simp only [mA, mC, mN]); first | done | rfl | (simp only [lD, lT]; rfl)) ?_; (with_reducible refine (nat_trim.calls k (fun k_ => ((P0_ k_ ∨ P1_ k_) ∨ w.heap.size ≤ k_)) _ _ l0 t176 _ ?side1 A3.out).mono ?_); (case side1 => exact HO0.out); rintro e w22 ⟨v177, rfl, ho0, hb⟩; refine ⟨_, rfl, ?_⟩; replace HO0 := mk0 (Kd.V_below (by (with_reducible repeat apply Kd.V_drewN); exact HO0.out) hb); replace HO1 := mk0 (Kd.V_below (by (with_reducible repeat apply Kd.V_drewN); exact HO1.out) hb); have HO178 := mk0 (Vl (Vm (ok' := fun k_ => ((P0_ k_ ∨ P1_ k_) ∨ w.heap.size ≤ k_)) ho0 (fun k_ hk_ => Or.elim hk_ (fun hs_ => hs_) (fun hn_ => (.inr (Nat.le_trans (bZ (by repeat (first | exact HB.out | apply bN | apply b1 | apply bA))) hn_))))) (bZ (by repeat (first | exact HB.out | apply bN | apply b1 | apply bA)))); replace HB := (by first | exact hbS HB hb | exact hbD HB hb); (try clear hb); (try clear hb2); (try clear hk); (try clear hi); (try clear ho0)) | ((with_reducible refine gate_callee (f := 81) rfl ?_); refine goesL_ (some 21) rfl rfl Try.func81 (by kernel_rfl) rfl #[.slice A1 l1.length c1] rfl (by (try simp only [mA, mC, mN]); first | done | rfl | (simp only [lD, lT]; rfl)) ?_; (with_reducible refine (nat_trim.calls k (fun k_ => ((P0_ k_ ∨ P1_ k_) ∨ w.heap.size ≤ k_)) _ _ l1 t179 _ ?side1 A4.out).mono ?_); (case side1 => exact HO1.out); rintro e w23 ⟨v180, rfl, ho0, hb⟩; refine ⟨_, rfl, ?_⟩; replace HO0 := mk0 (Kd.V_below (by (with_reducible repeat apply Kd.V_drewN); exact HO0.out) hb); replace HO1 := mk0 (Kd.V_below (by (with_reducible repeat apply Kd.V_drewN); exact HO1.out) hb); replace HO178 := mk0 (Kd.V_below (by (with_reducible repeat apply Kd.V_drewN); exact HO178.out) hb); have HO181 := mk0 (Vl (Vm (ok' := fun k_ => ((P0_ k_ ∨ P1_ k_) ∨ w.heap.size ≤ k_)) ho0 (fun k_ hk_ => Or.elim hk_ (fun hs_ => hs_) (fun hn_ => (.inr (Nat.le_trans (bZ (by repeat (first | exact HB.out | apply bN | apply b1 | apply bA))) hn_))))) (bZ (by repeat (first | exact HB.out | apply bN | apply b1 | apply bA)))); replace HB := (by first | exact hbS HB hb | exact hbD HB hb); (try clear hb); (try clear hb2); (try clear hk); (try clear hi); (try clear ho0); obtain ⟨Ao24, co24, eo24⟩ := Kd.V_slice HO181.out; subst eo24; obtain ⟨Ao25, co25, eo25⟩ := Kd.V_slice HO178.out; subst eo25) | ((with_reducible refine gate_callee (f := 77) rfl ?_); refine goesL_ (some 29) rfl rfl Try.func77 (by kernel_rfl) rfl #[.slice Ao25 t176.length co25, .slice Ao24 t179.length co24] rfl (by (try simp only [mA, mC, mN]); first | done | rfl | (simp only [lD, lT]; rfl)) ?_; (with_reducible refine (nat_Cmp.calls k _ _ t176 _ _ t179 t182 _ ?side1 ?side2 ?side3 ?side4 A9.out).mono ?_); (case side1 => repeat (first | exact (Kd.V_reads' HO178.out).2.2 | (with_reducible refine Kd.C_alloc ?_ _) | (with_reducible refine Kd.C_drewN ?_ _) | (with_reducible refine Kd.C_drew ?_))); (case side2 => exact (Kd.V_reads' HO178.out).2.1); (case side3 => repeat (first | exact (Kd.V_reads' HO181.out).2.2 | (with_reducible refine Kd.C_alloc ?_ _) | (with_reducible refine Kd.C_drewN ?_ _) | (with_reducible refine Kd.C_drew ?_))); (case side4 => exact (Kd.V_reads' HO181.out).2.1); rintro e w26 ⟨rfl, hb⟩; refine ⟨_, rfl, ?_⟩; replace HO0 := mk0 (Kd.V_below (by (with_reducible repeat apply Kd.V_drewN); exact HO0.out) hb); replace HO1 := mk0 (Kd.V_below (by (with_reducible repeat apply Kd.V_drewN); exact HO1.out) hb); replace HO178 := mk0 (Kd.V_below (by (with_reducible repeat apply Kd.V_drewN); exact HO178.out) hb); replace HO181 := mk0 (Kd.V_below (by (with_reducible repeat apply Kd.V_drewN); exact HO181.out) hb); replace HB := (by first | exact hbS HB hb | exact hbD HB hb); (try clear hb); (try clear hb2); (try clear hk); (try clear hi); have p186 : 0 ≤ (0 : Int) := (by omega); have q186 : 0 < (t179.length : Int) := of_decide_eq_true (by first | (with_reducible assumption) | assumption); obtain ⟨ad186, e186, hx186_0⟩ := Kd.at_int (Kd.V_reads' HO181.out).2.2 0 p186 q186; cases e186; have qi186 : (0 < t179.length) = True := eq_true (by omega); (try rw [show ((0 : Int)).toNat = 0 from rfl] at hx186_0); (try rw [Addr.add_zero'] at hx186_0); replace p186 := eq_true p186; replace q186 := eq_true q186) | ((with_reducible refine gate_callee (f := 107) rfl ?_); refine goesL_ (some 42) rfl rfl Try.func107 (by kernel_rfl) rfl #[.slice Ao25 t176.length co25, .int .u32 (rd t179 0)] rfl (by (try simp only [mA, mC, mN]); first | done | rfl | (simp only [lD, lT]; rfl)) ?_; (with_reducible refine (nat_divSmall.calls k _ _ t176 (rd t179 0) t187 t190 _ ?side1 ?side2 A20.out).mono ?_); (case side1 => repeat (first | exact (Kd.V_reads' HO178.out).2.2 | (with_reducible refine Kd.C_alloc ?_ _) | (with_reducible refine Kd.C_drewN ?_ _) | (with_reducible refine Kd.C_drew ?_))); (case side2 => exact (Kd.V_reads' HO178.out).2.1); rintro e w27 ⟨v188, rfl, ho0, hb⟩; refine ⟨_, rfl, ?_⟩; replace HO0 := mk0 (Kd.V_below (by (with_reducible repeat apply Kd.V_drewN); exact HO0.out) hb); replace HO1 := mk0 (Kd.V_below (by (with_reducible repeat apply Kd.V_drewN); exact HO1.out) hb); replace HO178 := mk0 (Kd.V_below (by (with_reducible repeat apply Kd.V_drewN); exact HO178.out) hb); replace HO181 := mk0 (Kd.V_below (by (with_reducible repeat apply Kd.V_drewN); exact HO181.out) hb); have HO189 := mk0 (Vl (Vm (ok' := fun k_ => ((P0_ k_ ∨ P1_ k_) ∨ w.heap.size ≤ k_)) ho0 (fun k_ hk_ => (.inr (Nat.le_trans (bZ (by repeat (first | exact HB.out | apply bN | apply b1 | apply bA))) hk_)))) (bZ (by repeat (first | exact HB.out | apply bN | apply b1 | apply bA)))); replace HB := (by first | exact hbS HB hb | exact hbD HB hb); (try clear hb); (try clear hb2); (try clear hk); (try clear hi); (try clear ho0)) | ((with_reducible refine gate_callee (f := 66) rfl ?_); refine goesL_ (some 48) rfl rfl Try.func66 (by kernel_rfl) rfl #[.int .u64 (IntKind.u64.wrap (t190))] rfl (by (try simp only [mA, mC, mN]); first | done | rfl | (simp only [lD, lT]; rfl)) ?_; (with_reducible refine (nat_Of.calls k (IntKind.u64.wrap (t190)) t191 _ A21.out).mono ?_); rintro e w28 ⟨v192, rfl, ho0, hb⟩; refine ⟨_, rfl, ?_⟩; replace HO0 := mk0 (Kd.V_below (by (with_reducible repeat apply Kd.V_drewN); exact HO0.out) hb); replace HO1 := mk0 (Kd.V_below (by (with_reducible repeat apply Kd.V_drewN); exact HO1.out) hb); replace HO178 := mk0 (Kd.V_below (by (with_reducible repeat apply Kd.V_drewN); exact HO178.out) hb); replace HO181 := mk0 (Kd.V_below (by (with_reducible repeat apply Kd.V_drewN); exact HO181.out) hb); replace HO189 := mk0 (Kd.V_below (by (with_reducible repeat apply Kd.V_drewN); exact HO189.out) hb); have HO193 := mk0 (Vl (Vm (ok' := fun k_ => ((P0_ k_ ∨ P1_ k_) ∨ w.heap.size ≤ k_)) ho0 (fun k_ hk_ => (.inr (Nat.le_trans (bZ (by repeat (first | exact HB.out | apply bN | apply b1 | apply bA))) hk_)))) (bZ (by repeat (first | exact HB.out | apply bN | apply b1 | apply bA)))); replace HB := (by first | exact hbS HB hb | exact hbD HB hb); (try clear hb); (try clear hb2); (try clear hk); (try clear hi); (try clear ho0)))
     go_ret3
     exact ⟨_, _, by first | rfl | (simp [errW_none, errW_some] <;> rfl) | (simp [*, errW_none, errW_some] <;> rfl), by (with_reducible repeat apply Kd.V_drewN); exact HO189.out, by (with_reducible repeat apply Kd.V_drewN); exact HO193.out, by repeat (first | exact HB.out | apply bN | apply b1 | apply bA)⟩
    ·rw [if_neg c19] at H
     exact absurd H (by simp)
   ·rw [if_neg c18] at H
    have c18b0 : ((t179.length : Int) == 1) = false := beq_eq_false_iff_ne.mpr c18
    have c18b1 : ((t179.length : Int) != 1) = true := bne_iff_ne.mpr c18
    obtain ⟨ji29, hji29⟩ : ∃ j_ : Int, (wrap64 ((t179.length : Int) - 1)) = j_ := ⟨_, rfl⟩
    replace H : (if 0 ≤ (ji29) then (if (ji29) < (t179.length : Int) then ((bits_LeadingZeros32.f (rd t179 (ji29))).bind fun t195 => ((nat_shiftUp.f k t176 (IntKind.u64.wrap (t195))).bind fun t196 => ((nat_shiftUp.f k t179 (IntKind.u64.wrap (t195))).bind fun t199 => (if 0 ≤ (t179.length : Int) then (if (t179.length : Int) ≤ (t199.length : Int) then (if 0 ≤ (wrap64 ((wrap64 ((t176.length : Int) - (t179.length : Int))) + 1)) then (if (wrap64 ((wrap64 ((t176.length : Int) - (t179.length : Int))) + 1) : Int).toNat ≤ 70368744177664 then (nat_DivMod.l0 k (t179.length : Int) (IntKind.u64.wrap (t195)) t196 (t199.take ((t179.length : Int) : Int).toNat) (List.replicate (wrap64 ((wrap64 ((t176.length : Int) - (t179.length : Int))) + 1) : Int).toNat 0) (wrap64 ((t176.length : Int) - (t179.length : Int)))) else (none)) else (none)) else (none)) else (none))))) else (none)) else (none)) = some (r1, r2, r3) := by first | (rw [hji29] at H; exact H) | (simp only [hji29] at H ⊢; exact H)
    (try rw [hji29] at A3)
    (try rw [hji29] at A4)
    (try rw [hji29] at A9)
    have hji29w : (IntKind.i64.wrap ((t179.length : Int) - 1)) = ji29 := (i64_w _).trans hji29
    by_cases c30 : 0 ≤ (ji29)
    ·rw [if_pos c30] at H
     have c30b0 : decide (0 ≤ (ji29)) = true := decide_eq_true c30
     clear c30
     by_cases c31 : (ji29) < (t179.length : Int)
     ·rw [if_pos c31] at H
      have c31b0 : decide ((ji29) < (t179.length : Int)) = true := decide_eq_true c31
      clear c31
      obtain ⟨t195, A32, H⟩ := bindA H
      obtain ⟨t196, A33, H⟩ := bindA H
      obtain ⟨t199, A34, H⟩ := bindA H
      by_cases c35 : 0 ≤ (t179.length : Int)
      ·rw [if_pos c35] at H
       have c35b0 := eq_true c35
       have c35b1 : decide (0 ≤ (t179.length : Int)) = true := decide_eq_true c35
       clear c35
       by_cases c36 : (t179.length : Int) ≤ (t199.length : Int)
       ·rw [if_pos c36] at H
        have c36b0 := eq_true c36
        have c36b1 : decide ((t179.length : Int) ≤ (t199.length : Int)) = true := decide_eq_true c36
        clear c36
        obtain ⟨y202, hy202⟩ : ∃ y_ : List Int, y_ = (t199.take ((t179.length : Int) : Int).toNat) := ⟨_, rfl⟩
        replace H : (if 0 ≤ (wrap64 ((wrap64 ((t176.length : Int) - (t179.length : Int))) + 1)) then (if (wrap64 ((wrap64 ((t176.length : Int) - (t179.length : Int))) + 1) : Int).toNat ≤ 70368744177664 then (nat_DivMod.l0 k (t179.length : Int) (IntKind.u64.wrap (t195)) t196 y202 (List.replicate (wrap64 ((wrap64 ((t176.length : Int) - (t179.length : Int))) + 1) : Int).toNat 0) (wrap64 ((t176.length : Int) - (t179.length : Int)))) else (none)) else (none)) = some (r1, r2, r3) := by first | (rw [hy202]; with_reducible exact H) | (have H2_ := (Option.bind_some _ _).symm.trans H; rw [hy202]; with_reducible exact H2_) | (have H2_ := (Option.bind_some _ _).symm.trans H; with_reducible exact H2_) | with_reducible exact H | (rw [hy202]; exact H) | exact H
        have Ny202 := mk0 hy202
        clear hy202
        obtain ⟨ji37, hji37⟩ : ∃ j_ : Int, (wrap64 ((wrap64 ((t176.length : Int) - (t179.length : Int))) + 1)) = j_ := ⟨_, rfl⟩
        replace H : (if 0 ≤ (ji37) then (if (ji37 : Int).toNat ≤ 70368744177664 then (nat_DivMod.l0 k (t179.length : Int) (IntKind.u64.wrap (t195)) t196 y202 (List.replicate (ji37 : Int).toNat 0) (wrap64 ((t176.length : Int) - (t179.length : Int)))) else (none)) else (none)) = some (r1, r2, r3) := by first | (rw [hji37] at H; exact H) | (simp only [hji37] at H ⊢; exact H)
        (try rw [hji37] at A3)
        (try rw [hji37] at A4)
        (try rw [hji37] at A9)
        (try rw [hji37] at A32)
        (try rw [hji37] at A33)
        (try rw [hji37] at A34)
        have hji37w : (IntKind.i64.wrap ((wrap64 ((t176.length : Int) - (t179.length : Int))) + 1)) = ji37 := (i64_w _).trans hji37
        by_cases c38 : 0 ≤ (ji37)
        ·rw [if_pos c38] at H
         have c38b0 := eq_true c38
         have c38b1 : decide (0 ≤ (ji37)) = true := decide_eq_true c38
         clear c38
         by_cases c39 : (ji37 : Int).toNat ≤ 70368744177664
         ·rw [if_pos c39] at H
          have c39b0 := eq_true c39
          have c39b1 : decide ((ji37 : Int).toNat ≤ 70368744177664) = true := decide_eq_true c39
          clear c39
          obtain ⟨y205, hy205⟩ : ∃ y_ : List Int, y_ = (List.replicate (ji37 : Int).toNat 0) := ⟨_, rfl⟩
          replace H : (nat_DivMod.l0 k (t179.length : Int) (IntKind.u64.wrap (t195)) t196 y202 y205 (wrap64 ((t176.length : Int) - (t179.length : Int)))) = some (r1, r2, r3) := by first | (rw [hy205]; with_reducible exact H) | (have H2_ := (Option.bind_some _ _).symm.trans H; rw [hy205]; with_reducible exact H2_) | (have H2_ := (Option.bind_some _ _).symm.trans H; with_reducible exact H2_) | with_reducible exact H | (rw [hy205]; exact H) | exact H
          have Ny205 := mk0 hy205
          clear hy205
          have H' := mk0 H
          clear H
          go_enter Try.func80, Try.ntmps80
          go_wp2_with (first | ((with_reducible refine gate_callee (f := 81) rfl ?_); refine goesL_ (some 19) rfl rfl Try.func81 (by kernel_rfl) rfl #[.slice A0 l0.length c0] rfl (by (try simp only [mA, mC, mN]); first | done | rfl | (simp only [lD, lT]; rfl)) ?_; (with_reducible refine (nat_trim.calls k (fun k_ => ((P0_ k_ ∨ P1_ k_) ∨ w.heap.size ≤ k_)) _ _ l0 t176 _ ?side1 A3.out).mono ?_); (case side1 => exact HO0.out); rintro e w40 ⟨v177, rfl, ho0, hb⟩; refine ⟨_, rfl, ?_⟩; replace HO0 := mk0 (Kd.V_below (by (with_reducible repeat apply Kd.V_drewN); exact HO0.out) hb); replace HO1 := mk0 (Kd.V_below (by (with_reducible repeat apply Kd.V_drewN); exact HO1.out) hb); have HO178 := mk0 (Vl (Vm (ok' := fun k_ => ((P0_ k_ ∨ P1_ k_) ∨ w.heap.size ≤ k_)) ho0 (fun k_ hk_ => Or.elim hk_ (fun hs_ => hs_) (fun hn_ => (.inr (Nat.le_trans (bZ (by repeat (first | exact HB.out | apply bN | apply b1 | apply bA))) hn_))))) (bZ (by repeat (first | exact HB.out | apply bN | apply b1 | apply bA)))); replace HB := (by first | exact hbS HB hb | exact hbD HB hb); (try clear hb); (try clear hb2); (try clear hk); (try clear hi); (try clear ho0)) | ((with_reducible refine gate_callee (f := 81) rfl ?_); refine goesL_ (some 21) rfl rfl Try.func81 (by kernel_rfl) rfl #[.slice A1 l1.length c1] rfl (by (try simp only [mA, mC, mN]); first | done | rfl | (simp only [lD, lT]; rfl)) ?_; (with_reducible refine (nat_trim.calls k (fun k_ => ((P0_ k_ ∨ P1_ k_) ∨ w.heap.size ≤ k_)) _ _ l1 t179 _ ?side1 A4.out).mono ?_); (case side1 => exact HO1.out); rintro e w41 ⟨v180, rfl, ho0, hb⟩; refine ⟨_, rfl, ?_⟩; replace HO0 := mk0 (Kd.V_below (by (with_reducible repeat apply Kd.V_drewN); exact HO0.out) hb); replace HO1 := mk0 (Kd.V_below (by (with_reducible repeat apply Kd.V_drewN); exact HO1.out) hb); replace HO178 := mk0 (Kd.V_below (by (with_reducible repeat apply Kd.V_drewN); exact HO178.out) hb); have HO181 := mk0 (Vl (Vm (ok' := fun k_ => ((P0_ k_ ∨ P1_ k_) ∨ w.heap.size ≤ k_)) ho0 (fun k_ hk_ => Or.elim hk_ (fun hs_ => hs_) (fun hn_ => (.inr (Nat.le_trans (bZ (by repeat (first | exact HB.out | apply bN | apply b1 | apply bA))) hn_))))) (bZ (by repeat (first | exact HB.out | apply bN | apply b1 | apply bA)))); replace HB := (by first | exact hbS HB hb | exact hbD HB hb); (try clear hb); (try clear hb2); (try clear hk); (try clear hi); (try clear ho0); obtain ⟨Ao42, co42, eo42⟩ := Kd.V_slice HO181.out; subst eo42; obtain ⟨Ao43, co43, eo43⟩ := Kd.V_slice HO178.out; subst eo43) | ((with_reducible refine gate_callee (f := 77) rfl ?_); refine goesL_ (some 29) rfl rfl Try.func77 (by kernel_rfl) rfl #[.slice Ao43 t176.length co43, .slice Ao42 t179.length co42] rfl (by (try simp only [mA, mC, mN]); first | done | rfl | (simp only [lD, lT]; rfl)) ?_; (with_reducible refine (nat_Cmp.calls k _ _ t176 _ _ t179 t182 _ ?side1 ?side2 ?side3 ?side4 A9.out).mono ?_); (case side1 => repeat (first | exact (Kd.V_reads' HO178.out).2.2 | (with_reducible refine Kd.C_alloc ?_ _) | (with_reducible refine Kd.C_drewN ?_ _) | (with_reducible refine Kd.C_drew ?_))); (case side2 => exact (Kd.V_reads' HO178.out).2.1); (case side3 => repeat (first | exact (Kd.V_reads' HO181.out).2.2 | (with_reducible refine Kd.C_alloc ?_ _) | (with_reducible refine Kd.C_drewN ?_ _) | (with_reducible refine Kd.C_drew ?_))); (case side4 => exact (Kd.V_reads' HO181.out).2.1); rintro e w44 ⟨rfl, hb⟩; refine ⟨_, rfl, ?_⟩; replace HO0 := mk0 (Kd.V_below (by (with_reducible repeat apply Kd.V_drewN); exact HO0.out) hb); replace HO1 := mk0 (Kd.V_below (by (with_reducible repeat apply Kd.V_drewN); exact HO1.out) hb); replace HO178 := mk0 (Kd.V_below (by (with_reducible repeat apply Kd.V_drewN); exact HO178.out) hb); replace HO181 := mk0 (Kd.V_below (by (with_reducible repeat apply Kd.V_drewN); exact HO181.out) hb); replace HB := (by first | exact hbS HB hb | exact hbD HB hb); (try clear hb); (try clear hb2); (try clear hk); (try clear hi); have p194 : 0 ≤ ((ji29) : Int) := of_decide_eq_true (by first | (with_reducible assumption) | assumption); have q194 : (ji29) < (t179.length : Int) := of_decide_eq_true (by first | (with_reducible assumption) | assumption); obtain ⟨ad194, e194, hx194_0⟩ := Kd.at_int (Kd.V_reads' HO181.out).2.2 (ji29) p194 q194; cases e194; replace p194 := eq_true p194; replace q194 := eq_true q194) | ((with_reducible refine gate_callee (f := 108) rfl ?_); refine goesL_ (some 56) rfl rfl Try.func108 (by kernel_rfl) rfl #[.int .u32 (rd t179 (ji29))] rfl (by (try simp only [mA, mC, mN]); first | done | (simp only [hji29]; rfl) | rfl | (simp only [lD, lT]; rfl)) ?_; (with_reducible refine (bits_LeadingZeros32.calls (rd t179 (ji29)) t195 _ A32.out).mono ?_); rintro e w' ⟨rfl, ⟨nd, rfl⟩⟩; refine ⟨_, rfl, ?_⟩) | ((with_reducible refine gate_callee (f := 109) rfl ?_); refine goesL_ (some 60) rfl rfl Try.func109 (by kernel_rfl) rfl #[.slice Ao43 t176.length co43, .int .u64 (IntKind.u64.wrap (t195))] rfl (by (try simp only [mA, mC, mN]); first | done | rfl | (simp only [lD, lT]; rfl)) ?_; (with_reducible refine (nat_shiftUp.calls k _ _ t176 (IntKind.u64.wrap (t195)) t196 _ ?side1 ?side2 A33.out).mono ?_); (case side1 => repeat (first | exact (Kd.V_reads' HO178.out).2.2 | (with_reducible refine Kd.C_alloc ?_ _) | (with_reducible refine Kd.C_drewN ?_ _) | (with_reducible refine Kd.C_drew ?_))); (case side2 => exact (Kd.V_reads' HO178.out).2.1); rintro e w45 ⟨v197, rfl, ho0, hb⟩; refine ⟨_, rfl, ?_⟩; replace HO0 := mk0 (Kd.V_elder' (by (with_reducible repeat apply Kd.V_drewN); exact HO0.out) (Rs ho0) hb); replace HO1 := mk0 (Kd.V_elder' (by (with_reducible repeat apply Kd.V_drewN); exact HO1.out) (Rs ho0) hb); replace HO178 := mk0 (Kd.V_elder' (by (with_reducible repeat apply Kd.V_drewN); exact HO178.out) (Rs ho0) hb); replace HO181 := mk0 (Kd.V_elder' (by (with_reducible repeat apply Kd.V_drewN); exact HO181.out) (Rs ho0) hb); have HO198 := mk0 (Rl (Kd.R_newM (M := fun k_ => (w.heap.size ≤ k_)) ho0 (bZ (by repeat (first | exact HB.out | apply bN | apply b1 | apply bA))) (fun k_ h_ => h_)) (bZ (by repeat (first | exact HB.out | apply bN | apply b1 | apply bA)))); replace HB := (by first | exact hbS HB hb | exact hbD HB hb); (try clear hb); (try clear hb2); (try clear hk); (try clear hi); (try clear ho0)) | ((with_reducible refine gate_callee (f := 109) rfl ?_); refine goesL_ (some 63) rfl rfl Try.func109 (by kernel_rfl) rfl #[.slice (some ad194) t179.length co42, .int .u64 (IntKind.u64.wrap (t195))] rfl (by (try simp only [mA, mC, mN]); first | done | rfl | (simp only [lD, lT]; rfl)) ?_; (with_reducible refine (nat_shiftUp.calls k _ _ t179 (IntKind.u64.wrap (t195)) t199 _ ?side1 ?side2 A34.out).mono ?_); (case side1 => repeat (first | exact (Kd.V_reads' HO181.out).2.2 | (with_reducible refine Kd.C_alloc ?_ _) | (with_reducible refine Kd.C_drewN ?_ _) | (with_reducible refine Kd.C_drew ?_))); (case side2 => exact (Kd.V_reads' HO181.out).2.1); rintro e w46 ⟨v200, rfl, ho0, hb⟩; refine ⟨_, rfl, ?_⟩; replace HO0 := mk0 (Kd.V_elder' (by (with_reducible repeat apply Kd.V_drewN); exact HO0.out) (Rs ho0) hb); replace HO1 := mk0 (Kd.V_elder' (by (with_reducible repeat apply Kd.V_drewN); exact HO1.out) (Rs ho0) hb); replace HO178 := mk0 (Kd.V_elder' (by (with_reducible repeat apply Kd.V_drewN); exact HO178.out) (Rs ho0) hb); replace HO181 := mk0 (Kd.V_elder' (by (with_reducible repeat apply Kd.V_drewN); exact HO181.out) (Rs ho0) hb); have HO201 := mk0 (Rl (Rn (Kd.R_newM (M := fun k_ => (w.heap.size ≤ k_)) ho0 (bZ (by repeat (first | exact HB.out | apply bN | apply b1 | apply bA))) (fun k_ h_ => h_)) (Rq (by (with_reducible repeat apply Kd.R_drewN); exact HO198.out))) (bZ (by repeat (first | exact HB.out | apply bN | apply b1 | apply bA)))); replace HO198 := mk0 (Re (by (with_reducible repeat apply Kd.R_drewN); exact HO198.out) (Rs ho0) hb); replace HB := (by first | exact hbS HB hb | exact hbD HB hb); (try clear hb); (try clear hb2); (try clear hk); (try clear hi); (try clear ho0); obtain ⟨Ao47, co47, eo47⟩ := Kd.R_slice HO201.out; subst eo47; have q48 : ((t179.length : Int) : Int) ≤ ((t199.length : Int) : Int) := of_decide_eq_true (by first | (with_reducible assumption) | assumption); obtain ⟨i048, hi048, _, hsz48, _⟩ := info_parts info87; have hcut48 := cut_to (P := Try.prog) 25 87 .i64 Try.underlying25 hi048 Ao47 t199.length co47 (t179.length : Int) (of_decide_eq_true (by first | (with_reducible assumption) | assumption)) q48 (Kd.R_reads' HO201.out).2.1; have hr48 := Kd.R_take (m := ((t179.length : Int) : Int).toNat) HO201.out (by omega); have hy48 : y202.length = ((t179.length : Int) : Int).toNat := (by rw [Ny202.out, lT]; omega); rw [← Ny202.out] at hr48; rw [← hy48] at hr48 hcut48; clear hy48 hi048 hsz48 HO201; have HO204 := mk0 hr48; clear hr48; replace q48 := eq_true q48) | ((with_reducible refine gate_dst (N := 71) rfl ?_); refine Kd.R_make (Kd.int .u32) _ 87 rfl (N := 71) rfl 25 _ _ rfl ji37 rfl rfl Try.underlying25 (.int .u32 0) 4 info87 rfl (by decide) (by omega) 0 (ok := fun _ => True) (okp := fun _ => True) rfl (fun _ hk => hk) trivial (of_decide_eq_true (by first | (with_reducible assumption) | assumption)) (Nat.le_trans (Nat.mul_le_mul_right _ (of_decide_eq_true (by first | (with_reducible assumption) | assumption) : ji37.toNat ≤ 70368744177664)) (by omega)) (Below.refl _ _) (Nat.le_refl _) ?_; intro v206 w49 ho50 hb hg_ hnew_; clear hg_ hnew_; (first | rw [← Ny205.out] at ho50 | (simp only [Int.reduceToNat] at ho50; rw [← Ny205.out] at ho50)); replace HO0 := mk0 (Kd.V_elder' (by (with_reducible repeat apply Kd.V_drewN); exact HO0.out) (Rs ho50) hb); replace HO1 := mk0 (Kd.V_elder' (by (with_reducible repeat apply Kd.V_drewN); exact HO1.out) (Rs ho50) hb); replace HO178 := mk0 (Kd.V_elder' (by (with_reducible repeat apply Kd.V_drewN); exact HO178.out) (Rs ho50) hb); replace HO181 := mk0 (Kd.V_elder' (by (with_reducible repeat apply Kd.V_drewN); exact HO181.out) (Rs ho50) hb); have HO207 := mk0 (Rl (Rn (Rn (Kd.R_newM (M := fun k_ => (w.heap.size ≤ k_)) ho50 (bZ (by repeat (first | exact HB.out | apply bN | apply b1 | apply bA))) (fun k_ h_ => h_)) (Rq (by (with_reducible repeat apply Kd.R_drewN); exact HO198.out))) (Rq (by (with_reducible repeat apply Kd.R_drewN); exact HO204.out))) (bZ (by repeat (first | exact HB.out | apply bN | apply b1 | apply bA)))); replace HO198 := mk0 (Re (by (with_reducible repeat apply Kd.R_drewN); exact HO198.out) (Rs ho50) hb); replace HO204 := mk0 (Re (by (with_reducible repeat apply Kd.R_drewN); exact HO204.out) (Rs ho50) hb); replace HB := (by first | exact hbS HB hb | exact hbD HB hb); clear hb ho50))
          go_loopg [16] k (fun kq v16 w' => ∃ (x13_1 : List Int) (x14_1 : List Int) (x15_1 : List Int) (x16_1 : Int), v16 = .int .i64 x16_1 ∧ Aside0 (nat_DivMod.l0 kq (t179.length : Int) (IntKind.u64.wrap (t195)) x13_1 x14_1 x15_1 x16_1 = some (r1, r2, r3)) ∧ Aside0 (kq ≤ k) ∧ Aside0 (Kd.R (Kd.int .u32) 87 w' w.heap.size (fun k_ => (w.heap.size ≤ k_) ∧ some k_ ≠ ((.slice Ao47 y202.length co47) : Value).ownBlock ∧ some k_ ≠ (v206 : Value).ownBlock) v197 x13_1) ∧ Aside0 (Kd.R (Kd.int .u32) 87 w' w.heap.size (fun k_ => (w.heap.size ≤ k_) ∧ some k_ ≠ (v197 : Value).ownBlock ∧ some k_ ≠ (v206 : Value).ownBlock) (.slice Ao47 y202.length co47) x14_1) ∧ Aside0 (Kd.R (Kd.int .u32) 87 w' w.heap.size (fun k_ => (w.heap.size ≤ k_) ∧ some k_ ≠ (v197 : Value).ownBlock ∧ some k_ ≠ ((.slice Ao47 y202.length co47) : Value).ownBlock) v206 x15_1) ∧ Aside0 (Below w.heap.size w w'))
          case atStart => exact ⟨(t196), (y202), (y205), (wrap64 ((t176.length : Int) - (t179.length : Int))), (by first | rfl | (simp; done) | (simp [*]; done)), H', ⟨Nat.le_refl _⟩, ⟨by (with_reducible repeat apply Kd.R_drewN); exact Rm HO198.out (fun _ hk => ⟨hk.1.1.1, ⟨fun e_ => hk.1.2 (e_.trans (by cases Ao47 <;> rfl)), hk.2⟩⟩)⟩, ⟨by (with_reducible repeat apply Kd.R_drewN); exact Rm HO204.out (fun _ hk => ⟨hk.1.1.1, ⟨hk.1.2, hk.2⟩⟩)⟩, ⟨by (with_reducible repeat apply Kd.R_drewN); exact Rm HO207.out (fun _ hk => ⟨hk.1.1.1, ⟨hk.1.2, hk.2⟩⟩)⟩, ⟨by repeat (first | exact HB.out | apply bN | apply b1 | apply bA)⟩⟩
          case round =>
           clear H'
           try clear c1
           try clear p1
           try clear q1
           try clear hx1
           try clear qi1
           try clear p2
           try clear c3
           try clear q4
           try clear c5
           try clear c5b0
           try clear c5b1
           try clear c5b2
           try clear c6
           try clear p6
           try clear c7
           try clear c8
           try clear c10
           try clear c10b0
           try clear c18
           try clear c18b0
           try clear c18b1
           try clear p18
           try clear q18
           try clear hx18
           try clear qi18
           try clear c19
           try clear c19b0
           try clear c19b1
           try clear p19
           try clear q19
           try clear hx19
           try clear c30
           try clear c30b0
           try clear c31
           try clear c31b0
           try clear c35
           try clear c35b0
           try clear c35b1
           try clear c36
           try clear c36b0
           try clear c36b1
           try clear c38
           try clear c38b0
           try clear c38b1
           try clear c39
           try clear c39b0
           try clear c39b1
           try clear q48
           try clear hx186_0
           try clear hx194_0
           try clear p186
           try clear p194
           try clear q186
           try clear q194
           try clear q48
           obtain ⟨x13_1, x14_1, x15_1, x16_1, rfl, HA, HK1, HO_13, HO_14, HO_15, HB⟩ := hrel
           have hl14_1 := (Kd.R_reads' HO_14.out).1
           rw [hl14_1] at HO_14
           (try simp only [hl14_1])
           (try simp only [hl14_1] at HO_13)
           (try simp only [hl14_1] at HO_15)
           cases gk with
           | zero => exact absurd HA.out (by simp [nat_DivMod.l0])
           | succ k1 =>
            have H := HA.out
            clear HA
            simp only [nat_DivMod.l0] at H
            by_cases c51 : x16_1 ≥ 0
            ·rw [if_pos c51] at H
             have c51b0 : decide (0 ≤ x16_1) = true := decide_eq_true c51
             clear c51
             obtain ⟨ji52, hji52⟩ : ∃ j_ : Int, (wrap64 (x16_1 + (t179.length : Int))) = j_ := ⟨_, rfl⟩
             replace H : (if 0 ≤ (ji52) then (if (ji52) < (x13_1.length : Int) then (if 0 ≤ (wrap64 ((ji52) - 1)) then (if (wrap64 ((ji52) - 1)) < (x13_1.length : Int) then (if 0 ≤ (wrap64 ((ji52) - 2)) then (if (wrap64 ((ji52) - 2)) < (x13_1.length : Int) then (if 0 ≤ (wrap64 ((t179.length : Int) - 1)) then (if (wrap64 ((t179.length : Int) - 1)) < (x14_1.length : Int) then (if 0 ≤ (wrap64 ((t179.length : Int) - 2)) then (if (wrap64 ((t179.length : Int) - 2)) < (x14_1.length : Int) then ((nat_guess.f k1 (rd x13_1 (ji52)) (rd x13_1 (wrap64 ((ji52) - 1))) (rd x13_1 (wrap64 ((ji52) - 2))) (rd x14_1 (wrap64 ((t179.length : Int) - 1))) (rd x14_1 (wrap64 ((t179.length : Int) - 2)))).bind fun t223 => (if 0 ≤ x16_1 then (if x16_1 ≤ (wrap64 ((ji52) + 1)) then (if (wrap64 ((ji52) + 1)) ≤ (x13_1.length : Int) then ((nat_subtract.f k1 x13_1 x16_1 (wrap64 ((ji52) + 1)) x14_1 t223).bind fun bt228 => (if bt228.1 = true then ((nat_addBack.f k1 bt228.2 x16_1 (wrap64 ((ji52) + 1)) x14_1).bind fun t234 => (if x16_1 < (x15_1.length : Int) then (nat_DivMod.l0 k1 (t179.length : Int) (IntKind.u64.wrap (t195)) t234 x14_1 (x15_1.set (x16_1 : Int).toNat ((IntKind.u64.wrap (t223 - 1)) % 4294967296)) (wrap64 (x16_1 - 1))) else (none))) else (if x16_1 < (x15_1.length : Int) then (nat_DivMod.l0 k1 (t179.length : Int) (IntKind.u64.wrap (t195)) bt228.2 x14_1 (x15_1.set (x16_1 : Int).toNat ((t223) % 4294967296)) (wrap64 (x16_1 - 1))) else (none)))) else (none)) else (none)) else (none))) else (none)) else (none)) else (none)) else (none)) else (none)) else (none)) else (none)) else (none)) else (none)) else (none)) = some (r1, r2, r3) := by first | (rw [hji52] at H; exact H) | (simp only [hji52] at H ⊢; exact H)
             have hji52w : (IntKind.i64.wrap (x16_1 + (t179.length : Int))) = ji52 := (i64_w _).trans hji52
             by_cases c53 : 0 ≤ (ji52)
             ·rw [if_pos c53] at H
              have c53b0 : decide (0 ≤ (ji52)) = true := decide_eq_true c53
              clear c53
              by_cases c54 : (ji52) < (x13_1.length : Int)
              ·rw [if_pos c54] at H
               have c54b0 : decide ((ji52) < (x13_1.length : Int)) = true := decide_eq_true c54
               clear c54
               obtain ⟨ji55, hji55⟩ : ∃ j_ : Int, (wrap64 ((ji52) - 1)) = j_ := ⟨_, rfl⟩
               replace H : (if 0 ≤ (ji55) then (if (ji55) < (x13_1.length : Int) then (if 0 ≤ (wrap64 ((ji52) - 2)) then (if (wrap64 ((ji52) - 2)) < (x13_1.length : Int) then (if 0 ≤ (wrap64 ((t179.length : Int) - 1)) then (if (wrap64 ((t179.length : Int) - 1)) < (x14_1.length : Int) then (if 0 ≤ (wrap64 ((t179.length : Int) - 2)) then (if (wrap64 ((t179.length : Int) - 2)) < (x14_1.length : Int) then ((nat_guess.f k1 (rd x13_1 (ji52)) (rd x13_1 (ji55)) (rd x13_1 (wrap64 ((ji52) - 2))) (rd x14_1 (wrap64 ((t179.length : Int) - 1))) (rd x14_1 (wrap64 ((t179.length : Int) - 2)))).bind fun t223 => (if 0 ≤ x16_1 then (if x16_1 ≤ (wrap64 ((ji52) + 1)) then (if (wrap64 ((ji52) + 1)) ≤ (x13_1.length : Int) then ((nat_subtract.f k1 x13_1 x16_1 (wrap64 ((ji52) + 1)) x14_1 t223).bind fun bt228 => (if bt228.1 = true then ((nat_addBack.f k1 bt228.2 x16_1 (wrap64 ((ji52) + 1)) x14_1).bind fun t234 => (if x16_1 < (x15_1.length : Int) then (nat_DivMod.l0 k1 (t179.length : Int) (IntKind.u64.wrap (t195)) t234 x14_1 (x15_1.set (x16_1 : Int).toNat ((IntKind.u64.wrap (t223 - 1)) % 4294967296)) (wrap64 (x16_1 - 1))) else (none))) else (if x16_1 < (x15_1.length : Int) then (nat_DivMod.l0 k1 (t179.length : Int) (IntKind.u64.wrap (t195)) bt228.2 x14_1 (x15_1.set (x16_1 : Int).toNat ((t223) % 4294967296)) (wrap64 (x16_1 - 1))) else (none)))) else (none)) else (none)) else (none))) else (none)) else (none)) else (none)) else (none)) else (none)) else (none)) else (none)) else (none)) = some (r1, r2, r3) := by first | (rw [hji55] at H; exact H) | (simp only [hji55] at H ⊢; exact H)
               have hji55w : (IntKind.i64.wrap ((ji52) - 1)) = ji55 := (i64_w _).trans hji55
               by_cases c56 : 0 ≤ (ji55)
               ·rw [if_pos c56] at H
                have c56b0 : decide (0 ≤ (ji55)) = true := decide_eq_true c56
                clear c56
                by_cases c57 : (ji55) < (x13_1.length : Int)
                ·rw [if_pos c57] at H
                 have c57b0 : decide ((ji55) < (x13_1.length : Int)) = true := decide_eq_true c57
                 clear c57
                 obtain ⟨ji58, hji58⟩ : ∃ j_ : Int, (wrap64 ((ji52) - 2)) = j_ := ⟨_, rfl⟩
                 replace H : (if 0 ≤ (ji58) then (if (ji58) < (x13_1.length : Int) then (if 0 ≤ (wrap64 ((t179.length : Int) - 1)) then (if (wrap64 ((t179.length : Int) - 1)) < (x14_1.length : Int) then (if 0 ≤ (wrap64 ((t179.length : Int) - 2)) then (if (wrap64 ((t179.length : Int) - 2)) < (x14_1.length : Int) then ((nat_guess.f k1 (rd x13_1 (ji52)) (rd x13_1 (ji55)) (rd x13_1 (ji58)) (rd x14_1 (wrap64 ((t179.length : Int) - 1))) (rd x14_1 (wrap64 ((t179.length : Int) - 2)))).bind fun t223 => (if 0 ≤ x16_1 then (if x16_1 ≤ (wrap64 ((ji52) + 1)) then (if (wrap64 ((ji52) + 1)) ≤ (x13_1.length : Int) then ((nat_subtract.f k1 x13_1 x16_1 (wrap64 ((ji52) + 1)) x14_1 t223).bind fun bt228 => (if bt228.1 = true then ((nat_addBack.f k1 bt228.2 x16_1 (wrap64 ((ji52) + 1)) x14_1).bind fun t234 => (if x16_1 < (x15_1.length : Int) then (nat_DivMod.l0 k1 (t179.length : Int) (IntKind.u64.wrap (t195)) t234 x14_1 (x15_1.set (x16_1 : Int).toNat ((IntKind.u64.wrap (t223 - 1)) % 4294967296)) (wrap64 (x16_1 - 1))) else (none))) else (if x16_1 < (x15_1.length : Int) then (nat_DivMod.l0 k1 (t179.length : Int) (IntKind.u64.wrap (t195)) bt228.2 x14_1 (x15_1.set (x16_1 : Int).toNat ((t223) % 4294967296)) (wrap64 (x16_1 - 1))) else (none)))) else (none)) else (none)) else (none))) else (none)) else (none)) else (none)) else (none)) else (none)) else (none)) = some (r1, r2, r3) := by first | (rw [hji58] at H; exact H) | (simp only [hji58] at H ⊢; exact H)
                 have hji58w : (IntKind.i64.wrap ((ji52) - 2)) = ji58 := (i64_w _).trans hji58
                 by_cases c59 : 0 ≤ (ji58)
                 ·rw [if_pos c59] at H
                  have c59b0 : decide (0 ≤ (ji58)) = true := decide_eq_true c59
                  clear c59
                  by_cases c60 : (ji58) < (x13_1.length : Int)
                  ·rw [if_pos c60] at H
                   have c60b0 : decide ((ji58) < (x13_1.length : Int)) = true := decide_eq_true c60
                   clear c60
                   obtain ⟨ji61, hji61⟩ : ∃ j_ : Int, (wrap64 ((t179.length : Int) - 1)) = j_ := ⟨_, rfl⟩
                   replace H : (if 0 ≤ (ji61) then (if (ji61) < (x14_1.length : Int) then (if 0 ≤ (wrap64 ((t179.length : Int) - 2)) then (if (wrap64 ((t179.length : Int) - 2)) < (x14_1.length : Int) then ((nat_guess.f k1 (rd x13_1 (ji52)) (rd x13_1 (ji55)) (rd x13_1 (ji58)) (rd x14_1 (ji61)) (rd x14_1 (wrap64 ((t179.length : Int) - 2)))).bind fun t223 => (if 0 ≤ x16_1 then (if x16_1 ≤ (wrap64 ((ji52) + 1)) then (if (wrap64 ((ji52) + 1)) ≤ (x13_1.length : Int) then ((nat_subtract.f k1 x13_1 x16_1 (wrap64 ((ji52) + 1)) x14_1 t223).bind fun bt228 => (if bt228.1 = true then ((nat_addBack.f k1 bt228.2 x16_1 (wrap64 ((ji52) + 1)) x14_1).bind fun t234 => (if x16_1 < (x15_1.length : Int) then (nat_DivMod.l0 k1 (t179.length : Int) (IntKind.u64.wrap (t195)) t234 x14_1 (x15_1.set (x16_1 : Int).toNat ((IntKind.u64.wrap (t223 - 1)) % 4294967296)) (wrap64 (x16_1 - 1))) else (none))) else (if x16_1 < (x15_1.length : Int) then (nat_DivMod.l0 k1 (t179.length : Int) (IntKind.u64.wrap (t195)) bt228.2 x14_1 (x15_1.set (x16_1 : Int).toNat ((t223) % 4294967296)) (wrap64 (x16_1 - 1))) else (none)))) else (none)) else (none)) else (none))) else (none)) else (none)) else (none)) else (none)) = some (r1, r2, r3) := by first | (rw [hji61] at H; exact H) | (simp only [hji61] at H ⊢; exact H)
                   have hji61w : (IntKind.i64.wrap ((t179.length : Int) - 1)) = ji61 := (i64_w _).trans hji61
                   have ej_ : ji29 = ji61 := hji29.symm.trans hji61
                   subst ej_
                   by_cases c62 : 0 ≤ (ji29)
                   ·rw [if_pos c62] at H
                    have c62b0 : decide (0 ≤ (ji29)) = true := decide_eq_true c62
                    clear c62
                    by_cases c63 : (ji29) < (x14_1.length : Int)
                    ·rw [if_pos c63] at H
                     have c63b0 : decide ((ji29) < (x14_1.length : Int)) = true := decide_eq_true c63
                     clear c63
                     obtain ⟨ji64, hji64⟩ : ∃ j_ : Int, (wrap64 ((t179.length : Int) - 2)) = j_ := ⟨_, rfl⟩
                     replace H : (if 0 ≤ (ji64) then (if (ji64) < (x14_1.length : Int) then ((nat_guess.f k1 (rd x13_1 (ji52)) (rd x13_1 (ji55)) (rd x13_1 (ji58)) (rd x14_1 (ji29)) (rd x14_1 (ji64))).bind fun t223 => (if 0 ≤ x16_1 then (if x16_1 ≤ (wrap64 ((ji52) + 1)) then (if (wrap64 ((ji52) + 1)) ≤ (x13_1.length : Int) then ((nat_subtract.f k1 x13_1 x16_1 (wrap64 ((ji52) + 1)) x14_1 t223).bind fun bt228 => (if bt228.1 = true then ((nat_addBack.f k1 bt228.2 x16_1 (wrap64 ((ji52) + 1)) x14_1).bind fun t234 => (if x16_1 < (x15_1.length : Int) then (nat_DivMod.l0 k1 (t179.length : Int) (IntKind.u64.wrap (t195)) t234 x14_1 (x15_1.set (x16_1 : Int).toNat ((IntKind.u64.wrap (t223 - 1)) % 4294967296)) (wrap64 (x16_1 - 1))) else (none))) else (if x16_1 < (x15_1.length : Int) then (nat_DivMod.l0 k1 (t179.length : Int) (IntKind.u64.wrap (t195)) bt228.2 x14_1 (x15_1.set (x16_1 : Int).toNat ((t223) % 4294967296)) (wrap64 (x16_1 - 1))) else (none)))) else (none)) else (none)) else (none))) else (none)) else (none)) = some (r1, r2, r3) := by first | (rw [hji64] at H; exact H) | (simp only [hji64] at H ⊢; exact H)
                     have hji64w : (IntKind.i64.wrap ((t179.length : Int) - 2)) = ji64 := (i64_w _).trans hji64
                     by_cases c65 : 0 ≤ (ji64)
                     ·rw [if_pos c65] at H
                      have c65b0 : decide (0 ≤ (ji64)) = true := decide_eq_true c65
                      clear c65
                      by_cases c66 : (ji64) < (x14_1.length : Int)
                      ·rw [if_pos c66] at H
                       have c66b0 : decide ((ji64) < (x14_1.length : Int)) = true := decide_eq_true c66
                       clear c66
                       obtain ⟨t223, A67, H⟩ := bindA H
                       by_cases c68 : 0 ≤ x16_1
                       ·rw [if_pos c68] at H
                        have c68b0 := eq_true c68
                        have c68b1 : decide (0 ≤ x16_1) = true := decide_eq_true c68
                        clear c68
                        by_cases c69 : x16_1 ≤ (wrap64 ((ji52) + 1))
                        ·rw [if_pos c69] at H
                         have c69b0 := eq_true c69
                         have c69b1 : decide (x16_1 ≤ (wrap64 ((ji52) + 1))) = true := decide_eq_true c69
                         by_cases c70 : (wrap64 ((ji52) + 1)) ≤ (x13_1.length : Int)
                         ·rw [if_pos c70] at H
                          have c70b0 := eq_true c70
                          have c70b1 : decide ((wrap64 ((ji52) + 1)) ≤ (x13_1.length : Int)) = true := decide_eq_true c70
                          obtain ⟨y224, hy224⟩ : ∃ y_ : List Int, y_ = ((x13_1.take ((wrap64 ((ji52) + 1)) : Int).toNat).drop (x16_1 : Int).toNat) := ⟨_, rfl⟩
                          replace H : ((nat_subtract.f k1 x13_1 x16_1 (wrap64 ((ji52) + 1)) x14_1 t223).bind fun bt228 => (if bt228.1 = true then ((nat_addBack.f k1 bt228.2 x16_1 (wrap64 ((ji52) + 1)) x14_1).bind fun t234 => (if x16_1 < (x15_1.length : Int) then (nat_DivMod.l0 k1 (t179.length : Int) (IntKind.u64.wrap (t195)) t234 x14_1 (x15_1.set (x16_1 : Int).toNat ((IntKind.u64.wrap (t223 - 1)) % 4294967296)) (wrap64 (x16_1 - 1))) else (none))) else (if x16_1 < (x15_1.length : Int) then (nat_DivMod.l0 k1 (t179.length : Int) (IntKind.u64.wrap (t195)) bt228.2 x14_1 (x15_1.set (x16_1 : Int).toNat ((t223) % 4294967296)) (wrap64 (x16_1 - 1))) else (none)))) = some (r1, r2, r3) := by first | (rw [hy224]; with_reducible exact H) | (have H2_ := (Option.bind_some _ _).symm.trans H; rw [hy224]; with_reducible exact H2_) | (have H2_ := (Option.bind_some _ _).symm.trans H; with_reducible exact H2_) | with_reducible exact H | (rw [hy224]; exact H) | exact H
                          have Ny224 := mk0 hy224
                          clear hy224
                          obtain ⟨⟨t228, t229⟩, A71, H⟩ := bindA H
                          by_cases c72 : t228 = true
                          ·subst c72
                           have H1 : ((nat_addBack.f k1 t229 x16_1 (wrap64 ((ji52) + 1)) x14_1).bind fun t234 => (if x16_1 < (x15_1.length : Int) then (nat_DivMod.l0 k1 (t179.length : Int) (IntKind.u64.wrap (t195)) t234 x14_1 (x15_1.set (x16_1 : Int).toNat ((IntKind.u64.wrap (t223 - 1)) % 4294967296)) (wrap64 (x16_1 - 1))) else (none))) = some (r1, r2, r3) := by rw [if_pos rfl] at H; exact H
                           clear H
                           have H := H1
                           clear H1
                           have c73b0 := eq_true (of_decide_eq_true (by first | (with_reducible assumption) | assumption) : 0 ≤ x16_1)
                           have c74b0 := eq_true (of_decide_eq_true (by first | (with_reducible assumption) | assumption) : x16_1 ≤ (wrap64 ((ji52) + 1)))
                           have c75b0 := eq_true (of_decide_eq_true (by first | (with_reducible assumption) | assumption) : (wrap64 ((ji52) + 1)) ≤ (x13_1.length : Int))
                           obtain ⟨y230, hy230⟩ : ∃ y_ : List Int, y_ = ((t229.take ((wrap64 ((ji52) + 1)) : Int).toNat).drop (x16_1 : Int).toNat) := ⟨_, rfl⟩
                           replace H : ((nat_addBack.f k1 t229 x16_1 (wrap64 ((ji52) + 1)) x14_1).bind fun t234 => (if x16_1 < (x15_1.length : Int) then (nat_DivMod.l0 k1 (t179.length : Int) (IntKind.u64.wrap (t195)) t234 x14_1 (x15_1.set (x16_1 : Int).toNat ((IntKind.u64.wrap (t223 - 1)) % 4294967296)) (wrap64 (x16_1 - 1))) else (none))) = some (r1, r2, r3) := by first | (rw [hy230]; with_reducible exact H) | (have H2_ := (Option.bind_some _ _).symm.trans H; rw [hy230]; with_reducible exact H2_) | (have H2_ := (Option.bind_some _ _).symm.trans H; with_reducible exact H2_) | with_reducible exact H | (rw [hy230]; exact H) | exact H
                           have Ny230 := mk0 hy230
                           clear hy230
                           obtain ⟨t234, A76, H⟩ := bindA H
                           by_cases c77 : x16_1 < (x15_1.length : Int)
                           ·rw [if_pos c77] at H
                            have c77b0 : decide (x16_1 < (x15_1.length : Int)) = true := decide_eq_true c77
                            clear c77
                            obtain ⟨y235, hy235⟩ : ∃ y_ : List Int, y_ = (x15_1.set (x16_1 : Int).toNat ((IntKind.u64.wrap (t223 - 1)) % 4294967296)) := ⟨_, rfl⟩
                            replace H : (nat_DivMod.l0 k1 (t179.length : Int) (IntKind.u64.wrap (t195)) t234 x14_1 y235 (wrap64 (x16_1 - 1))) = some (r1, r2, r3) := by first | (rw [hy235]; with_reducible exact H) | (have H2_ := (Option.bind_some _ _).symm.trans H; rw [hy235]; with_reducible exact H2_) | (have H2_ := (Option.bind_some _ _).symm.trans H; with_reducible exact H2_) | with_reducible exact H | (rw [hy235]; exact H) | exact H
                            have Ny235 := mk0 hy235
                            clear hy235
                            have H' := mk0 H
                            clear H
                            try go_wp2
                            replace HO_13 := mk0 (Kd.R_drew HO_13.out)
                            replace HO_14 := mk0 (Kd.R_drew HO_14.out)
                            replace HO_15 := mk0 (Kd.R_drew HO_15.out)
                            replace HB := mk0 (b1 HB.out)
                            obtain ⟨Ao80, co80, eo80⟩ := Kd.R_slice HO_13.out
                            (first | subst eo80 | (injection eo80 with f1_ f2_ f3_; have f4_ := f1_.symm; have f5_ := f3_.symm; clear f1_ f2_ f3_; subst f4_; subst f5_))
                            have p218 : 0 ≤ ((ji52) : Int) := of_decide_eq_true (by first | (with_reducible assumption) | assumption)
                            have q218 : (ji52) < (x13_1.length : Int) := of_decide_eq_true (by first | (with_reducible assumption) | assumption)
                            obtain ⟨ad218, e218, hx218_0⟩ := Kd.at_int (Kd.R_reads' HO_13.out).2.2 (ji52) p218 q218
                            cases e218
                            replace p218 := eq_true p218
                            replace q218 := eq_true q218
                            have p219 : 0 ≤ ((ji55) : Int) := of_decide_eq_true (by first | (with_reducible assumption) | assumption)
                            have q219 : (ji55) < (x13_1.length : Int) := of_decide_eq_true (by first | (with_reducible assumption) | assumption)
                            obtain ⟨ad219, e219, hx219_0⟩ := Kd.at_int (Kd.R_reads' HO_13.out).2.2 (ji55) p219 q219
                            obtain rfl : ad218 = ad219 := (by injection e219)
                            replace p219 := eq_true p219
                            replace q219 := eq_true q219
                            have p220 : 0 ≤ ((ji58) : Int) := of_decide_eq_true (by first | (with_reducible assumption) | assumption)
                            have q220 : (ji58) < (x13_1.length : Int) := of_decide_eq_true (by first | (with_reducible assumption) | assumption)
                            obtain ⟨ad220, e220, hx220_0⟩ := Kd.at_int (Kd.R_reads' HO_13.out).2.2 (ji58) p220 q220
                            obtain rfl : ad218 = ad220 := (by injection e220)
                            replace p220 := eq_true p220
                            replace q220 := eq_true q220
                            have p221 : 0 ≤ ((ji29) : Int) := of_decide_eq_true (by first | (with_reducible assumption) | assumption)
                            have q221 : (ji29) < (x14_1.length : Int) := of_decide_eq_true (by first | (with_reducible assumption) | assumption)
                            obtain ⟨ad221, e221, hx221_0⟩ := Kd.at_int (Kd.R_reads' HO_14.out).2.2 (ji29) p221 q221
                            cases e221
                            replace p221 := eq_true p221
                            replace q221 := eq_true q221
                            have p222 : 0 ≤ ((ji64) : Int) := of_decide_eq_true (by first | (with_reducible assumption) | assumption)
                            have q222 : (ji64) < (x14_1.length : Int) := of_decide_eq_true (by first | (with_reducible assumption) | assumption)
                            obtain ⟨ad222, e222, hx222_0⟩ := Kd.at_int (Kd.R_reads' HO_14.out).2.2 (ji64) p222 q222
                            obtain rfl : ad221 = ad222 := (by injection e222)
                            replace p222 := eq_true p222
                            replace q222 := eq_true q222
                            refine start_ (n := 32) (S := fun w' => w'.cell? (ad218.add ((ji52)).toNat) = some (.int .u32 (rd x13_1 (ji52))) ∧ w'.cell? (ad218.add ((ji55)).toNat) = some (.int .u32 (rd x13_1 (ji55))) ∧ w'.cell? (ad218.add ((ji58)).toNat) = some (.int .u32 (rd x13_1 (ji58))) ∧ w'.cell? (ad221.add ((ji29)).toNat) = some (.int .u32 (rd x14_1 (ji29))) ∧ w'.cell? (ad221.add ((ji64)).toNat) = some (.int .u32 (rd x14_1 (ji64)))) (ds := []) (bv 32 0) (by kernel_rfl) rfl rfl ⟨hx218_0, hx219_0, hx220_0, hx221_0, hx222_0⟩ (fun hHeld => ?_); refine with_tabW nat_DivMod.tab17 nat_DivMod.bits17 (fun HT_ HW_ => ?_)
                            generalize wr.drew = w79 at HO_13 HO_14 HO_15 HB hx218_0 hx219_0 hx220_0 hx221_0 hx222_0 hHeld ⊢
                            refine puA (i := 0) (N := 80) (v := ?_) (a' := ?_) (bv 32 1) HT_ ?_ ?_ ?_; rotate_left; (intro w'; go_simp; with_reducible rfl); rotate_left; (simp only [Act.put, sA, sZ, sS, i64_w, i32_w]; rfl)
                            refine puA (i := 1) (N := 81) (v := ?_) (a' := ?_) (bv 32 3) HT_ ?_ ?_ ?_; rotate_left; (intro w'; go_simp; with_reducible rfl); rotate_left; (simp only [Act.put, sA, sZ, sS, i64_w, i32_w]; rfl)
                            refine puA (i := 2) (N := 82) (v := ?_) (a' := ?_) (bv 32 7) HT_ ?_ ?_ ?_; rotate_left; (intro w'; go_simp; with_reducible rfl); rotate_left; (simp only [Act.put, sA, sZ, sS, i64_w, i32_w]; rfl)
                            refine puA (i := 3) (N := 83) (v := ?_) (a' := ?_) (bv 32 15) HT_ ?_ ?_ ?_; rotate_left; (intro w'; go_simp; with_reducible rfl); rotate_left; (simp only [Act.put, sA, sZ, sS, i64_w, i32_w]; rfl)
                            refine puA (i := 4) (N := 84) (v := ?_) (a' := ?_) (bv 32 31) HT_ ?_ ?_ ?_; rotate_left; (intro w'; go_simp; with_reducible rfl); rotate_left; (simp only [Act.put, sA, sZ, sS, i64_w, i32_w]; rfl)
                            refine puA (i := 6) (N := 86) (v := ?_) (a' := ?_) (bv 32 95) HT_ ?_ ?_ ?_; rotate_left; (intro w'; go_simp; with_reducible rfl); rotate_left; (simp only [Act.put, sA, sZ, sS, i64_w, i32_w]; rfl)
                            refine puA (i := 7) (N := 87) (v := ?_) (a' := ?_) (bv 32 223) HT_ ?_ ?_ ?_; rotate_left; (intro w'; go_simp; with_reducible rfl); rotate_left; (simp only [Act.put, sA, sZ, sS, i64_w, i32_w]; rfl)
                            refine puA (i := 8) (N := 88) (v := ?_) (a' := ?_) (bv 32 479) HT_ ?_ ?_ ?_; rotate_left; (intro w'; go_simp; with_reducible rfl); rotate_left; (simp only [Act.put, sA, sZ, sS, i64_w, i32_w]; rfl)
                            refine puA (i := 9) (N := 89) (v := ?_) (a' := ?_) (bv 32 991) HT_ ?_ ?_ ?_; rotate_left; (intro w'; go_simp; with_reducible rfl); rotate_left; (simp only [Act.put, sA, sZ, sS, i64_w, i32_w]; rfl)
                            refine puA (i := 10) (N := 90) (v := ?_) (a' := ?_) (bv 32 2015) HT_ ?_ ?_ ?_; rotate_left; (intro w'; go_simp; with_reducible rfl); rotate_left; (simp only [Act.put, sA, sZ, sS, i64_w, i32_w]; rfl)
                            refine puA (i := 11) (N := 91) (v := ?_) (a' := ?_) (bv 32 4063) HT_ ?_ ?_ ?_; rotate_left; (intro w'; go_simp; with_reducible rfl); rotate_left; (simp only [Act.put, sA, sZ, sS, i64_w, i32_w]; rfl)
                            refine puA (i := 13) (N := 93) (v := ?_) (a' := ?_) (bv 32 12255) HT_ ?_ ?_ ?_; rotate_left; (intro w'; go_simp; with_reducible rfl); rotate_left; (simp only [Act.put, sA, sZ, sS, i64_w, i32_w]; rfl)
                            refine puA (i := 14) (N := 94) (v := ?_) (a' := ?_) (bv 32 28639) HT_ ?_ ?_ ?_; rotate_left; (intro w'; go_simp; with_reducible rfl); rotate_left; (simp only [Act.put, sA, sZ, sS, i64_w, i32_w]; rfl)
                            refine puA (i := 15) (N := 95) (v := ?_) (a' := ?_) (bv 32 61407) HT_ ?_ ?_ ?_; rotate_left; (intro w'; go_simp; with_reducible rfl); rotate_left; (simp only [Act.put, sA, sZ, sS, i64_w, i32_w]; rfl)
                            refine puA (i := 16) (N := 96) (v := ?_) (a' := ?_) (bv 32 126943) HT_ ?_ ?_ ?_; rotate_left; (intro w'; go_simp; with_reducible rfl); rotate_left; (simp only [Act.put, sA, sZ, sS, i64_w, i32_w]; rfl)
                            refine puA (i := 17) (N := 97) (v := ?_) (a' := ?_) (bv 32 258015) HT_ ?_ ?_ ?_; rotate_left; (intro w'; go_simp; with_reducible rfl); rotate_left; (simp only [Act.put, sA, sZ, sS, i64_w, i32_w]; rfl)
                            refine puA (i := 18) (N := 98) (v := ?_) (a' := ?_) (bv 32 520159) HT_ ?_ ?_ ?_; rotate_left; (intro w'; go_simp; with_reducible rfl); rotate_left; (simp only [Act.put, sA, sZ, sS, i64_w, i32_w]; rfl)
                            refine puA (i := 20) (N := 100) (v := ?_) (a' := ?_) (bv 32 1568735) HT_ ?_ ?_ ?_; rotate_left; (intro w'; go_simp; with_reducible rfl); rotate_left; (simp only [Act.put, sA, sZ, sS, i64_w, i32_w]; rfl)
                            refine puA (i := 21) (N := 101) (v := ?_) (a' := ?_) (bv 32 3665887) HT_ ?_ ?_ ?_; rotate_left; (intro w'; go_simp; with_reducible rfl); rotate_left; (simp only [Act.put, sA, sZ, sS, i64_w, i32_w]; rfl)
                            refine puA (i := 22) (N := 102) (v := ?_) (a' := ?_) (bv 32 7860191) HT_ ?_ ?_ ?_; rotate_left; (intro w'; go_simp; with_reducible rfl); rotate_left; (simp only [Act.put, sA, sZ, sS, i64_w, i32_w]; rfl)
                            refine puA (i := 23) (N := 103) (v := ?_) (a' := ?_) (bv 32 16248799) HT_ ?_ ?_ ?_; rotate_left; (intro w'; go_simp; with_reducible rfl); rotate_left; (simp only [Act.put, sA, sZ, sS, i64_w, i32_w]; rfl)
                            refine puA (i := 25) (N := 105) (v := ?_) (a' := ?_) (bv 32 49803231) HT_ ?_ ?_ ?_; rotate_left; (intro w'; go_simp; with_reducible rfl); rotate_left; (simp only [Act.put, sA, sZ, sS, i64_w, i32_w]; rfl)
                            refine puA (i := 26) (N := 106) (v := ?_) (a' := ?_) (bv 32 116912095) HT_ ?_ ?_ ?_; rotate_left; (intro w'; go_simp; with_reducible rfl); rotate_left; (simp only [Act.put, sA, sZ, sS, i64_w, i32_w]; rfl)
                            refine puA (i := 27) (N := 107) (v := ?_) (a' := ?_) (bv 32 251129823) HT_ ?_ ?_ ?_; rotate_left; (intro w'; go_simp; with_reducible rfl); rotate_left; (simp only [Act.put, sA, sZ, sS, i64_w, i32_w]; rfl)
                            refine puA (i := 28) (N := 108) (v := ?_) (a' := ?_) (bv 32 519565279) HT_ ?_ ?_ ?_; rotate_left; (intro w'; go_simp; with_reducible rfl); rotate_left; (simp only [Act.put, sA, sZ, sS, i64_w, i32_w]; rfl)
                            refine take_ (i := 5) (N := some 85) (v := ?_) (a' := ?_) (bv 32 519565311) rfl rfl (take_ofW HT_.out HW_.out (by kernel_rfl)) (fun _ _ _ h => h) (Or.inl ⟨by rfl, ?_⟩) hHeld ?_ ?_; rotate_left; (rintro w' ⟨s0, s1, s2, s3, s4⟩; go_simp; with_reducible rfl); rotate_left; (simp only [Act.put, sA, sZ, sS, i64_w, i32_w]; rfl)
                            refine take_ (i := 12) (N := some 92) (v := ?_) (a' := ?_) (bv 32 519569407) rfl rfl (take_ofW HT_.out HW_.out (by kernel_rfl)) (fun _ _ _ h => h) (Or.inl ⟨by rfl, ?_⟩) hHeld ?_ ?_; rotate_left; (rintro w' ⟨s0, s1, s2, s3, s4⟩; go_simp; with_reducible rfl); rotate_left; (simp only [Act.put, sA, sZ, sS, i64_w, i32_w]; rfl)
                            refine take_ (i := 19) (N := some 99) (v := ?_) (a' := ?_) (bv 32 520093695) rfl rfl (take_ofW HT_.out HW_.out (by kernel_rfl)) (fun _ _ _ h => h) (Or.inl ⟨by rfl, ?_⟩) hHeld ?_ ?_; rotate_left; (rintro w' ⟨s0, s1, s2, s3, s4⟩; go_simp; with_reducible rfl); rotate_left; (simp only [Act.put, sA, sZ, sS, i64_w, i32_w]; rfl)
                            refine take_ (i := 24) (N := some 104) (v := ?_) (a' := ?_) (bv 32 536870911) rfl rfl (take_ofW HT_.out HW_.out (by kernel_rfl)) (fun _ _ _ h => h) (Or.inl ⟨by rfl, ?_⟩) hHeld ?_ ?_; rotate_left; (rintro w' ⟨s0, s1, s2, s3, s4⟩; go_simp; with_reducible rfl); rotate_left; (simp only [Act.put, sA, sZ, sS, i64_w, i32_w]; rfl)
                            refine take_ (i := 29) (N := some 109) (v := ?_) (a' := ?_) (bv 32 1073741823) rfl rfl (take_ofW HT_.out HW_.out (by kernel_rfl)) (fun _ _ _ h => h) (Or.inl ⟨by rfl, ?_⟩) hHeld ?_ ?_; rotate_left; (rintro w' ⟨s0, s1, s2, s3, s4⟩; go_simp; with_reducible rfl); rotate_left; (simp only [Act.put, sA, sZ, sS, i64_w, i32_w]; rfl)
                            refine one_ (i := 30) (N := some 110) (bv 32 2147483647) rfl rfl (one_of HT_.out (by kernel_rfl)) (by decide) (fun K hK => ?_)
                            refine goes_ Try.func110 (by kernel_rfl) rfl #[.int .u32 (rd x13_1 (ji52)), .int .u32 (rd x13_1 (ji55)), .int .u32 (rd x13_1 (ji58)), .int .u32 (rd x14_1 (ji29)), .int .u32 (rd x14_1 (ji64))] (by rfl) rfl rfl (by (try simp only [mA, mC, mN]); first | done | (simp only [hji52, hji55, hji58, hji61, hji64]; rfl) | rfl | (simp only [lD, lT]; rfl)) ?_
                            with_reducible refine (nat_guess.calls k1 (rd x13_1 (ji52)) (rd x13_1 (ji55)) (rd x13_1 (ji58)) (rd x14_1 (ji29)) (rd x14_1 (ji64)) t223 _ A67.out).mono ?_
                            rintro e w' ⟨rfl, ⟨nd, rfl⟩⟩
                            refine ⟨_, rfl, ?_⟩
                            refine hK.out _ _ ⟨hHeld.1, hHeld.2.1, hHeld.2.2.1, hHeld.2.2.2.1, hHeld.2.2.2.2⟩ (fun hHeld => ?_)
                            clear hK K
                            refine norm_ (a' := ?_) ?_ ?_
                            rotate_left
                            ·show Act.put _ (some 110) _ = _
                             simp only [Act.put, sA, sZ, sS, i64_w, i32_w]
                             rfl
                            refine puA (i := 31) (N := 17) (v := ?_) (a' := ?_) (bv 32 4294967295) HT_ ?_ ?_ ?_; rotate_left; (intro w'; go_simp; with_reducible rfl); rotate_left; (simp only [Act.put, sA, sZ, sS, i64_w, i32_w]; rfl)
                            refine done_ (done_of HT_.out (by kernel_rfl)) ?_
                            have q81 : ((wrap64 ((ji52) + 1)) : Int) ≤ ((x13_1.length : Int) : Int) := of_decide_eq_true (by first | (with_reducible assumption) | assumption)
                            obtain ⟨i081, hi081, _, hsz81, _⟩ := info_parts info87
                            have hroom81 : x13_1.length ≤ co80 := (Kd.R_reads' HO_13.out).2.1
                            have hC81 : Kd.C (Kd.int .u32) _ (some ad218) x13_1.length x13_1 := (Kd.R_reads' HO_13.out).2.2
                            have ql81 : (x16_1 : Int) ≤ ((wrap64 ((ji52) + 1)) : Int) := of_decide_eq_true (by first | (with_reducible assumption) | assumption)
                            have q081 : (0 : Int) ≤ (x16_1 : Int) := of_decide_eq_true (by first | (with_reducible assumption) | assumption)
                            have hcut81 := cut_mid (P := Try.prog) 25 87 .i64 .i64 Try.underlying25 hi081 1 hsz81 (some ad218) x13_1.length co80 x16_1 (wrap64 ((ji52) + 1)) q081 ql81 q81 hroom81
                            have hr81 := Kd.C_mid (lo := (x16_1 : Int).toNat) (hi := ((wrap64 ((ji52) + 1)) : Int).toNat) (c := co80) hC81 (by omega) (by omega) hroom81
                            obtain ⟨A81, hA81⟩ : ∃ A1, A1 = (if co80 = (x16_1 : Int).toNat then (some ad218) else ((some ad218) : Option Addr).map (·.add ((x16_1 : Int).toNat * 1))) := ⟨_, rfl⟩
                            obtain ⟨c81, hc81⟩ : ∃ c1, c1 = co80 - (x16_1 : Int).toNat := ⟨_, rfl⟩
                            have hy81 : y224.length = ((wrap64 ((ji52) + 1)) : Int).toNat - (x16_1 : Int).toNat := (by rw [Ny224.out, lD, lT] <;> omega)
                            rw [show ((x13_1).take ((wrap64 ((ji52) + 1)) : Int).toNat).drop (x16_1 : Int).toNat = y224 from Ny224.out.symm] at hr81
                            replace hr81 : Kd.C (Kd.int .u32) _ A81 y224.length y224 := (by rw [hA81]; exact hr81)
                            rw [← hy81, ← hA81, ← hc81] at hcut81
                            have HR227 := mk0 hr81
                            have HC227 := mk0 (show y224.length ≤ c81 from by rw [hy81, hc81]; exact Nat.sub_le_sub_right (Nat.le_trans (by omega) hroom81) _)
                            clear hr81 hC81 hroom81 hi081 hsz81 hc81
                            have KY81 := mk0 hy81
                            have KA81 := mk0 hA81
                            clear hy81 hA81
                            have KL81 := mk0 (show ((wrap64 ((ji52) + 1)) : Int).toNat ≤ x13_1.length from by omega)
                            have KM81 := mk0 (show (x16_1 : Int).toNat ≤ ((wrap64 ((ji52) + 1)) : Int).toNat from by omega)
                            replace q81 := eq_true q81
                            try go_wp2_with (first | ((with_reducible refine gate_callee (f := 111) rfl ?_); refine goesL_ (some 120) rfl rfl Try.func111 (by kernel_rfl) rfl #[.slice A81 y224.length c81, .slice (some ad221) x14_1.length co47, .int .u64 t223] rfl (by (try simp only [mA, mC, mN]); first | done | rfl | (simp only [lD, lT]; rfl)) ?_; (with_reducible refine (nat_subtract.calls k1 (fun k_ => some k_ = (.slice (some ad218) x13_1.length co80 : Value).ownBlock) (.slice (some ad218) x13_1.length co80) x13_1 x16_1 (wrap64 ((ji52) + 1)) A81 _ c81 _ _ x14_1 t223 true t229 w _ ?side1 ?side2 ?side3 ?side4 ?side5 ?side6 A71.out).mono ?_); (case side1 => repeat (first | (with_reducible first | exact HB.out | apply bA | apply bN | apply b1) | exact HB.out)); (case side2 => exact Kd.R_tight rfl HO_13.out); (case side3 => intro _ _ _ e_; cases e_; exact KA81.out); (case side4 => exact KY81.out); (case side5 => exact Kd.C_kept_own (HO_14.out) (fun k_ hk_ hs_ => (hk_.2.1) hs_)); (case side6 => exact (Kd.R_reads' HO_14.out).2.1); rintro e w82 ⟨rfl, hy0, hb, hkp⟩; refine ⟨_, rfl, ?_⟩; replace HO_13 := mk0 (Kd.R_reok rfl hy0 (fun k_ e_ => HO_13.out.1 k_ e_)); replace HO_14 := mk0 (Rm (ok' := fun k_ => (w.heap.size ≤ k_) ∧ some k_ ≠ (.slice (some ad218) x13_1.length co80 : Value).ownBlock ∧ some k_ ≠ (v206 : Value).ownBlock) (Kd.R_keptB (HO_14.out) hkp (fun k_ hk_ hs_ => (hk_.2.1) hs_)) (fun k_ hk_ => ⟨hk_.1.1, hk_.1.2.1, hk_.1.2.2⟩)); replace HO_15 := mk0 (Rm (ok' := fun k_ => (w.heap.size ≤ k_) ∧ some k_ ≠ (.slice (some ad218) x13_1.length co80 : Value).ownBlock ∧ some k_ ≠ (.slice (some ad221) x14_1.length co47 : Value).ownBlock) (Kd.R_keptB (HO_15.out) hkp (fun k_ hk_ hs_ => (hk_.2.1) hs_)) (fun k_ hk_ => ⟨hk_.1.1, hk_.1.2.1, hk_.1.2.2⟩)); replace HB := mk0 (hb); (try clear hb); (try clear hkp); (try clear hy0); have hlx83 := (Kd.R_reads' HO_13.out).1; have q83 : ((wrap64 ((ji52) + 1)) : Int) ≤ ((x13_1.length : Int) : Int) := of_decide_eq_true (by first | (with_reducible assumption) | assumption); obtain ⟨i083, hi083, _, hsz83, _⟩ := info_parts info87; have hroom83 : x13_1.length ≤ co80 := (Kd.R_reads' HO_13.out).2.1; have hroomc83 : t229.length ≤ co80 := (by rw [← hlx83]; exact hroom83); have hC83 : Kd.C (Kd.int .u32) _ (some ad218) t229.length t229 := (Kd.R_reads' HO_13.out).2.2; have ql83 : (x16_1 : Int) ≤ ((wrap64 ((ji52) + 1)) : Int) := of_decide_eq_true (by first | (with_reducible assumption) | assumption); have q083 : (0 : Int) ≤ (x16_1 : Int) := of_decide_eq_true (by first | (with_reducible assumption) | assumption); have hcut83 := cut_mid (P := Try.prog) 25 87 .i64 .i64 Try.underlying25 hi083 1 hsz83 (some ad218) x13_1.length co80 x16_1 (wrap64 ((ji52) + 1)) q083 ql83 q83 hroom83; have hr83 := Kd.C_mid (lo := (x16_1 : Int).toNat) (hi := ((wrap64 ((ji52) + 1)) : Int).toNat) (c := co80) hC83 (by omega) (by omega) hroomc83; obtain ⟨A83, hA83⟩ : ∃ A1, A1 = (if co80 = (x16_1 : Int).toNat then (some ad218) else ((some ad218) : Option Addr).map (·.add ((x16_1 : Int).toNat * 1))) := ⟨_, rfl⟩; obtain ⟨c83, hc83⟩ : ∃ c1, c1 = co80 - (x16_1 : Int).toNat := ⟨_, rfl⟩; have hy83 : y230.length = ((wrap64 ((ji52) + 1)) : Int).toNat - (x16_1 : Int).toNat := (by rw [Ny230.out, lD, lT] <;> omega); rw [show ((t229).take ((wrap64 ((ji52) + 1)) : Int).toNat).drop (x16_1 : Int).toNat = y230 from Ny230.out.symm] at hr83; replace hr83 : Kd.C (Kd.int .u32) _ A83 y230.length y230 := (by rw [hA83]; exact hr83); rw [← hy83, ← hA83, ← hc83] at hcut83; have HR233 := mk0 hr83; have HC233 := mk0 (show y230.length ≤ c83 from by rw [hy83, hc83]; exact Nat.sub_le_sub_right (Nat.le_trans (by omega) hroom83) _); clear hr83 hC83 hroom83 hi083 hsz83 hc83 hroomc83; have KY83 := mk0 hy83; have KA83 := mk0 hA83; clear hy83 hA83; have KE83 := mk0 hlx83; have KL83 := mk0 (show ((wrap64 ((ji52) + 1)) : Int).toNat ≤ t229.length from by omega); have KM83 := mk0 (show (x16_1 : Int).toNat ≤ ((wrap64 ((ji52) + 1)) : Int).toNat from by omega); clear hlx83; replace q83 := eq_true q83) | ((with_reducible refine gate_callee (f := 112) rfl ?_); refine goesL_ (some 131) rfl rfl Try.func112 (by kernel_rfl) rfl #[.slice A81 y224.length c81, .slice (some ad221) x14_1.length co47] rfl (by (try simp only [mA, mC, mN, hl14_1]); first | done | rfl | (simp only [lD, lT]; rfl)) ?_; (with_reducible refine (nat_addBack.calls k1 (fun k_ => some k_ = (.slice (some ad218) x13_1.length co80 : Value).ownBlock) (.slice (some ad218) x13_1.length co80) t229 x16_1 (wrap64 ((ji52) + 1)) A81 _ c81 _ _ x14_1 t234 w _ ?side1 ?side2 ?side3 ?side4 ?side5 ?side6 A76.out).mono ?_); (case side1 => repeat (first | (with_reducible first | exact HB.out | apply bA | apply bN | apply b1) | exact HB.out)); (case side2 => exact Kd.R_tight rfl HO_13.out); (case side3 => intro _ _ _ e_; cases e_; exact KA81.out); (case side4 => exact KY81.out); (case side5 => exact Kd.C_kept_own (HO_14.out) (fun k_ hk_ hs_ => (hk_.2.1) hs_)); (case side6 => exact (Kd.R_reads' HO_14.out).2.1); rintro e w84 ⟨rfl, hy0, hb, hkp⟩; refine ⟨_, rfl, ?_⟩; replace HO_13 := mk0 (Kd.R_reok rfl hy0 (fun k_ e_ => HO_13.out.1 k_ e_)); replace HO_14 := mk0 (Rm (ok' := fun k_ => (w.heap.size ≤ k_) ∧ some k_ ≠ (.slice (some ad218) x13_1.length co80 : Value).ownBlock ∧ some k_ ≠ (v206 : Value).ownBlock) (Kd.R_keptB (HO_14.out) hkp (fun k_ hk_ hs_ => (hk_.2.1) hs_)) (fun k_ hk_ => ⟨hk_.1.1, hk_.1.2.1, hk_.1.2.2⟩)); replace HO_15 := mk0 (Rm (ok' := fun k_ => (w.heap.size ≤ k_) ∧ some k_ ≠ (.slice (some ad218) x13_1.length co80 : Value).ownBlock ∧ some k_ ≠ (.slice (some ad221) x14_1.length co47 : Value).ownBlock) (Kd.R_keptB (HO_15.out) hkp (fun k_ hk_ hs_ => (hk_.2.1) hs_)) (fun k_ hk_ => ⟨hk_.1.1, hk_.1.2.1, hk_.1.2.2⟩)); replace HB := mk0 (hb); (try clear hb); (try clear hkp); (try clear hy0); have p78 : 0 ≤ (x16_1 : Int) := of_decide_eq_true (by first | (with_reducible assumption) | assumption); have q78 : (x16_1 : Int) < ((x15_1.length : Int) : Int) := of_decide_eq_true (by first | (with_reducible assumption) | assumption); obtain ⟨go78, co78, eo78, gb78, gl78, cl78, HG78⟩ := Kd.R_form HO_15.out (by omega); (first | cases eo78 | (injection eo78 with ea_ en_ ec_; (first | subst ea_ | (injection ea_ with ea_; subst ea_)); subst ec_; clear en_)); have GB78 := mk0 gb78; have GG78 := mk0 HG78; clear gb78 gl78 HG78; obtain ⟨hx78_0, hf78_0⟩ := Kd.R_celln 0 HO_15.out (x16_1 : Int) p78 q78; replace p78 := eq_true p78; replace q78 := eq_true q78; obtain ⟨hy85_, hz85_⟩ := Kd.R_celln 0 HO_15.out (x16_1 : Int) (of_decide_eq_true (by first | (with_reducible assumption) | assumption)) (of_decide_eq_true (by first | (with_reducible assumption) | assumption)); have HP85 := Kd.R_putg HO_15.out (x16_1 : Int) ((IntKind.u64.wrap (t223 - 1)) % 4294967296)) | ((with_reducible refine gate_store (t := 87) (p := 136) rfl ?_); refine store_event (t := 87) (p := 136) (v := ?vo_w86) (w1 := (w84.setCell ⟨go78, (x16_1 : Int).toNat, none⟩ (.int .u32 ((IntKind.u64.wrap (t223 - 1)) % 4294967296)))) ?hg ?ho ?hn ?hr ?_; (case ho => rfl); (case hg => rfl); (case hn => rfl); (case hr => go_simp <;> rfl); intro w86 hw; have hg : w84.grownBy w86 (some go78) := (by rw [hw]; exact HP85.2); have hp_ : Kd.R (Kd.int .u32) 87 w86 w.heap.size (fun k_ => (w.heap.size ≤ k_) ∧ some k_ ≠ (.slice (some ad218) x13_1.length co80 : Value).ownBlock ∧ some k_ ≠ (.slice (some ad221) x14_1.length co47 : Value).ownBlock) (.slice (some ⟨go78, 0, none⟩) x15_1.length co78) y235 := (by rw [hw, Ny235.out]; exact HP85.1); clear HP85; replace HO_13 := mk0 (Kd.R_after (v := (.slice (some ⟨go78, 0, none⟩) x15_1.length co78)) (v1 := (.slice (some ⟨go78, 0, none⟩) x15_1.length co78)) (ok := (fun k_ => (w.heap.size ≤ k_) ∧ some k_ ≠ (.slice (some ad221) x14_1.length co47 : Value).ownBlock)) (by (with_reducible repeat apply Kd.R_drewN); exact Rm HO_13.out (fun _ hk => ⟨⟨hk.1, hk.2.1⟩, hk.2.2⟩)) hg (.inl rfl)); replace HO_14 := mk0 (Kd.R_after (v := (.slice (some ⟨go78, 0, none⟩) x15_1.length co78)) (v1 := (.slice (some ⟨go78, 0, none⟩) x15_1.length co78)) (ok := (fun k_ => (w.heap.size ≤ k_) ∧ some k_ ≠ (.slice (some ad218) x13_1.length co80 : Value).ownBlock)) (by (with_reducible repeat apply Kd.R_drewN); exact Rm HO_14.out (fun _ hk => ⟨⟨hk.1, hk.2.1⟩, hk.2.2⟩)) hg (.inl rfl)); replace HO_15 := mk0 (hp_); replace HB := mk0 ((by rw [hw]; exact bS (HB.out) GB78.out : Below w.heap.size w w86)); clear hg hw hp_))
                            (try simp only [← hl14_1])
                            go_roundg k1
                            case measure => have := HK1.out; omega
                            case rel => exact ⟨(t234), (x14_1), (y235), (wrap64 (x16_1 - 1)), (by first | rfl | (simp; done) | (simp [*]; done)), H', ⟨by have := HK1.out; omega⟩, ⟨by (try simp only [hl14_1]); (with_reducible repeat apply Kd.R_drewN); exact Rm HO_13.out (fun _ hk => ⟨hk.1.1, ⟨hk.1.2, hk.2⟩⟩)⟩, ⟨by (try simp only [hl14_1]); (with_reducible repeat apply Kd.R_drewN); exact Rm HO_14.out (fun _ hk => ⟨hk.1.1, ⟨hk.1.2, hk.2⟩⟩)⟩, ⟨by (try simp only [hl14_1]); (with_reducible repeat apply Kd.R_drewN); exact HO_15.out⟩, ⟨by repeat (first | exact HB.out | apply bN | apply b1 | apply bA)⟩⟩
                           ·rw [if_neg c77] at H
                            exact absurd H (by simp)
                          ·replace c72 := Bool.eq_false_iff.mpr c72
                           subst c72
                           have H1 : (if x16_1 < (x15_1.length : Int) then (nat_DivMod.l0 k1 (t179.length : Int) (IntKind.u64.wrap (t195)) t229 x14_1 (x15_1.set (x16_1 : Int).toNat ((t223) % 4294967296)) (wrap64 (x16_1 - 1))) else (none)) = some (r1, r2, r3) := by rw [if_neg (show ¬ (false = true) by decide)] at H; exact H
                           clear H
                           have H := H1
                           clear H1
                           by_cases c87 : x16_1 < (x15_1.length : Int)
                           ·rw [if_pos c87] at H
                            have c87b0 : decide (x16_1 < (x15_1.length : Int)) = true := decide_eq_true c87
                            clear c87
                            obtain ⟨y236, hy236⟩ : ∃ y_ : List Int, y_ = (x15_1.set (x16_1 : Int).toNat ((t223) % 4294967296)) := ⟨_, rfl⟩
                            replace H : (nat_DivMod.l0 k1 (t179.length : Int) (IntKind.u64.wrap (t195)) t229 x14_1 y236 (wrap64 (x16_1 - 1))) = some (r1, r2, r3) := by first | (rw [hy236]; with_reducible exact H) | (have H2_ := (Option.bind_some _ _).symm.trans H; rw [hy236]; with_reducible exact H2_) | (have H2_ := (Option.bind_some _ _).symm.trans H; with_reducible exact H2_) | with_reducible exact H | (rw [hy236]; exact H) | exact H
                            have Ny236 := mk0 hy236
                            clear hy236
                            have H' := mk0 H
                            clear H
                            try go_wp2
                            replace HO_13 := mk0 (Kd.R_drew HO_13.out)
                            replace HO_14 := mk0 (Kd.R_drew HO_14.out)
                            replace HO_15 := mk0 (Kd.R_drew HO_15.out)
                            replace HB := mk0 (b1 HB.out)
                            obtain ⟨Ao90, co90, eo90⟩ := Kd.R_slice HO_13.out
                            (first | subst eo90 | (injection eo90 with f1_ f2_ f3_; have f4_ := f1_.symm; have f5_ := f3_.symm; clear f1_ f2_ f3_; subst f4_; subst f5_))
                            have p218 : 0 ≤ ((ji52) : Int) := of_decide_eq_true (by first | (with_reducible assumption) | assumption)
                            have q218 : (ji52) < (x13_1.length : Int) := of_decide_eq_true (by first | (with_reducible assumption) | assumption)
                            obtain ⟨ad218, e218, hx218_0⟩ := Kd.at_int (Kd.R_reads' HO_13.out).2.2 (ji52) p218 q218
                            cases e218
                            replace p218 := eq_true p218
                            replace q218 := eq_true q218
                            have p219 : 0 ≤ ((ji55) : Int) := of_decide_eq_true (by first | (with_reducible assumption) | assumption)
                            have q219 : (ji55) < (x13_1.length : Int) := of_decide_eq_true (by first | (with_reducible assumption) | assumption)
                            obtain ⟨ad219, e219, hx219_0⟩ := Kd.at_int (Kd.R_reads' HO_13.out).2.2 (ji55) p219 q219
                            obtain rfl : ad218 = ad219 := (by injection e219)
                            replace p219 := eq_true p219
                            replace q219 := eq_true q219
                            have p220 : 0 ≤ ((ji58) : Int) := of_decide_eq_true (by first | (with_reducible assumption) | assumption)
                            have q220 : (ji58) < (x13_1.length : Int) := of_decide_eq_true (by first | (with_reducible assumption) | assumption)
                            obtain ⟨ad220, e220, hx220_0⟩ := Kd.at_int (Kd.R_reads' HO_13.out).2.2 (ji58) p220 q220
                            obtain rfl : ad218 = ad220 := (by injection e220)
                            replace p220 := eq_true p220
                            replace q220 := eq_true q220
                            have p221 : 0 ≤ ((ji29) : Int) := of_decide_eq_true (by first | (with_reducible assumption) | assumption)
                            have q221 : (ji29) < (x14_1.length : Int) := of_decide_eq_true (by first | (with_reducible assumption) | assumption)
                            obtain ⟨ad221, e221, hx221_0⟩ := Kd.at_int (Kd.R_reads' HO_14.out).2.2 (ji29) p221 q221
                            cases e221
                            replace p221 := eq_true p221
                            replace q221 := eq_true q221
                            have p222 : 0 ≤ ((ji64) : Int) := of_decide_eq_true (by first | (with_reducible assumption) | assumption)
                            have q222 : (ji64) < (x14_1.length : Int) := of_decide_eq_true (by first | (with_reducible assumption) | assumption)
                            obtain ⟨ad222, e222, hx222_0⟩ := Kd.at_int (Kd.R_reads' HO_14.out).2.2 (ji64) p222 q222
                            obtain rfl : ad221 = ad222 := (by injection e222)
                            replace p222 := eq_true p222
                            replace q222 := eq_true q222
                            refine start_ (n := 32) (S := fun w' => w'.cell? (ad218.add ((ji52)).toNat) = some (.int .u32 (rd x13_1 (ji52))) ∧ w'.cell? (ad218.add ((ji55)).toNat) = some (.int .u32 (rd x13_1 (ji55))) ∧ w'.cell? (ad218.add ((ji58)).toNat) = some (.int .u32 (rd x13_1 (ji58))) ∧ w'.cell? (ad221.add ((ji29)).toNat) = some (.int .u32 (rd x14_1 (ji29))) ∧ w'.cell? (ad221.add ((ji64)).toNat) = some (.int .u32 (rd x14_1 (ji64)))) (ds := []) (bv 32 0) (by kernel_rfl) rfl rfl ⟨hx218_0, hx219_0, hx220_0, hx221_0, hx222_0⟩ (fun hHeld => ?_); refine with_tabW nat_DivMod.tab17 nat_DivMod.bits17 (fun HT_ HW_ => ?_)
                            generalize wr.drew = w89 at HO_13 HO_14 HO_15 HB hx218_0 hx219_0 hx220_0 hx221_0 hx222_0 hHeld ⊢
                            refine puA (i := 0) (N := 80) (v := ?_) (a' := ?_) (bv 32 1) HT_ ?_ ?_ ?_; rotate_left; (intro w'; go_simp; with_reducible rfl); rotate_left; (simp only [Act.put, sA, sZ, sS, i64_w, i32_w]; rfl)
                            refine puA (i := 1) (N := 81) (v := ?_) (a' := ?_) (bv 32 3) HT_ ?_ ?_ ?_; rotate_left; (intro w'; go_simp; with_reducible rfl); rotate_left; (simp only [Act.put, sA, sZ, sS, i64_w, i32_w]; rfl)
                            refine puA (i := 2) (N := 82) (v := ?_) (a' := ?_) (bv 32 7) HT_ ?_ ?_ ?_; rotate_left; (intro w'; go_simp; with_reducible rfl); rotate_left; (simp only [Act.put, sA, sZ, sS, i64_w, i32_w]; rfl)
                            refine puA (i := 3) (N := 83) (v := ?_) (a' := ?_) (bv 32 15) HT_ ?_ ?_ ?_; rotate_left; (intro w'; go_simp; with_reducible rfl); rotate_left; (simp only [Act.put, sA, sZ, sS, i64_w, i32_w]; rfl)
                            refine puA (i := 4) (N := 84) (v := ?_) (a' := ?_) (bv 32 31) HT_ ?_ ?_ ?_; rotate_left; (intro w'; go_simp; with_reducible rfl); rotate_left; (simp only [Act.put, sA, sZ, sS, i64_w, i32_w]; rfl)
                            refine puA (i := 6) (N := 86) (v := ?_) (a' := ?_) (bv 32 95) HT_ ?_ ?_ ?_; rotate_left; (intro w'; go_simp; with_reducible rfl); rotate_left; (simp only [Act.put, sA, sZ, sS, i64_w, i32_w]; rfl)
                            refine puA (i := 7) (N := 87) (v := ?_) (a' := ?_) (bv 32 223) HT_ ?_ ?_ ?_; rotate_left; (intro w'; go_simp; with_reducible rfl); rotate_left; (simp only [Act.put, sA, sZ, sS, i64_w, i32_w]; rfl)
                            refine puA (i := 8) (N := 88) (v := ?_) (a' := ?_) (bv 32 479) HT_ ?_ ?_ ?_; rotate_left; (intro w'; go_simp; with_reducible rfl); rotate_left; (simp only [Act.put, sA, sZ, sS, i64_w, i32_w]; rfl)
                            refine puA (i := 9) (N := 89) (v := ?_) (a' := ?_) (bv 32 991) HT_ ?_ ?_ ?_; rotate_left; (intro w'; go_simp; with_reducible rfl); rotate_left; (simp only [Act.put, sA, sZ, sS, i64_w, i32_w]; rfl)
                            refine puA (i := 10) (N := 90) (v := ?_) (a' := ?_) (bv 32 2015) HT_ ?_ ?_ ?_; rotate_left; (intro w'; go_simp; with_reducible rfl); rotate_left; (simp only [Act.put, sA, sZ, sS, i64_w, i32_w]; rfl)
                            refine puA (i := 11) (N := 91) (v := ?_) (a' := ?_) (bv 32 4063) HT_ ?_ ?_ ?_; rotate_left; (intro w'; go_simp; with_reducible rfl); rotate_left; (simp only [Act.put, sA, sZ, sS, i64_w, i32_w]; rfl)
                            refine puA (i := 13) (N := 93) (v := ?_) (a' := ?_) (bv 32 12255) HT_ ?_ ?_ ?_; rotate_left; (intro w'; go_simp; with_reducible rfl); rotate_left; (simp only [Act.put, sA, sZ, sS, i64_w, i32_w]; rfl)
                            refine puA (i := 14) (N := 94) (v := ?_) (a' := ?_) (bv 32 28639) HT_ ?_ ?_ ?_; rotate_left; (intro w'; go_simp; with_reducible rfl); rotate_left; (simp only [Act.put, sA, sZ, sS, i64_w, i32_w]; rfl)
                            refine puA (i := 15) (N := 95) (v := ?_) (a' := ?_) (bv 32 61407) HT_ ?_ ?_ ?_; rotate_left; (intro w'; go_simp; with_reducible rfl); rotate_left; (simp only [Act.put, sA, sZ, sS, i64_w, i32_w]; rfl)
                            refine puA (i := 16) (N := 96) (v := ?_) (a' := ?_) (bv 32 126943) HT_ ?_ ?_ ?_; rotate_left; (intro w'; go_simp; with_reducible rfl); rotate_left; (simp only [Act.put, sA, sZ, sS, i64_w, i32_w]; rfl)
                            refine puA (i := 17) (N := 97) (v := ?_) (a' := ?_) (bv 32 258015) HT_ ?_ ?_ ?_; rotate_left; (intro w'; go_simp; with_reducible rfl); rotate_left; (simp only [Act.put, sA, sZ, sS, i64_w, i32_w]; rfl)
                            refine puA (i := 18) (N := 98) (v := ?_) (a' := ?_) (bv 32 520159) HT_ ?_ ?_ ?_; rotate_left; (intro w'; go_simp; with_reducible rfl); rotate_left; (simp only [Act.put, sA, sZ, sS, i64_w, i32_w]; rfl)
                            refine puA (i := 20) (N := 100) (v := ?_) (a' := ?_) (bv 32 1568735) HT_ ?_ ?_ ?_; rotate_left; (intro w'; go_simp; with_reducible rfl); rotate_left; (simp only [Act.put, sA, sZ, sS, i64_w, i32_w]; rfl)
                            refine puA (i := 21) (N := 101) (v := ?_) (a' := ?_) (bv 32 3665887) HT_ ?_ ?_ ?_; rotate_left; (intro w'; go_simp; with_reducible rfl); rotate_left; (simp only [Act.put, sA, sZ, sS, i64_w, i32_w]; rfl)
                            refine puA (i := 22) (N := 102) (v := ?_) (a' := ?_) (bv 32 7860191) HT_ ?_ ?_ ?_; rotate_left; (intro w'; go_simp; with_reducible rfl); rotate_left; (simp only [Act.put, sA, sZ, sS, i64_w, i32_w]; rfl)
                            refine puA (i := 23) (N := 103) (v := ?_) (a' := ?_) (bv 32 16248799) HT_ ?_ ?_ ?_; rotate_left; (intro w'; go_simp; with_reducible rfl); rotate_left; (simp only [Act.put, sA, sZ, sS, i64_w, i32_w]; rfl)
                            refine puA (i := 25) (N := 105) (v := ?_) (a' := ?_) (bv 32 49803231) HT_ ?_ ?_ ?_; rotate_left; (intro w'; go_simp; with_reducible rfl); rotate_left; (simp only [Act.put, sA, sZ, sS, i64_w, i32_w]; rfl)
                            refine puA (i := 26) (N := 106) (v := ?_) (a' := ?_) (bv 32 116912095) HT_ ?_ ?_ ?_; rotate_left; (intro w'; go_simp; with_reducible rfl); rotate_left; (simp only [Act.put, sA, sZ, sS, i64_w, i32_w]; rfl)
                            refine puA (i := 27) (N := 107) (v := ?_) (a' := ?_) (bv 32 251129823) HT_ ?_ ?_ ?_; rotate_left; (intro w'; go_simp; with_reducible rfl); rotate_left; (simp only [Act.put, sA, sZ, sS, i64_w, i32_w]; rfl)
                            refine puA (i := 28) (N := 108) (v := ?_) (a' := ?_) (bv 32 519565279) HT_ ?_ ?_ ?_; rotate_left; (intro w'; go_simp; with_reducible rfl); rotate_left; (simp only [Act.put, sA, sZ, sS, i64_w, i32_w]; rfl)
                            refine take_ (i := 5) (N := some 85) (v := ?_) (a' := ?_) (bv 32 519565311) rfl rfl (take_ofW HT_.out HW_.out (by kernel_rfl)) (fun _ _ _ h => h) (Or.inl ⟨by rfl, ?_⟩) hHeld ?_ ?_; rotate_left; (rintro w' ⟨s0, s1, s2, s3, s4⟩; go_simp; with_reducible rfl); rotate_left; (simp only [Act.put, sA, sZ, sS, i64_w, i32_w]; rfl)
                            refine take_ (i := 12) (N := some 92) (v := ?_) (a' := ?_) (bv 32 519569407) rfl rfl (take_ofW HT_.out HW_.out (by kernel_rfl)) (fun _ _ _ h => h) (Or.inl ⟨by rfl, ?_⟩) hHeld ?_ ?_; rotate_left; (rintro w' ⟨s0, s1, s2, s3, s4⟩; go_simp; with_reducible rfl); rotate_left; (simp only [Act.put, sA, sZ, sS, i64_w, i32_w]; rfl)
                            refine take_ (i := 19) (N := some 99) (v := ?_) (a' := ?_) (bv 32 520093695) rfl rfl (take_ofW HT_.out HW_.out (by kernel_rfl)) (fun _ _ _ h => h) (Or.inl ⟨by rfl, ?_⟩) hHeld ?_ ?_; rotate_left; (rintro w' ⟨s0, s1, s2, s3, s4⟩; go_simp; with_reducible rfl); rotate_left; (simp only [Act.put, sA, sZ, sS, i64_w, i32_w]; rfl)
                            refine take_ (i := 24) (N := some 104) (v := ?_) (a' := ?_) (bv 32 536870911) rfl rfl (take_ofW HT_.out HW_.out (by kernel_rfl)) (fun _ _ _ h => h) (Or.inl ⟨by rfl, ?_⟩) hHeld ?_ ?_; rotate_left; (rintro w' ⟨s0, s1, s2, s3, s4⟩; go_simp; with_reducible rfl); rotate_left; (simp only [Act.put, sA, sZ, sS, i64_w, i32_w]; rfl)
                            refine take_ (i := 29) (N := some 109) (v := ?_) (a' := ?_) (bv 32 1073741823) rfl rfl (take_ofW HT_.out HW_.out (by kernel_rfl)) (fun _ _ _ h => h) (Or.inl ⟨by rfl, ?_⟩) hHeld ?_ ?_; rotate_left; (rintro w' ⟨s0, s1, s2, s3, s4⟩; go_simp; with_reducible rfl); rotate_left; (simp only [Act.put, sA, sZ, sS, i64_w, i32_w]; rfl)
                            refine one_ (i := 30) (N := some 110) (bv 32 2147483647) rfl rfl (one_of HT_.out (by kernel_rfl)) (by decide) (fun K hK => ?_)
                            refine goes_ Try.func110 (by kernel_rfl) rfl #[.int .u32 (rd x13_1 (ji52)), .int .u32 (rd x13_1 (ji55)), .int .u32 (rd x13_1 (ji58)), .int .u32 (rd x14_1 (ji29)), .int .u32 (rd x14_1 (ji64))] (by rfl) rfl rfl (by (try simp only [mA, mC, mN]); first | done | (simp only [hji52, hji55, hji58, hji61, hji64]; rfl) | rfl | (simp only [lD, lT]; rfl)) ?_
                            with_reducible refine (nat_guess.calls k1 (rd x13_1 (ji52)) (rd x13_1 (ji55)) (rd x13_1 (ji58)) (rd x14_1 (ji29)) (rd x14_1 (ji64)) t223 _ A67.out).mono ?_
                            rintro e w' ⟨rfl, ⟨nd, rfl⟩⟩
                            refine ⟨_, rfl, ?_⟩
                            refine hK.out _ _ ⟨hHeld.1, hHeld.2.1, hHeld.2.2.1, hHeld.2.2.2.1, hHeld.2.2.2.2⟩ (fun hHeld => ?_)
                            clear hK K
                            refine norm_ (a' := ?_) ?_ ?_
                            rotate_left
                            ·show Act.put _ (some 110) _ = _
                             simp only [Act.put, sA, sZ, sS, i64_w, i32_w]
                             rfl
                            refine puA (i := 31) (N := 17) (v := ?_) (a' := ?_) (bv 32 4294967295) HT_ ?_ ?_ ?_; rotate_left; (intro w'; go_simp; with_reducible rfl); rotate_left; (simp only [Act.put, sA, sZ, sS, i64_w, i32_w]; rfl)
                            refine done_ (done_of HT_.out (by kernel_rfl)) ?_
                            have q91 : ((wrap64 ((ji52) + 1)) : Int) ≤ ((x13_1.length : Int) : Int) := of_decide_eq_true (by first | (with_reducible assumption) | assumption)
                            obtain ⟨i091, hi091, _, hsz91, _⟩ := info_parts info87
                            have hroom91 : x13_1.length ≤ co90 := (Kd.R_reads' HO_13.out).2.1
                            have hC91 : Kd.C (Kd.int .u32) _ (some ad218) x13_1.length x13_1 := (Kd.R_reads' HO_13.out).2.2
                            have ql91 : (x16_1 : Int) ≤ ((wrap64 ((ji52) + 1)) : Int) := of_decide_eq_true (by first | (with_reducible assumption) | assumption)
                            have q091 : (0 : Int) ≤ (x16_1 : Int) := of_decide_eq_true (by first | (with_reducible assumption) | assumption)
                            have hcut91 := cut_mid (P := Try.prog) 25 87 .i64 .i64 Try.underlying25 hi091 1 hsz91 (some ad218) x13_1.length co90 x16_1 (wrap64 ((ji52) + 1)) q091 ql91 q91 hroom91
                            have hr91 := Kd.C_mid (lo := (x16_1 : Int).toNat) (hi := ((wrap64 ((ji52) + 1)) : Int).toNat) (c := co90) hC91 (by omega) (by omega) hroom91
                            obtain ⟨A91, hA91⟩ : ∃ A1, A1 = (if co90 = (x16_1 : Int).toNat then (some ad218) else ((some ad218) : Option Addr).map (·.add ((x16_1 : Int).toNat * 1))) := ⟨_, rfl⟩
                            obtain ⟨c91, hc91⟩ : ∃ c1, c1 = co90 - (x16_1 : Int).toNat := ⟨_, rfl⟩
                            have hy91 : y224.length = ((wrap64 ((ji52) + 1)) : Int).toNat - (x16_1 : Int).toNat := (by rw [Ny224.out, lD, lT] <;> omega)
                            rw [show ((x13_1).take ((wrap64 ((ji52) + 1)) : Int).toNat).drop (x16_1 : Int).toNat = y224 from Ny224.out.symm] at hr91
                            replace hr91 : Kd.C (Kd.int .u32) _ A91 y224.length y224 := (by rw [hA91]; exact hr91)
                            rw [← hy91, ← hA91, ← hc91] at hcut91
                            have HR227 := mk0 hr91
                            have HC227 := mk0 (show y224.length ≤ c91 from by rw [hy91, hc91]; exact Nat.sub_le_sub_right (Nat.le_trans (by omega) hroom91) _)
                            clear hr91 hC91 hroom91 hi091 hsz91 hc91
                            have KY91 := mk0 hy91
                            have KA91 := mk0 hA91
                            clear hy91 hA91
                            have KL91 := mk0 (show ((wrap64 ((ji52) + 1)) : Int).toNat ≤ x13_1.length from by omega)
                            have KM91 := mk0 (show (x16_1 : Int).toNat ≤ ((wrap64 ((ji52) + 1)) : Int).toNat from by omega)
                            replace q91 := eq_true q91
                            try go_wp2_with (first | ((with_reducible refine gate_callee (f := 111) rfl ?_); refine goesL_ (some 120) rfl rfl Try.func111 (by kernel_rfl) rfl #[.slice A91 y224.length c91, .slice (some ad221) x14_1.length co47, .int .u64 t223] rfl (by (try simp only [mA, mC, mN]); first | done | rfl | (simp only [lD, lT]; rfl)) ?_; (with_reducible refine (nat_subtract.calls k1 (fun k_ => some k_ = (.slice (some ad218) x13_1.length co90 : Value).ownBlock) (.slice (some ad218) x13_1.length co90) x13_1 x16_1 (wrap64 ((ji52) + 1)) A91 _ c91 _ _ x14_1 t223 false t229 w _ ?side1 ?side2 ?side3 ?side4 ?side5 ?side6 A71.out).mono ?_); (case side1 => repeat (first | (with_reducible first | exact HB.out | apply bA | apply bN | apply b1) | exact HB.out)); (case side2 => exact Kd.R_tight rfl HO_13.out); (case side3 => intro _ _ _ e_; cases e_; exact KA91.out); (case side4 => exact KY91.out); (case side5 => exact Kd.C_kept_own (HO_14.out) (fun k_ hk_ hs_ => (hk_.2.1) hs_)); (case side6 => exact (Kd.R_reads' HO_14.out).2.1); rintro e w92 ⟨rfl, hy0, hb, hkp⟩; refine ⟨_, rfl, ?_⟩; replace HO_13 := mk0 (Kd.R_reok rfl hy0 (fun k_ e_ => HO_13.out.1 k_ e_)); replace HO_14 := mk0 (Rm (ok' := fun k_ => (w.heap.size ≤ k_) ∧ some k_ ≠ (.slice (some ad218) x13_1.length co90 : Value).ownBlock ∧ some k_ ≠ (v206 : Value).ownBlock) (Kd.R_keptB (HO_14.out) hkp (fun k_ hk_ hs_ => (hk_.2.1) hs_)) (fun k_ hk_ => ⟨hk_.1.1, hk_.1.2.1, hk_.1.2.2⟩)); replace HO_15 := mk0 (Rm (ok' := fun k_ => (w.heap.size ≤ k_) ∧ some k_ ≠ (.slice (some ad218) x13_1.length co90 : Value).ownBlock ∧ some k_ ≠ (.slice (some ad221) x14_1.length co47 : Value).ownBlock) (Kd.R_keptB (HO_15.out) hkp (fun k_ hk_ hs_ => (hk_.2.1) hs_)) (fun k_ hk_ => ⟨hk_.1.1, hk_.1.2.1, hk_.1.2.2⟩)); replace HB := mk0 (hb); (try clear hb); (try clear hkp); (try clear hy0); have p88 : 0 ≤ (x16_1 : Int) := of_decide_eq_true (by first | (with_reducible assumption) | assumption); have q88 : (x16_1 : Int) < ((x15_1.length : Int) : Int) := of_decide_eq_true (by first | (with_reducible assumption) | assumption); obtain ⟨go88, co88, eo88, gb88, gl88, cl88, HG88⟩ := Kd.R_form HO_15.out (by omega); (first | cases eo88 | (injection eo88 with ea_ en_ ec_; (first | subst ea_ | (injection ea_ with ea_; subst ea_)); subst ec_; clear en_)); have GB88 := mk0 gb88; have GG88 := mk0 HG88; clear gb88 gl88 HG88; obtain ⟨hx88_0, hf88_0⟩ := Kd.R_celln 0 HO_15.out (x16_1 : Int) p88 q88; replace p88 := eq_true p88; replace q88 := eq_true q88; obtain ⟨hy93_, hz93_⟩ := Kd.R_celln 0 HO_15.out (x16_1 : Int) (of_decide_eq_true (by first | (with_reducible assumption) | assumption)) (of_decide_eq_true (by first | (with_reducible assumption) | assumption)); have HP93 := Kd.R_putg HO_15.out (x16_1 : Int) ((t223) % 4294967296)) | ((with_reducible refine gate_store (t := 87) (p := 136) rfl ?_); refine store_event (t := 87) (p := 136) (v := ?vo_w94) (w1 := (w92.setCell ⟨go88, (x16_1 : Int).toNat, none⟩ (.int .u32 ((t223) % 4294967296)))) ?hg ?ho ?hn ?hr ?_; (case ho => rfl); (case hg => rfl); (case hn => rfl); (case hr => go_simp <;> rfl); intro w94 hw; have hg : w92.grownBy w94 (some go88) := (by rw [hw]; exact HP93.2); have hp_ : Kd.R (Kd.int .u32) 87 w94 w.heap.size (fun k_ => (w.heap.size ≤ k_) ∧ some k_ ≠ (.slice (some ad218) x13_1.length co90 : Value).ownBlock ∧ some k_ ≠ (.slice (some ad221) x14_1.length co47 : Value).ownBlock) (.slice (some ⟨go88, 0, none⟩) x15_1.length co88) y236 := (by rw [hw, Ny236.out]; exact HP93.1); clear HP93; replace HO_13 := mk0 (Kd.R_after (v := (.slice (some ⟨go88, 0, none⟩) x15_1.length co88)) (v1 := (.slice (some ⟨go88, 0, none⟩) x15_1.length co88)) (ok := (fun k_ => (w.heap.size ≤ k_) ∧ some k_ ≠ (.slice (some ad221) x14_1.length co47 : Value).ownBlock)) (by (with_reducible repeat apply Kd.R_drewN); exact Rm HO_13.out (fun _ hk => ⟨⟨hk.1, hk.2.1⟩, hk.2.2⟩)) hg (.inl rfl)); replace HO_14 := mk0 (Kd.R_after (v := (.slice (some ⟨go88, 0, none⟩) x15_1.length co88)) (v1 := (.slice (some ⟨go88, 0, none⟩) x15_1.length co88)) (ok := (fun k_ => (w.heap.size ≤ k_) ∧ some k_ ≠ (.slice (some ad218) x13_1.length co90 : Value).ownBlock)) (by (with_reducible repeat apply Kd.R_drewN); exact Rm HO_14.out (fun _ hk => ⟨⟨hk.1, hk.2.1⟩, hk.2.2⟩)) hg (.inl rfl)); replace HO_15 := mk0 (hp_); replace HB := mk0 ((by rw [hw]; exact bS (HB.out) GB88.out : Below w.heap.size w w94)); clear hg hw hp_))
                            (try simp only [← hl14_1])
                            go_roundg k1
                            case measure => have := HK1.out; omega
                            case rel => exact ⟨(t229), (x14_1), (y236), (wrap64 (x16_1 - 1)), (by first | rfl | (simp; done) | (simp [*]; done)), H', ⟨by have := HK1.out; omega⟩, ⟨by (try simp only [hl14_1]); (with_reducible repeat apply Kd.R_drewN); exact Rm HO_13.out (fun _ hk => ⟨hk.1.1, ⟨hk.1.2, hk.2⟩⟩)⟩, ⟨by (try simp only [hl14_1]); (with_reducible repeat apply Kd.R_drewN); exact Rm HO_14.out (fun _ hk => ⟨hk.1.1, ⟨hk.1.2, hk.2⟩⟩)⟩, ⟨by (try simp only [hl14_1]); (with_reducible repeat apply Kd.R_drewN); exact HO_15.out⟩, ⟨by repeat (first | exact HB.out | apply bN | apply b1 | apply bA)⟩⟩
                           ·rw [if_neg c87] at H
                            exact absurd H (by simp)
                         ·rw [if_neg c70] at H
                          exact absurd H (by simp)
                        ·rw [if_neg c69] at H
                         exact absurd H (by simp)
                       ·rw [if_neg c68] at H
                        exact absurd H (by simp)
                      ·rw [if_neg c66] at H
                       exact absurd H (by simp)
                     ·rw [if_neg c65] at H
                      exact absurd H (by simp)
                    ·rw [if_neg c63] at H
                     exact absurd H (by simp)
                   ·rw [if_neg c62] at H
                    exact absurd H (by simp)
                  ·rw [if_neg c60] at H
                   exact absurd H (by simp)
                 ·rw [if_neg c59] at H
                  exact absurd H (by simp)
                ·rw [if_neg c57] at H
                 exact absurd H (by simp)
               ·rw [if_neg c56] at H
                exact absurd H (by simp)
              ·rw [if_neg c54] at H
               exact absurd H (by simp)
             ·rw [if_neg c53] at H
              exact absurd H (by simp)
            ·rw [if_neg c51] at H
             have c51b0 : decide (0 ≤ x16_1) = false := decide_eq_false c51
             clear c51
             obtain ⟨t208, A95, H⟩ := bindA H
             by_cases c96 : 0 ≤ (t179.length : Int)
             ·rw [if_pos c96] at H
              have c96b0 := eq_true c96
              have c96b1 : decide (0 ≤ (t179.length : Int)) = true := decide_eq_true c96
              clear c96
              by_cases c97 : (t179.length : Int) ≤ (x13_1.length : Int)
              ·rw [if_pos c97] at H
               have c97b0 := eq_true c97
               have c97b1 : decide ((t179.length : Int) ≤ (x13_1.length : Int)) = true := decide_eq_true c97
               clear c97
               obtain ⟨y211, hy211⟩ : ∃ y_ : List Int, y_ = (x13_1.take ((t179.length : Int) : Int).toNat) := ⟨_, rfl⟩
               replace H : ((nat_shiftDown.f k1 y211 (IntKind.u64.wrap (t195))).bind fun t215 => (some (t208, t215, true))) = some (r1, r2, r3) := by first | (rw [hy211]; with_reducible exact H) | (have H2_ := (Option.bind_some _ _).symm.trans H; rw [hy211]; with_reducible exact H2_) | (have H2_ := (Option.bind_some _ _).symm.trans H; with_reducible exact H2_) | with_reducible exact H | (rw [hy211]; exact H) | exact H
               have Ny211 := mk0 hy211
               clear hy211
               obtain ⟨t215, A98, H⟩ := bindA H
               simp only [Option.some.injEq, Prod.mk.injEq] at H
               obtain ⟨rfl, rfl, rfl⟩ := H
               try go_wp2
               replace HO_13 := mk0 (Kd.R_drew HO_13.out)
               replace HO_14 := mk0 (Kd.R_drew HO_14.out)
               replace HO_15 := mk0 (Kd.R_drew HO_15.out)
               replace HB := mk0 (b1 HB.out)
               obtain ⟨Ao101, co101, eo101⟩ := Kd.R_slice HO_13.out
               (first | subst eo101 | (injection eo101 with f1_ f2_ f3_; have f4_ := f1_.symm; have f5_ := f3_.symm; clear f1_ f2_ f3_; subst f4_; subst f5_))
               have q100 : ((t179.length : Int) : Int) ≤ ((x13_1.length : Int) : Int) := of_decide_eq_true (by first | (with_reducible assumption) | assumption)
               obtain ⟨i0100, hi0100, _, hsz100, _⟩ := info_parts info87
               have hroom100 : x13_1.length ≤ co101 := (Kd.R_reads' HO_13.out).2.1
               have hC100 : Kd.C (Kd.int .u32) _ Ao101 x13_1.length x13_1 := (Kd.R_reads' HO_13.out).2.2
               have hcut100 := cut_to (P := Try.prog) 25 87 .i64 Try.underlying25 hi0100 Ao101 x13_1.length co101 (t179.length : Int) (of_decide_eq_true (by first | (with_reducible assumption) | assumption)) q100 hroom100
               have hr100 := Kd.C_take (m := ((t179.length : Int) : Int).toNat) hC100 (by omega)
               have hy100 : y211.length = ((t179.length : Int) : Int).toNat := (by rw [Ny211.out, lT]; omega)
               rw [← Ny211.out] at hr100
               rw [← hy100] at hcut100
               have HR214 := mk0 hr100
               have HC214 := mk0 (show y211.length ≤ co101 from by omega)
               clear hr100 hC100 hroom100 hi0100 hsz100
               have KY100 := mk0 hy100
               clear hy100
               have KL100 := mk0 (show ((t179.length : Int) : Int).toNat ≤ x13_1.length from by omega)
               replace q100 := eq_true q100
               obtain ⟨Ao102, co102, eo102⟩ := Kd.R_slice HO_15.out
               (first | subst eo102 | (injection eo102 with f1_ f2_ f3_; have f4_ := f1_.symm; have f5_ := f3_.symm; clear f1_ f2_ f3_; subst f4_; subst f5_))
               refine start_ (n := 10) (S := fun w' => True) (ds := []) (bv 10 0) (by kernel_rfl) rfl rfl trivial (fun hHeld => ?_); refine with_tabW nat_DivMod.tab22 nat_DivMod.bits22 (fun HT_ HW_ => ?_)
               generalize wr.drew = w99 at HO_13 HO_14 HO_15 HB HR214 hHeld ⊢
               refine puA (i := 0) (N := 137) (v := ?_) (a' := ?_) (bv 10 1) HT_ ?_ ?_ ?_; rotate_left; (intro w'; go_simp; with_reducible rfl); rotate_left; (simp only [Act.put, sA, sZ, sS, i64_w, i32_w]; rfl)
               refine puA (i := 2) (N := 139) (v := ?_) (a' := ?_) (bv 10 5) HT_ ?_ ?_ ?_; rotate_left; (intro w'; go_simp; with_reducible rfl); rotate_left; (simp only [Act.put, sA, sZ, sS, i64_w, i32_w]; rfl)
               refine puA (i := 3) (N := 140) (v := ?_) (a' := ?_) (bv 10 13) HT_ ?_ ?_ ?_; rotate_left; (intro w'; go_simp; with_reducible rfl); rotate_left; (simp only [Act.put, sA, sZ, sS, i64_w, i32_w]; rfl)
               refine puA (i := 4) (N := 141) (v := ?_) (a' := ?_) (bv 10 29) HT_ ?_ ?_ ?_; rotate_left; (intro w'; go_simp; with_reducible rfl); rotate_left; (simp only [Act.put, sA, sZ, sS, i64_w, i32_w]; rfl)
               refine puA (i := 5) (N := 142) (v := ?_) (a' := ?_) (bv 10 61) HT_ ?_ ?_ ?_; rotate_left; (intro w'; go_simp; with_reducible rfl); rotate_left; (simp only [Act.put, sA, sZ, sS, i64_w, i32_w]; rfl)
               refine one_ (i := 1) (N := some 138) (bv 10 63) rfl rfl (one_of HT_.out (by kernel_rfl)) (by decide) (fun K hK => ?_)
               refine goes_ Try.func81 (by kernel_rfl) rfl #[.slice Ao102 x15_1.length co102] (by rfl) rfl rfl (by (try simp only [mA, mC, mN]); first | done | rfl | (simp only [lD, lT]; rfl)) ?_
               with_reducible refine (nat_trim.calls k1 (fun k_ => some k_ = (.slice Ao102 x15_1.length co102 : Value).ownBlock) _ _ x15_1 t208 _ ?side1 A95.out).mono ?_
               (case side1 => exact Kd.R_V (Kd.R_tight rfl (HO_15.out)))
               rintro e w103 ⟨v209, rfl, ho0, hb⟩
               refine ⟨_, rfl, ?_⟩
               have HO210 := mk0 (Vl (Vm (ok' := fun k_ => ((P0_ k_ ∨ P1_ k_) ∨ w.heap.size ≤ k_) ∧ some k_ ≠ (.slice Ao101 x13_1.length co101 : Value).ownBlock ∧ some k_ ≠ (.slice Ao47 x14_1.length co47 : Value).ownBlock) ho0 (fun k_ hk_ => ⟨Or.elim hk_ (fun hs_ => (.inr (((HO_15.out).1 k_ hs_.symm).1))) (fun hn_ => (.inr (Nat.le_trans (bZ (by repeat (first | exact HB.out | apply bN | apply b1 | apply bA))) hn_))), Or.elim hk_ (fun hs_ => ((HO_15.out).1 k_ hs_.symm).2.1) (fun hn_ => (Kd.fresh' (Rq (by (with_reducible repeat apply Kd.R_drewN); exact HO_13.out)) k_ hn_)), Or.elim hk_ (fun hs_ => ((HO_15.out).1 k_ hs_.symm).2.2) (fun hn_ => (Kd.fresh' (Rq (by (with_reducible repeat apply Kd.R_drewN); exact HO_14.out)) k_ hn_))⟩)) (bZ (by repeat (first | exact HB.out | apply bN | apply b1 | apply bA))))
               replace HO_13 := (by first | exact rB HO_13 hb | exact rD HO_13 hb)
               replace HO_14 := (by first | exact rB HO_14 hb | exact rD HO_14 hb)
               replace HO_15 := (by first | exact rB HO_15 hb | exact rD HO_15 hb)
               replace HR214 := mk0 (Cb (by repeat (first | (with_reducible exact HR214.out) | (with_reducible refine Kd.C_alloc ?_ _) | (with_reducible refine Kd.C_drewN ?_ _) | (with_reducible refine Kd.C_drew ?_) | exact HR214.out)) hb)
               replace HB := (by first | exact hbS HB hb | exact hbD HB hb)
               (try clear hb)
               (try clear hb2)
               (try clear hk)
               (try clear hi)
               (try clear ho0)
               refine hK.out _ _ trivial (fun hHeld => ?_)
               clear hK K
               refine norm_ (a' := ?_) ?_ ?_
               rotate_left
               ·show Act.put _ (some 138) _ = _
                simp only [Act.put, sA, sZ, sS, i64_w, i32_w]
                rfl
               refine one_ (i := 6) (N := some 143) (bv 10 127) rfl rfl (one_of HT_.out (by kernel_rfl)) (by decide) (fun K hK => ?_)
               refine goes_ Try.func113 (by kernel_rfl) rfl #[.slice Ao101 y211.length co101, .int .u64 (IntKind.u64.wrap (t195))] (by rfl) rfl rfl (by (try simp only [mA, mC, mN]); first | done | rfl | (simp only [lD, lT]; rfl)) ?_
               with_reducible refine (nat_shiftDown.calls k1 _ _ y211 (IntKind.u64.wrap (t195)) t215 _ ?side1 ?side2 A98.out).mono ?_
               (case side1 => repeat (first | exact (by repeat (first | (with_reducible exact HR214.out) | (with_reducible refine Kd.C_alloc ?_ _) | (with_reducible refine Kd.C_drewN ?_ _) | (with_reducible refine Kd.C_drew ?_) | exact HR214.out)) | (with_reducible refine Kd.C_alloc ?_ _) | (with_reducible refine Kd.C_drewN ?_ _) | (with_reducible refine Kd.C_drew ?_)))
               (case side2 => exact HC214.out)
               rintro e w104 ⟨v216, rfl, ho0, hb⟩
               refine ⟨_, rfl, ?_⟩
               replace HO210 := mk0 (Kd.V_below (by (with_reducible repeat apply Kd.V_drewN); exact HO210.out) hb)
               have HO217 := mk0 (Vl (Vm (ok' := fun k_ => ((P0_ k_ ∨ P1_ k_) ∨ w.heap.size ≤ k_) ∧ some k_ ≠ (.slice Ao101 x13_1.length co101 : Value).ownBlock ∧ some k_ ≠ (.slice Ao47 x14_1.length co47 : Value).ownBlock ∧ some k_ ≠ (.slice Ao102 x15_1.length co102 : Value).ownBlock) ho0 (fun k_ hk_ => ⟨(.inr (Nat.le_trans (bZ (by repeat (first | exact HB.out | apply bN | apply b1 | apply bA))) hk_)), (Kd.fresh' (Rq (by (with_reducible repeat apply Kd.R_drewN); exact HO_13.out)) k_ hk_), (Kd.fresh' (Rq (by (with_reducible repeat apply Kd.R_drewN); exact HO_14.out)) k_ hk_), (Kd.fresh' (Rq (by (with_reducible repeat apply Kd.R_drewN); exact HO_15.out)) k_ hk_)⟩)) (bZ (by repeat (first | exact HB.out | apply bN | apply b1 | apply bA))))
               replace HO_13 := (by first | exact rB HO_13 hb | exact rD HO_13 hb)
               replace HO_14 := (by first | exact rB HO_14 hb | exact rD HO_14 hb)
               replace HO_15 := (by first | exact rB HO_15 hb | exact rD HO_15 hb)
               replace HR214 := mk0 (Cb (by repeat (first | (with_reducible exact HR214.out) | (with_reducible refine Kd.C_alloc ?_ _) | (with_reducible refine Kd.C_drewN ?_ _) | (with_reducible refine Kd.C_drew ?_) | exact HR214.out)) hb)
               replace HB := (by first | exact hbS HB hb | exact hbD HB hb)
               (try clear hb)
               (try clear hb2)
               (try clear hk)
               (try clear hi)
               (try clear ho0)
               refine hK.out _ _ trivial (fun hHeld => ?_)
               clear hK K
               refine norm_ (a' := ?_) ?_ ?_
               rotate_left
               ·show Act.put _ (some 143) _ = _
                simp only [Act.put, sA, sZ, sS, i64_w, i32_w]
                rfl
               refine puA (i := 7) (N := 4) (v := ?_) (a' := ?_) (bv 10 255) HT_ ?_ ?_ ?_; rotate_left; (intro w'; go_simp; with_reducible rfl); rotate_left; (simp only [Act.put, sA, sZ, sS, i64_w, i32_w]; rfl)
               refine puA (i := 8) (N := 5) (v := ?_) (a' := ?_) (bv 10 511) HT_ ?_ ?_ ?_; rotate_left; (intro w'; go_simp; with_reducible rfl); rotate_left; (simp only [Act.put, sA, sZ, sS, i64_w, i32_w]; rfl)
               refine puA (i := 9) (N := 6) (v := ?_) (a' := ?_) (bv 10 1023) HT_ ?_ ?_ ?_; rotate_left; (intro w'; go_simp; with_reducible rfl); rotate_left; (simp only [Act.put, sA, sZ, sS, i64_w, i32_w]; rfl)
               refine done_ (done_of HT_.out (by kernel_rfl)) ?_
               try go_wp2
               go_ret3
               exact ⟨_, _, by first | rfl | (simp [errW_none, errW_some] <;> rfl) | (simp only [← hji29, ← hji37]; first | rfl | (simp [errW_none, errW_some] <;> rfl)) | (simp [*, errW_none, errW_some] <;> rfl), by (with_reducible repeat apply Kd.V_drewN); exact Vm HO210.out (fun _ hk => hk.1), by (with_reducible repeat apply Kd.V_drewN); exact Vm HO217.out (fun _ hk => hk.1), by repeat (first | exact HB.out | apply bN | apply b1 | apply bA)⟩
              ·rw [if_neg c97] at H
               exact absurd H (by simp)
             ·rw [if_neg c96] at H
              exact absurd H (by simp)
         ·rw [if_neg c39] at H
          exact absurd H (by simp)
        ·rw [if_neg c38] at H
         exact absurd H (by simp)
       ·rw [if_neg c36] at H
        exact absurd H (by simp)
      ·rw [if_neg c35] at H
       exact absurd H (by simp)
     ·rw [if_neg c31] at H
      exact absurd H (by simp)
    ·rw [if_neg c30] at H
     exact absurd H (by simp)
set_option maxHeartbeats 8000000 in
set_option maxRecDepth 100000 in
theorem nat_Gcd.calls (k : Nat) (A0 : Option Addr) (c0 : Nat) (l0 : List Int) (A1 : Option Addr) (c1 : Nat) (l1 : List Int) (r : List Int) (w : World) (hr0 : Kd.C (Kd.int .u32) w A0 l0.length l0) (hc0 : l0.length ≤ c0) (hr1 : Kd.C (Kd.int .u32) w A1 l1.length l1) (hc1 : l1.length ≤ c1) (h : nat_Gcd.f k l0 l1 = some r) :
  Calls Try.prog 79 #[.slice A0 l0.length c0, .slice A1 l1.length c1] w fun e w' => ∃ v0_ : Value, e = .returned (v0_) ∧ Kd.V (Kd.int .u32) 87 w' w.heap.size (fun k_ => (w.heap.size ≤ k_)) v0_ r ∧ Below w.heap.size w w' := by
 have HR0 := mk0 hr0
 have HC0 := mk0 hc0
 clear hr0 hc0
 have HR1 := mk0 hr1
 have HC1 := mk0 hc1
 clear hr1 hc1
 have HB := mk0 (Below.refl w.heap.size w)
 have H : ((nat_Norm.f k l0).bind fun t323 => ((nat_Norm.f k l1).bind fun t326 => (nat_Gcd.l0 k t323 t326))) = some r := h
 clear h
 obtain ⟨t323, A3, H⟩ := bindA H
 obtain ⟨t326, A4, H⟩ := bindA H
 have H' := mk0 H
 clear H
 go_enter Try.func79, Try.ntmps79
 go_wp2_with (first | ((with_reducible refine gate_callee (f := 106) rfl ?_); refine goA 11 Try.func106 #[.slice A0 l0.length c0] ?_; (with_reducible refine (nat_Norm.calls k _ _ l0 t323 _ HR0.out HC0.out A3.out).mono ?_); rintro e w5 ⟨v324, rfl, ho0, hb⟩; refine ⟨_, rfl, ?_⟩; have HO325 := mk0 (Rl (Kd.R_newM (M := fun k_ => (w.heap.size ≤ k_)) ho0 (bZ HB.out) (fun k_ h_ => h_)) (bZ HB.out)); replace HB := hbS HB hb) | ((with_reducible refine gate_callee (f := 106) rfl ?_); refine goA 13 Try.func106 #[.slice A1 l1.length c1] ?_; (with_reducible refine (nat_Norm.calls k _ _ l1 t326 _ (by exact Cb HR1.out HB.out) HC1.out A4.out).mono ?_); rintro e w6 ⟨v327, rfl, ho0, hb⟩; refine ⟨_, rfl, ?_⟩; have HO328 := mk0 (Rl (Rn (Kd.R_newM (M := fun k_ => (w.heap.size ≤ k_)) ho0 (bZ HB.out) (fun k_ h_ => h_)) (Rq HO325.out)) (bZ HB.out)); replace HO325 := mk0 (Re HO325.out (Rs ho0) hb); replace HB := hbS HB hb))
 go_loopg [5, 6] k (fun kq v5 v6 w' => ∃ (x5_1 : List Int) (x6_1 : List Int), Aside0 (nat_Gcd.l0 kq x5_1 x6_1 = some r) ∧ Aside0 (kq ≤ k) ∧ Aside0 (Kd.V (Kd.int .u32) 87 w' w.heap.size (fun k_ => (w.heap.size ≤ k_)) v5 x5_1) ∧ Aside0 (Kd.V (Kd.int .u32) 87 w' w.heap.size (fun k_ => (w.heap.size ≤ k_)) v6 x6_1) ∧ Aside0 (Below w.heap.size w w'))
 case atStart => exact ⟨(t323), (t326), H', ⟨Nat.le_refl _⟩, ⟨Kd.R_V (Rm HO325.out (fun _ hk => hk.1.1))⟩, ⟨Kd.R_V (Rm HO328.out (fun _ hk => hk.1.1))⟩, ⟨by repeat (first | exact HB.out | apply bN | apply b1 | apply bA)⟩⟩
 case round =>
  clear H'
  try clear c1
  try clear p2
  obtain ⟨x5_1, x6_1, HA, HK1, HO_5, HO_6, HB⟩ := hrel
  cases gk with
  | zero => exact absurd HA.out (by simp [nat_Gcd.l0])
  | succ k1 =>
   have H := HA.out
   clear HA
   simp only [nat_Gcd.l0] at H
   by_cases c7 : (x6_1.length : Int) > 0
   ·rw [if_pos c7] at H
    have c7b0 : decide (0 < (x6_1.length : Int)) = true := decide_eq_true c7
    have c7b1 : decide (0 < x6_1.length) = true := decide_eq_true (by omega)
    clear c7
    obtain ⟨⟨t329, t332, t335⟩, A8, H⟩ := bindA H
    have H' := mk0 H
    clear H
    obtain ⟨Ao9, co9, eo9⟩ := Kd.V_slice HO_6.out
    subst eo9
    obtain ⟨Ao10, co10, eo10⟩ := Kd.V_slice HO_5.out
    subst eo10
    go_wp2_with (first | ((with_reducible refine gate_callee (f := 80) rfl ?_); refine goA 20 Try.func80 #[.slice Ao10 x5_1.length co10, .slice Ao9 x6_1.length co9] ?_; (with_reducible refine (nat_DivMod.calls k1 (fun k_ => (w.heap.size ≤ k_)) _ _ x5_1 (fun k_ => (w.heap.size ≤ k_)) _ _ x6_1 t329 t332 t335 _ HO_5.out HO_6.out A8.out).mono ?_); rintro e w11 ⟨v330, v333, rfl, ho0, ho1, hb⟩; refine ⟨_, rfl, ?_⟩; replace HO_5 := mk0 (Kd.V_below HO_5.out hb); replace HO_6 := mk0 (Kd.V_below HO_6.out hb); have HO334 := mk0 (Vl (Vm (ok' := fun k_ => (w.heap.size ≤ k_)) ho1 (fun k_ hk_ => Or.elim hk_ (fun hs_ => Or.elim hs_ (fun hs_ => hs_) (fun hs_ => hs_)) (fun hn_ => (Nat.le_trans (bZ HB.out) hn_)))) (bZ HB.out)); replace HB := hbS HB hb))
    go_roundg k1
    case measure => have := HK1.out; omega
    case rel => exact ⟨(x6_1), (t332), H', ⟨by have := HK1.out; omega⟩, ⟨HO_6.out⟩, ⟨HO334.out⟩, ⟨by repeat (first | exact HB.out | apply bN | apply b1 | apply bA)⟩⟩
   ·rw [if_neg c7] at H
    have c7b0 : decide (0 < (x6_1.length : Int)) = false := decide_eq_false c7
    have c7b1 : decide (0 < x6_1.length) = false := decide_eq_false (by omega)
    clear c7
    obtain rfl := Option.some.inj H
    obtain ⟨Ao12, co12, eo12⟩ := Kd.V_slice HO_6.out
    subst eo12
    go_wp2
    go_ret
    exact ⟨_, by first | rfl | (simp [errW_none, errW_some] <;> rfl) | (simp [*, errW_none, errW_some] <;> rfl), HO_5.out, by repeat (first | exact HB.out | apply bN | apply b1 | apply bA)⟩
set_option maxHeartbeats 8000000 in
set_option maxRecDepth 100000 in
theorem ratio_lowest.calls (k : Nat) (a0_0 : Bool) (P0_1_ : Nat → Prop) (A0_1 : Option Addr) (c0_1 : Nat) (l0_1 : List Int) (P1_ : Nat → Prop) (A1 : Option Addr) (c1 : Nat) (l1 : List Int) (r1 : Bool) (r2 : List Int) (r3 : List Int) (w : World) (hs0_1 : Kd.V (Kd.int .u32) 87 w w.heap.size (fun k_ => P0_1_ k_) (.slice A0_1 l0_1.length c0_1) l0_1) (hs1 : Kd.V (Kd.int .u32) 87 w w.heap.size (fun k_ => P1_ k_) (.slice A1 l1.length c1) l1) (h : ratio_lowest.f k a0_0 l0_1 l1 = some (r1, r2, r3)) :
  Calls Try.prog 53 #[.agg #[.bool a0_0, .slice A0_1 l0_1.length c0_1], .slice A1 l1.length c1] w fun e w' => ∃ v1_ v2_ : Value, e = .returned (.agg #[.bool r1, v1_, v2_]) ∧ Kd.R (Kd.int .u32) 87 w' w.heap.size (fun k_ => (w.heap.size ≤ k_)) v1_ r2 ∧ Kd.V (Kd.int .u32) 87 w' w.heap.size (fun k_ => ((P0_1_ k_ ∨ P1_ k_) ∨ w.heap.size ≤ k_) ∧ some k_ ≠ (v1_ : Value).ownBlock) v2_ r3 ∧ Below w.heap.size w w' := by
 have hu27 := Try.underlying27
 have hu29 := Try.underlying29
 have HO0_1 := mk0 (show Kd.V (Kd.int .u32) 87 w w.heap.size (fun k_ => ((P0_1_ k_ ∨ P1_ k_) ∨ w.heap.size ≤ k_)) (.slice A0_1 l0_1.length c0_1) l0_1 from Vm hs0_1 (fun k_ hk => .inl (.inl hk)))
 have HO1 := mk0 (show Kd.V (Kd.int .u32) 87 w w.heap.size (fun k_ => ((P0_1_ k_ ∨ P1_ k_) ∨ w.heap.size ≤ k_)) (.slice A1 l1.length c1) l1 from Vm hs1 (fun k_ hk => .inl (.inr hk)))
 have HB := mk0 (Below.refl w.heap.size w)
 have H : ((nat_Gcd.f k l0_1 l1).bind fun t338 => ((nat_Bits.f k l1).bind fun t341 => (if t341 = 0 then (ratio_lowest.j0 k l1 t338 true a0_0 l0_1) else ((nat_Bits.f k l0_1).bind fun t342 => (ratio_lowest.j0 k l1 t338 (t342 == 0) a0_0 l0_1))))) = some (r1, r2, r3) := h
 clear h
 obtain ⟨t338, A3, H⟩ := bindA H
 have HC4 := mk0 H
 clear H
 go_enter Try.func53, Try.ntmps53
 go_upto_region 2 with (first | ((with_reducible refine gate_dst (N := 2) rfl ?_); refine box_event rfl (N := 2) rfl (cs := #[.bool a0_0, .slice A0_1 l0_1.length c0_1]) (t := 27) (by go_simp <;> rfl) ?_; intro gb336 hg w5 hbox hb; replace HO0_1 := vB HO0_1 hg hb; replace HO1 := vB HO1 hg hb; have BK336 := mk0 (hbox); have GE336 := geB hg HB; replace HB := hbS HB hb; clear hb hbox hg) | ((with_reducible refine gate_dst (N := 4) rfl ?_); refine box_event rfl (N := 4) rfl (cs := #[.bool false, .slice none 0 0, .slice none 0 0]) (t := 29) (by go_simp <;> rfl) ?_; intro gb337 hg w6 hbox hb; replace HO0_1 := vB HO0_1 hg hb; replace HO1 := vB HO1 hg hb; have BK337 := mk0 (hbox); have GE337 := geB hg HB; replace HB := hbS HB hb; have NB336_337 := nbA hg BK336; have NB337_336 := nbB hg BK336; replace BK336 := bkB BK336 hb; clear hb hbox hg; have hnb7 := NB336_337.out; have hnc7 := NB337_336.out; obtain ⟨hcz8_0, hcz8_1, hfz8_0, hfz8_1⟩ := cz2 BK336) | ((with_reducible refine gate_callee (f := 79) rfl ?_); refine goA 15 Try.func79 #[.slice A0_1 l0_1.length c0_1, .slice A1 l1.length c1] ?_; (with_reducible refine (nat_Gcd.calls k _ _ l0_1 _ _ l1 t338 _ (by exact (Kd.V_reads' HO0_1.out).2.2) (by exact (Kd.V_reads' HO0_1.out).2.1) (by exact (Kd.V_reads' HO1.out).2.2) (by exact (Kd.V_reads' HO1.out).2.1) A3.out).mono ?_); rintro e w9 ⟨v339, rfl, ho0, hb⟩; refine ⟨_, rfl, ?_⟩; replace HO0_1 := mk0 (Kd.V_below HO0_1.out hb); replace HO1 := mk0 (Kd.V_below HO1.out hb); have HO340 := mk0 (Vl (Vm (ok' := fun k_ => ((P0_1_ k_ ∨ P1_ k_) ∨ w.heap.size ≤ k_) ∧ k_ ≠ gb336 ∧ k_ ≠ gb337) ho0 (fun k_ hk_ => ⟨(.inr (Nat.le_trans (bZ HB.out) hk_)), (Kd.freshB BK336.out k_ hk_), (Kd.freshB BK337.out k_ hk_)⟩)) (bZ HB.out)); replace BK336 := bkB BK336 hb; replace BK337 := bkB BK337 hb; replace HB := hbS HB hb))
 (try simp only [Act.put, sA, sZ, sS])
 go_cut [24] (fun v24 wc => ∃ (kq : Nat) (x24_3 : Bool), v24 = .bool x24_3 ∧ Aside0 (ratio_lowest.j0 kq l1 t338 x24_3 a0_0 l0_1 = some (r1, r2, r3)) ∧ Aside0 (kq ≤ k) ∧ Aside0 (Kd.V (Kd.int .u32) 87 wc w.heap.size (fun k_ => ((P0_1_ k_ ∨ P1_ k_) ∨ w.heap.size ≤ k_) ∧ k_ ≠ gb336 ∧ k_ ≠ gb337) (.slice A1 l1.length c1) l1) ∧ Aside0 (Kd.V (Kd.int .u32) 87 wc w.heap.size (fun k_ => ((P0_1_ k_ ∨ P1_ k_) ∨ w.heap.size ≤ k_) ∧ k_ ≠ gb336 ∧ k_ ≠ gb337) v339 t338) ∧ Aside0 (Kd.V (Kd.int .u32) 87 wc w.heap.size (fun k_ => ((P0_1_ k_ ∨ P1_ k_) ∨ w.heap.size ≤ k_) ∧ k_ ≠ gb336 ∧ k_ ≠ gb337) (.slice A0_1 l0_1.length c0_1) l0_1) ∧ Aside0 (wc.heap[gb336]? = some (.cells #[.bool a0_0, (.slice A0_1 l0_1.length c0_1)] 27 (0, 0))) ∧ Aside0 (wc.heap[gb337]? = some (.cells #[.bool false, (.slice none 0 0), (.slice none 0 0)] 29 (0, 0))) ∧ Aside0 (Below w.heap.size w wc))
 case first =>
  have H := HC4.out
  clear HC4
  obtain ⟨t341, A10, H⟩ := bindA H
  by_cases c11 : t341 = 0
  ·rw [if_pos c11] at H
   have c11b0 : (t341 == 0) = true := beq_iff_eq.mpr c11
   have c11b1 : (t341 != 0) = false := bne_eq_false_iff_eq.mpr c11
   clear c11
   (first | rw [c11b0] | (simp only [i64_w, i32_w]; rw [c11b0]) | skip)
   have H' := mk0 H
   clear H
   go_wp2_with (first | ((with_reducible refine gate_callee (f := 64) rfl ?_); refine goA 17 Try.func64 #[.slice A1 l1.length c1] ?_; (with_reducible refine (nat_Bits.calls k _ _ l1 t341 _ (by exact (Kd.V_reads' HO1.out).2.2) (by exact (Kd.V_reads' HO1.out).2.1) A10.out).mono ?_); rintro e w12 ⟨rfl, hb⟩; refine ⟨_, rfl, ?_⟩; replace HO0_1 := mk0 (Kd.V_below HO0_1.out hb); replace HO1 := mk0 (Kd.V_below HO1.out hb); replace HO340 := mk0 (Kd.V_below HO340.out hb); replace BK336 := bkB BK336 hb; replace BK337 := bkB BK337 hb; replace HB := hbS HB hb))
   go_meet
   case rel => exact ⟨_, (true), (by first | rfl | (simp; done) | (simp [*]; done)), H', ⟨by first | omega | exact Nat.le_refl _⟩, ⟨Vm HO1.out (fun _ hk => ⟨hk.1.1, ⟨hk.1.2, hk.2⟩⟩)⟩, ⟨HO340.out⟩, ⟨Vm HO0_1.out (fun _ hk => ⟨hk.1.1, ⟨hk.1.2, hk.2⟩⟩)⟩, ⟨BK336.out⟩, ⟨BK337.out⟩, ⟨by repeat (first | exact HB.out | apply bN | apply b1 | apply bA | refine bS ?_ GE336.out | refine bS ?_ GE337.out)⟩⟩
  ·rw [if_neg c11] at H
   have c11b0 : (t341 == 0) = false := beq_eq_false_iff_ne.mpr c11
   have c11b1 : (t341 != 0) = true := bne_iff_ne.mpr c11
   (first | rw [c11b0] | (simp only [i64_w, i32_w]; rw [c11b0]) | skip)
   obtain ⟨t342, A13, H⟩ := bindA H
   have H' := mk0 H
   clear H
   go_wp2_with (first | ((with_reducible refine gate_callee (f := 64) rfl ?_); refine goA 17 Try.func64 #[.slice A1 l1.length c1] ?_; (with_reducible refine (nat_Bits.calls k _ _ l1 t341 _ (by exact (Kd.V_reads' HO1.out).2.2) (by exact (Kd.V_reads' HO1.out).2.1) A10.out).mono ?_); rintro e w14 ⟨rfl, hb⟩; refine ⟨_, rfl, ?_⟩; replace HO0_1 := mk0 (Kd.V_below HO0_1.out hb); replace HO1 := mk0 (Kd.V_below HO1.out hb); replace HO340 := mk0 (Kd.V_below HO340.out hb); replace BK336 := bkB BK336 hb; replace BK337 := bkB BK337 hb; replace HB := hbS HB hb; have hnb15 := NB336_337.out; have hnc15 := NB337_336.out; obtain ⟨hcz16_0, hcz16_1, hfz16_0, hfz16_1⟩ := cz2 BK336) | (go_at_call 64; (with_reducible refine (nat_Bits.calls k _ _ l0_1 t342 _ (by exact (Kd.V_reads' HO0_1.out).2.2) (by exact (Kd.V_reads' HO0_1.out).2.1) A13.out).mono ?_); rintro e w17 ⟨rfl, hb⟩; replace HO0_1 := mk0 (Kd.V_below HO0_1.out hb); replace HO1 := mk0 (Kd.V_below HO1.out hb); replace HO340 := mk0 (Kd.V_below HO340.out hb); replace BK336 := bkB BK336 hb; replace BK337 := bkB BK337 hb; replace HB := hbS HB hb))
   go_meet
   case rel => exact ⟨_, ((t342 == 0)), (by first | rfl | (simp; done) | (simp [*]; done)), H', ⟨by first | omega | exact Nat.le_refl _⟩, ⟨Vm HO1.out (fun _ hk => ⟨hk.1.1, ⟨hk.1.2, hk.2⟩⟩)⟩, ⟨HO340.out⟩, ⟨Vm HO0_1.out (fun _ hk => ⟨hk.1.1, ⟨hk.1.2, hk.2⟩⟩)⟩, ⟨BK336.out⟩, ⟨BK337.out⟩, ⟨by repeat (first | exact HB.out | apply bN | apply b1 | apply bA | refine bS ?_ GE336.out | refine bS ?_ GE337.out)⟩⟩
 case rest =>
  clear HC4
  try clear c1
  try clear p2
  try clear c5
  try clear c6
  try clear c7
  try clear c11
  try clear c11b0
  try clear c11b1
  try clear c15
  try clear hcz16_0
  try clear hcz16_1
  try clear hcz8_0
  try clear hcz8_1
  try clear hfz16_0
  try clear hfz16_1
  try clear hfz8_0
  try clear hfz8_1
  obtain ⟨kq, x24_3, rfl, HA, HJ3, HO_1, HO_5, HO_337001, BK336, BK337, HB⟩ := hcut
  cases kq with
  | zero => exact absurd HA.out (by simp [ratio_lowest.j0])
  | succ kj3 =>
   have H := HA.out
   clear HA
   simp only [ratio_lowest.j0] at H
   by_cases c18 : x24_3 = true
   ·subst c18
    have H1 : ((ratio_zero.f kj3).bind fun bt343 => (some (bt343.1, bt343.2.1, bt343.2.2))) = some (r1, r2, r3) := by rw [if_pos rfl] at H; exact H
    clear H
    have H := H1
    clear H1
    obtain ⟨⟨t343, t344, t347⟩, A19, H⟩ := bindA H
    simp only [Option.some.injEq, Prod.mk.injEq] at H
    obtain ⟨rfl, rfl, rfl⟩ := H
    go_wp2_with (first | ((with_reducible refine gate_callee (f := 67) rfl ?_); refine goA 25 Try.func67 #[] ?_; (with_reducible refine (ratio_zero.calls kj3  t343 t344 t347 _ A19.out).mono ?_); rintro e w20 ⟨v345, v348, rfl, ho0, ho1, hb⟩; refine ⟨_, rfl, ?_⟩; replace HO_1 := mk0 (Kd.V_elder' HO_1.out (Rs ho0) hb); replace HO_5 := mk0 (Kd.V_elder' HO_5.out (Rs ho0) hb); replace HO_337001 := mk0 (Kd.V_elder' HO_337001.out (Rs ho0) hb); have HO346 := mk0 (Rl (Kd.R_newM (M := fun k_ => (w.heap.size ≤ k_)) (Rm (ok' := fun k_ => True) ho0 tv) (bZ HB.out) (fun k_ h_ => h_)) (bZ HB.out)); have HO349 := mk0 (Vl (Vm (ok' := fun k_ => ((P0_1_ k_ ∨ P1_ k_) ∨ w.heap.size ≤ k_) ∧ some k_ ≠ (v345 : Value).ownBlock ∧ k_ ≠ gb336 ∧ k_ ≠ gb337) ho1 (fun k_ hk_ => ⟨(.inr (Nat.le_trans (bZ HB.out) hk_.1)), hk_.2, (Kd.freshB BK336.out k_ hk_.1), (Kd.freshB BK337.out k_ hk_.1)⟩)) (bZ HB.out)); replace BK336 := bkB BK336 hb; replace BK337 := bkB BK337 hb; replace HB := hbS HB hb; have hnb21 := NB337_336.out; have hnc21 := NB336_337.out; obtain ⟨hcz22_0, hcz22_1, hcz22_2, hfz22_0, hfz22_1, hfz22_2⟩ := cz3 BK337; obtain ⟨Ao23, co23, eo23⟩ := Kd.R_slice HO346.out; subst eo23; obtain ⟨Ao24, co24, eo24⟩ := Kd.V_slice HO349.out; subst eo24))
    refine bodyPost_ret (results_cell_row rfl _ _ gb337 29 #[.bool t343, .slice Ao23 t344.length co23, .slice Ao24 t347.length co24] (0, 0) _ rfl (by refine blk_put (cs := #[.bool t343, .slice Ao23 t344.length co23, .slice none 0 0]) ?_ 2 _ rfl; refine blk_put (cs := #[.bool t343, .slice none 0 0, .slice none 0 0]) ?_ 1 _ rfl; refine blk_put (cs := #[.bool false, .slice none 0 0, .slice none 0 0]) ?_ 0 _ rfl; exact BK337.out) Try.underlying29 rfl (by kernel_rfl)) rfl ?_
    exact ⟨_, _, by first | rfl | (simp [errW_none, errW_some] <;> rfl) | (simp [*, errW_none, errW_some] <;> rfl), Rm (Rf (p := ⟨gb337, 2, none⟩) (Rf (p := ⟨gb337, 1, none⟩) (Rf (p := ⟨gb337, 0, none⟩) (Rt HO346.out BK337.out (by decide)) (fun _ hk => hk.2) (.bool t343)) (fun _ hk => hk.2) (.slice Ao23 t344.length co23)) (fun _ hk => hk.2) (.slice Ao24 t347.length co24)) (fun _ hk => hk.1.1), Vm (Vf (p := ⟨gb337, 2, none⟩) (Vf (p := ⟨gb337, 1, none⟩) (Vf (p := ⟨gb337, 0, none⟩) (Vm HO349.out (fun k_ hk => (⟨hk, hk.2.2.2⟩ : _ ∧ k_ ≠ gb337))) (fun _ hk => hk.2) (.bool t343)) (fun _ hk => hk.2) (.slice Ao23 t344.length co23)) (fun _ hk => hk.2) (.slice Ao24 t347.length co24)) (fun _ hk => ⟨hk.1.1, hk.1.2.1⟩), by repeat (first | exact HB.out | apply bN | apply b1 | apply bA | refine bS ?_ GE336.out | refine bS ?_ GE337.out)⟩
   ·replace c18 := Bool.eq_false_iff.mpr c18
    subst c18
    have H1 : ((nat_DivMod.f kj3 l0_1 t338).bind fun bt350 => ((nat_DivMod.f kj3 l1 t338).bind fun bt357 => ((integer_Make.f kj3 a0_0 bt350.1).bind fun bt364 => (some (bt364.1, bt364.2, bt357.1))))) = some (r1, r2, r3) := by rw [if_neg (show ¬ (false = true) by decide)] at H; exact H
    clear H
    have H := H1
    clear H1
    obtain ⟨⟨t350, t353, t356⟩, A25, H⟩ := bindA H
    obtain ⟨⟨t357, t360, t363⟩, A26, H⟩ := bindA H
    obtain ⟨⟨t364, t365⟩, A27, H⟩ := bindA H
    simp only [Option.some.injEq, Prod.mk.injEq] at H
    obtain ⟨rfl, rfl, rfl⟩ := H
    have hnb28 := NB336_337.out
    have hnc28 := NB337_336.out
    obtain ⟨hcz29_0, hcz29_1, hfz29_0, hfz29_1⟩ := cz2 BK336
    obtain ⟨Ao30, co30, eo30⟩ := Kd.V_slice HO_5.out
    subst eo30
    go_wp2_with (first | ((with_reducible refine gate_callee (f := 80) rfl ?_); refine goA 30 Try.func80 #[.slice A0_1 l0_1.length c0_1, .slice Ao30 t338.length co30] ?_; (with_reducible refine (nat_DivMod.calls kj3 (fun k_ => (((P0_1_ k_ ∨ P1_ k_) ∨ w.heap.size ≤ k_) ∧ (k_ ≠ gb336 ∧ k_ ≠ gb337))) _ _ l0_1 (fun k_ => (((P0_1_ k_ ∨ P1_ k_) ∨ w.heap.size ≤ k_) ∧ (k_ ≠ gb336 ∧ k_ ≠ gb337))) _ _ t338 t350 t353 t356 _ HO_337001.out HO_5.out A25.out).mono ?_); rintro e w31 ⟨v351, v354, rfl, ho0, ho1, hb⟩; refine ⟨_, rfl, ?_⟩; replace HO_1 := mk0 (Kd.V_below HO_1.out hb); replace HO_5 := mk0 (Kd.V_below HO_5.out hb); replace HO_337001 := mk0 (Kd.V_below HO_337001.out hb); have HO352 := mk0 (Vl (Vm (ok' := fun k_ => ((P0_1_ k_ ∨ P1_ k_) ∨ w.heap.size ≤ k_) ∧ k_ ≠ gb336 ∧ k_ ≠ gb337) ho0 (fun k_ hk_ => ⟨Or.elim hk_ (fun hs_ => Or.elim hs_ (fun hs_ => hs_.1) (fun hs_ => hs_.1)) (fun hn_ => (.inr (Nat.le_trans (bZ HB.out) hn_))), Or.elim hk_ (fun hs_ => Or.elim hs_ (fun hs_ => hs_.2.1) (fun hs_ => hs_.2.1)) (fun hn_ => (Kd.freshB BK336.out k_ hn_)), Or.elim hk_ (fun hs_ => Or.elim hs_ (fun hs_ => hs_.2.2) (fun hs_ => hs_.2.2)) (fun hn_ => (Kd.freshB BK337.out k_ hn_))⟩)) (bZ HB.out)); replace BK336 := bkB BK336 hb; replace BK337 := bkB BK337 hb; replace HB := hbS HB hb) | ((with_reducible refine gate_callee (f := 80) rfl ?_); refine goA 37 Try.func80 #[.slice A1 l1.length c1, .slice Ao30 t338.length co30] ?_; (with_reducible refine (nat_DivMod.calls kj3 (fun k_ => (((P0_1_ k_ ∨ P1_ k_) ∨ w.heap.size ≤ k_) ∧ (k_ ≠ gb336 ∧ k_ ≠ gb337))) _ _ l1 (fun k_ => (((P0_1_ k_ ∨ P1_ k_) ∨ w.heap.size ≤ k_) ∧ (k_ ≠ gb336 ∧ k_ ≠ gb337))) _ _ t338 t357 t360 t363 _ HO_1.out HO_5.out A26.out).mono ?_); rintro e w32 ⟨v358, v361, rfl, ho0, ho1, hb⟩; refine ⟨_, rfl, ?_⟩; replace HO_1 := mk0 (Kd.V_below HO_1.out hb); replace HO_5 := mk0 (Kd.V_below HO_5.out hb); replace HO_337001 := mk0 (Kd.V_below HO_337001.out hb); replace HO352 := mk0 (Kd.V_below HO352.out hb); have HO359 := mk0 (Vl (Vm (ok' := fun k_ => ((P0_1_ k_ ∨ P1_ k_) ∨ w.heap.size ≤ k_) ∧ k_ ≠ gb336 ∧ k_ ≠ gb337) ho0 (fun k_ hk_ => ⟨Or.elim hk_ (fun hs_ => Or.elim hs_ (fun hs_ => hs_.1) (fun hs_ => hs_.1)) (fun hn_ => (.inr (Nat.le_trans (bZ HB.out) hn_))), Or.elim hk_ (fun hs_ => Or.elim hs_ (fun hs_ => hs_.2.1) (fun hs_ => hs_.2.1)) (fun hn_ => (Kd.freshB BK336.out k_ hn_)), Or.elim hk_ (fun hs_ => Or.elim hs_ (fun hs_ => hs_.2.2) (fun hs_ => hs_.2.2)) (fun hn_ => (Kd.freshB BK337.out k_ hn_))⟩)) (bZ HB.out)); replace BK336 := bkB BK336 hb; replace BK337 := bkB BK337 hb; replace HB := hbS HB hb; obtain ⟨hcz33_0, hcz33_1, hfz33_0, hfz33_1⟩ := cz2 BK336; obtain ⟨Ao34, co34, eo34⟩ := Kd.V_slice HO352.out; subst eo34) | ((with_reducible refine gate_callee (f := 78) rfl ?_); refine goA 44 Try.func78 #[.bool a0_0, .slice Ao34 t350.length co34] ?_; (with_reducible refine (integer_Make.calls kj3 a0_0 _ _ t350 t364 t365 _ (by exact (Kd.V_reads' HO352.out).2.2) (by exact (Kd.V_reads' HO352.out).2.1) A27.out).mono ?_); rintro e w35 ⟨v366, rfl, ho0, hb⟩; refine ⟨_, rfl, ?_⟩; replace HO_1 := mk0 (Kd.V_elder' HO_1.out (Rs ho0) hb); replace HO_5 := mk0 (Kd.V_elder' HO_5.out (Rs ho0) hb); replace HO_337001 := mk0 (Kd.V_elder' HO_337001.out (Rs ho0) hb); replace HO352 := mk0 (Kd.V_elder' HO352.out (Rs ho0) hb); replace HO359 := mk0 (Kd.V_elder' HO359.out (Rs ho0) hb); have HO367 := mk0 (Rl (Kd.R_newM (M := fun k_ => (w.heap.size ≤ k_)) ho0 (bZ HB.out) (fun k_ h_ => h_)) (bZ HB.out)); replace BK336 := bkB BK336 hb; replace BK337 := bkB BK337 hb; replace HB := hbS HB hb; obtain ⟨Ao36, co36, eo36⟩ := Kd.V_slice HO359.out; subst eo36; obtain ⟨Ao37, co37, eo37⟩ := Kd.R_slice HO367.out; subst eo37; obtain ⟨hcz38_0, hcz38_1, hcz38_2, hfz38_0, hfz38_1, hfz38_2⟩ := cz3 BK337))
    refine bodyPost_ret (results_cell_row rfl _ _ gb337 29 #[.bool t364, .slice Ao37 t365.length co37, .slice Ao36 t357.length co36] (0, 0) _ rfl (by refine blk_put (cs := #[.bool t364, .slice Ao37 t365.length co37, .slice none 0 0]) ?_ 2 _ rfl; refine blk_put (cs := #[.bool t364, .slice none 0 0, .slice none 0 0]) ?_ 1 _ rfl; refine blk_put (cs := #[.bool false, .slice none 0 0, .slice none 0 0]) ?_ 0 _ rfl; exact BK337.out) Try.underlying29 rfl (by kernel_rfl)) rfl ?_
    exact ⟨_, _, by first | rfl | (simp [errW_none, errW_some] <;> rfl) | (simp [*, errW_none, errW_some] <;> rfl), Rm (Rf (p := ⟨gb337, 2, none⟩) (Rf (p := ⟨gb337, 1, none⟩) (Rf (p := ⟨gb337, 0, none⟩) (Rt HO367.out BK337.out (by decide)) (fun _ hk => hk.2) (.bool t364)) (fun _ hk => hk.2) (.slice Ao37 t365.length co37)) (fun _ hk => hk.2) (.slice Ao36 t357.length co36)) (fun _ hk => hk.1.1), Vm (Vf (p := ⟨gb337, 2, none⟩) (Vf (p := ⟨gb337, 1, none⟩) (Vf (p := ⟨gb337, 0, none⟩) (Vm HO359.out (fun k_ hk => (⟨hk, hk.1.2.2⟩ : _ ∧ k_ ≠ gb337))) (fun _ hk => hk.2) (.bool t364)) (fun _ hk => hk.2) (.slice Ao37 t365.length co37)) (fun _ hk => hk.2) (.slice Ao36 t357.length co36)) (fun _ hk => ⟨hk.1.1.1, hk.1.2⟩), by repeat (first | exact HB.out | apply bN | apply b1 | apply bA | refine bS ?_ GE336.out | refine bS ?_ GE337.out)⟩
def ratio_Mul.T3 : Bool × List (List Nat × List Nat) := (true, [([], []), ([], []), ([0, 1], [0, 1]), ([], []), ([3], [3]), ([], []), ([5], [5]), ([4, 6, 2], [4, 6]), ([2, 7, 7], [2, 7]), ([8, 8, 0, 1, 2, 3, 4, 5, 6, 7, 8], [8])])
def ratio_Mul.B3 : List Nat := [0, 0, 3, 0, 8, 0, 32, 127, 255, 511]
theorem ratio_Mul.tab3 : rtab .any (opsOf Try.f27 3) = ratio_Mul.T3 := by kernel_rfl
theorem ratio_Mul.bits3 : waitsOk ratio_Mul.T3.2 ratio_Mul.B3 = true := by kernel_rfl
set_option maxHeartbeats 8000000 in
set_option maxRecDepth 100000 in
theorem ratio_Mul.calls (k : Nat) (a0_0 : Bool) (P0_1_ : Nat → Prop) (A0_1 : Option Addr) (c0_1 : Nat) (l0_1 : List Int) (A0_2 : Option Addr) (c0_2 : Nat) (l0_2 : List Int) (a1_0 : Bool) (P1_1_ : Nat → Prop) (A1_1 : Option Addr) (c1_1 : Nat) (l1_1 : List Int) (A1_2 : Option Addr) (c1_2 : Nat) (l1_2 : List Int) (r1 : Bool) (r2 : List Int) (r3 : List Int) (w : World) (hs0_1 : Kd.V (Kd.int .u32) 87 w w.heap.size (fun k_ => P0_1_ k_) (.slice A0_1 l0_1.length c0_1) l0_1) (hr0_2 : Kd.C (Kd.int .u32) w A0_2 l0_2.length l0_2) (hc0_2 : l0_2.length ≤ c0_2) (hs1_1 : Kd.V (Kd.int .u32) 87 w w.heap.size (fun k_ => P1_1_ k_) (.slice A1_1 l1_1.length c1_1) l1_1) (hr1_2 : Kd.C (Kd.int .u32) w A1_2 l1_2.length l1_2) (hc1_2 : l1_2.length ≤ c1_2) (h : ratio_Mul.f k a0_0 l0_1 l0_2 a1_0 l1_1 l1_2 = some (r1, r2, r3)) :
  Calls Try.prog 27 #[.agg #[.bool a0_0, .slice A0_1 l0_1.length c0_1, .slice A0_2 l0_2.length c0_2], .agg #[.bool a1_0, .slice A1_1 l1_1.length c1_1, .slice A1_2 l1_2.length c1_2]] w fun e w' => ∃ v1_ v2_ : Value, e = .returned (.agg #[.bool r1, v1_, v2_]) ∧ Kd.R (Kd.int .u32) 87 w' w.heap.size (fun k_ => (w.heap.size ≤ k_)) v1_ r2 ∧ Kd.V (Kd.int .u32) 87 w' w.heap.size (fun k_ => ((P0_1_ k_ ∨ P1_1_ k_) ∨ w.heap.size ≤ k_) ∧ some k_ ≠ (v1_ : Value).ownBlock) v2_ r3 ∧ Below w.heap.size w w' := by
 have hu29 := Try.underlying29
 have hu27 := Try.underlying27
 have HO0_1 := mk0 (show Kd.V (Kd.int .u32) 87 w w.heap.size (fun k_ => ((P0_1_ k_ ∨ P1_1_ k_) ∨ w.heap.size ≤ k_)) (.slice A0_1 l0_1.length c0_1) l0_1 from Vm hs0_1 (fun k_ hk => .inl (.inl hk)))
 have HR0_2 := mk0 hr0_2
 have HC0_2 := mk0 hc0_2
 clear hr0_2 hc0_2
 have HO1_1 := mk0 (show Kd.V (Kd.int .u32) 87 w w.heap.size (fun k_ => ((P0_1_ k_ ∨ P1_1_ k_) ∨ w.heap.size ≤ k_)) (.slice A1_1 l1_1.length c1_1) l1_1 from Vm hs1_1 (fun k_ hk => .inl (.inr hk)))
 have HR1_2 := mk0 hr1_2
 have HC1_2 := mk0 hc1_2
 clear hr1_2 hc1_2
 have HB := mk0 (Below.refl w.heap.size w)
 have H : ((ratio_parts.f k a0_0 l0_1 l0_2).bind fun bt371 => ((ratio_parts.f k a1_0 l1_1 l1_2).bind fun bt381 => ((integer_Mul.f k bt371.1 bt371.2.1 bt381.1 bt381.2.1).bind fun bt391 => ((nat_Mul.f k bt371.2.2.2 bt381.2.2.2).bind fun t395 => ((ratio_lowest.f k bt391.1 bt391.2 t395).bind fun bt398 => (some (bt398.1, bt398.2.1, bt398.2.2))))))) = some (r1, r2, r3) := h
 clear h
 obtain ⟨⟨t371, t372, t375, t376⟩, A3, H⟩ := bindA H
 obtain ⟨⟨t381, t382, t385, t386⟩, A4, H⟩ := bindA H
 obtain ⟨⟨t391, t392⟩, A5, H⟩ := bindA H
 obtain ⟨t395, A6, H⟩ := bindA H
 obtain ⟨⟨t398, t399, t402⟩, A7, H⟩ := bindA H
 simp only [Option.some.injEq, Prod.mk.injEq] at H
 obtain ⟨rfl, rfl, rfl⟩ := H
 go_enter Try.func27, Try.ntmps27
 try go_wp2_with (first | ((with_reducible refine gate_dst (N := 2) rfl ?_); refine box_event rfl (N := 2) rfl (cs := #[.bool a0_0, .slice A0_1 l0_1.length c0_1, .slice A0_2 l0_2.length c0_2]) (t := 29) (by go_simp <;> rfl) ?_; intro gb368 hg w8 hbox hb; replace HO0_1 := vB HO0_1 hg hb; replace HO1_1 := vB HO1_1 hg hb; have BK368 := mk0 (hbox); have GE368 := geB hg HB; replace HB := hbS HB hb; clear hb hbox hg) | ((with_reducible refine gate_dst (N := 3) rfl ?_); refine box_event rfl (N := 3) rfl (cs := #[.bool a1_0, .slice A1_1 l1_1.length c1_1, .slice A1_2 l1_2.length c1_2]) (t := 29) (by go_simp <;> rfl) ?_; intro gb369 hg w9 hbox hb; replace HO0_1 := vB HO0_1 hg hb; replace HO1_1 := vB HO1_1 hg hb; have BK369 := mk0 (hbox); have GE369 := geB hg HB; replace HB := hbS HB hb; have NB368_369 := nbA hg BK368; have NB369_368 := nbB hg BK368; replace BK368 := bkB BK368 hb; clear hb hbox hg) | ((with_reducible refine gate_dst (N := 4) rfl ?_); refine box_event rfl (N := 4) rfl (cs := #[.bool false, .slice none 0 0, .slice none 0 0]) (t := 29) (by go_simp <;> rfl) ?_; intro gb370 hg w10 hbox hb; replace HO0_1 := vB HO0_1 hg hb; replace HO1_1 := vB HO1_1 hg hb; have BK370 := mk0 (hbox); have GE370 := geB hg HB; replace HB := hbS HB hb; have NB368_370 := nbA hg BK368; have NB370_368 := nbB hg BK368; replace BK368 := bkB BK368 hb; have NB369_370 := nbA hg BK369; have NB370_369 := nbB hg BK369; replace BK369 := bkB BK369 hb; clear hb hbox hg; have hnb11 := NB368_369.out; have hnc11 := NB369_368.out; have hnb12 := NB368_370.out; have hnc12 := NB370_368.out; obtain ⟨hcz13_0, hcz13_1, hcz13_2, hfz13_0, hfz13_1, hfz13_2⟩ := cz3 BK368) | ((with_reducible refine gate_callee (f := 36) rfl ?_); refine goA 11 Try.func36 #[.agg #[.bool a0_0, .slice A0_1 l0_1.length c0_1, .slice A0_2 l0_2.length c0_2]] ?_; (with_reducible refine (ratio_parts.calls k a0_0 (fun k_ => (((((P0_1_ k_ ∨ P1_1_ k_) ∨ w.heap.size ≤ k_) ∧ k_ ≠ gb368) ∧ k_ ≠ gb369) ∧ k_ ≠ gb370)) _ _ l0_1 _ _ l0_2 t371 t372 t375 t376 _ HO0_1.out (by exact Cb HR0_2.out HB.out) HC0_2.out A3.out).mono ?_); rintro e w14 ⟨v373, v377, rfl, ho0, ho1, hb⟩; refine ⟨_, rfl, ?_⟩; replace HO0_1 := mk0 (Kd.V_elder' HO0_1.out (Rs ho1) hb); replace HO1_1 := mk0 (Kd.V_elder' HO1_1.out (Rs ho1) hb); have HO374 := mk0 (Vl (Vm (ok' := fun k_ => ((P0_1_ k_ ∨ P1_1_ k_) ∨ w.heap.size ≤ k_) ∧ some k_ ≠ (v377 : Value).ownBlock ∧ k_ ≠ gb368 ∧ k_ ≠ gb369 ∧ k_ ≠ gb370) ho0 (fun k_ hk_ => ⟨Or.elim hk_.1 (fun hs_ => hs_.1.1.1) (fun hn_ => (.inr (Nat.le_trans (bZ HB.out) hn_))), hk_.2, Or.elim hk_.1 (fun hs_ => hs_.1.1.2) (fun hn_ => (Kd.freshB BK368.out k_ hn_)), Or.elim hk_.1 (fun hs_ => hs_.1.2) (fun hn_ => (Kd.freshB BK369.out k_ hn_)), Or.elim hk_.1 (fun hs_ => hs_.2) (fun hn_ => (Kd.freshB BK370.out k_ hn_))⟩)) (bZ HB.out)); have HO378 := mk0 (Rl (Kd.R_newM (M := fun k_ => (w.heap.size ≤ k_)) (Rm (ok' := fun k_ => True) ho1 tv) (bZ HB.out) (fun k_ h_ => h_)) (bZ HB.out)); replace BK368 := bkB BK368 hb; replace BK369 := bkB BK369 hb; replace BK370 := bkB BK370 hb; replace HB := hbS HB hb) | ((with_reducible refine gate_dst (N := 5) rfl ?_); refine box_event rfl (N := 5) rfl (cs := #[.bool false, .slice none 0 0]) (t := 27) (by go_simp <;> rfl) ?_; intro gb379 hg w15 hbox hb; replace HO0_1 := vB HO0_1 hg hb; replace HO1_1 := vB HO1_1 hg hb; replace HO374 := vB HO374 hg hb; replace HO378 := rB HO378 hb; have BK379 := mk0 (hbox); have GE379 := geB hg HB; replace HB := hbS HB hb; have NB368_379 := nbA hg BK368; have NB379_368 := nbB hg BK368; replace BK368 := bkB BK368 hb; have NB369_379 := nbA hg BK369; have NB379_369 := nbB hg BK369; replace BK369 := bkB BK369 hb; have NB370_379 := nbA hg BK370; have NB379_370 := nbB hg BK370; replace BK370 := bkB BK370 hb; clear hb hbox hg) | ((with_reducible refine gate_dst (N := 6) rfl ?_); refine box_event rfl (N := 6) rfl (cs := #[.bool false, .slice none 0 0]) (t := 27) (by go_simp <;> rfl) ?_; intro gb380 hg w16 hbox hb; replace HO0_1 := vB HO0_1 hg hb; replace HO1_1 := vB HO1_1 hg hb; replace HO374 := vB HO374 hg hb; replace HO378 := rB HO378 hb; have BK380 := mk0 (hbox); have GE380 := geB hg HB; replace HB := hbS HB hb; have NB368_380 := nbA hg BK368; have NB380_368 := nbB hg BK368; replace BK368 := bkB BK368 hb; have NB369_380 := nbA hg BK369; have NB380_369 := nbB hg BK369; replace BK369 := bkB BK369 hb; have NB370_380 := nbA hg BK370; have NB380_370 := nbB hg BK370; replace BK370 := bkB BK370 hb; have NB379_380 := nbA hg BK379; have NB380_379 := nbB hg BK379; replace BK379 := bkB BK379 hb; clear hb hbox hg; have hnb17 := NB379_368.out; have hnc17 := NB368_379.out; have hnb18 := NB379_369.out; have hnc18 := NB369_379.out; have hnb19 := NB379_370.out; have hnc19 := NB370_379.out; have hnb20 := NB379_380.out; have hnc20 := NB380_379.out; obtain ⟨hcz21_0, hcz21_1, hfz21_0, hfz21_1⟩ := cz2 BK379; obtain ⟨Ao22, co22, eo22⟩ := Kd.V_slice HO374.out; subst eo22) | ((with_reducible refine gate_store (t := 27) (p := 5) rfl ?_); refine store_event (t := 27) (p := 5) (v := ?vo_w23) (w1 := ((w16.setCell ⟨gb379, 0, none⟩ (.bool t371)).setCell ⟨gb379, 1, none⟩ (.slice Ao22 t372.length co22))) ?hg ?ho ?hn ?hr ?_; (case ho => rfl); (case hg => rfl); (case hn => rfl); (case hr => go_simp <;> rfl); intro w23 hw; replace HO0_1 : Aside0 (Kd.V (Kd.int .u32) 87 w23 w.heap.size (fun k_ => ((P0_1_ k_ ∨ P1_1_ k_) ∨ w.heap.size ≤ k_) ∧ some k_ ≠ (v377 : Value).ownBlock ∧ k_ ≠ gb368 ∧ k_ ≠ gb369 ∧ k_ ≠ gb370 ∧ k_ ≠ gb379 ∧ k_ ≠ gb380) (.slice A0_1 l0_1.length c0_1) l0_1) := ⟨(by rw [hw]; exact (Vm (Vf (p := ⟨gb379, 1, none⟩) (Vf (p := ⟨gb379, 0, none⟩) (Vm HO0_1.out (fun k_ hk => (⟨hk, hk.1.2⟩ : _ ∧ k_ ≠ gb379))) (fun _ hk => hk.2) (.bool t371)) (fun _ hk => hk.2) (.slice Ao22 t372.length co22)) (fun _ hk => ⟨hk.1.1.1.1.1.1.1, ⟨hk.1.1.1.2, ⟨hk.1.1.1.1.1.1.2, ⟨hk.1.1.1.1.1.2, ⟨hk.1.1.1.1.2, ⟨hk.1.1.2, hk.1.2⟩⟩⟩⟩⟩⟩)))⟩; replace HO1_1 : Aside0 (Kd.V (Kd.int .u32) 87 w23 w.heap.size (fun k_ => ((P0_1_ k_ ∨ P1_1_ k_) ∨ w.heap.size ≤ k_) ∧ some k_ ≠ (v377 : Value).ownBlock ∧ k_ ≠ gb368 ∧ k_ ≠ gb369 ∧ k_ ≠ gb370 ∧ k_ ≠ gb379 ∧ k_ ≠ gb380) (.slice A1_1 l1_1.length c1_1) l1_1) := ⟨(by rw [hw]; exact (Vm (Vf (p := ⟨gb379, 1, none⟩) (Vf (p := ⟨gb379, 0, none⟩) (Vm HO1_1.out (fun k_ hk => (⟨hk, hk.1.2⟩ : _ ∧ k_ ≠ gb379))) (fun _ hk => hk.2) (.bool t371)) (fun _ hk => hk.2) (.slice Ao22 t372.length co22)) (fun _ hk => ⟨hk.1.1.1.1.1.1.1, ⟨hk.1.1.1.2, ⟨hk.1.1.1.1.1.1.2, ⟨hk.1.1.1.1.1.2, ⟨hk.1.1.1.1.2, ⟨hk.1.1.2, hk.1.2⟩⟩⟩⟩⟩⟩)))⟩; replace HO374 : Aside0 (Kd.V (Kd.int .u32) 87 w23 w.heap.size (fun k_ => ((P0_1_ k_ ∨ P1_1_ k_) ∨ w.heap.size ≤ k_) ∧ some k_ ≠ (v377 : Value).ownBlock ∧ k_ ≠ gb368 ∧ k_ ≠ gb369 ∧ k_ ≠ gb370 ∧ k_ ≠ gb379 ∧ k_ ≠ gb380) (.slice Ao22 t372.length co22) t372) := ⟨(by rw [hw]; exact (Vm (Vf (p := ⟨gb379, 1, none⟩) (Vf (p := ⟨gb379, 0, none⟩) (Vm HO374.out (fun k_ hk => (⟨hk, hk.1.2⟩ : _ ∧ k_ ≠ gb379))) (fun _ hk => hk.2) (.bool t371)) (fun _ hk => hk.2) (.slice Ao22 t372.length co22)) (fun _ hk => ⟨hk.1.1.1.1, ⟨hk.1.1.1.2.1, ⟨hk.1.1.1.2.2.1, ⟨hk.1.1.1.2.2.2.1, ⟨hk.1.1.1.2.2.2.2, ⟨hk.1.1.2, hk.1.2⟩⟩⟩⟩⟩⟩)))⟩; replace HO378 : Aside0 (Kd.R (Kd.int .u32) 87 w23 w.heap.size (fun k_ => (w.heap.size ≤ k_)) v377 t376) := ⟨(by rw [hw]; exact (Rm (Rf (p := ⟨gb379, 1, none⟩) (Rf (p := ⟨gb379, 0, none⟩) (Rt HO378.out BK379.out (by decide)) (fun _ hk => hk.2) (.bool t371)) (fun _ hk => hk.2) (.slice Ao22 t372.length co22)) (fun _ hk => hk.1.1)))⟩; replace BK368 : Aside0 (w23.heap[gb368]? = some (.cells #[.bool a0_0, .slice A0_1 l0_1.length c0_1, .slice A0_2 l0_2.length c0_2] 29 (0, 0))) := ⟨(by rw [hw]; exact (by refine blk_far ?_ NB368_379.out _; refine blk_far ?_ NB368_379.out _; exact BK368.out))⟩; replace BK369 : Aside0 (w23.heap[gb369]? = some (.cells #[.bool a1_0, .slice A1_1 l1_1.length c1_1, .slice A1_2 l1_2.length c1_2] 29 (0, 0))) := ⟨(by rw [hw]; exact (by refine blk_far ?_ NB369_379.out _; refine blk_far ?_ NB369_379.out _; exact BK369.out))⟩; replace BK370 : Aside0 (w23.heap[gb370]? = some (.cells #[.bool false, .slice none 0 0, .slice none 0 0] 29 (0, 0))) := ⟨(by rw [hw]; exact (by refine blk_far ?_ NB370_379.out _; refine blk_far ?_ NB370_379.out _; exact BK370.out))⟩; replace BK379 : Aside0 (w23.heap[gb379]? = some (.cells #[.bool t371, .slice Ao22 t372.length co22] 27 (0, 0))) := ⟨(by rw [hw]; exact (by refine blk_put (cs := #[.bool t371, .slice none 0 0]) ?_ 1 _ rfl; refine blk_put (cs := #[.bool false, .slice none 0 0]) ?_ 0 _ rfl; exact BK379.out))⟩; replace BK380 : Aside0 (w23.heap[gb380]? = some (.cells #[.bool false, .slice none 0 0] 27 (0, 0))) := ⟨(by rw [hw]; exact (by refine blk_far ?_ NB380_379.out _; refine blk_far ?_ NB380_379.out _; exact BK380.out))⟩; replace HB : Aside0 (Below w.heap.size w w23) := ⟨(by rw [hw]; exact (by repeat (first | exact HB.out | refine bS ?_ GE370.out | refine bS ?_ GE379.out | refine bS ?_ GE380.out)))⟩; clear hw; have hnb24 := NB380_368.out; have hnc24 := NB368_380.out; have hnb25 := NB380_369.out; have hnc25 := NB369_380.out; have hnb26 := NB380_370.out; have hnc26 := NB370_380.out; obtain ⟨hcz27_0, hcz27_1, hfz27_0, hfz27_1⟩ := cz2 BK380; obtain ⟨Ao28, co28, eo28⟩ := Kd.R_slice HO378.out; subst eo28) | ((with_reducible refine gate_store (t := 27) (p := 6) rfl ?_); refine store_event (t := 27) (p := 6) (v := ?vo_w29) (w1 := ((w23.setCell ⟨gb380, 0, none⟩ (.bool t375)).setCell ⟨gb380, 1, none⟩ (.slice Ao28 t376.length co28))) ?hg ?ho ?hn ?hr ?_; (case ho => rfl); (case hg => rfl); (case hn => rfl); (case hr => go_simp <;> rfl); intro w29 hw; replace HO0_1 : Aside0 (Kd.V (Kd.int .u32) 87 w29 w.heap.size (fun k_ => ((P0_1_ k_ ∨ P1_1_ k_) ∨ w.heap.size ≤ k_) ∧ some k_ ≠ (.slice Ao28 t376.length co28 : Value).ownBlock ∧ k_ ≠ gb368 ∧ k_ ≠ gb369 ∧ k_ ≠ gb370 ∧ k_ ≠ gb379 ∧ k_ ≠ gb380) (.slice A0_1 l0_1.length c0_1) l0_1) := ⟨(by rw [hw]; exact (Vm (Vf (p := ⟨gb380, 1, none⟩) (Vf (p := ⟨gb380, 0, none⟩) (Vm HO0_1.out (fun k_ hk => (⟨hk, hk.2.2.2.2.2.2⟩ : _ ∧ k_ ≠ gb380))) (fun _ hk => hk.2) (.bool t375)) (fun _ hk => hk.2) (.slice Ao28 t376.length co28)) (fun _ hk => ⟨hk.1.1, ⟨hk.1.2.1, ⟨hk.1.2.2.1, ⟨hk.1.2.2.2.1, ⟨hk.1.2.2.2.2.1, ⟨hk.1.2.2.2.2.2.1, hk.1.2.2.2.2.2.2⟩⟩⟩⟩⟩⟩)))⟩; replace HO1_1 : Aside0 (Kd.V (Kd.int .u32) 87 w29 w.heap.size (fun k_ => ((P0_1_ k_ ∨ P1_1_ k_) ∨ w.heap.size ≤ k_) ∧ some k_ ≠ (.slice Ao28 t376.length co28 : Value).ownBlock ∧ k_ ≠ gb368 ∧ k_ ≠ gb369 ∧ k_ ≠ gb370 ∧ k_ ≠ gb379 ∧ k_ ≠ gb380) (.slice A1_1 l1_1.length c1_1) l1_1) := ⟨(by rw [hw]; exact (Vm (Vf (p := ⟨gb380, 1, none⟩) (Vf (p := ⟨gb380, 0, none⟩) (Vm HO1_1.out (fun k_ hk => (⟨hk, hk.2.2.2.2.2.2⟩ : _ ∧ k_ ≠ gb380))) (fun _ hk => hk.2) (.bool t375)) (fun _ hk => hk.2) (.slice Ao28 t376.length co28)) (fun _ hk => ⟨hk.1.1, ⟨hk.1.2.1, ⟨hk.1.2.2.1, ⟨hk.1.2.2.2.1, ⟨hk.1.2.2.2.2.1, ⟨hk.1.2.2.2.2.2.1, hk.1.2.2.2.2.2.2⟩⟩⟩⟩⟩⟩)))⟩; replace HO374 : Aside0 (Kd.V (Kd.int .u32) 87 w29 w.heap.size (fun k_ => ((P0_1_ k_ ∨ P1_1_ k_) ∨ w.heap.size ≤ k_) ∧ some k_ ≠ (.slice Ao28 t376.length co28 : Value).ownBlock ∧ k_ ≠ gb368 ∧ k_ ≠ gb369 ∧ k_ ≠ gb370 ∧ k_ ≠ gb379 ∧ k_ ≠ gb380) (.slice Ao22 t372.length co22) t372) := ⟨(by rw [hw]; exact (Vm (Vf (p := ⟨gb380, 1, none⟩) (Vf (p := ⟨gb380, 0, none⟩) (Vm HO374.out (fun k_ hk => (⟨hk, hk.2.2.2.2.2.2⟩ : _ ∧ k_ ≠ gb380))) (fun _ hk => hk.2) (.bool t375)) (fun _ hk => hk.2) (.slice Ao28 t376.length co28)) (fun _ hk => ⟨hk.1.1, ⟨hk.1.2.1, ⟨hk.1.2.2.1, ⟨hk.1.2.2.2.1, ⟨hk.1.2.2.2.2.1, ⟨hk.1.2.2.2.2.2.1, hk.1.2.2.2.2.2.2⟩⟩⟩⟩⟩⟩)))⟩; replace HO378 : Aside0 (Kd.R (Kd.int .u32) 87 w29 w.heap.size (fun k_ => (w.heap.size ≤ k_)) (.slice Ao28 t376.length co28) t376) := ⟨(by rw [hw]; exact (Rm (Rf (p := ⟨gb380, 1, none⟩) (Rf (p := ⟨gb380, 0, none⟩) (Rt HO378.out BK380.out (by decide)) (fun _ hk => hk.2) (.bool t375)) (fun _ hk => hk.2) (.slice Ao28 t376.length co28)) (fun _ hk => hk.1)))⟩; replace BK368 : Aside0 (w29.heap[gb368]? = some (.cells #[.bool a0_0, .slice A0_1 l0_1.length c0_1, .slice A0_2 l0_2.length c0_2] 29 (0, 0))) := ⟨(by rw [hw]; exact (by refine blk_far ?_ NB368_380.out _; refine blk_far ?_ NB368_380.out _; exact BK368.out))⟩; replace BK369 : Aside0 (w29.heap[gb369]? = some (.cells #[.bool a1_0, .slice A1_1 l1_1.length c1_1, .slice A1_2 l1_2.length c1_2] 29 (0, 0))) := ⟨(by rw [hw]; exact (by refine blk_far ?_ NB369_380.out _; refine blk_far ?_ NB369_380.out _; exact BK369.out))⟩; replace BK370 : Aside0 (w29.heap[gb370]? = some (.cells #[.bool false, .slice none 0 0, .slice none 0 0] 29 (0, 0))) := ⟨(by rw [hw]; exact (by refine blk_far ?_ NB370_380.out _; refine blk_far ?_ NB370_380.out _; exact BK370.out))⟩; replace BK379 : Aside0 (w29.heap[gb379]? = some (.cells #[.bool t371, .slice Ao22 t372.length co22] 27 (0, 0))) := ⟨(by rw [hw]; exact (by refine blk_far ?_ NB379_380.out _; refine blk_far ?_ NB379_380.out _; exact BK379.out))⟩; replace BK380 : Aside0 (w29.heap[gb380]? = some (.cells #[.bool t375, .slice Ao28 t376.length co28] 27 (0, 0))) := ⟨(by rw [hw]; exact (by refine blk_put (cs := #[.bool t375, .slice none 0 0]) ?_ 1 _ rfl; refine blk_put (cs := #[.bool false, .slice none 0 0]) ?_ 0 _ rfl; exact BK380.out))⟩; replace HB : Aside0 (Below w.heap.size w w29) := ⟨(by rw [hw]; exact (by repeat (first | exact HB.out | refine bS ?_ GE370.out | refine bS ?_ GE379.out | refine bS ?_ GE380.out)))⟩; clear hw; have hnb30 := NB369_370.out; have hnc30 := NB370_369.out; obtain ⟨hcz31_0, hcz31_1, hcz31_2, hfz31_0, hfz31_1, hfz31_2⟩ := cz3 BK369) | ((with_reducible refine gate_callee (f := 36) rfl ?_); refine goA 16 Try.func36 #[.agg #[.bool a1_0, .slice A1_1 l1_1.length c1_1, .slice A1_2 l1_2.length c1_2]] ?_; (with_reducible refine (ratio_parts.calls k a1_0 (fun k_ => (((P0_1_ k_ ∨ P1_1_ k_) ∨ w.heap.size ≤ k_) ∧ (some k_ ≠ (.slice Ao28 t376.length co28 : Value).ownBlock ∧ (k_ ≠ gb368 ∧ (k_ ≠ gb369 ∧ (k_ ≠ gb370 ∧ (k_ ≠ gb379 ∧ k_ ≠ gb380))))))) _ _ l1_1 _ _ l1_2 t381 t382 t385 t386 _ HO1_1.out (by exact Cb HR1_2.out HB.out) HC1_2.out A4.out).mono ?_); rintro e w32 ⟨v383, v387, rfl, ho0, ho1, hb⟩; refine ⟨_, rfl, ?_⟩; replace HO0_1 := mk0 (Kd.V_elder' HO0_1.out (Rs ho1) hb); replace HO1_1 := mk0 (Kd.V_elder' HO1_1.out (Rs ho1) hb); replace HO374 := mk0 (Kd.V_elder' HO374.out (Rs ho1) hb); have HO384 := mk0 (Vl (Vm (ok' := fun k_ => ((P0_1_ k_ ∨ P1_1_ k_) ∨ w.heap.size ≤ k_) ∧ some k_ ≠ (v387 : Value).ownBlock ∧ some k_ ≠ (.slice Ao28 t376.length co28 : Value).ownBlock ∧ k_ ≠ gb368 ∧ k_ ≠ gb369 ∧ k_ ≠ gb370 ∧ k_ ≠ gb379 ∧ k_ ≠ gb380) ho0 (fun k_ hk_ => ⟨Or.elim hk_.1 (fun hs_ => hs_.1) (fun hn_ => (.inr (Nat.le_trans (bZ HB.out) hn_))), hk_.2, Or.elim hk_.1 (fun hs_ => hs_.2.1) (fun hn_ => (Kd.fresh' (Rq HO378.out) k_ hn_)), Or.elim hk_.1 (fun hs_ => hs_.2.2.1) (fun hn_ => (Kd.freshB BK368.out k_ hn_)), Or.elim hk_.1 (fun hs_ => hs_.2.2.2.1) (fun hn_ => (Kd.freshB BK369.out k_ hn_)), Or.elim hk_.1 (fun hs_ => hs_.2.2.2.2.1) (fun hn_ => (Kd.freshB BK370.out k_ hn_)), Or.elim hk_.1 (fun hs_ => hs_.2.2.2.2.2.1) (fun hn_ => (Kd.freshB BK379.out k_ hn_)), Or.elim hk_.1 (fun hs_ => hs_.2.2.2.2.2.2) (fun hn_ => (Kd.freshB BK380.out k_ hn_))⟩)) (bZ HB.out)); have HO388 := mk0 (Rl (Rn (Kd.R_newM (M := fun k_ => (w.heap.size ≤ k_)) (Rm (ok' := fun k_ => True) ho1 tv) (bZ HB.out) (fun k_ h_ => h_)) (Rq HO378.out)) (bZ HB.out)); replace HO378 := mk0 (Re HO378.out (Rs ho1) hb); replace BK368 := bkB BK368 hb; replace BK369 := bkB BK369 hb; replace BK370 := bkB BK370 hb; replace BK379 := bkB BK379 hb; replace BK380 := bkB BK380 hb; replace HB := hbS HB hb) | ((with_reducible refine gate_dst (N := 7) rfl ?_); refine box_event rfl (N := 7) rfl (cs := #[.bool false, .slice none 0 0]) (t := 27) (by go_simp <;> rfl) ?_; intro gb389 hg w33 hbox hb; replace HO0_1 := vB HO0_1 hg hb; replace HO1_1 := vB HO1_1 hg hb; replace HO374 := vB HO374 hg hb; replace HO378 := rB HO378 hb; replace HO384 := vB HO384 hg hb; replace HO388 := rB HO388 hb; have BK389 := mk0 (hbox); have GE389 := geB hg HB; replace HB := hbS HB hb; have NB368_389 := nbA hg BK368; have NB389_368 := nbB hg BK368; replace BK368 := bkB BK368 hb; have NB369_389 := nbA hg BK369; have NB389_369 := nbB hg BK369; replace BK369 := bkB BK369 hb; have NB370_389 := nbA hg BK370; have NB389_370 := nbB hg BK370; replace BK370 := bkB BK370 hb; have NB379_389 := nbA hg BK379; have NB389_379 := nbB hg BK379; replace BK379 := bkB BK379 hb; have NB380_389 := nbA hg BK380; have NB389_380 := nbB hg BK380; replace BK380 := bkB BK380 hb; clear hb hbox hg) | ((with_reducible refine gate_dst (N := 8) rfl ?_); refine box_event rfl (N := 8) rfl (cs := #[.bool false, .slice none 0 0]) (t := 27) (by go_simp <;> rfl) ?_; intro gb390 hg w34 hbox hb; replace HO0_1 := vB HO0_1 hg hb; replace HO1_1 := vB HO1_1 hg hb; replace HO374 := vB HO374 hg hb; replace HO378 := rB HO378 hb; replace HO384 := vB HO384 hg hb; replace HO388 := rB HO388 hb; have BK390 := mk0 (hbox); have GE390 := geB hg HB; replace HB := hbS HB hb; have NB368_390 := nbA hg BK368; have NB390_368 := nbB hg BK368; replace BK368 := bkB BK368 hb; have NB369_390 := nbA hg BK369; have NB390_369 := nbB hg BK369; replace BK369 := bkB BK369 hb; have NB370_390 := nbA hg BK370; have NB390_370 := nbB hg BK370; replace BK370 := bkB BK370 hb; have NB379_390 := nbA hg BK379; have NB390_379 := nbB hg BK379; replace BK379 := bkB BK379 hb; have NB380_390 := nbA hg BK380; have NB390_380 := nbB hg BK380; replace BK380 := bkB BK380 hb; have NB389_390 := nbA hg BK389; have NB390_389 := nbB hg BK389; replace BK389 := bkB BK389 hb; clear hb hbox hg; have hnb35 := NB389_368.out; have hnc35 := NB368_389.out; have hnb36 := NB389_369.out; have hnc36 := NB369_389.out; have hnb37 := NB389_370.out; have hnc37 := NB370_389.out; have hnb38 := NB389_379.out; have hnc38 := NB379_389.out; have hnb39 := NB389_380.out; have hnc39 := NB380_389.out; have hnb40 := NB389_390.out; have hnc40 := NB390_389.out; obtain ⟨hcz41_0, hcz41_1, hfz41_0, hfz41_1⟩ := cz2 BK389; obtain ⟨Ao42, co42, eo42⟩ := Kd.V_slice HO384.out; subst eo42; have hnb43 := NB390_368.out; have hnc43 := NB368_390.out; have hnb44 := NB390_369.out; have hnc44 := NB369_390.out; have hnb45 := NB390_370.out; have hnc45 := NB370_390.out; have hnb46 := NB390_379.out; have hnc46 := NB379_390.out; have hnb47 := NB390_380.out; have hnc47 := NB380_390.out; obtain ⟨hcz48_0, hcz48_1, hfz48_0, hfz48_1⟩ := cz2 BK390; obtain ⟨Ao49, co49, eo49⟩ := Kd.R_slice HO388.out; subst eo49))
 have n0_ : Aside0 (Kd.V (Kd.int .u32) 87 ((((w34.setCell ⟨gb389, 0, none⟩ (.bool t381)).setCell ⟨gb389, 1, none⟩ (.slice Ao42 t382.length co42)).setCell ⟨gb390, 0, none⟩ (.bool t385)).setCell ⟨gb390, 1, none⟩ (.slice Ao49 t386.length co49)) w.heap.size (fun k_ => ((P0_1_ k_ ∨ P1_1_ k_) ∨ w.heap.size ≤ k_) ∧ some k_ ≠ (.slice Ao28 t376.length co28 : Value).ownBlock ∧ some k_ ≠ (.slice Ao49 t386.length co49 : Value).ownBlock ∧ k_ ≠ gb368 ∧ k_ ≠ gb369 ∧ k_ ≠ gb370 ∧ k_ ≠ gb379 ∧ k_ ≠ gb380 ∧ k_ ≠ gb389 ∧ k_ ≠ gb390) (.slice A0_1 l0_1.length c0_1) l0_1) := ⟨Vm (Vf (p := ⟨gb390, 1, none⟩) (Vf (p := ⟨gb390, 0, none⟩) (Vf (p := ⟨gb389, 1, none⟩) (Vf (p := ⟨gb389, 0, none⟩) (Vm (Vm HO0_1.out (fun k_ hk => (⟨hk, hk.1.2⟩ : _ ∧ k_ ≠ gb389))) (fun k_ hk => (⟨hk, hk.1.2⟩ : _ ∧ k_ ≠ gb390))) (fun _ hk => hk.1.2) (.bool t381)) (fun _ hk => hk.1.2) (.slice Ao42 t382.length co42)) (fun _ hk => hk.2) (.bool t385)) (fun _ hk => hk.2) (.slice Ao49 t386.length co49)) (fun _ hk => ⟨hk.1.1.1.1.1.1, ⟨hk.1.1.1.1.1.2.1, ⟨hk.1.1.1.1.2, ⟨hk.1.1.1.1.1.2.2.1, ⟨hk.1.1.1.1.1.2.2.2.1, ⟨hk.1.1.1.1.1.2.2.2.2.1, ⟨hk.1.1.1.1.1.2.2.2.2.2.1, ⟨hk.1.1.1.1.1.2.2.2.2.2.2, ⟨hk.1.1.1.2, hk.1.1.2⟩⟩⟩⟩⟩⟩⟩⟩⟩)⟩
 have n1_ : Aside0 (Kd.V (Kd.int .u32) 87 ((((w34.setCell ⟨gb389, 0, none⟩ (.bool t381)).setCell ⟨gb389, 1, none⟩ (.slice Ao42 t382.length co42)).setCell ⟨gb390, 0, none⟩ (.bool t385)).setCell ⟨gb390, 1, none⟩ (.slice Ao49 t386.length co49)) w.heap.size (fun k_ => ((P0_1_ k_ ∨ P1_1_ k_) ∨ w.heap.size ≤ k_) ∧ some k_ ≠ (.slice Ao28 t376.length co28 : Value).ownBlock ∧ some k_ ≠ (.slice Ao49 t386.length co49 : Value).ownBlock ∧ k_ ≠ gb368 ∧ k_ ≠ gb369 ∧ k_ ≠ gb370 ∧ k_ ≠ gb379 ∧ k_ ≠ gb380 ∧ k_ ≠ gb389 ∧ k_ ≠ gb390) (.slice A1_1 l1_1.length c1_1) l1_1) := ⟨Vm (Vf (p := ⟨gb390, 1, none⟩) (Vf (p := ⟨gb390, 0, none⟩) (Vf (p := ⟨gb389, 1, none⟩) (Vf (p := ⟨gb389, 0, none⟩) (Vm (Vm HO1_1.out (fun k_ hk => (⟨hk, hk.1.2⟩ : _ ∧ k_ ≠ gb389))) (fun k_ hk => (⟨hk, hk.1.2⟩ : _ ∧ k_ ≠ gb390))) (fun _ hk => hk.1.2) (.bool t381)) (fun _ hk => hk.1.2) (.slice Ao42 t382.length co42)) (fun _ hk => hk.2) (.bool t385)) (fun _ hk => hk.2) (.slice Ao49 t386.length co49)) (fun _ hk => ⟨hk.1.1.1.1.1.1, ⟨hk.1.1.1.1.1.2.1, ⟨hk.1.1.1.1.2, ⟨hk.1.1.1.1.1.2.2.1, ⟨hk.1.1.1.1.1.2.2.2.1, ⟨hk.1.1.1.1.1.2.2.2.2.1, ⟨hk.1.1.1.1.1.2.2.2.2.2.1, ⟨hk.1.1.1.1.1.2.2.2.2.2.2, ⟨hk.1.1.1.2, hk.1.1.2⟩⟩⟩⟩⟩⟩⟩⟩⟩)⟩
 have n2_ : Aside0 (Kd.V (Kd.int .u32) 87 ((((w34.setCell ⟨gb389, 0, none⟩ (.bool t381)).setCell ⟨gb389, 1, none⟩ (.slice Ao42 t382.length co42)).setCell ⟨gb390, 0, none⟩ (.bool t385)).setCell ⟨gb390, 1, none⟩ (.slice Ao49 t386.length co49)) w.heap.size (fun k_ => ((P0_1_ k_ ∨ P1_1_ k_) ∨ w.heap.size ≤ k_) ∧ some k_ ≠ (.slice Ao28 t376.length co28 : Value).ownBlock ∧ some k_ ≠ (.slice Ao49 t386.length co49 : Value).ownBlock ∧ k_ ≠ gb368 ∧ k_ ≠ gb369 ∧ k_ ≠ gb370 ∧ k_ ≠ gb379 ∧ k_ ≠ gb380 ∧ k_ ≠ gb389 ∧ k_ ≠ gb390) (.slice Ao22 t372.length co22) t372) := ⟨Vm (Vf (p := ⟨gb390, 1, none⟩) (Vf (p := ⟨gb390, 0, none⟩) (Vf (p := ⟨gb389, 1, none⟩) (Vf (p := ⟨gb389, 0, none⟩) (Vm (Vm HO374.out (fun k_ hk => (⟨hk, hk.1.2⟩ : _ ∧ k_ ≠ gb389))) (fun k_ hk => (⟨hk, hk.1.2⟩ : _ ∧ k_ ≠ gb390))) (fun _ hk => hk.1.2) (.bool t381)) (fun _ hk => hk.1.2) (.slice Ao42 t382.length co42)) (fun _ hk => hk.2) (.bool t385)) (fun _ hk => hk.2) (.slice Ao49 t386.length co49)) (fun _ hk => ⟨hk.1.1.1.1.1.1, ⟨hk.1.1.1.1.1.2.1, ⟨hk.1.1.1.1.2, ⟨hk.1.1.1.1.1.2.2.1, ⟨hk.1.1.1.1.1.2.2.2.1, ⟨hk.1.1.1.1.1.2.2.2.2.1, ⟨hk.1.1.1.1.1.2.2.2.2.2.1, ⟨hk.1.1.1.1.1.2.2.2.2.2.2, ⟨hk.1.1.1.2, hk.1.1.2⟩⟩⟩⟩⟩⟩⟩⟩⟩)⟩
 have n3_ : Aside0 (Kd.R (Kd.int .u32) 87 ((((w34.setCell ⟨gb389, 0, none⟩ (.bool t381)).setCell ⟨gb389, 1, none⟩ (.slice Ao42 t382.length co42)).setCell ⟨gb390, 0, none⟩ (.bool t385)).setCell ⟨gb390, 1, none⟩ (.slice Ao49 t386.length co49)) w.heap.size (fun k_ => (w.heap.size ≤ k_) ∧ some k_ ≠ (.slice Ao49 t386.length co49 : Value).ownBlock) (.slice Ao28 t376.length co28) t376) := ⟨Rm (Rf (p := ⟨gb390, 1, none⟩) (Rf (p := ⟨gb390, 0, none⟩) (Rf (p := ⟨gb389, 1, none⟩) (Rf (p := ⟨gb389, 0, none⟩) (Rt (Rt HO378.out BK389.out (by decide)) BK390.out (by decide)) (fun _ hk => hk.1.2) (.bool t381)) (fun _ hk => hk.1.2) (.slice Ao42 t382.length co42)) (fun _ hk => hk.2) (.bool t385)) (fun _ hk => hk.2) (.slice Ao49 t386.length co49)) (fun _ hk => ⟨hk.1.1.1, hk.1.1.2⟩)⟩
 have n4_ : Aside0 (Kd.V (Kd.int .u32) 87 ((((w34.setCell ⟨gb389, 0, none⟩ (.bool t381)).setCell ⟨gb389, 1, none⟩ (.slice Ao42 t382.length co42)).setCell ⟨gb390, 0, none⟩ (.bool t385)).setCell ⟨gb390, 1, none⟩ (.slice Ao49 t386.length co49)) w.heap.size (fun k_ => ((P0_1_ k_ ∨ P1_1_ k_) ∨ w.heap.size ≤ k_) ∧ some k_ ≠ (.slice Ao28 t376.length co28 : Value).ownBlock ∧ some k_ ≠ (.slice Ao49 t386.length co49 : Value).ownBlock ∧ k_ ≠ gb368 ∧ k_ ≠ gb369 ∧ k_ ≠ gb370 ∧ k_ ≠ gb379 ∧ k_ ≠ gb380 ∧ k_ ≠ gb389 ∧ k_ ≠ gb390) (.slice Ao42 t382.length co42) t382) := ⟨Vm (Vf (p := ⟨gb390, 1, none⟩) (Vf (p := ⟨gb390, 0, none⟩) (Vf (p := ⟨gb389, 1, none⟩) (Vf (p := ⟨gb389, 0, none⟩) (Vm (Vm HO384.out (fun k_ hk => (⟨hk, hk.1.2⟩ : _ ∧ k_ ≠ gb389))) (fun k_ hk => (⟨hk, hk.1.2⟩ : _ ∧ k_ ≠ gb390))) (fun _ hk => hk.1.2) (.bool t381)) (fun _ hk => hk.1.2) (.slice Ao42 t382.length co42)) (fun _ hk => hk.2) (.bool t385)) (fun _ hk => hk.2) (.slice Ao49 t386.length co49)) (fun _ hk => ⟨hk.1.1.1.1.1, ⟨hk.1.1.1.1.2.2.1, ⟨hk.1.1.1.1.2.1, ⟨hk.1.1.1.1.2.2.2.1, ⟨hk.1.1.1.1.2.2.2.2.1, ⟨hk.1.1.1.1.2.2.2.2.2.1, ⟨hk.1.1.1.1.2.2.2.2.2.2.1, ⟨hk.1.1.1.1.2.2.2.2.2.2.2, ⟨hk.1.1.1.2, hk.1.1.2⟩⟩⟩⟩⟩⟩⟩⟩⟩)⟩
 have n5_ : Aside0 (Kd.R (Kd.int .u32) 87 ((((w34.setCell ⟨gb389, 0, none⟩ (.bool t381)).setCell ⟨gb389, 1, none⟩ (.slice Ao42 t382.length co42)).setCell ⟨gb390, 0, none⟩ (.bool t385)).setCell ⟨gb390, 1, none⟩ (.slice Ao49 t386.length co49)) w.heap.size (fun k_ => (w.heap.size ≤ k_) ∧ some k_ ≠ (.slice Ao28 t376.length co28 : Value).ownBlock) (.slice Ao49 t386.length co49) t386) := ⟨Rm (Rf (p := ⟨gb390, 1, none⟩) (Rf (p := ⟨gb390, 0, none⟩) (Rf (p := ⟨gb389, 1, none⟩) (Rf (p := ⟨gb389, 0, none⟩) (Rt (Rt HO388.out BK389.out (by decide)) BK390.out (by decide)) (fun _ hk => hk.1.2) (.bool t381)) (fun _ hk => hk.1.2) (.slice Ao42 t382.length co42)) (fun _ hk => hk.2) (.bool t385)) (fun _ hk => hk.2) (.slice Ao49 t386.length co49)) (fun _ hk => ⟨hk.1.1.1.1, hk.1.1.2⟩)⟩
 have n6_ : Aside0 (((((w34.setCell ⟨gb389, 0, none⟩ (.bool t381)).setCell ⟨gb389, 1, none⟩ (.slice Ao42 t382.length co42)).setCell ⟨gb390, 0, none⟩ (.bool t385)).setCell ⟨gb390, 1, none⟩ (.slice Ao49 t386.length co49)).heap[gb368]? = some (.cells #[.bool a0_0, .slice A0_1 l0_1.length c0_1, .slice A0_2 l0_2.length c0_2] 29 (0, 0))) := ⟨by refine blk_far ?_ NB368_390.out _; refine blk_far ?_ NB368_390.out _; refine blk_far ?_ NB368_389.out _; refine blk_far ?_ NB368_389.out _; exact BK368.out⟩
 have n7_ : Aside0 (((((w34.setCell ⟨gb389, 0, none⟩ (.bool t381)).setCell ⟨gb389, 1, none⟩ (.slice Ao42 t382.length co42)).setCell ⟨gb390, 0, none⟩ (.bool t385)).setCell ⟨gb390, 1, none⟩ (.slice Ao49 t386.length co49)).heap[gb369]? = some (.cells #[.bool a1_0, .slice A1_1 l1_1.length c1_1, .slice A1_2 l1_2.length c1_2] 29 (0, 0))) := ⟨by refine blk_far ?_ NB369_390.out _; refine blk_far ?_ NB369_390.out _; refine blk_far ?_ NB369_389.out _; refine blk_far ?_ NB369_389.out _; exact BK369.out⟩
 have n8_ : Aside0 (((((w34.setCell ⟨gb389, 0, none⟩ (.bool t381)).setCell ⟨gb389, 1, none⟩ (.slice Ao42 t382.length co42)).setCell ⟨gb390, 0, none⟩ (.bool t385)).setCell ⟨gb390, 1, none⟩ (.slice Ao49 t386.length co49)).heap[gb370]? = some (.cells #[.bool false, .slice none 0 0, .slice none 0 0] 29 (0, 0))) := ⟨by refine blk_far ?_ NB370_390.out _; refine blk_far ?_ NB370_390.out _; refine blk_far ?_ NB370_389.out _; refine blk_far ?_ NB370_389.out _; exact BK370.out⟩
 have n9_ : Aside0 (((((w34.setCell ⟨gb389, 0, none⟩ (.bool t381)).setCell ⟨gb389, 1, none⟩ (.slice Ao42 t382.length co42)).setCell ⟨gb390, 0, none⟩ (.bool t385)).setCell ⟨gb390, 1, none⟩ (.slice Ao49 t386.length co49)).heap[gb379]? = some (.cells #[.bool t371, .slice Ao22 t372.length co22] 27 (0, 0))) := ⟨by refine blk_far ?_ NB379_390.out _; refine blk_far ?_ NB379_390.out _; refine blk_far ?_ NB379_389.out _; refine blk_far ?_ NB379_389.out _; exact BK379.out⟩
 have n10_ : Aside0 (((((w34.setCell ⟨gb389, 0, none⟩ (.bool t381)).setCell ⟨gb389, 1, none⟩ (.slice Ao42 t382.length co42)).setCell ⟨gb390, 0, none⟩ (.bool t385)).setCell ⟨gb390, 1, none⟩ (.slice Ao49 t386.length co49)).heap[gb380]? = some (.cells #[.bool t375, .slice Ao28 t376.length co28] 27 (0, 0))) := ⟨by refine blk_far ?_ NB380_390.out _; refine blk_far ?_ NB380_390.out _; refine blk_far ?_ NB380_389.out _; refine blk_far ?_ NB380_389.out _; exact BK380.out⟩
 have n11_ : Aside0 (((((w34.setCell ⟨gb389, 0, none⟩ (.bool t381)).setCell ⟨gb389, 1, none⟩ (.slice Ao42 t382.length co42)).setCell ⟨gb390, 0, none⟩ (.bool t385)).setCell ⟨gb390, 1, none⟩ (.slice Ao49 t386.length co49)).heap[gb389]? = some (.cells #[.bool t381, .slice Ao42 t382.length co42] 27 (0, 0))) := ⟨by refine blk_far ?_ NB389_390.out _; refine blk_far ?_ NB389_390.out _; refine blk_put (cs := #[.bool t381, .slice none 0 0]) ?_ 1 _ rfl; refine blk_put (cs := #[.bool false, .slice none 0 0]) ?_ 0 _ rfl; exact BK389.out⟩
 have n12_ : Aside0 (((((w34.setCell ⟨gb389, 0, none⟩ (.bool t381)).setCell ⟨gb389, 1, none⟩ (.slice Ao42 t382.length co42)).setCell ⟨gb390, 0, none⟩ (.bool t385)).setCell ⟨gb390, 1, none⟩ (.slice Ao49 t386.length co49)).heap[gb390]? = some (.cells #[.bool t385, .slice Ao49 t386.length co49] 27 (0, 0))) := ⟨by refine blk_put (cs := #[.bool t385, .slice none 0 0]) ?_ 1 _ rfl; refine blk_put (cs := #[.bool false, .slice none 0 0]) ?_ 0 _ rfl; refine blk_far ?_ NB390_389.out _; refine blk_far ?_ NB390_389.out _; exact BK390.out⟩
 have n13_ : Aside0 (Below w.heap.size w ((((w34.setCell ⟨gb389, 0, none⟩ (.bool t381)).setCell ⟨gb389, 1, none⟩ (.slice Ao42 t382.length co42)).setCell ⟨gb390, 0, none⟩ (.bool t385)).setCell ⟨gb390, 1, none⟩ (.slice Ao49 t386.length co49))) := ⟨by repeat (first | exact HB.out | apply bN | apply b1 | apply bA | refine bS ?_ GE368.out | refine bS ?_ GE369.out | refine bS ?_ GE370.out | refine bS ?_ GE379.out | refine bS ?_ GE380.out | refine bS ?_ GE389.out | refine bS ?_ GE390.out)⟩
 (try clear HO0_1)
 (try clear HO1_1)
 (try clear HO374)
 (try clear HO378)
 (try clear HO384)
 (try clear HO388)
 (try clear BK368)
 (try clear BK369)
 (try clear BK370)
 (try clear BK379)
 (try clear BK380)
 (try clear BK389)
 (try clear BK390)
 (try clear HB)
 generalize ((((w34.setCell ⟨gb389, 0, none⟩ (.bool t381)).setCell ⟨gb389, 1, none⟩ (.slice Ao42 t382.length co42)).setCell ⟨gb390, 0, none⟩ (.bool t385)).setCell ⟨gb390, 1, none⟩ (.slice Ao49 t386.length co49)) = w50 at n0_ n1_ n2_ n3_ n4_ n5_ n6_ n7_ n8_ n9_ n10_ n11_ n12_ n13_ ⊢
 have HO0_1 := n0_
 have HO1_1 := n1_
 have HO374 := n2_
 have HO378 := n3_
 have HO384 := n4_
 have HO388 := n5_
 have BK368 := n6_
 have BK369 := n7_
 have BK370 := n8_
 have BK379 := n9_
 have BK380 := n10_
 have BK389 := n11_
 have BK390 := n12_
 have HB := n13_
 clear n0_ n1_ n2_ n3_ n4_ n5_ n6_ n7_ n8_ n9_ n10_ n11_ n12_ n13_
 replace HO0_1 := mk0 (Kd.V_drew HO0_1.out)
 replace HO1_1 := mk0 (Kd.V_drew HO1_1.out)
 replace HO374 := mk0 (Kd.V_drew HO374.out)
 replace HO378 := mk0 (Kd.R_drew HO378.out)
 replace HO384 := mk0 (Kd.V_drew HO384.out)
 replace HO388 := mk0 (Kd.R_drew HO388.out)
 replace BK368 := mk0 (blk_drew BK368.out)
 replace BK369 := mk0 (blk_drew BK369.out)
 replace BK370 := mk0 (blk_drew BK370.out)
 replace BK379 := mk0 (blk_drew BK379.out)
 replace BK380 := mk0 (blk_drew BK380.out)
 replace BK389 := mk0 (blk_drew BK389.out)
 replace BK390 := mk0 (blk_drew BK390.out)
 replace HB := mk0 (b1 HB.out)
 refine start_ (n := 10) (S := fun w' => w'.cell? ⟨gb379, 0, none⟩ = some (.bool t371) ∧ w'.cell? ⟨gb379, 1, none⟩ = some (.slice Ao22 t372.length co22) ∧ w'.cell? ⟨gb389, 0, none⟩ = some (.bool t381) ∧ w'.cell? ⟨gb389, 1, none⟩ = some (.slice Ao42 t382.length co42) ∧ w'.cell? ⟨gb380, 0, none⟩ = some (.bool t375) ∧ w'.cell? ⟨gb380, 1, none⟩ = some (.slice Ao28 t376.length co28) ∧ w'.cell? ⟨gb390, 0, none⟩ = some (.bool t385) ∧ w'.cell? ⟨gb390, 1, none⟩ = some (.slice Ao49 t386.length co49)) (ds := []) (bv 10 0) (by kernel_rfl) rfl rfl ⟨(blk_cell BK379.out 0).trans rfl, (blk_cell BK379.out 1).trans rfl, (blk_cell BK389.out 0).trans rfl, (blk_cell BK389.out 1).trans rfl, (blk_cell BK380.out 0).trans rfl, (blk_cell BK380.out 1).trans rfl, (blk_cell BK390.out 0).trans rfl, (blk_cell BK390.out 1).trans rfl⟩ (fun hHeld => ?_); refine with_tabW ratio_Mul.tab3 ratio_Mul.bits3 (fun HT_ HW_ => ?_)
 generalize w50.drew = w51 at HO0_1 HO1_1 HO374 HO378 HO384 HO388 BK368 BK369 BK370 BK379 BK380 BK389 BK390 HB hHeld ⊢
 refine puA (i := 3) (N := 22) (v := ?_) (a' := ?_) (bv 10 8) HT_ ?_ ?_ ?_; rotate_left; (intro w'; go_simp; with_reducible rfl); rotate_left; (simp only [Act.put, sA, sZ, sS, i64_w, i32_w]; rfl)
 refine puA (i := 5) (N := 24) (v := ?_) (a' := ?_) (bv 10 40) HT_ ?_ ?_ ?_; rotate_left; (intro w'; go_simp; with_reducible rfl); rotate_left; (simp only [Act.put, sA, sZ, sS, i64_w, i32_w]; rfl)
 refine take_ (i := 0) (N := some 19) (v := ?_) (a' := ?_) (bv 10 41) rfl rfl (take_ofW HT_.out HW_.out (by kernel_rfl)) (fun _ _ _ h => h) (Or.inl ⟨by rfl, ?_⟩) hHeld ?_ ?_; rotate_left; (rintro w' ⟨s0, s1, s2, s3, s4, s5, s6, s7⟩; go_simp; with_reducible rfl); rotate_left; (simp only [Act.put, sA, sZ, sS, i64_w, i32_w]; rfl)
 refine take_ (i := 1) (N := some 20) (v := ?_) (a' := ?_) (bv 10 43) rfl rfl (take_ofW HT_.out HW_.out (by kernel_rfl)) (fun _ _ _ h => h) (Or.inl ⟨by rfl, ?_⟩) hHeld ?_ ?_; rotate_left; (rintro w' ⟨s0, s1, s2, s3, s4, s5, s6, s7⟩; go_simp; with_reducible rfl); rotate_left; (simp only [Act.put, sA, sZ, sS, i64_w, i32_w]; rfl)
 refine take_ (i := 4) (N := some 23) (v := ?_) (a' := ?_) (bv 10 59) rfl rfl (take_ofW HT_.out HW_.out (by kernel_rfl)) (fun _ _ _ h => h) (Or.inl ⟨by rfl, ?_⟩) hHeld ?_ ?_; rotate_left; (rintro w' ⟨s0, s1, s2, s3, s4, s5, s6, s7⟩; go_simp; with_reducible rfl); rotate_left; (simp only [Act.put, sA, sZ, sS, i64_w, i32_w]; rfl)
 refine take_ (i := 6) (N := some 25) (v := ?_) (a' := ?_) (bv 10 123) rfl rfl (take_ofW HT_.out HW_.out (by kernel_rfl)) (fun _ _ _ h => h) (Or.inl ⟨by rfl, ?_⟩) hHeld ?_ ?_; rotate_left; (rintro w' ⟨s0, s1, s2, s3, s4, s5, s6, s7⟩; go_simp; with_reducible rfl); rotate_left; (simp only [Act.put, sA, sZ, sS, i64_w, i32_w]; rfl)
 refine one_ (i := 2) (N := some 21) (bv 10 127) rfl rfl (one_of HT_.out (by kernel_rfl)) (by decide) (fun K hK => ?_)
 refine goes_ Try.func52 (by kernel_rfl) rfl #[.agg #[.bool t371, .slice Ao22 t372.length co22], .agg #[.bool t381, .slice Ao42 t382.length co42]] (by rfl) rfl rfl (by go_simp <;> rfl) ?_
 with_reducible refine (integer_Mul.calls k t371 _ _ t372 t381 _ _ t382 t391 t392 _ ?side1 ?side2 ?side3 ?side4 A5.out).mono ?_
 (case side1 => repeat (first | exact (Kd.V_reads' HO374.out).2.2 | (with_reducible refine Kd.C_alloc ?_ _) | (with_reducible refine Kd.C_drewN ?_ _) | (with_reducible refine Kd.C_drew ?_)))
 (case side2 => exact (Kd.V_reads' HO374.out).2.1)
 (case side3 => repeat (first | exact (Kd.V_reads' HO384.out).2.2 | (with_reducible refine Kd.C_alloc ?_ _) | (with_reducible refine Kd.C_drewN ?_ _) | (with_reducible refine Kd.C_drew ?_)))
 (case side4 => exact (Kd.V_reads' HO384.out).2.1)
 rintro e w52 ⟨v393, rfl, ho0, hb⟩
 refine ⟨_, rfl, ?_⟩
 replace HO0_1 := mk0 (Kd.V_elder' HO0_1.out (Rs ho0) hb)
 replace HO1_1 := mk0 (Kd.V_elder' HO1_1.out (Rs ho0) hb)
 replace HO374 := mk0 (Kd.V_elder' HO374.out (Rs ho0) hb)
 replace HO384 := mk0 (Kd.V_elder' HO384.out (Rs ho0) hb)
 have HO394 := mk0 (Rl (Rn (Rn (Kd.R_newM (M := fun k_ => (w.heap.size ≤ k_)) ho0 (bZ (by repeat (first | exact HB.out | apply bN | apply b1 | apply bA | refine bS ?_ GE368.out | refine bS ?_ GE369.out | refine bS ?_ GE370.out | refine bS ?_ GE379.out | refine bS ?_ GE380.out | refine bS ?_ GE389.out | refine bS ?_ GE390.out))) (fun k_ h_ => h_)) (Rq HO378.out)) (Rq HO388.out)) (bZ (by repeat (first | exact HB.out | apply bN | apply b1 | apply bA | refine bS ?_ GE368.out | refine bS ?_ GE369.out | refine bS ?_ GE370.out | refine bS ?_ GE379.out | refine bS ?_ GE380.out | refine bS ?_ GE389.out | refine bS ?_ GE390.out))))
 replace HO378 := mk0 (Re HO378.out (Rs ho0) hb)
 replace HO388 := mk0 (Re HO388.out (Rs ho0) hb)
 replace BK368 := bkB BK368 hb
 replace BK369 := bkB BK369 hb
 replace BK370 := bkB BK370 hb
 replace BK379 := bkB BK379 hb
 replace BK380 := bkB BK380 hb
 replace BK389 := bkB BK389 hb
 replace BK390 := bkB BK390 hb
 replace HB := mk0 (below_step (by repeat (first | exact HB.out | apply bN | apply b1 | apply bA | refine bS ?_ GE368.out | refine bS ?_ GE369.out | refine bS ?_ GE370.out | refine bS ?_ GE379.out | refine bS ?_ GE380.out | refine bS ?_ GE389.out | refine bS ?_ GE390.out)) hb)
 refine hK.out _ _ ⟨(blk_cell BK379.out 0).trans rfl, (blk_cell BK379.out 1).trans rfl, (blk_cell BK389.out 0).trans rfl, (blk_cell BK389.out 1).trans rfl, (blk_cell BK380.out 0).trans rfl, (blk_cell BK380.out 1).trans rfl, (blk_cell BK390.out 0).trans rfl, (blk_cell BK390.out 1).trans rfl⟩ (fun hHeld => ?_)
 clear hK K
 refine norm_ (a' := ?_) ?_ ?_
 rotate_left
 ·show Act.put _ (some 21) _ = _
  simp only [Act.put, sA, sZ, sS, i64_w, i32_w]
  rfl
 refine one_ (i := 7) (N := some 26) (bv 10 255) rfl rfl (one_of HT_.out (by kernel_rfl)) (by decide) (fun K hK => ?_)
 refine goes_ Try.func54 (by kernel_rfl) rfl #[.slice Ao28 t376.length co28, .slice Ao49 t386.length co49] (by rfl) rfl rfl (by go_simp <;> rfl) ?_
 with_reducible refine (nat_Mul.calls k (fun k_ => some k_ = (.slice Ao28 t376.length co28 : Value).ownBlock) _ _ t376 (fun k_ => some k_ = (.slice Ao49 t386.length co49 : Value).ownBlock) _ _ t386 t395 _ ?side1 ?side2 A6.out).mono ?_
 (case side1 => exact Kd.R_V (Kd.R_tight rfl (Rt (Rt (Rt (Rt (Rt (Rt (Rt (HO378.out) BK368.out (by decide)) BK369.out (by decide)) BK370.out (by decide)) BK379.out (by decide)) BK380.out (by decide)) BK389.out (by decide)) BK390.out (by decide))))
 (case side2 => exact Kd.R_V (Kd.R_tight rfl (Rt (Rt (Rt (Rt (Rt (Rt (Rt (HO388.out) BK368.out (by decide)) BK369.out (by decide)) BK370.out (by decide)) BK379.out (by decide)) BK380.out (by decide)) BK389.out (by decide)) BK390.out (by decide))))
 rintro e w53 ⟨v396, rfl, ho0, hb⟩
 refine ⟨_, rfl, ?_⟩
 replace HO0_1 := mk0 (Kd.V_below HO0_1.out hb)
 replace HO1_1 := mk0 (Kd.V_below HO1_1.out hb)
 replace HO374 := mk0 (Kd.V_below HO374.out hb)
 replace HO384 := mk0 (Kd.V_below HO384.out hb)
 have HO397 := mk0 (Vl (Vm (ok' := fun k_ => ((P0_1_ k_ ∨ P1_1_ k_) ∨ w.heap.size ≤ k_) ∧ some k_ ≠ (v393 : Value).ownBlock ∧ k_ ≠ gb368 ∧ k_ ≠ gb369 ∧ k_ ≠ gb370 ∧ k_ ≠ gb379 ∧ k_ ≠ gb380 ∧ k_ ≠ gb389 ∧ k_ ≠ gb390) ho0 (fun k_ hk_ => ⟨Or.elim hk_ (fun hs_ => Or.elim hs_ (fun hs_ => (.inr (((Rt (Rt (Rt (Rt (Rt (Rt (Rt (HO378.out) BK368.out (by decide)) BK369.out (by decide)) BK370.out (by decide)) BK379.out (by decide)) BK380.out (by decide)) BK389.out (by decide)) BK390.out (by decide)).1 k_ hs_.symm).1.1.1.1.1.1.1.1.1))) (fun hs_ => (.inr (((Rt (Rt (Rt (Rt (Rt (Rt (Rt (HO388.out) BK368.out (by decide)) BK369.out (by decide)) BK370.out (by decide)) BK379.out (by decide)) BK380.out (by decide)) BK389.out (by decide)) BK390.out (by decide)).1 k_ hs_.symm).1.1.1.1.1.1.1.1.1)))) (fun hn_ => (.inr (Nat.le_trans (bZ (by repeat (first | exact HB.out | apply bN | apply b1 | apply bA | refine bS ?_ GE368.out | refine bS ?_ GE369.out | refine bS ?_ GE370.out | refine bS ?_ GE379.out | refine bS ?_ GE380.out | refine bS ?_ GE389.out | refine bS ?_ GE390.out))) hn_))), Or.elim hk_ (fun hs_ => Or.elim hs_ (fun hs_ => ((Rt (Rt (Rt (Rt (Rt (Rt (Rt (HO378.out) BK368.out (by decide)) BK369.out (by decide)) BK370.out (by decide)) BK379.out (by decide)) BK380.out (by decide)) BK389.out (by decide)) BK390.out (by decide)).1 k_ hs_.symm).1.1.1.1.1.1.1.2) (fun hs_ => ((Rt (Rt (Rt (Rt (Rt (Rt (Rt (HO388.out) BK368.out (by decide)) BK369.out (by decide)) BK370.out (by decide)) BK379.out (by decide)) BK380.out (by decide)) BK389.out (by decide)) BK390.out (by decide)).1 k_ hs_.symm).1.1.1.1.1.1.1.2)) (fun hn_ => (Kd.fresh' (Rq HO394.out) k_ hn_)), Or.elim hk_ (fun hs_ => Or.elim hs_ (fun hs_ => ((Rt (Rt (Rt (Rt (Rt (Rt (Rt (HO378.out) BK368.out (by decide)) BK369.out (by decide)) BK370.out (by decide)) BK379.out (by decide)) BK380.out (by decide)) BK389.out (by decide)) BK390.out (by decide)).1 k_ hs_.symm).1.1.1.1.1.1.2) (fun hs_ => ((Rt (Rt (Rt (Rt (Rt (Rt (Rt (HO388.out) BK368.out (by decide)) BK369.out (by decide)) BK370.out (by decide)) BK379.out (by decide)) BK380.out (by decide)) BK389.out (by decide)) BK390.out (by decide)).1 k_ hs_.symm).1.1.1.1.1.1.2)) (fun hn_ => (Kd.freshB BK368.out k_ hn_)), Or.elim hk_ (fun hs_ => Or.elim hs_ (fun hs_ => ((Rt (Rt (Rt (Rt (Rt (Rt (Rt (HO378.out) BK368.out (by decide)) BK369.out (by decide)) BK370.out (by decide)) BK379.out (by decide)) BK380.out (by decide)) BK389.out (by decide)) BK390.out (by decide)).1 k_ hs_.symm).1.1.1.1.1.2) (fun hs_ => ((Rt (Rt (Rt (Rt (Rt (Rt (Rt (HO388.out) BK368.out (by decide)) BK369.out (by decide)) BK370.out (by decide)) BK379.out (by decide)) BK380.out (by decide)) BK389.out (by decide)) BK390.out (by decide)).1 k_ hs_.symm).1.1.1.1.1.2)) (fun hn_ => (Kd.freshB BK369.out k_ hn_)), Or.elim hk_ (fun hs_ => Or.elim hs_ (fun hs_ => ((Rt (Rt (Rt (Rt (Rt (Rt (Rt (HO378.out) BK368.out (by decide)) BK369.out (by decide)) BK370.out (by decide)) BK379.out (by decide)) BK380.out (by decide)) BK389.out (by decide)) BK390.out (by decide)).1 k_ hs_.symm).1.1.1.1.2) (fun hs_ => ((Rt (Rt (Rt (Rt (Rt (Rt (Rt (HO388.out) BK368.out (by decide)) BK369.out (by decide)) BK370.out (by decide)) BK379.out (by decide)) BK380.out (by decide)) BK389.out (by decide)) BK390.out (by decide)).1 k_ hs_.symm).1.1.1.1.2)) (fun hn_ => (Kd.freshB BK370.out k_ hn_)), Or.elim hk_ (fun hs_ => Or.elim hs_ (fun hs_ => ((Rt (Rt (Rt (Rt (Rt (Rt (Rt (HO378.out) BK368.out (by decide)) BK369.out (by decide)) BK370.out (by decide)) BK379.out (by decide)) BK380.out (by decide)) BK389.out (by decide)) BK390.out (by decide)).1 k_ hs_.symm).1.1.1.2) (fun hs_ => ((Rt (Rt (Rt (Rt (Rt (Rt (Rt (HO388.out) BK368.out (by decide)) BK369.out (by decide)) BK370.out (by decide)) BK379.out (by decide)) BK380.out (by decide)) BK389.out (by decide)) BK390.out (by decide)).1 k_ hs_.symm).1.1.1.2)) (fun hn_ => (Kd.freshB BK379.out k_ hn_)), Or.elim hk_ (fun hs_ => Or.elim hs_ (fun hs_ => ((Rt (Rt (Rt (Rt (Rt (Rt (Rt (HO378.out) BK368.out (by decide)) BK369.out (by decide)) BK370.out (by decide)) BK379.out (by decide)) BK380.out (by decide)) BK389.out (by decide)) BK390.out (by decide)).1 k_ hs_.symm).1.1.2) (fun hs_ => ((Rt (Rt (Rt (Rt (Rt (Rt (Rt (HO388.out) BK368.out (by decide)) BK369.out (by decide)) BK370.out (by decide)) BK379.out (by decide)) BK380.out (by decide)) BK389.out (by decide)) BK390.out (by decide)).1 k_ hs_.symm).1.1.2)) (fun hn_ => (Kd.freshB BK380.out k_ hn_)), Or.elim hk_ (fun hs_ => Or.elim hs_ (fun hs_ => ((Rt (Rt (Rt (Rt (Rt (Rt (Rt (HO378.out) BK368.out (by decide)) BK369.out (by decide)) BK370.out (by decide)) BK379.out (by decide)) BK380.out (by decide)) BK389.out (by decide)) BK390.out (by decide)).1 k_ hs_.symm).1.2) (fun hs_ => ((Rt (Rt (Rt (Rt (Rt (Rt (Rt (HO388.out) BK368.out (by decide)) BK369.out (by decide)) BK370.out (by decide)) BK379.out (by decide)) BK380.out (by decide)) BK389.out (by decide)) BK390.out (by decide)).1 k_ hs_.symm).1.2)) (fun hn_ => (Kd.freshB BK389.out k_ hn_)), Or.elim hk_ (fun hs_ => Or.elim hs_ (fun hs_ => ((Rt (Rt (Rt (Rt (Rt (Rt (Rt (HO378.out) BK368.out (by decide)) BK369.out (by decide)) BK370.out (by decide)) BK379.out (by decide)) BK380.out (by decide)) BK389.out (by decide)) BK390.out (by decide)).1 k_ hs_.symm).2) (fun hs_ => ((Rt (Rt (Rt (Rt (Rt (Rt (Rt (HO388.out) BK368.out (by decide)) BK369.out (by decide)) BK370.out (by decide)) BK379.out (by decide)) BK380.out (by decide)) BK389.out (by decide)) BK390.out (by decide)).1 k_ hs_.symm).2)) (fun hn_ => (Kd.freshB BK390.out k_ hn_))⟩)) (bZ (by repeat (first | exact HB.out | apply bN | apply b1 | apply bA | refine bS ?_ GE368.out | refine bS ?_ GE369.out | refine bS ?_ GE370.out | refine bS ?_ GE379.out | refine bS ?_ GE380.out | refine bS ?_ GE389.out | refine bS ?_ GE390.out))))
 replace HO378 := rB HO378 hb
 replace HO388 := rB HO388 hb
 replace HO394 := rB HO394 hb
 replace BK368 := bkB BK368 hb
 replace BK369 := bkB BK369 hb
 replace BK370 := bkB BK370 hb
 replace BK379 := bkB BK379 hb
 replace BK380 := bkB BK380 hb
 replace BK389 := bkB BK389 hb
 replace BK390 := bkB BK390 hb
 replace HB := mk0 (below_step (by repeat (first | exact HB.out | apply bN | apply b1 | apply bA | refine bS ?_ GE368.out | refine bS ?_ GE369.out | refine bS ?_ GE370.out | refine bS ?_ GE379.out | refine bS ?_ GE380.out | refine bS ?_ GE389.out | refine bS ?_ GE390.out)) hb)
 obtain ⟨Ao54, co54, eo54⟩ := Kd.R_slice HO394.out
 (first | subst eo54 | (injection eo54 with f1_ f2_ f3_; have f4_ := f1_.symm; have f5_ := f3_.symm; clear f1_ f2_ f3_; subst f4_; subst f5_))
 obtain ⟨Ao55, co55, eo55⟩ := Kd.V_slice HO397.out
 (first | subst eo55 | (injection eo55 with f1_ f2_ f3_; have f4_ := f1_.symm; have f5_ := f3_.symm; clear f1_ f2_ f3_; subst f4_; subst f5_))
 refine hK.out _ _ ⟨(blk_cell BK379.out 0).trans rfl, (blk_cell BK379.out 1).trans rfl, (blk_cell BK389.out 0).trans rfl, (blk_cell BK389.out 1).trans rfl, (blk_cell BK380.out 0).trans rfl, (blk_cell BK380.out 1).trans rfl, (blk_cell BK390.out 0).trans rfl, (blk_cell BK390.out 1).trans rfl⟩ (fun hHeld => ?_)
 clear hK K
 refine norm_ (a' := ?_) ?_ ?_
 rotate_left
 ·show Act.put _ (some 26) _ = _
  simp only [Act.put, sA, sZ, sS, i64_w, i32_w]
  rfl
 refine one_ (i := 8) (N := some 27) (bv 10 511) rfl rfl (one_of HT_.out (by kernel_rfl)) (by decide) (fun K hK => ?_)
 refine goes_ Try.func53 (by kernel_rfl) rfl #[.agg #[.bool t391, .slice Ao54 t392.length co54], .slice Ao55 t395.length co55] (by rfl) rfl rfl (by go_simp <;> rfl) ?_
 with_reducible refine (ratio_lowest.calls k t391 (fun k_ => some k_ = (.slice Ao54 t392.length co54 : Value).ownBlock) _ _ t392 (fun k_ => (((P0_1_ k_ ∨ P1_1_ k_) ∨ w.heap.size ≤ k_) ∧ (some k_ ≠ (.slice Ao54 t392.length co54 : Value).ownBlock ∧ (k_ ≠ gb368 ∧ (k_ ≠ gb369 ∧ (k_ ≠ gb370 ∧ (k_ ≠ gb379 ∧ (k_ ≠ gb380 ∧ (k_ ≠ gb389 ∧ k_ ≠ gb390))))))))) _ _ t395 t398 t399 t402 _ ?side1 ?side2 A7.out).mono ?_
 (case side1 => exact Kd.R_V (Kd.R_tight rfl (Rt (Rt (Rt (Rt (Rt (Rt (Rt (HO394.out) BK368.out (by decide)) BK369.out (by decide)) BK370.out (by decide)) BK379.out (by decide)) BK380.out (by decide)) BK389.out (by decide)) BK390.out (by decide))))
 (case side2 => exact HO397.out)
 rintro e w56 ⟨v400, v403, rfl, ho0, ho1, hb⟩
 refine ⟨_, rfl, ?_⟩
 replace HO0_1 := mk0 (Kd.V_elder' HO0_1.out (Rs ho0) hb)
 replace HO1_1 := mk0 (Kd.V_elder' HO1_1.out (Rs ho0) hb)
 replace HO374 := mk0 (Kd.V_elder' HO374.out (Rs ho0) hb)
 replace HO384 := mk0 (Kd.V_elder' HO384.out (Rs ho0) hb)
 replace HO397 := mk0 (Kd.V_elder' HO397.out (Rs ho0) hb)
 have HO401 := mk0 (Rl (Rn (Rn (Rn (Kd.R_newM (M := fun k_ => (w.heap.size ≤ k_)) (Rm (ok' := fun k_ => True) ho0 tv) (bZ (by repeat (first | exact HB.out | apply bN | apply b1 | apply bA | refine bS ?_ GE368.out | refine bS ?_ GE369.out | refine bS ?_ GE370.out | refine bS ?_ GE379.out | refine bS ?_ GE380.out | refine bS ?_ GE389.out | refine bS ?_ GE390.out))) (fun k_ h_ => h_)) (Rq HO378.out)) (Rq HO388.out)) (Rq HO394.out)) (bZ (by repeat (first | exact HB.out | apply bN | apply b1 | apply bA | refine bS ?_ GE368.out | refine bS ?_ GE369.out | refine bS ?_ GE370.out | refine bS ?_ GE379.out | refine bS ?_ GE380.out | refine bS ?_ GE389.out | refine bS ?_ GE390.out))))
 replace HO378 := mk0 (Re HO378.out (Rs ho0) hb)
 replace HO388 := mk0 (Re HO388.out (Rs ho0) hb)
 have HO404 := mk0 (Vl (Vm (ok' := fun k_ => ((P0_1_ k_ ∨ P1_1_ k_) ∨ w.heap.size ≤ k_) ∧ some k_ ≠ (v400 : Value).ownBlock ∧ k_ ≠ gb368 ∧ k_ ≠ gb369 ∧ k_ ≠ gb370 ∧ k_ ≠ gb379 ∧ k_ ≠ gb380 ∧ k_ ≠ gb389 ∧ k_ ≠ gb390) ho1 (fun k_ hk_ => ⟨Or.elim hk_.1 (fun hs_ => Or.elim hs_ (fun hs_ => (.inr (((Rt (Rt (Rt (Rt (Rt (Rt (Rt (HO394.out) BK368.out (by decide)) BK369.out (by decide)) BK370.out (by decide)) BK379.out (by decide)) BK380.out (by decide)) BK389.out (by decide)) BK390.out (by decide)).1 k_ hs_.symm).1.1.1.1.1.1.1.1.1.1))) (fun hs_ => hs_.1)) (fun hn_ => (.inr (Nat.le_trans (bZ (by repeat (first | exact HB.out | apply bN | apply b1 | apply bA | refine bS ?_ GE368.out | refine bS ?_ GE369.out | refine bS ?_ GE370.out | refine bS ?_ GE379.out | refine bS ?_ GE380.out | refine bS ?_ GE389.out | refine bS ?_ GE390.out))) hn_))), hk_.2, Or.elim hk_.1 (fun hs_ => Or.elim hs_ (fun hs_ => ((Rt (Rt (Rt (Rt (Rt (Rt (Rt (HO394.out) BK368.out (by decide)) BK369.out (by decide)) BK370.out (by decide)) BK379.out (by decide)) BK380.out (by decide)) BK389.out (by decide)) BK390.out (by decide)).1 k_ hs_.symm).1.1.1.1.1.1.2) (fun hs_ => hs_.2.2.1)) (fun hn_ => (Kd.freshB BK368.out k_ hn_)), Or.elim hk_.1 (fun hs_ => Or.elim hs_ (fun hs_ => ((Rt (Rt (Rt (Rt (Rt (Rt (Rt (HO394.out) BK368.out (by decide)) BK369.out (by decide)) BK370.out (by decide)) BK379.out (by decide)) BK380.out (by decide)) BK389.out (by decide)) BK390.out (by decide)).1 k_ hs_.symm).1.1.1.1.1.2) (fun hs_ => hs_.2.2.2.1)) (fun hn_ => (Kd.freshB BK369.out k_ hn_)), Or.elim hk_.1 (fun hs_ => Or.elim hs_ (fun hs_ => ((Rt (Rt (Rt (Rt (Rt (Rt (Rt (HO394.out) BK368.out (by decide)) BK369.out (by decide)) BK370.out (by decide)) BK379.out (by decide)) BK380.out (by decide)) BK389.out (by decide)) BK390.out (by decide)).1 k_ hs_.symm).1.1.1.1.2) (fun hs_ => hs_.2.2.2.2.1)) (fun hn_ => (Kd.freshB BK370.out k_ hn_)), Or.elim hk_.1 (fun hs_ => Or.elim hs_ (fun hs_ => ((Rt (Rt (Rt (Rt (Rt (Rt (Rt (HO394.out) BK368.out (by decide)) BK369.out (by decide)) BK370.out (by decide)) BK379.out (by decide)) BK380.out (by decide)) BK389.out (by decide)) BK390.out (by decide)).1 k_ hs_.symm).1.1.1.2) (fun hs_ => hs_.2.2.2.2.2.1)) (fun hn_ => (Kd.freshB BK379.out k_ hn_)), Or.elim hk_.1 (fun hs_ => Or.elim hs_ (fun hs_ => ((Rt (Rt (Rt (Rt (Rt (Rt (Rt (HO394.out) BK368.out (by decide)) BK369.out (by decide)) BK370.out (by decide)) BK379.out (by decide)) BK380.out (by decide)) BK389.out (by decide)) BK390.out (by decide)).1 k_ hs_.symm).1.1.2) (fun hs_ => hs_.2.2.2.2.2.2.1)) (fun hn_ => (Kd.freshB BK380.out k_ hn_)), Or.elim hk_.1 (fun hs_ => Or.elim hs_ (fun hs_ => ((Rt (Rt (Rt (Rt (Rt (Rt (Rt (HO394.out) BK368.out (by decide)) BK369.out (by decide)) BK370.out (by decide)) BK379.out (by decide)) BK380.out (by decide)) BK389.out (by decide)) BK390.out (by decide)).1 k_ hs_.symm).1.2) (fun hs_ => hs_.2.2.2.2.2.2.2.1)) (fun hn_ => (Kd.freshB BK389.out k_ hn_)), Or.elim hk_.1 (fun hs_ => Or.elim hs_ (fun hs_ => ((Rt (Rt (Rt (Rt (Rt (Rt (Rt (HO394.out) BK368.out (by decide)) BK369.out (by decide)) BK370.out (by decide)) BK379.out (by decide)) BK380.out (by decide)) BK389.out (by decide)) BK390.out (by decide)).1 k_ hs_.symm).2) (fun hs_ => hs_.2.2.2.2.2.2.2.2)) (fun hn_ => (Kd.freshB BK390.out k_ hn_))⟩)) (bZ (by repeat (first | exact HB.out | apply bN | apply b1 | apply bA | refine bS ?_ GE368.out | refine bS ?_ GE369.out | refine bS ?_ GE370.out | refine bS ?_ GE379.out | refine bS ?_ GE380.out | refine bS ?_ GE389.out | refine bS ?_ GE390.out))))
 replace HO394 := mk0 (Re HO394.out (Rs ho0) hb)
 replace BK368 := bkB BK368 hb
 replace BK369 := bkB BK369 hb
 replace BK370 := bkB BK370 hb
 replace BK379 := bkB BK379 hb
 replace BK380 := bkB BK380 hb
 replace BK389 := bkB BK389 hb
 replace BK390 := bkB BK390 hb
 replace HB := mk0 (below_step (by repeat (first | exact HB.out | apply bN | apply b1 | apply bA | refine bS ?_ GE368.out | refine bS ?_ GE369.out | refine bS ?_ GE370.out | refine bS ?_ GE379.out | refine bS ?_ GE380.out | refine bS ?_ GE389.out | refine bS ?_ GE390.out)) hb)
 obtain ⟨Ao58, co58, eo58⟩ := Kd.R_slice HO401.out
 (first | subst eo58 | (injection eo58 with f1_ f2_ f3_; have f4_ := f1_.symm; have f5_ := f3_.symm; clear f1_ f2_ f3_; subst f4_; subst f5_))
 obtain ⟨Ao60, co60, eo60⟩ := Kd.V_slice HO404.out
 (first | subst eo60 | (injection eo60 with f1_ f2_ f3_; have f4_ := f1_.symm; have f5_ := f3_.symm; clear f1_ f2_ f3_; subst f4_; subst f5_))
 refine hK.out _ _ ⟨(blk_cell BK379.out 0).trans rfl, (blk_cell BK379.out 1).trans rfl, (blk_cell BK389.out 0).trans rfl, (blk_cell BK389.out 1).trans rfl, (blk_cell BK380.out 0).trans rfl, (blk_cell BK380.out 1).trans rfl, (blk_cell BK390.out 0).trans rfl, (blk_cell BK390.out 1).trans rfl⟩ (fun hHeld => ?_)
 clear hK K
 refine norm_ (a' := ?_) ?_ ?_
 rotate_left
 ·show Act.put _ (some 27) _ = _
  simp only [Act.put, sA, sZ, sS, i64_w, i32_w]
  rfl
 refine one_ (i := 9) (N := none) (bv 10 1023) rfl rfl (one_of HT_.out (by kernel_rfl)) (by decide) (fun K hK => ?_)
 have hs57 : w56.cell? ⟨gb370, 0, none⟩ = some (.bool false) := (blk_cell BK370.out 0).trans rfl
 have hfs57 := blk_frozen BK370.out 0
 have hns57_0 := NB368_370.out
 have hns57_1 := NB369_370.out
 have hns57_3 := NB379_370.out
 have hns57_4 := NB380_370.out
 have hns57_5 := NB389_370.out
 have hns57_6 := NB390_370.out
 have hms57_0 := NB370_368.out
 have hms57_1 := NB370_369.out
 have hms57_3 := NB370_379.out
 have hms57_4 := NB370_380.out
 have hms57_5 := NB370_389.out
 have hms57_6 := NB370_390.out
 have hs59 : w56.cell? ⟨gb370, 1, none⟩ = some (.slice none 0 0) := (blk_cell BK370.out 1).trans rfl
 have hfs59 := blk_frozen BK370.out 1
 have hns59_0 := NB368_370.out
 have hns59_1 := NB369_370.out
 have hns59_3 := NB379_370.out
 have hns59_4 := NB380_370.out
 have hns59_5 := NB389_370.out
 have hns59_6 := NB390_370.out
 have hms59_0 := NB370_368.out
 have hms59_1 := NB370_369.out
 have hms59_3 := NB370_379.out
 have hms59_4 := NB370_380.out
 have hms59_5 := NB370_389.out
 have hms59_6 := NB370_390.out
 have hs61 : w56.cell? ⟨gb370, 2, none⟩ = some (.slice none 0 0) := (blk_cell BK370.out 2).trans rfl
 have hfs61 := blk_frozen BK370.out 2
 have hns61_0 := NB368_370.out
 have hns61_1 := NB369_370.out
 have hns61_3 := NB379_370.out
 have hns61_4 := NB380_370.out
 have hns61_5 := NB389_370.out
 have hns61_6 := NB390_370.out
 have hms61_0 := NB370_368.out
 have hms61_1 := NB370_369.out
 have hms61_3 := NB370_379.out
 have hms61_4 := NB370_380.out
 have hms61_5 := NB370_389.out
 have hms61_6 := NB370_390.out
 refine skip_ (w1 := ?_) (by rfl) rfl ?_ ?_
 rotate_left
 ·go_simp
  rfl
 refine hK.out _ _ ⟨((cell_far (p := ⟨gb370, _, none⟩) NB379_370.out _).trans (((cell_far (p := ⟨gb370, _, none⟩) NB379_370.out _).trans (((cell_far (p := ⟨gb370, _, none⟩) NB379_370.out _).trans (hHeld.1)))))), ((cell_far (p := ⟨gb370, _, none⟩) NB379_370.out _).trans (((cell_far (p := ⟨gb370, _, none⟩) NB379_370.out _).trans (((cell_far (p := ⟨gb370, _, none⟩) NB379_370.out _).trans (hHeld.2.1)))))), ((cell_far (p := ⟨gb370, _, none⟩) NB389_370.out _).trans (((cell_far (p := ⟨gb370, _, none⟩) NB389_370.out _).trans (((cell_far (p := ⟨gb370, _, none⟩) NB389_370.out _).trans (hHeld.2.2.1)))))), ((cell_far (p := ⟨gb370, _, none⟩) NB389_370.out _).trans (((cell_far (p := ⟨gb370, _, none⟩) NB389_370.out _).trans (((cell_far (p := ⟨gb370, _, none⟩) NB389_370.out _).trans (hHeld.2.2.2.1)))))), ((cell_far (p := ⟨gb370, _, none⟩) NB380_370.out _).trans (((cell_far (p := ⟨gb370, _, none⟩) NB380_370.out _).trans (((cell_far (p := ⟨gb370, _, none⟩) NB380_370.out _).trans (hHeld.2.2.2.2.1)))))), ((cell_far (p := ⟨gb370, _, none⟩) NB380_370.out _).trans (((cell_far (p := ⟨gb370, _, none⟩) NB380_370.out _).trans (((cell_far (p := ⟨gb370, _, none⟩) NB380_370.out _).trans (hHeld.2.2.2.2.2.1)))))), ((cell_far (p := ⟨gb370, _, none⟩) NB390_370.out _).trans (((cell_far (p := ⟨gb370, _, none⟩) NB390_370.out _).trans (((cell_far (p := ⟨gb370, _, none⟩) NB390_370.out _).trans (hHeld.2.2.2.2.2.2.1)))))), ((cell_far (p := ⟨gb370, _, none⟩) NB390_370.out _).trans (((cell_far (p := ⟨gb370, _, none⟩) NB390_370.out _).trans (((cell_far (p := ⟨gb370, _, none⟩) NB390_370.out _).trans (hHeld.2.2.2.2.2.2.2))))))⟩ (fun hHeld => ?_)
 clear hK K
 refine done_ (done_of HT_.out (by kernel_rfl)) ?_
 try go_wp2
 refine bodyPost_ret (results_cell_row rfl _ _ gb370 29 #[.bool t398, .slice Ao58 t399.length co58, .slice Ao60 t402.length co60] (0, 0) _ rfl (by refine blk_put (cs := #[.bool t398, .slice Ao58 t399.length co58, .slice none 0 0]) ?_ 2 _ rfl; refine blk_put (cs := #[.bool t398, .slice none 0 0, .slice none 0 0]) ?_ 1 _ rfl; refine blk_put (cs := #[.bool false, .slice none 0 0, .slice none 0 0]) ?_ 0 _ rfl; exact BK370.out) Try.underlying29 rfl (by kernel_rfl)) rfl ?_
 exact ⟨_, _, by first | rfl | (simp [errW_none, errW_some] <;> rfl) | (simp [*, errW_none, errW_some] <;> rfl), Rm (Rf (p := ⟨gb370, 2, none⟩) (Rf (p := ⟨gb370, 1, none⟩) (Rf (p := ⟨gb370, 0, none⟩) (Rt HO401.out BK370.out (by decide)) (fun _ hk => hk.2) (.bool t398)) (fun _ hk => hk.2) (.slice Ao58 t399.length co58)) (fun _ hk => hk.2) (.slice Ao60 t402.length co60)) (fun _ hk => hk.1.1.1.1.1), Vm (Vf (p := ⟨gb370, 2, none⟩) (Vf (p := ⟨gb370, 1, none⟩) (Vf (p := ⟨gb370, 0, none⟩) (Vm HO404.out (fun k_ hk => (⟨hk, hk.2.2.2.2.1⟩ : _ ∧ k_ ≠ gb370))) (fun _ hk => hk.2) (.bool t398)) (fun _ hk => hk.2) (.slice Ao58 t399.length co58)) (fun _ hk => hk.2) (.slice Ao60 t402.length co60)) (fun _ hk => ⟨hk.1.1, hk.1.2.1⟩), by repeat (first | exact HB.out | apply bN | apply b1 | apply bA | refine bS ?_ GE368.out | refine bS ?_ GE369.out | refine bS ?_ GE370.out | refine bS ?_ GE379.out | refine bS ?_ GE380.out | refine bS ?_ GE389.out | refine bS ?_ GE390.out)⟩
set_option maxHeartbeats 8000000 in
set_option maxRecDepth 100000 in
theorem ratio_Make.calls (k : Nat) (a0_0 : Bool) (P0_1_ : Nat → Prop) (A0_1 : Option Addr) (c0_1 : Nat) (l0_1 : List Int) (a1_0 : Bool) (P1_1_ : Nat → Prop) (A1_1 : Option Addr) (c1_1 : Nat) (l1_1 : List Int) (r1 : Bool) (r2 : List Int) (r3 : List Int) (r4 : Bool) (w : World) (hs0_1 : Kd.V (Kd.int .u32) 87 w w.heap.size (fun k_ => P0_1_ k_) (.slice A0_1 l0_1.length c0_1) l0_1) (hs1_1 : Kd.V (Kd.int .u32) 87 w w.heap.size (fun k_ => P1_1_ k_) (.slice A1_1 l1_1.length c1_1) l1_1) (h : ratio_Make.f k a0_0 l0_1 a1_0 l1_1 = some (r1, r2, r3, r4)) :
  Calls Try.prog 38 #[.agg #[.bool a0_0, .slice A0_1 l0_1.length c0_1], .agg #[.bool a1_0, .slice A1_1 l1_1.length c1_1]] w fun e w' => ∃ v1_ v2_ : Value, e = .returned (.tuple #[.agg #[.bool r1, v1_, v2_], .bool r4]) ∧ Kd.R (Kd.int .u32) 87 w' w.heap.size (fun k_ => (w.heap.size ≤ k_)) v1_ r2 ∧ Kd.V (Kd.int .u32) 87 w' w.heap.size (fun k_ => ((P0_1_ k_ ∨ P1_1_ k_) ∨ w.heap.size ≤ k_) ∧ some k_ ≠ (v1_ : Value).ownBlock) v2_ r3 ∧ Below w.heap.size w w' := by
 have hu27 := Try.underlying27
 have hu29 := Try.underlying29
 have HO0_1 := mk0 (show Kd.V (Kd.int .u32) 87 w w.heap.size (fun k_ => ((P0_1_ k_ ∨ P1_1_ k_) ∨ w.heap.size ≤ k_)) (.slice A0_1 l0_1.length c0_1) l0_1 from Vm hs0_1 (fun k_ hk => .inl (.inl hk)))
 have HO1_1 := mk0 (show Kd.V (Kd.int .u32) 87 w w.heap.size (fun k_ => ((P0_1_ k_ ∨ P1_1_ k_) ∨ w.heap.size ≤ k_)) (.slice A1_1 l1_1.length c1_1) l1_1 from Vm hs1_1 (fun k_ hk => .inl (.inr hk)))
 have HB := mk0 (Below.refl w.heap.size w)
 have H : ((nat_Bits.f k l1_1).bind fun t408 => (if t408 = 0 then ((ratio_zero.f k).bind fun bt409 => (some (bt409.1, bt409.2.1, bt409.2.2, false))) else ((ratio_lowest.f k (a0_0 != a1_0) l0_1 l1_1).bind fun bt416 => (some (bt416.1, bt416.2.1, bt416.2.2, true))))) = some (r1, r2, r3, r4) := h
 clear h
 obtain ⟨t408, A3, H⟩ := bindA H
 by_cases c4 : t408 = 0
 ·rw [if_pos c4] at H
  have c4b0 : (t408 == 0) = true := beq_iff_eq.mpr c4
  have c4b1 : (t408 != 0) = false := bne_eq_false_iff_eq.mpr c4
  clear c4
  obtain ⟨⟨t409, t410, t413⟩, A5, H⟩ := bindA H
  simp only [Option.some.injEq, Prod.mk.injEq] at H
  obtain ⟨rfl, rfl, rfl, rfl⟩ := H
  go_enter Try.func38, Try.ntmps38
  go_wp2_with (first | ((with_reducible refine gate_dst (N := 2) rfl ?_); refine box_event rfl (N := 2) rfl (cs := #[.bool a0_0, .slice A0_1 l0_1.length c0_1]) (t := 27) (by go_simp <;> rfl) ?_; intro gb405 hg w6 hbox hb; replace HO0_1 := vB HO0_1 hg hb; replace HO1_1 := vB HO1_1 hg hb; have BK405 := mk0 (hbox); have GE405 := geB hg HB; replace HB := hbS HB hb; clear hb hbox hg) | ((with_reducible refine gate_dst (N := 3) rfl ?_); refine box_event rfl (N := 3) rfl (cs := #[.bool a1_0, .slice A1_1 l1_1.length c1_1]) (t := 27) (by go_simp <;> rfl) ?_; intro gb406 hg w7 hbox hb; replace HO0_1 := vB HO0_1 hg hb; replace HO1_1 := vB HO1_1 hg hb; have BK406 := mk0 (hbox); have GE406 := geB hg HB; replace HB := hbS HB hb; have NB405_406 := nbA hg BK405; have NB406_405 := nbB hg BK405; replace BK405 := bkB BK405 hb; clear hb hbox hg) | ((with_reducible refine gate_dst (N := 4) rfl ?_); refine box_event rfl (N := 4) rfl (cs := #[.bool false, .slice none 0 0, .slice none 0 0]) (t := 29) (by go_simp <;> rfl) ?_; intro gb407 hg w8 hbox hb; replace HO0_1 := vB HO0_1 hg hb; replace HO1_1 := vB HO1_1 hg hb; have BK407 := mk0 (hbox); have GE407 := geB hg HB; replace HB := hbS HB hb; have NB405_407 := nbA hg BK405; have NB407_405 := nbB hg BK405; replace BK405 := bkB BK405 hb; have NB406_407 := nbA hg BK406; have NB407_406 := nbB hg BK406; replace BK406 := bkB BK406 hb; clear hb hbox hg; have hnb9 := NB406_405.out; have hnc9 := NB405_406.out; have hnb10 := NB406_407.out; have hnc10 := NB407_406.out; obtain ⟨hcz11_0, hcz11_1, hfz11_0, hfz11_1⟩ := cz2 BK406) | ((with_reducible refine gate_callee (f := 64) rfl ?_); refine goesL_ (some 8) rfl rfl Try.func64 (by kernel_rfl) rfl #[.slice A1_1 l1_1.length c1_1] rfl (by (try simp only [mA, mC, mN]); first | done | rfl | (simp only [lD, lT]; rfl)) ?_; (with_reducible refine (nat_Bits.calls k _ _ l1_1 t408 _ (by exact (Kd.V_reads' HO1_1.out).2.2) (by exact (Kd.V_reads' HO1_1.out).2.1) A3.out).mono ?_); rintro e w12 ⟨rfl, hb⟩; refine ⟨_, rfl, ?_⟩; replace HO0_1 := mk0 (Kd.V_below HO0_1.out hb); replace HO1_1 := mk0 (Kd.V_below HO1_1.out hb); replace BK405 := bkB BK405 hb; replace BK406 := bkB BK406 hb; replace BK407 := bkB BK407 hb; replace HB := hbS HB hb) | ((with_reducible refine gate_callee (f := 67) rfl ?_); refine goesL_ (some 10) rfl rfl Try.func67 (by kernel_rfl) rfl #[] rfl (by (try simp only [mA, mC, mN]); first | done | rfl | (simp only [lD, lT]; rfl)) ?_; (with_reducible refine (ratio_zero.calls k  t409 t410 t413 _ A5.out).mono ?_); rintro e w13 ⟨v411, v414, rfl, ho0, ho1, hb⟩; refine ⟨_, rfl, ?_⟩; replace HO0_1 := mk0 (Kd.V_elder' HO0_1.out (Rs ho0) hb); replace HO1_1 := mk0 (Kd.V_elder' HO1_1.out (Rs ho0) hb); have HO412 := mk0 (Rl (Kd.R_newM (M := fun k_ => (w.heap.size ≤ k_)) (Rm (ok' := fun k_ => True) ho0 tv) (bZ HB.out) (fun k_ h_ => h_)) (bZ HB.out)); have HO415 := mk0 (Vl (Vm (ok' := fun k_ => ((P0_1_ k_ ∨ P1_1_ k_) ∨ w.heap.size ≤ k_) ∧ some k_ ≠ (v411 : Value).ownBlock ∧ k_ ≠ gb405 ∧ k_ ≠ gb406 ∧ k_ ≠ gb407) ho1 (fun k_ hk_ => ⟨(.inr (Nat.le_trans (bZ HB.out) hk_.1)), hk_.2, (Kd.freshB BK405.out k_ hk_.1), (Kd.freshB BK406.out k_ hk_.1), (Kd.freshB BK407.out k_ hk_.1)⟩)) (bZ HB.out)); replace BK405 := bkB BK405 hb; replace BK406 := bkB BK406 hb; replace BK407 := bkB BK407 hb; replace HB := hbS HB hb; have hnb14 := NB407_405.out; have hnc14 := NB405_407.out; obtain ⟨hcz15_0, hcz15_1, hcz15_2, hfz15_0, hfz15_1, hfz15_2⟩ := cz3 BK407; obtain ⟨Ao16, co16, eo16⟩ := Kd.R_slice HO412.out; subst eo16; obtain ⟨Ao17, co17, eo17⟩ := Kd.V_slice HO415.out; subst eo17))
  refine bodyPost_ret (results_ct rfl _ _ gb407 29 #[.bool t409, .slice Ao16 t410.length co16, .slice Ao17 t413.length co17] (0, 0) _ rfl (by refine blk_put (cs := #[.bool t409, .slice Ao16 t410.length co16, .slice none 0 0]) ?_ 2 _ rfl; refine blk_put (cs := #[.bool t409, .slice none 0 0, .slice none 0 0]) ?_ 1 _ rfl; refine blk_put (cs := #[.bool false, .slice none 0 0, .slice none 0 0]) ?_ 0 _ rfl; exact BK407.out) Try.underlying29 rfl (by kernel_rfl)) rfl ?_
  exact ⟨_, _, by first | rfl | (simp [errW_none, errW_some] <;> rfl) | (simp [*, errW_none, errW_some] <;> rfl), Rm (Rf (p := ⟨gb407, 2, none⟩) (Rf (p := ⟨gb407, 1, none⟩) (Rf (p := ⟨gb407, 0, none⟩) (Rt HO412.out BK407.out (by decide)) (fun _ hk => hk.2) (.bool t409)) (fun _ hk => hk.2) (.slice Ao16 t410.length co16)) (fun _ hk => hk.2) (.slice Ao17 t413.length co17)) (fun _ hk => hk.1.1), Vm (Vf (p := ⟨gb407, 2, none⟩) (Vf (p := ⟨gb407, 1, none⟩) (Vf (p := ⟨gb407, 0, none⟩) (Vm HO415.out (fun k_ hk => (⟨hk, hk.2.2.2.2⟩ : _ ∧ k_ ≠ gb407))) (fun _ hk => hk.2) (.bool t409)) (fun _ hk => hk.2) (.slice Ao16 t410.length co16)) (fun _ hk => hk.2) (.slice Ao17 t413.length co17)) (fun _ hk => ⟨hk.1.1, hk.1.2.1⟩), by repeat (first | exact HB.out | apply bN | apply b1 | apply bA | refine bS ?_ GE405.out | refine bS ?_ GE406.out | refine bS ?_ GE407.out)⟩
 ·rw [if_neg c4] at H
  have c4b0 : (t408 == 0) = false := beq_eq_false_iff_ne.mpr c4
  have c4b1 : (t408 != 0) = true := bne_iff_ne.mpr c4
  obtain ⟨⟨t416, t417, t420⟩, A18, H⟩ := bindA H
  simp only [Option.some.injEq, Prod.mk.injEq] at H
  obtain ⟨rfl, rfl, rfl, rfl⟩ := H
  go_enter Try.func38, Try.ntmps38
  go_wp2_with (first | ((with_reducible refine gate_dst (N := 2) rfl ?_); refine box_event rfl (N := 2) rfl (cs := #[.bool a0_0, .slice A0_1 l0_1.length c0_1]) (t := 27) (by go_simp <;> rfl) ?_; intro gb405 hg w19 hbox hb; replace HO0_1 := vB HO0_1 hg hb; replace HO1_1 := vB HO1_1 hg hb; have BK405 := mk0 (hbox); have GE405 := geB hg HB; replace HB := hbS HB hb; clear hb hbox hg) | ((with_reducible refine gate_dst (N := 3) rfl ?_); refine box_event rfl (N := 3) rfl (cs := #[.bool a1_0, .slice A1_1 l1_1.length c1_1]) (t := 27) (by go_simp <;> rfl) ?_; intro gb406 hg w20 hbox hb; replace HO0_1 := vB HO0_1 hg hb; replace HO1_1 := vB HO1_1 hg hb; have BK406 := mk0 (hbox); have GE406 := geB hg HB; replace HB := hbS HB hb; have NB405_406 := nbA hg BK405; have NB406_405 := nbB hg BK405; replace BK405 := bkB BK405 hb; clear hb hbox hg) | ((with_reducible refine gate_dst (N := 4) rfl ?_); refine box_event rfl (N := 4) rfl (cs := #[.bool false, .slice none 0 0, .slice none 0 0]) (t := 29) (by go_simp <;> rfl) ?_; intro gb407 hg w21 hbox hb; replace HO0_1 := vB HO0_1 hg hb; replace HO1_1 := vB HO1_1 hg hb; have BK407 := mk0 (hbox); have GE407 := geB hg HB; replace HB := hbS HB hb; have NB405_407 := nbA hg BK405; have NB407_405 := nbB hg BK405; replace BK405 := bkB BK405 hb; have NB406_407 := nbA hg BK406; have NB407_406 := nbB hg BK406; replace BK406 := bkB BK406 hb; clear hb hbox hg; have hnb22 := NB406_405.out; have hnc22 := NB405_406.out; have hnb23 := NB406_407.out; have hnc23 := NB407_406.out; obtain ⟨hcz24_0, hcz24_1, hfz24_0, hfz24_1⟩ := cz2 BK406) | ((with_reducible refine gate_callee (f := 64) rfl ?_); refine goesL_ (some 8) rfl rfl Try.func64 (by kernel_rfl) rfl #[.slice A1_1 l1_1.length c1_1] rfl (by (try simp only [mA, mC, mN]); first | done | rfl | (simp only [lD, lT]; rfl)) ?_; (with_reducible refine (nat_Bits.calls k _ _ l1_1 t408 _ (by exact (Kd.V_reads' HO1_1.out).2.2) (by exact (Kd.V_reads' HO1_1.out).2.1) A3.out).mono ?_); rintro e w25 ⟨rfl, hb⟩; refine ⟨_, rfl, ?_⟩; replace HO0_1 := mk0 (Kd.V_below HO0_1.out hb); replace HO1_1 := mk0 (Kd.V_below HO1_1.out hb); replace BK405 := bkB BK405 hb; replace BK406 := bkB BK406 hb; replace BK407 := bkB BK407 hb; replace HB := hbS HB hb; have hnb26 := NB405_407.out; have hnc26 := NB407_405.out; obtain ⟨hcz27_0, hcz27_1, hfz27_0, hfz27_1⟩ := cz2 BK405; obtain ⟨hcz28_0, hcz28_1, hfz28_0, hfz28_1⟩ := cz2 BK406) | ((with_reducible refine gate_callee (f := 53) rfl ?_); refine goesL_ (some 21) rfl rfl Try.func53 (by kernel_rfl) rfl #[.agg #[.bool (a0_0 != a1_0), .slice A0_1 l0_1.length c0_1], .slice A1_1 l1_1.length c1_1] rfl (by (try simp only [mA, mC, mN]); first | done | rfl | (simp only [lD, lT]; rfl)) ?_; (with_reducible refine (ratio_lowest.calls k (a0_0 != a1_0) (fun k_ => (((((P0_1_ k_ ∨ P1_1_ k_) ∨ w.heap.size ≤ k_) ∧ k_ ≠ gb405) ∧ k_ ≠ gb406) ∧ k_ ≠ gb407)) _ _ l0_1 (fun k_ => (((((P0_1_ k_ ∨ P1_1_ k_) ∨ w.heap.size ≤ k_) ∧ k_ ≠ gb405) ∧ k_ ≠ gb406) ∧ k_ ≠ gb407)) _ _ l1_1 t416 t417 t420 _ HO0_1.out HO1_1.out A18.out).mono ?_); rintro e w29 ⟨v418, v421, rfl, ho0, ho1, hb⟩; refine ⟨_, rfl, ?_⟩; replace HO0_1 := mk0 (Kd.V_elder' HO0_1.out (Rs ho0) hb); replace HO1_1 := mk0 (Kd.V_elder' HO1_1.out (Rs ho0) hb); have HO419 := mk0 (Rl (Kd.R_newM (M := fun k_ => (w.heap.size ≤ k_)) (Rm (ok' := fun k_ => True) ho0 tv) (bZ HB.out) (fun k_ h_ => h_)) (bZ HB.out)); have HO422 := mk0 (Vl (Vm (ok' := fun k_ => ((P0_1_ k_ ∨ P1_1_ k_) ∨ w.heap.size ≤ k_) ∧ some k_ ≠ (v418 : Value).ownBlock ∧ k_ ≠ gb405 ∧ k_ ≠ gb406 ∧ k_ ≠ gb407) ho1 (fun k_ hk_ => ⟨Or.elim hk_.1 (fun hs_ => Or.elim hs_ (fun hs_ => hs_.1.1.1) (fun hs_ => hs_.1.1.1)) (fun hn_ => (.inr (Nat.le_trans (bZ HB.out) hn_))), hk_.2, Or.elim hk_.1 (fun hs_ => Or.elim hs_ (fun hs_ => hs_.1.1.2) (fun hs_ => hs_.1.1.2)) (fun hn_ => (Kd.freshB BK405.out k_ hn_)), Or.elim hk_.1 (fun hs_ => Or.elim hs_ (fun hs_ => hs_.1.2) (fun hs_ => hs_.1.2)) (fun hn_ => (Kd.freshB BK406.out k_ hn_)), Or.elim hk_.1 (fun hs_ => Or.elim hs_ (fun hs_ => hs_.2) (fun hs_ => hs_.2)) (fun hn_ => (Kd.freshB BK407.out k_ hn_))⟩)) (bZ HB.out)); replace BK405 := bkB BK405 hb; replace BK406 := bkB BK406 hb; replace BK407 := bkB BK407 hb; replace HB := hbS HB hb; obtain ⟨hcz30_0, hcz30_1, hcz30_2, hfz30_0, hfz30_1, hfz30_2⟩ := cz3 BK407; obtain ⟨Ao31, co31, eo31⟩ := Kd.R_slice HO419.out; subst eo31; obtain ⟨Ao32, co32, eo32⟩ := Kd.V_slice HO422.out; subst eo32))
  refine bodyPost_ret (results_ct rfl _ _ gb407 29 #[.bool t416, .slice Ao31 t417.length co31, .slice Ao32 t420.length co32] (0, 0) _ rfl (by refine blk_put (cs := #[.bool t416, .slice Ao31 t417.length co31, .slice none 0 0]) ?_ 2 _ rfl; refine blk_put (cs := #[.bool t416, .slice none 0 0, .slice none 0 0]) ?_ 1 _ rfl; refine blk_put (cs := #[.bool false, .slice none 0 0, .slice none 0 0]) ?_ 0 _ rfl; exact BK407.out) Try.underlying29 rfl (by kernel_rfl)) rfl ?_
  exact ⟨_, _, by first | rfl | (simp [errW_none, errW_some] <;> rfl) | (simp [*, errW_none, errW_some] <;> rfl), Rm (Rf (p := ⟨gb407, 2, none⟩) (Rf (p := ⟨gb407, 1, none⟩) (Rf (p := ⟨gb407, 0, none⟩) (Rt HO419.out BK407.out (by decide)) (fun _ hk => hk.2) (.bool t416)) (fun _ hk => hk.2) (.slice Ao31 t417.length co31)) (fun _ hk => hk.2) (.slice Ao32 t420.length co32)) (fun _ hk => hk.1.1), Vm (Vf (p := ⟨gb407, 2, none⟩) (Vf (p := ⟨gb407, 1, none⟩) (Vf (p := ⟨gb407, 0, none⟩) (Vm HO422.out (fun k_ hk => (⟨hk, hk.2.2.2.2⟩ : _ ∧ k_ ≠ gb407))) (fun _ hk => hk.2) (.bool t416)) (fun _ hk => hk.2) (.slice Ao31 t417.length co31)) (fun _ hk => hk.2) (.slice Ao32 t420.length co32)) (fun _ hk => ⟨hk.1.1, hk.1.2.1⟩), by repeat (first | exact HB.out | apply bN | apply b1 | apply bA | refine bS ?_ GE405.out | refine bS ?_ GE406.out | refine bS ?_ GE407.out)⟩
set_option maxHeartbeats 8000000 in
set_option maxRecDepth 100000 in
theorem integer_Of.calls (k : Nat) (a0 : Int) (r1 : Bool) (r2 : List Int) (w : World) (h : integer_Of.f k a0 = some (r1, r2)) :
  Calls Try.prog 39 #[.int .i64 a0] w fun e w' => ∃ v1_ : Value, e = .returned (.agg #[.bool r1, v1_]) ∧ Kd.V (Kd.int .u32) 87 w' w.heap.size (fun k_ => (w.heap.size ≤ k_)) v1_ r2 ∧ Below w.heap.size w w' := by
 have hu27 := Try.underlying27
 have HB := mk0 (Below.refl w.heap.size w)
 have H : (if a0 < 0 then ((nat_Of.f k (IntKind.u64.wrap ((IntKind.u64.wrap (wrap64 (-(wrap64 (a0 + 1))))) + 1))).bind fun t424 => (some (true, t424))) else ((nat_Of.f k (IntKind.u64.wrap (a0))).bind fun t427 => (some (false, t427)))) = some (r1, r2) := h
 clear h
 by_cases c2 : a0 < 0
 ·rw [if_pos c2] at H
  have c2b0 : decide (a0 < 0) = true := decide_eq_true c2
  clear c2
  obtain ⟨t424, A3, H⟩ := bindA H
  simp only [Option.some.injEq, Prod.mk.injEq] at H
  obtain ⟨rfl, rfl⟩ := H
  go_enter Try.func39, Try.ntmps39
  go_wp2_with (first | ((with_reducible refine gate_dst (N := 2) rfl ?_); refine box_event rfl (N := 2) rfl (cs := #[.bool false, .slice none 0 0]) (t := 27) (by go_simp <;> rfl) ?_; intro gb423 hg w4 hbox hb; have BK423 := mk0 (hbox); have GE423 := geB hg HB; replace HB := hbS HB hb; clear hb hbox hg) | ((with_reducible refine gate_callee (f := 66) rfl ?_); refine goA 10 Try.func66 #[.int .u64 (IntKind.u64.wrap ((IntKind.u64.wrap (wrap64 (-(wrap64 (a0 + 1))))) + 1))] ?_; (with_reducible refine (nat_Of.calls k (IntKind.u64.wrap ((IntKind.u64.wrap (wrap64 (-(wrap64 (a0 + 1))))) + 1)) t424 _ A3.out).mono ?_); rintro e w5 ⟨v425, rfl, ho0, hb⟩; refine ⟨_, rfl, ?_⟩; have HO426 := mk0 (Vl (Vm (ok' := fun k_ => (w.heap.size ≤ k_) ∧ k_ ≠ gb423) ho0 (fun k_ hk_ => ⟨(Nat.le_trans (bZ HB.out) hk_), (Kd.freshB BK423.out k_ hk_)⟩)) (bZ HB.out)); replace BK423 := bkB BK423 hb; replace HB := hbS HB hb; obtain ⟨Ao6, co6, eo6⟩ := Kd.V_slice HO426.out; subst eo6; obtain ⟨hcz7_0, hcz7_1, hfz7_0, hfz7_1⟩ := cz2 BK423))
  refine bodyPost_ret (results_cell_row rfl _ _ gb423 27 #[.bool true, .slice Ao6 t424.length co6] (0, 0) _ rfl (by refine blk_put (cs := #[.bool true, .slice none 0 0]) ?_ 1 _ rfl; refine blk_put (cs := #[.bool false, .slice none 0 0]) ?_ 0 _ rfl; exact BK423.out) Try.underlying27 rfl (by kernel_rfl)) rfl ?_
  exact ⟨_, by first | rfl | (simp [errW_none, errW_some] <;> rfl) | (simp [*, errW_none, errW_some] <;> rfl), Vm (Vf (p := ⟨gb423, 1, none⟩) (Vf (p := ⟨gb423, 0, none⟩) (Vm HO426.out (fun k_ hk => (⟨hk, hk.2⟩ : _ ∧ k_ ≠ gb423))) (fun _ hk => hk.2) (.bool true)) (fun _ hk => hk.2) (.slice Ao6 t424.length co6)) (fun _ hk => hk.1.1), by repeat (first | exact HB.out | apply bN | apply b1 | apply bA | refine bS ?_ GE423.out)⟩
 ·rw [if_neg c2] at H
  have c2b0 : decide (a0 < 0) = false := decide_eq_false c2
  clear c2
  obtain ⟨t427, A8, H⟩ := bindA H
  simp only [Option.some.injEq, Prod.mk.injEq] at H
  obtain ⟨rfl, rfl⟩ := H
  go_enter Try.func39, Try.ntmps39
  go_wp2_with (first | ((with_reducible refine gate_dst (N := 2) rfl ?_); refine box_event rfl (N := 2) rfl (cs := #[.bool false, .slice none 0 0]) (t := 27) (by go_simp <;> rfl) ?_; intro gb423 hg w9 hbox hb; have BK423 := mk0 (hbox); have GE423 := geB hg HB; replace HB := hbS HB hb; clear hb hbox hg) | ((with_reducible refine gate_callee (f := 66) rfl ?_); refine goA 14 Try.func66 #[.int .u64 (IntKind.u64.wrap (a0))] ?_; (with_reducible refine (nat_Of.calls k (IntKind.u64.wrap (a0)) t427 _ A8.out).mono ?_); rintro e w10 ⟨v428, rfl, ho0, hb⟩; refine ⟨_, rfl, ?_⟩; have HO429 := mk0 (Vl (Vm (ok' := fun k_ => (w.heap.size ≤ k_) ∧ k_ ≠ gb423) ho0 (fun k_ hk_ => ⟨(Nat.le_trans (bZ HB.out) hk_), (Kd.freshB BK423.out k_ hk_)⟩)) (bZ HB.out)); replace BK423 := bkB BK423 hb; replace HB := hbS HB hb; obtain ⟨Ao11, co11, eo11⟩ := Kd.V_slice HO429.out; subst eo11; obtain ⟨hcz12_0, hcz12_1, hfz12_0, hfz12_1⟩ := cz2 BK423))
  refine bodyPost_ret (results_cell_row rfl _ _ gb423 27 #[.bool false, .slice Ao11 t427.length co11] (0, 0) _ rfl (by refine blk_put (cs := #[.bool false, .slice none 0 0]) ?_ 1 _ rfl; refine blk_put (cs := #[.bool false, .slice none 0 0]) ?_ 0 _ rfl; exact BK423.out) Try.underlying27 rfl (by kernel_rfl)) rfl ?_
  exact ⟨_, by first | rfl | (simp [errW_none, errW_some] <;> rfl) | (simp [*, errW_none, errW_some] <;> rfl), Vm (Vf (p := ⟨gb423, 1, none⟩) (Vf (p := ⟨gb423, 0, none⟩) (Vm HO429.out (fun k_ hk => (⟨hk, hk.2⟩ : _ ∧ k_ ≠ gb423))) (fun _ hk => hk.2) (.bool false)) (fun _ hk => hk.2) (.slice Ao11 t427.length co11)) (fun _ hk => hk.1.1), by repeat (first | exact HB.out | apply bN | apply b1 | apply bA | refine bS ?_ GE423.out)⟩
set_option maxHeartbeats 8000000 in
set_option maxRecDepth 100000 in
theorem ratio_Of.calls (k : Nat) (a0 : Int) (a1 : Int) (r1 : Bool) (r2 : List Int) (r3 : List Int) (r4 : Bool) (w : World) (h : ratio_Of.f k a0 a1 = some (r1, r2, r3, r4)) :
  Calls Try.prog 16 #[.int .i64 a0, .int .i64 a1] w fun e w' => ∃ v1_ v2_ : Value, e = .returned (.tuple #[.agg #[.bool r1, v1_, v2_], .bool r4]) ∧ Kd.R (Kd.int .u32) 87 w' w.heap.size (fun k_ => (w.heap.size ≤ k_)) v1_ r2 ∧ Kd.V (Kd.int .u32) 87 w' w.heap.size (fun k_ => (w.heap.size ≤ k_) ∧ some k_ ≠ (v1_ : Value).ownBlock) v2_ r3 ∧ Below w.heap.size w w' := by
 have hu29 := Try.underlying29
 have HB := mk0 (Below.refl w.heap.size w)
 have H : ((integer_Of.f k a0).bind fun bt431 => ((integer_Of.f k a1).bind fun bt435 => ((ratio_Make.f k bt431.1 bt431.2 bt435.1 bt435.2).bind fun bt439 => (some (bt439.1, bt439.2.1, bt439.2.2.1, bt439.2.2.2))))) = some (r1, r2, r3, r4) := h
 clear h
 obtain ⟨⟨t431, t432⟩, A3, H⟩ := bindA H
 obtain ⟨⟨t435, t436⟩, A4, H⟩ := bindA H
 obtain ⟨⟨t439, t440, t443, t446⟩, A5, H⟩ := bindA H
 simp only [Option.some.injEq, Prod.mk.injEq] at H
 obtain ⟨rfl, rfl, rfl, rfl⟩ := H
 go_enter Try.func16, Try.ntmps16
 go_wp2_with (first | ((with_reducible refine gate_dst (N := 4) rfl ?_); refine box_event rfl (N := 4) rfl (cs := #[.bool false, .slice none 0 0, .slice none 0 0]) (t := 29) (by go_simp <;> rfl) ?_; intro gb430 hg w6 hbox hb; have BK430 := mk0 (hbox); have GE430 := geB hg HB; replace HB := hbS HB hb; clear hb hbox hg) | ((with_reducible refine gate_callee (f := 39) rfl ?_); refine goA 7 Try.func39 #[.int .i64 a0] ?_; (with_reducible refine (integer_Of.calls k a0 t431 t432 _ A3.out).mono ?_); rintro e w7 ⟨v433, rfl, ho0, hb⟩; refine ⟨_, rfl, ?_⟩; have HO434 := mk0 (Vl (Vm (ok' := fun k_ => (w.heap.size ≤ k_) ∧ k_ ≠ gb430) ho0 (fun k_ hk_ => ⟨(Nat.le_trans (bZ HB.out) hk_), (Kd.freshB BK430.out k_ hk_)⟩)) (bZ HB.out)); replace BK430 := bkB BK430 hb; replace HB := hbS HB hb) | ((with_reducible refine gate_callee (f := 39) rfl ?_); refine goA 9 Try.func39 #[.int .i64 a1] ?_; (with_reducible refine (integer_Of.calls k a1 t435 t436 _ A4.out).mono ?_); rintro e w8 ⟨v437, rfl, ho0, hb⟩; refine ⟨_, rfl, ?_⟩; replace HO434 := mk0 (Kd.V_below HO434.out hb); have HO438 := mk0 (Vl (Vm (ok' := fun k_ => (w.heap.size ≤ k_) ∧ k_ ≠ gb430) ho0 (fun k_ hk_ => ⟨(Nat.le_trans (bZ HB.out) hk_), (Kd.freshB BK430.out k_ hk_)⟩)) (bZ HB.out)); replace BK430 := bkB BK430 hb; replace HB := hbS HB hb; obtain ⟨Ao9, co9, eo9⟩ := Kd.V_slice HO434.out; subst eo9; obtain ⟨Ao10, co10, eo10⟩ := Kd.V_slice HO438.out; subst eo10) | ((with_reducible refine gate_callee (f := 38) rfl ?_); refine goA 10 Try.func38 #[.agg #[.bool t431, .slice Ao9 t432.length co9], .agg #[.bool t435, .slice Ao10 t436.length co10]] ?_; (with_reducible refine (ratio_Make.calls k t431 (fun k_ => ((w.heap.size ≤ k_) ∧ k_ ≠ gb430)) _ _ t432 t435 (fun k_ => ((w.heap.size ≤ k_) ∧ k_ ≠ gb430)) _ _ t436 t439 t440 t443 t446 _ HO434.out HO438.out A5.out).mono ?_); rintro e w11 ⟨v441, v444, rfl, ho0, ho1, hb⟩; refine ⟨_, rfl, ?_⟩; replace HO434 := mk0 (Kd.V_elder' HO434.out (Rs ho0) hb); replace HO438 := mk0 (Kd.V_elder' HO438.out (Rs ho0) hb); have HO442 := mk0 (Rl (Kd.R_newM (M := fun k_ => (w.heap.size ≤ k_)) (Rm (ok' := fun k_ => True) ho0 tv) (bZ HB.out) (fun k_ h_ => h_)) (bZ HB.out)); have HO445 := mk0 (Vl (Vm (ok' := fun k_ => (w.heap.size ≤ k_) ∧ some k_ ≠ (v441 : Value).ownBlock ∧ k_ ≠ gb430) ho1 (fun k_ hk_ => ⟨Or.elim hk_.1 (fun hs_ => Or.elim hs_ (fun hs_ => hs_.1) (fun hs_ => hs_.1)) (fun hn_ => (Nat.le_trans (bZ HB.out) hn_)), hk_.2, Or.elim hk_.1 (fun hs_ => Or.elim hs_ (fun hs_ => hs_.2) (fun hs_ => hs_.2)) (fun hn_ => (Kd.freshB BK430.out k_ hn_))⟩)) (bZ HB.out)); replace BK430 := bkB BK430 hb; replace HB := hbS HB hb; obtain ⟨hcz12_0, hcz12_1, hcz12_2, hfz12_0, hfz12_1, hfz12_2⟩ := cz3 BK430; obtain ⟨Ao13, co13, eo13⟩ := Kd.R_slice HO442.out; subst eo13; obtain ⟨Ao14, co14, eo14⟩ := Kd.V_slice HO445.out; subst eo14))
 refine bodyPost_ret (results_ct rfl _ _ gb430 29 #[.bool t439, .slice Ao13 t440.length co13, .slice Ao14 t443.length co14] (0, 0) _ rfl (by refine blk_put (cs := #[.bool t439, .slice Ao13 t440.length co13, .slice none 0 0]) ?_ 2 _ rfl; refine blk_put (cs := #[.bool t439, .slice none 0 0, .slice none 0 0]) ?_ 1 _ rfl; refine blk_put (cs := #[.bool false, .slice none 0 0, .slice none 0 0]) ?_ 0 _ rfl; exact BK430.out) Try.underlying29 rfl (by kernel_rfl)) rfl ?_
 exact ⟨_, _, by first | rfl | (simp [errW_none, errW_some] <;> rfl) | (simp [*, errW_none, errW_some] <;> rfl), Rm (Rf (p := ⟨gb430, 2, none⟩) (Rf (p := ⟨gb430, 1, none⟩) (Rf (p := ⟨gb430, 0, none⟩) (Rt HO442.out BK430.out (by decide)) (fun _ hk => hk.2) (.bool t439)) (fun _ hk => hk.2) (.slice Ao13 t440.length co13)) (fun _ hk => hk.2) (.slice Ao14 t443.length co14)) (fun _ hk => hk.1.1), Vm (Vf (p := ⟨gb430, 2, none⟩) (Vf (p := ⟨gb430, 1, none⟩) (Vf (p := ⟨gb430, 0, none⟩) (Vm HO445.out (fun k_ hk => (⟨hk, hk.2.2⟩ : _ ∧ k_ ≠ gb430))) (fun _ hk => hk.2) (.bool t439)) (fun _ hk => hk.2) (.slice Ao13 t440.length co13)) (fun _ hk => hk.2) (.slice Ao14 t443.length co14)) (fun _ hk => ⟨hk.1.1, hk.1.2.1⟩), by repeat (first | exact HB.out | apply bN | apply b1 | apply bA | refine bS ?_ GE430.out)⟩
set_option maxHeartbeats 8000000 in
set_option maxRecDepth 100000 in
theorem exposure_fraction.calls (k : Nat) (a0 : Int) (a1 : Int) (r1 : Bool) (r2 : List Int) (r3 : List Int) (w : World) (h : exposure_fraction.f k a0 a1 = some (r1, r2, r3)) :
  Calls Try.prog 30 #[.int .i64 a0, .int .i64 a1] w fun e w' => ∃ v1_ v2_ : Value, e = .returned (.agg #[.bool r1, v1_, v2_]) ∧ Kd.R (Kd.int .u32) 87 w' w.heap.size (fun k_ => (w.heap.size ≤ k_)) v1_ r2 ∧ Kd.V (Kd.int .u32) 87 w' w.heap.size (fun k_ => (w.heap.size ≤ k_) ∧ some k_ ≠ (v1_ : Value).ownBlock) v2_ r3 ∧ Below w.heap.size w w' := by
 have hu29 := Try.underlying29
 have HB := mk0 (Below.refl w.heap.size w)
 have H : ((ratio_Of.f k a0 a1).bind fun bt448 => (some (bt448.1, bt448.2.1, bt448.2.2.1))) = some (r1, r2, r3) := h
 clear h
 obtain ⟨⟨t448, t449, t452, t455⟩, A3, H⟩ := bindA H
 simp only [Option.some.injEq, Prod.mk.injEq] at H
 obtain ⟨rfl, rfl, rfl⟩ := H
 go_enter Try.func30, Try.ntmps30
 go_wp2_with (first | ((with_reducible refine gate_dst (N := 4) rfl ?_); refine box_event rfl (N := 4) rfl (cs := #[.bool false, .slice none 0 0, .slice none 0 0]) (t := 29) (by go_simp <;> rfl) ?_; intro gb447 hg w4 hbox hb; have BK447 := mk0 (hbox); have GE447 := mk0 ((by rw [hg]; exact (bZ (by repeat (first | (with_reducible first | exact HB.out | apply bA | apply bN | apply b1) | exact HB.out))) : w.heap.size ≤ gb447)); replace HB := mk0 (below_step (by repeat (first | (with_reducible first | exact HB.out | apply bA | apply bN | apply b1) | exact HB.out)) hb); clear hb hbox hg) | ((with_reducible refine gate_callee (f := 16) rfl ?_); refine goesL_ (some 10) rfl rfl Try.func16 (by kernel_rfl) rfl #[.int .i64 a0, .int .i64 a1] rfl (by (try simp only [mA, mC, mN]); first | done | rfl | (simp only [lD, lT]; rfl)) ?_; (with_reducible refine (ratio_Of.calls k a0 a1 t448 t449 t452 t455 _ A3.out).mono ?_); rintro e w5 ⟨v450, v453, rfl, ho0, ho1, hb⟩; refine ⟨_, rfl, ?_⟩; have HO451 := mk0 (Rl (Kd.R_newM (M := fun k_ => (w.heap.size ≤ k_)) (Rm (ok' := fun k_ => True) ho0 tv) (bZ (by repeat (first | (with_reducible first | exact HB.out | apply bA | apply bN | apply b1 | refine bS ?_ GE447.out) | exact HB.out))) (fun k_ h_ => h_)) (bZ (by repeat (first | (with_reducible first | exact HB.out | apply bA | apply bN | apply b1 | refine bS ?_ GE447.out) | exact HB.out)))); have HO454 := mk0 (Vl (Vm (ok' := fun k_ => (w.heap.size ≤ k_) ∧ some k_ ≠ (v450 : Value).ownBlock ∧ k_ ≠ gb447) ho1 (fun k_ hk_ => ⟨(Nat.le_trans (bZ (by repeat (first | (with_reducible first | exact HB.out | apply bA | apply bN | apply b1 | refine bS ?_ GE447.out) | exact HB.out))) hk_.1), hk_.2, (Kd.freshB (g := gb447) (o := .cells #[.bool false, .slice none 0 0, .slice none 0 0] 29 (0, 0)) (by (with_reducible repeat (first | refine blk_drewN ?_ _ | refine blk_drew ?_ | refine blk_alloc ?_ _)); exact BK447.out) k_ hk_.1)⟩)) (bZ (by repeat (first | (with_reducible first | exact HB.out | apply bA | apply bN | apply b1 | refine bS ?_ GE447.out) | exact HB.out)))); replace BK447 := mk0 (blk_below (g := gb447) (o := .cells #[.bool false, .slice none 0 0, .slice none 0 0] 29 (0, 0)) (by (with_reducible repeat (first | refine blk_drewN ?_ _ | refine blk_drew ?_ | refine blk_alloc ?_ _)); exact BK447.out) hb); replace HB := mk0 (below_step (by repeat (first | (with_reducible first | exact HB.out | apply bA | apply bN | apply b1 | refine bS ?_ GE447.out) | exact HB.out)) hb)) | ((with_reducible refine gate_dst (N := 5) rfl ?_); refine box_event rfl (N := 5) rfl (cs := #[.bool false, .slice none 0 0, .slice none 0 0]) (t := 29) (by go_simp <;> rfl) ?_; intro gb456 hg w6 hbox hb; replace HO451 := mk0 (Rb (by (with_reducible repeat (first | apply Kd.R_alloc | apply Kd.R_drewN | apply Kd.R_drew)); exact HO451.out) hb); replace HO454 := mk0 (Kd.V_below (Kd.V_elderB (by (with_reducible repeat (first | apply Kd.V_alloc | apply Kd.V_drewN | apply Kd.V_drew)); exact HO454.out) gb456 (Nat.le_of_eq hg.symm)) hb); have BK456 := mk0 (hbox); have GE456 := mk0 ((by rw [hg]; exact (bZ (by repeat (first | (with_reducible first | exact HB.out | apply bA | apply bN | apply b1 | refine bS ?_ GE447.out) | exact HB.out))) : w.heap.size ≤ gb456)); replace HB := mk0 (below_step (by repeat (first | (with_reducible first | exact HB.out | apply bA | apply bN | apply b1 | refine bS ?_ GE447.out) | exact HB.out)) hb); have NB447_456 := mk0 ((by rw [hg]; exact Nat.ne_of_lt (blk_lt (g := gb447) (o := .cells #[.bool false, .slice none 0 0, .slice none 0 0] 29 (0, 0)) (by (with_reducible repeat (first | refine blk_drewN ?_ _ | refine blk_drew ?_ | refine blk_alloc ?_ _)); exact BK447.out)) : gb447 ≠ gb456)); have NB456_447 := mk0 ((by rw [hg]; exact Nat.ne_of_gt (blk_lt (g := gb447) (o := .cells #[.bool false, .slice none 0 0, .slice none 0 0] 29 (0, 0)) (by (with_reducible repeat (first | refine blk_drewN ?_ _ | refine blk_drew ?_ | refine blk_alloc ?_ _)); exact BK447.out)) : gb456 ≠ gb447)); replace BK447 := mk0 (blk_below (g := gb447) (o := .cells #[.bool false, .slice none 0 0, .slice none 0 0] 29 (0, 0)) (by (with_reducible repeat (first | refine blk_drewN ?_ _ | refine blk_drew ?_ | refine blk_alloc ?_ _)); exact BK447.out) hb); clear hb hbox hg; have hnb7 := NB456_447.out; have hnc7 := NB447_456.out; obtain ⟨hcz8_0, hcz8_1, hcz8_2, hfz8_0, hfz8_1, hfz8_2⟩ := cz3 BK456; obtain ⟨Ao9, co9, eo9⟩ := Kd.R_slice HO451.out; subst eo9; obtain ⟨Ao10, co10, eo10⟩ := Kd.V_slice HO454.out; subst eo10; obtain ⟨hcz11_0, hcz11_1, hcz11_2, hfz11_0, hfz11_1, hfz11_2⟩ := cz3 BK447))
 refine bodyPost_ret (results_cell_row rfl _ _ gb447 29 #[.bool t448, .slice Ao9 t449.length co9, .slice Ao10 t452.length co10] (0, 0) _ rfl (by (with_reducible repeat (first | refine blk_drewN ?_ _ | refine blk_drew ?_ | refine blk_alloc ?_ _)); refine blk_put (cs := #[.bool t448, .slice Ao9 t449.length co9, .slice none 0 0]) ?_ 2 _ rfl; (with_reducible repeat (first | refine blk_drewN ?_ _ | refine blk_drew ?_ | refine blk_alloc ?_ _)); refine blk_put (cs := #[.bool t448, .slice none 0 0, .slice none 0 0]) ?_ 1 _ rfl; (with_reducible repeat (first | refine blk_drewN ?_ _ | refine blk_drew ?_ | refine blk_alloc ?_ _)); refine blk_put (cs := #[.bool false, .slice none 0 0, .slice none 0 0]) ?_ 0 _ rfl; (with_reducible repeat (first | refine blk_drewN ?_ _ | refine blk_drew ?_ | refine blk_alloc ?_ _)); refine blk_far ?_ NB447_456.out _; (with_reducible repeat (first | refine blk_drewN ?_ _ | refine blk_drew ?_ | refine blk_alloc ?_ _)); refine blk_far ?_ NB447_456.out _; (with_reducible repeat (first | refine blk_drewN ?_ _ | refine blk_drew ?_ | refine blk_alloc ?_ _)); refine blk_far ?_ NB447_456.out _; (with_reducible repeat (first | refine blk_drewN ?_ _ | refine blk_drew ?_ | refine blk_alloc ?_ _)); exact BK447.out) Try.underlying29 rfl (by kernel_rfl)) rfl ?_
 exact ⟨_, _, by first | rfl | (simp [errW_none, errW_some] <;> rfl) | (simp [*, errW_none, errW_some] <;> rfl), by (with_reducible repeat (first | apply Kd.R_alloc | apply Kd.R_drewN | apply Kd.R_drew)); exact Rm (Rf (p := ⟨gb447, 2, none⟩) (Rf (p := ⟨gb447, 1, none⟩) (Rf (p := ⟨gb447, 0, none⟩) (Rf (p := ⟨gb456, 2, none⟩) (Rf (p := ⟨gb456, 1, none⟩) (Rf (p := ⟨gb456, 0, none⟩) (Rt (Rt HO451.out BK456.out (by decide)) BK447.out (by decide)) (fun _ hk => hk.1.2) (.bool t448)) (fun _ hk => hk.1.2) (.slice Ao9 t449.length co9)) (fun _ hk => hk.1.2) (.slice Ao10 t452.length co10)) (fun _ hk => hk.2) (.bool t448)) (fun _ hk => hk.2) (.slice Ao9 t449.length co9)) (fun _ hk => hk.2) (.slice Ao10 t452.length co10)) (fun _ hk => hk.1.1.1), by (with_reducible repeat (first | apply Kd.V_alloc | apply Kd.V_drewN | apply Kd.V_drew)); exact Vm (Vf (p := ⟨gb447, 2, none⟩) (Vf (p := ⟨gb447, 1, none⟩) (Vf (p := ⟨gb447, 0, none⟩) (Vf (p := ⟨gb456, 2, none⟩) (Vf (p := ⟨gb456, 1, none⟩) (Vf (p := ⟨gb456, 0, none⟩) (Vm (Vm HO454.out (fun k_ hk => (⟨hk, hk.2⟩ : _ ∧ k_ ≠ gb456))) (fun k_ hk => (⟨hk, hk.1.1.2.2⟩ : _ ∧ k_ ≠ gb447))) (fun _ hk => hk.1.2) (.bool t448)) (fun _ hk => hk.1.2) (.slice Ao9 t449.length co9)) (fun _ hk => hk.1.2) (.slice Ao10 t452.length co10)) (fun _ hk => hk.2) (.bool t448)) (fun _ hk => hk.2) (.slice Ao9 t449.length co9)) (fun _ hk => hk.2) (.slice Ao10 t452.length co10)) (fun _ hk => ⟨hk.1.1.1.1, hk.1.1.1.2.1⟩), by repeat (first | (with_reducible first | exact HB.out | apply bA | apply bN | apply b1 | refine bS ?_ GE447.out | refine bS ?_ GE456.out) | exact HB.out)⟩
set_option maxHeartbeats 8000000 in
set_option maxRecDepth 100000 in
theorem exposure_bounded.calls (a0 : Int) (r : Int) (w : World) (h : exposure_bounded.f a0 = some r) :
  Calls Try.prog 31 #[.int .i64 a0] w fun e w' => e = .returned (.int .i64 r) ∧ Below w.heap.size w w' := by
 have HB := mk0 (Below.refl w.heap.size w)
 have H : (some (mn (mx a0 0) 1000000)) = some r := h
 clear h
 obtain ⟨ji2, hji2⟩ : ∃ j_ : Int, (mx a0 0) = j_ := ⟨_, rfl⟩
 replace H : (some (mn (ji2) 1000000)) = some r := by first | (rw [hji2] at H; exact H) | (simp only [hji2] at H ⊢; exact H)
 (try (have hji2l : 0 ≤ ji2 := by (rw [← hji2]; unfold mx; (repeat' split) <;> omega)))
 (try (have hji2m : 0 ≤ ji2 := by omega))
 have hji2_ : (if a0 < 0 then 0 else a0) = ji2 := hji2
 obtain ⟨ji3, hji3⟩ : ∃ j_ : Int, (mn (ji2) 1000000) = j_ := ⟨_, rfl⟩
 replace H : (some ji3) = some r := by first | (rw [hji3] at H; exact H) | (simp only [hji3] at H ⊢; exact H)
 have hji3_ : (if 1000000 < (ji2) then 1000000 else (ji2)) = ji3 := hji3
 obtain rfl := Option.some.inj H
 go_enter Try.func31, Try.ntmps31
 go_wp2
 go_ret
 exact ⟨by first | rfl | (simp [errW_none, errW_some] <;> rfl) | (simp only [← hji2, ← hji3]; first | rfl | (simp [errW_none, errW_some] <;> rfl)) | (simp [*, errW_none, errW_some] <;> rfl), by repeat (first | exact HB.out | apply bN | apply b1 | apply bA)⟩
def exposure_Eligible.T2 : Bool × List (List Nat × List Nat) := (true, [([], []), ([0], [0]), ([1], [1]), ([2, 1], [2]), ([], []), ([], []), ([4, 5, 3], [4, 5]), ([3, 6, 6], [3, 6]), ([7], [7]), ([8, 7, 0, 1, 2, 3, 4, 5, 6, 7, 8], [8])])
def exposure_Eligible.B2 : List Nat := [0, 1, 3, 7, 0, 0, 63, 127, 255, 511]
theorem exposure_Eligible.tab2 : rtab .any (opsOf Try.f13 2) = exposure_Eligible.T2 := by kernel_rfl
theorem exposure_Eligible.bits2 : waitsOk exposure_Eligible.T2.2 exposure_Eligible.B2 = true := by kernel_rfl
set_option maxHeartbeats 8000000 in
set_option maxRecDepth 100000 in
theorem exposure_Eligible.calls (k : Nat) (a0 : Int) (a1 : Int) (a2_0 : Bool) (A2_1 : Option Addr) (c2_1 : Nat) (l2_1 : List Int) (A2_2 : Option Addr) (c2_2 : Nat) (l2_2 : List Int) (a3 : Int) (r : Bool) (w : World) (hr2_1 : Kd.C (Kd.int .u32) w A2_1 l2_1.length l2_1) (hc2_1 : l2_1.length ≤ c2_1) (hr2_2 : Kd.C (Kd.int .u32) w A2_2 l2_2.length l2_2) (hc2_2 : l2_2.length ≤ c2_2) (h : exposure_Eligible.f k a0 a1 a2_0 l2_1 l2_2 a3 = some r) :
  Calls Try.prog 13 #[.int .i64 a0, .int .i64 a1, .agg #[.bool a2_0, .slice A2_1 l2_1.length c2_1, .slice A2_2 l2_2.length c2_2], .int .i64 a3] w fun e w' => e = .returned (.bool r) ∧ Below w.heap.size w w' := by
 have hu29 := Try.underlying29
 have HR2_1 := mk0 hr2_1
 have HC2_1 := mk0 hc2_1
 clear hr2_1 hc2_1
 have HR2_2 := mk0 hr2_2
 have HC2_2 := mk0 hc2_2
 clear hr2_2 hc2_2
 have HB := mk0 (Below.refl w.heap.size w)
 have H : ((exposure_bounded.f a1).bind fun t458 => ((exposure_bounded.f a3).bind fun t459 => ((exposure_fraction.f k (wrap64 ((wrap64 (t458 + 1)) + t459)) 1).bind fun bt460 => ((exposure_bounded.f a0).bind fun t468 => ((exposure_fraction.f k (wrap64 (t468 + 1)) 1).bind fun bt469 => ((ratio_Mul.f k a2_0 l2_1 l2_2 bt460.1 bt460.2.1 bt460.2.2).bind fun bt476 => ((ratio_Cmp.f k bt469.1 bt469.2.1 bt469.2.2 bt476.1 bt476.2.1 bt476.2.2).bind fun t483 => (some (decide (t483 ≤ 0)))))))))) = some r := h
 clear h
 obtain ⟨t458, A5, H⟩ := bindA H
 obtain ⟨t459, A6, H⟩ := bindA H
 obtain ⟨⟨t460, t461, t464⟩, A7, H⟩ := bindA H
 obtain ⟨t468, A8, H⟩ := bindA H
 obtain ⟨⟨t469, t470, t473⟩, A9, H⟩ := bindA H
 obtain ⟨⟨t476, t477, t480⟩, A10, H⟩ := bindA H
 obtain ⟨t483, A11, H⟩ := bindA H
 obtain rfl := Option.some.inj H
 go_enter Try.func13, Try.ntmps13
 try go_wp2_with (first | ((with_reducible refine gate_dst (N := 6) rfl ?_); refine box_event rfl (N := 6) rfl (cs := #[.bool a2_0, .slice A2_1 l2_1.length c2_1, .slice A2_2 l2_2.length c2_2]) (t := 29) (by go_simp <;> rfl) ?_; intro gb457 hg w12 hbox hb; have BK457 := mk0 (hbox); have GE457 := geB hg HB; replace HB := hbS HB hb; clear hb hbox hg) | ((with_reducible refine gate_callee (f := 31) rfl ?_); refine goA 11 Try.func31 #[.int .i64 a1] ?_; (with_reducible refine (exposure_bounded.calls a1 t458 _ A5.out).mono ?_); rintro e w13 ⟨rfl, hb⟩; refine ⟨_, rfl, ?_⟩; replace BK457 := bkB BK457 hb; replace HB := hbS HB hb) | ((with_reducible refine gate_callee (f := 31) rfl ?_); refine goA 14 Try.func31 #[.int .i64 a3] ?_; (with_reducible refine (exposure_bounded.calls a3 t459 _ A6.out).mono ?_); rintro e w14 ⟨rfl, hb⟩; refine ⟨_, rfl, ?_⟩; replace BK457 := bkB BK457 hb; replace HB := hbS HB hb) | ((with_reducible refine gate_callee (f := 30) rfl ?_); refine goA 16 Try.func30 #[.int .i64 (wrap64 ((wrap64 (t458 + 1)) + t459)), .int .i64 1] ?_; (with_reducible refine (exposure_fraction.calls k (wrap64 ((wrap64 (t458 + 1)) + t459)) 1 t460 t461 t464 _ A7.out).mono ?_); rintro e w15 ⟨v462, v465, rfl, ho0, ho1, hb⟩; refine ⟨_, rfl, ?_⟩; have HO463 := mk0 (Rl (Rm (ok' := fun k_ => True) ho0 tv) (bZ HB.out)); have HO466 := mk0 (Vl (Vm (ok' := fun k_ => some k_ ≠ (v462 : Value).ownBlock ∧ k_ ≠ gb457) ho1 (fun k_ hk_ => ⟨hk_.2, (Kd.freshB BK457.out k_ hk_.1)⟩)) (bZ HB.out)); replace BK457 := bkB BK457 hb; replace HB := hbS HB hb) | ((with_reducible refine gate_dst (N := 9) rfl ?_); refine box_event rfl (N := 9) rfl (cs := #[.bool false, .slice none 0 0, .slice none 0 0]) (t := 29) (by go_simp <;> rfl) ?_; intro gb467 hg w16 hbox hb; replace HO463 := rB HO463 hb; replace HO466 := vB HO466 hg hb; have BK467 := mk0 (hbox); have GE467 := geB hg HB; replace HB := hbS HB hb; have NB457_467 := nbA hg BK457; have NB467_457 := nbB hg BK457; replace BK457 := bkB BK457 hb; clear hb hbox hg; have hnb17 := NB467_457.out; have hnc17 := NB457_467.out; obtain ⟨hcz18_0, hcz18_1, hcz18_2, hfz18_0, hfz18_1, hfz18_2⟩ := cz3 BK467; obtain ⟨Ao19, co19, eo19⟩ := Kd.R_slice HO463.out; subst eo19; obtain ⟨Ao20, co20, eo20⟩ := Kd.V_slice HO466.out; subst eo20))
 have n0_ : Aside0 (Kd.R (Kd.int .u32) 87 (((w16.setCell ⟨gb467, 0, none⟩ (.bool t460)).setCell ⟨gb467, 1, none⟩ (.slice Ao19 t461.length co19)).setCell ⟨gb467, 2, none⟩ (.slice Ao20 t464.length co20)) w.heap.size (fun _ => True) (.slice Ao19 t461.length co19) t461) := ⟨Rm (Rf (p := ⟨gb467, 2, none⟩) (Rf (p := ⟨gb467, 1, none⟩) (Rf (p := ⟨gb467, 0, none⟩) (Rt HO463.out BK467.out (by decide)) (fun _ hk => hk.2) (.bool t460)) (fun _ hk => hk.2) (.slice Ao19 t461.length co19)) (fun _ hk => hk.2) (.slice Ao20 t464.length co20)) tv⟩
 have n1_ : Aside0 (Kd.V (Kd.int .u32) 87 (((w16.setCell ⟨gb467, 0, none⟩ (.bool t460)).setCell ⟨gb467, 1, none⟩ (.slice Ao19 t461.length co19)).setCell ⟨gb467, 2, none⟩ (.slice Ao20 t464.length co20)) w.heap.size (fun k_ => some k_ ≠ (.slice Ao19 t461.length co19 : Value).ownBlock ∧ k_ ≠ gb457 ∧ k_ ≠ gb467) (.slice Ao20 t464.length co20) t464) := ⟨Vm (Vf (p := ⟨gb467, 2, none⟩) (Vf (p := ⟨gb467, 1, none⟩) (Vf (p := ⟨gb467, 0, none⟩) (Vm HO466.out (fun k_ hk => (⟨hk, hk.2⟩ : _ ∧ k_ ≠ gb467))) (fun _ hk => hk.2) (.bool t460)) (fun _ hk => hk.2) (.slice Ao19 t461.length co19)) (fun _ hk => hk.2) (.slice Ao20 t464.length co20)) (fun _ hk => ⟨hk.1.1.1, ⟨hk.1.1.2, hk.1.2⟩⟩)⟩
 have n2_ : Aside0 ((((w16.setCell ⟨gb467, 0, none⟩ (.bool t460)).setCell ⟨gb467, 1, none⟩ (.slice Ao19 t461.length co19)).setCell ⟨gb467, 2, none⟩ (.slice Ao20 t464.length co20)).heap[gb457]? = some (.cells #[.bool a2_0, .slice A2_1 l2_1.length c2_1, .slice A2_2 l2_2.length c2_2] 29 (0, 0))) := ⟨by refine blk_far ?_ NB457_467.out _; refine blk_far ?_ NB457_467.out _; refine blk_far ?_ NB457_467.out _; exact BK457.out⟩
 have n3_ : Aside0 ((((w16.setCell ⟨gb467, 0, none⟩ (.bool t460)).setCell ⟨gb467, 1, none⟩ (.slice Ao19 t461.length co19)).setCell ⟨gb467, 2, none⟩ (.slice Ao20 t464.length co20)).heap[gb467]? = some (.cells #[.bool t460, .slice Ao19 t461.length co19, .slice Ao20 t464.length co20] 29 (0, 0))) := ⟨by refine blk_put (cs := #[.bool t460, .slice Ao19 t461.length co19, .slice none 0 0]) ?_ 2 _ rfl; refine blk_put (cs := #[.bool t460, .slice none 0 0, .slice none 0 0]) ?_ 1 _ rfl; refine blk_put (cs := #[.bool false, .slice none 0 0, .slice none 0 0]) ?_ 0 _ rfl; exact BK467.out⟩
 have n4_ : Aside0 (Below w.heap.size w (((w16.setCell ⟨gb467, 0, none⟩ (.bool t460)).setCell ⟨gb467, 1, none⟩ (.slice Ao19 t461.length co19)).setCell ⟨gb467, 2, none⟩ (.slice Ao20 t464.length co20))) := ⟨by repeat (first | exact HB.out | apply bN | apply b1 | apply bA | refine bS ?_ GE457.out | refine bS ?_ GE467.out)⟩
 (try clear HO463)
 (try clear HO466)
 (try clear BK457)
 (try clear BK467)
 (try clear HB)
 generalize (((w16.setCell ⟨gb467, 0, none⟩ (.bool t460)).setCell ⟨gb467, 1, none⟩ (.slice Ao19 t461.length co19)).setCell ⟨gb467, 2, none⟩ (.slice Ao20 t464.length co20)) = w21 at n0_ n1_ n2_ n3_ n4_ ⊢
 have HO463 := n0_
 have HO466 := n1_
 have BK457 := n2_
 have BK467 := n3_
 have HB := n4_
 clear n0_ n1_ n2_ n3_ n4_
 replace HO463 := mk0 (Kd.R_drew HO463.out)
 replace HO466 := mk0 (Kd.V_drew HO466.out)
 replace BK457 := mk0 (blk_drew BK457.out)
 replace BK467 := mk0 (blk_drew BK467.out)
 replace HB := mk0 (b1 HB.out)
 refine start_ (n := 10) (S := fun w' => w'.cell? ⟨gb457, 0, none⟩ = some (.bool a2_0) ∧ w'.cell? ⟨gb457, 1, none⟩ = some (.slice A2_1 l2_1.length c2_1) ∧ w'.cell? ⟨gb457, 2, none⟩ = some (.slice A2_2 l2_2.length c2_2) ∧ w'.cell? ⟨gb467, 0, none⟩ = some (.bool t460) ∧ w'.cell? ⟨gb467, 1, none⟩ = some (.slice Ao19 t461.length co19) ∧ w'.cell? ⟨gb467, 2, none⟩ = some (.slice Ao20 t464.length co20)) (ds := []) (bv 10 0) (by kernel_rfl) rfl rfl ⟨(blk_cell BK457.out 0).trans rfl, (blk_cell BK457.out 1).trans rfl, (blk_cell BK457.out 2).trans rfl, (blk_cell BK467.out 0).trans rfl, (blk_cell BK467.out 1).trans rfl, (blk_cell BK467.out 2).trans rfl⟩ (fun hHeld => ?_); refine with_tabW exposure_Eligible.tab2 exposure_Eligible.bits2 (fun HT_ HW_ => ?_)
 generalize w21.drew = w22 at HO463 HO466 BK457 BK467 HB hHeld ⊢
 refine puA (i := 0) (N := 17) (v := ?_) (a' := ?_) (bv 10 1) HT_ ?_ ?_ ?_; rotate_left; (intro w'; go_simp; with_reducible rfl); rotate_left; (simp only [Act.put, sA, sZ, sS, i64_w, i32_w]; rfl)
 refine take_ (i := 4) (N := some 21) (v := ?_) (a' := ?_) (bv 10 17) rfl rfl (take_ofW HT_.out HW_.out (by kernel_rfl)) (fun _ _ _ h => h) (Or.inl ⟨by rfl, ?_⟩) hHeld ?_ ?_; rotate_left; (rintro w' ⟨s0, s1, s2, s3, s4, s5⟩; go_simp; with_reducible rfl); rotate_left; (simp only [Act.put, sA, sZ, sS, i64_w, i32_w]; rfl)
 refine take_ (i := 5) (N := some 22) (v := ?_) (a' := ?_) (bv 10 49) rfl rfl (take_ofW HT_.out HW_.out (by kernel_rfl)) (fun _ _ _ h => h) (Or.inl ⟨by rfl, ?_⟩) hHeld ?_ ?_; rotate_left; (rintro w' ⟨s0, s1, s2, s3, s4, s5⟩; go_simp; with_reducible rfl); rotate_left; (simp only [Act.put, sA, sZ, sS, i64_w, i32_w]; rfl)
 refine one_ (i := 1) (N := some 18) (bv 10 51) rfl rfl (one_of HT_.out (by kernel_rfl)) (by decide) (fun K hK => ?_)
 refine goes_ Try.func31 (by kernel_rfl) rfl #[.int .i64 a0] (by rfl) rfl rfl (by go_simp <;> rfl) ?_
 with_reducible refine (exposure_bounded.calls a0 t468 _ A8.out).mono ?_
 rintro e w23 ⟨rfl, hb⟩
 refine ⟨_, rfl, ?_⟩
 replace HO463 := rB HO463 hb
 replace HO466 := mk0 (Kd.V_below HO466.out hb)
 replace BK457 := bkB BK457 hb
 replace BK467 := bkB BK467 hb
 replace HB := mk0 (below_step (by repeat (first | exact HB.out | apply bN | apply b1 | apply bA | refine bS ?_ GE457.out | refine bS ?_ GE467.out)) hb)
 refine hK.out _ _ ⟨(blk_cell BK457.out 0).trans rfl, (blk_cell BK457.out 1).trans rfl, (blk_cell BK457.out 2).trans rfl, (blk_cell BK467.out 0).trans rfl, (blk_cell BK467.out 1).trans rfl, (blk_cell BK467.out 2).trans rfl⟩ (fun hHeld => ?_)
 clear hK K
 refine norm_ (a' := ?_) ?_ ?_
 rotate_left
 ·show Act.put _ (some 18) _ = _
  simp only [Act.put, sA, sZ, sS, i64_w, i32_w]
  rfl
 refine puA (i := 2) (N := 19) (v := ?_) (a' := ?_) (bv 10 55) HT_ ?_ ?_ ?_; rotate_left; (intro w'; go_simp; with_reducible rfl); rotate_left; (simp only [Act.put, sA, sZ, sS, i64_w, i32_w]; rfl)
 refine one_ (i := 3) (N := some 20) (bv 10 63) rfl rfl (one_of HT_.out (by kernel_rfl)) (by decide) (fun K hK => ?_)
 refine goes_ Try.func30 (by kernel_rfl) rfl #[.int .i64 (wrap64 (t468 + 1)), .int .i64 1] (by rfl) rfl rfl (by go_simp <;> rfl) ?_
 with_reducible refine (exposure_fraction.calls k (wrap64 (t468 + 1)) 1 t469 t470 t473 _ A9.out).mono ?_
 rintro e w24 ⟨v471, v474, rfl, ho0, ho1, hb⟩
 refine ⟨_, rfl, ?_⟩
 replace HO466 := mk0 (Kd.V_elder' HO466.out (Rs ho0) hb)
 have HO472 := mk0 (Rl (Rn (Rm (ok' := fun k_ => True) ho0 tv) (Rq HO463.out)) (bZ (by repeat (first | exact HB.out | apply bN | apply b1 | apply bA | refine bS ?_ GE457.out | refine bS ?_ GE467.out))))
 have HO475 := mk0 (Vl (Vm (ok' := fun k_ => some k_ ≠ (v471 : Value).ownBlock ∧ some k_ ≠ (.slice Ao19 t461.length co19 : Value).ownBlock ∧ k_ ≠ gb457 ∧ k_ ≠ gb467) ho1 (fun k_ hk_ => ⟨hk_.2, (Kd.fresh' (Rq HO463.out) k_ hk_.1), (Kd.freshB BK457.out k_ hk_.1), (Kd.freshB BK467.out k_ hk_.1)⟩)) (bZ (by repeat (first | exact HB.out | apply bN | apply b1 | apply bA | refine bS ?_ GE457.out | refine bS ?_ GE467.out))))
 replace HO463 := mk0 (Re HO463.out (Rs ho0) hb)
 replace BK457 := bkB BK457 hb
 replace BK467 := bkB BK467 hb
 replace HB := mk0 (below_step (by repeat (first | exact HB.out | apply bN | apply b1 | apply bA | refine bS ?_ GE457.out | refine bS ?_ GE467.out)) hb)
 refine hK.out _ _ ⟨(blk_cell BK457.out 0).trans rfl, (blk_cell BK457.out 1).trans rfl, (blk_cell BK457.out 2).trans rfl, (blk_cell BK467.out 0).trans rfl, (blk_cell BK467.out 1).trans rfl, (blk_cell BK467.out 2).trans rfl⟩ (fun hHeld => ?_)
 clear hK K
 refine norm_ (a' := ?_) ?_ ?_
 rotate_left
 ·show Act.put _ (some 20) _ = _
  simp only [Act.put, sA, sZ, sS, i64_w, i32_w]
  rfl
 refine one_ (i := 6) (N := some 23) (bv 10 127) rfl rfl (one_of HT_.out (by kernel_rfl)) (by decide) (fun K hK => ?_)
 refine goes_ Try.func27 (by kernel_rfl) rfl #[.agg #[.bool a2_0, .slice A2_1 l2_1.length c2_1, .slice A2_2 l2_2.length c2_2], .agg #[.bool t460, .slice Ao19 t461.length co19, .slice Ao20 t464.length co20]] (by rfl) rfl rfl (by go_simp <;> rfl) ?_
 with_reducible refine (ratio_Mul.calls k a2_0 (fun k_ => k_ < w.heap.size) _ _ l2_1 _ _ l2_2 t460 (fun k_ => some k_ = (.slice Ao19 t461.length co19 : Value).ownBlock) _ _ t461 _ _ t464 t476 t477 t480 _ ?side1 ?side2 ?side3 ?side4 ?side5 ?side6 A10.out).mono ?_
 (case side1 => exact Kd.V_mk HC2_1.out (Kd.F_below (Kd.C_F (Kd.heap_int .u32) HR2_1.out) (by repeat (first | exact HB.out | apply bN | apply b1 | apply bA | refine bS ?_ GE457.out | refine bS ?_ GE467.out))))
 (case side2 => repeat (first | exact (Cb HR2_2.out HB.out) | (with_reducible refine Kd.C_alloc ?_ _) | (with_reducible refine Kd.C_drewN ?_ _) | (with_reducible refine Kd.C_drew ?_)))
 (case side3 => exact HC2_2.out)
 (case side4 => exact Kd.R_V (Kd.R_tight rfl (Rt (Rt (HO463.out) BK457.out (by decide)) BK467.out (by decide))))
 (case side5 => repeat (first | exact (Kd.V_reads' HO466.out).2.2 | (with_reducible refine Kd.C_alloc ?_ _) | (with_reducible refine Kd.C_drewN ?_ _) | (with_reducible refine Kd.C_drew ?_)))
 (case side6 => exact (Kd.V_reads' HO466.out).2.1)
 rintro e w25 ⟨v478, v481, rfl, ho0, ho1, hb⟩
 refine ⟨_, rfl, ?_⟩
 replace HO466 := mk0 (Kd.V_elder' HO466.out (Rs ho0) hb)
 replace HO475 := mk0 (Kd.V_elder' HO475.out (Rs ho0) hb)
 have HO479 := mk0 (Rl (Rn (Rn (Rm (ok' := fun k_ => True) ho0 tv) (Rq HO463.out)) (Rq HO472.out)) (bZ (by repeat (first | exact HB.out | apply bN | apply b1 | apply bA | refine bS ?_ GE457.out | refine bS ?_ GE467.out))))
 have HO482 := mk0 (Vl (Vm (ok' := fun k_ => some k_ ≠ (v478 : Value).ownBlock ∧ some k_ ≠ (v471 : Value).ownBlock ∧ k_ ≠ gb457 ∧ k_ ≠ gb467) ho1 (fun k_ hk_ => ⟨hk_.2, Or.elim hk_.1 (fun hs_ => Or.elim hs_ (fun hs_ => fun e_ => Nat.not_le.2 hs_ (Rs HO472.out k_ e_.symm)) (fun hs_ => ((Rt (Rt (HO463.out) BK457.out (by decide)) BK467.out (by decide)).1 k_ hs_.symm).1.1.2)) (fun hn_ => (Kd.fresh' (Rq HO472.out) k_ hn_)), Or.elim hk_.1 (fun hs_ => Or.elim hs_ (fun hs_ => fun e_ => Nat.not_le.2 hs_ (by rw [e_]; exact GE457.out)) (fun hs_ => ((Rt (Rt (HO463.out) BK457.out (by decide)) BK467.out (by decide)).1 k_ hs_.symm).1.2)) (fun hn_ => (Kd.freshB BK457.out k_ hn_)), Or.elim hk_.1 (fun hs_ => Or.elim hs_ (fun hs_ => fun e_ => Nat.not_le.2 hs_ (by rw [e_]; exact GE467.out)) (fun hs_ => ((Rt (Rt (HO463.out) BK457.out (by decide)) BK467.out (by decide)).1 k_ hs_.symm).2)) (fun hn_ => (Kd.freshB BK467.out k_ hn_))⟩)) (bZ (by repeat (first | exact HB.out | apply bN | apply b1 | apply bA | refine bS ?_ GE457.out | refine bS ?_ GE467.out))))
 replace HO463 := mk0 (Re HO463.out (Rs ho0) hb)
 replace HO472 := mk0 (Re HO472.out (Rs ho0) hb)
 replace BK457 := bkB BK457 hb
 replace BK467 := bkB BK467 hb
 replace HB := mk0 (below_step (by repeat (first | exact HB.out | apply bN | apply b1 | apply bA | refine bS ?_ GE457.out | refine bS ?_ GE467.out)) hb)
 obtain ⟨Ao26, co26, eo26⟩ := Kd.R_slice HO472.out
 (first | subst eo26 | (injection eo26 with f1_ f2_ f3_; have f4_ := f1_.symm; have f5_ := f3_.symm; clear f1_ f2_ f3_; subst f4_; subst f5_))
 obtain ⟨Ao27, co27, eo27⟩ := Kd.V_slice HO475.out
 (first | subst eo27 | (injection eo27 with f1_ f2_ f3_; have f4_ := f1_.symm; have f5_ := f3_.symm; clear f1_ f2_ f3_; subst f4_; subst f5_))
 obtain ⟨Ao28, co28, eo28⟩ := Kd.R_slice HO479.out
 (first | subst eo28 | (injection eo28 with f1_ f2_ f3_; have f4_ := f1_.symm; have f5_ := f3_.symm; clear f1_ f2_ f3_; subst f4_; subst f5_))
 obtain ⟨Ao29, co29, eo29⟩ := Kd.V_slice HO482.out
 (first | subst eo29 | (injection eo29 with f1_ f2_ f3_; have f4_ := f1_.symm; have f5_ := f3_.symm; clear f1_ f2_ f3_; subst f4_; subst f5_))
 refine hK.out _ _ ⟨(blk_cell BK457.out 0).trans rfl, (blk_cell BK457.out 1).trans rfl, (blk_cell BK457.out 2).trans rfl, (blk_cell BK467.out 0).trans rfl, (blk_cell BK467.out 1).trans rfl, (blk_cell BK467.out 2).trans rfl⟩ (fun hHeld => ?_)
 clear hK K
 refine norm_ (a' := ?_) ?_ ?_
 rotate_left
 ·show Act.put _ (some 23) _ = _
  simp only [Act.put, sA, sZ, sS, i64_w, i32_w]
  rfl
 refine one_ (i := 7) (N := some 24) (bv 10 255) rfl rfl (one_of HT_.out (by kernel_rfl)) (by decide) (fun K hK => ?_)
 refine goes_ Try.func26 (by kernel_rfl) rfl #[.agg #[.bool t469, .slice Ao26 t470.length co26, .slice Ao27 t473.length co27], .agg #[.bool t476, .slice Ao28 t477.length co28, .slice Ao29 t480.length co29]] (by rfl) rfl rfl (by go_simp <;> rfl) ?_
 with_reducible refine (ratio_Cmp.calls k t469 _ _ t470 _ _ t473 t476 _ _ t477 _ _ t480 t483 _ ?side1 ?side2 ?side3 ?side4 ?side5 ?side6 ?side7 ?side8 A11.out).mono ?_
 (case side1 => repeat (first | exact (Kd.R_reads' HO472.out).2.2 | (with_reducible refine Kd.C_alloc ?_ _) | (with_reducible refine Kd.C_drewN ?_ _) | (with_reducible refine Kd.C_drew ?_)))
 (case side2 => exact (Kd.R_reads' HO472.out).2.1)
 (case side3 => repeat (first | exact (Kd.V_reads' HO475.out).2.2 | (with_reducible refine Kd.C_alloc ?_ _) | (with_reducible refine Kd.C_drewN ?_ _) | (with_reducible refine Kd.C_drew ?_)))
 (case side4 => exact (Kd.V_reads' HO475.out).2.1)
 (case side5 => repeat (first | exact (Kd.R_reads' HO479.out).2.2 | (with_reducible refine Kd.C_alloc ?_ _) | (with_reducible refine Kd.C_drewN ?_ _) | (with_reducible refine Kd.C_drew ?_)))
 (case side6 => exact (Kd.R_reads' HO479.out).2.1)
 (case side7 => repeat (first | exact (Kd.V_reads' HO482.out).2.2 | (with_reducible refine Kd.C_alloc ?_ _) | (with_reducible refine Kd.C_drewN ?_ _) | (with_reducible refine Kd.C_drew ?_)))
 (case side8 => exact (Kd.V_reads' HO482.out).2.1)
 rintro e w30 ⟨rfl, hb⟩
 refine ⟨_, rfl, ?_⟩
 replace HO463 := rB HO463 hb
 replace HO466 := mk0 (Kd.V_below HO466.out hb)
 replace HO472 := rB HO472 hb
 replace HO475 := mk0 (Kd.V_below HO475.out hb)
 replace HO479 := rB HO479 hb
 replace HO482 := mk0 (Kd.V_below HO482.out hb)
 replace BK457 := bkB BK457 hb
 replace BK467 := bkB BK467 hb
 replace HB := mk0 (below_step (by repeat (first | exact HB.out | apply bN | apply b1 | apply bA | refine bS ?_ GE457.out | refine bS ?_ GE467.out)) hb)
 refine hK.out _ _ ⟨(blk_cell BK457.out 0).trans rfl, (blk_cell BK457.out 1).trans rfl, (blk_cell BK457.out 2).trans rfl, (blk_cell BK467.out 0).trans rfl, (blk_cell BK467.out 1).trans rfl, (blk_cell BK467.out 2).trans rfl⟩ (fun hHeld => ?_)
 clear hK K
 refine norm_ (a' := ?_) ?_ ?_
 rotate_left
 ·show Act.put _ (some 24) _ = _
  simp only [Act.put, sA, sZ, sS, i64_w, i32_w]
  rfl
 refine puA (i := 8) (N := 25) (v := ?_) (a' := ?_) (bv 10 511) HT_ ?_ ?_ ?_; rotate_left; (intro w'; go_simp; with_reducible rfl); rotate_left; (simp only [Act.put, sA, sZ, sS, i64_w, i32_w]; rfl)
 refine puA (i := 9) (N := 8) (v := ?_) (a' := ?_) (bv 10 1023) HT_ ?_ ?_ ?_; rotate_left; (intro w'; go_simp; with_reducible rfl); rotate_left; (simp only [Act.put, sA, sZ, sS, i64_w, i32_w]; rfl)
 refine done_ (done_of HT_.out (by kernel_rfl)) ?_
 try go_wp2
 go_ret
 exact ⟨by first | rfl | (simp [errW_none, errW_some] <;> rfl) | (simp [*, errW_none, errW_some] <;> rfl), by repeat (first | exact HB.out | apply bN | apply b1 | apply bA | refine bS ?_ GE457.out | refine bS ?_ GE467.out)⟩
def ratio_Sign.f (k : Nat) (a0_0 : Bool) (l0_1 : List Int) (l0_2 : List Int) : Option (Int) := (ratio_parts.f k a0_0 l0_1 l0_2).bind fun bt1043 => ((integer_Sign.f k bt1043.1 bt1043.2.1).bind fun t1053 => (some t1053))
def slices_Index_int_int.l0 : Nat → List Int → Int → Int → Int → Option (Int)
 | 0, _, _, _, _ => none
 | k + 1, x0, x1, x7, x8 => if x8 < x7 then (if 0 ≤ x8 then (if x8 < (x0.length : Int) then (if x1 = (rd x0 x8) then (some x8) else (slices_Index_int_int.l0 k x0 x1 x7 (wrap64 (x8 + 1)))) else (none)) else (none)) else (some (-1))
def slices_Index_int_int.f (k : Nat) (l0 : List Int) (a1 : Int) : Option (Int) := slices_Index_int_int.l0 k l0 a1 (l0.length : Int) 0
def slices_Contains_int_int.f (k : Nat) (l0 : List Int) (a1 : Int) : Option (Bool) := (slices_Index_int_int.f k l0 a1).bind fun t1055 => (some (decide (t1055 ≥ 0)))
mutual
def exposure_normal.l0 : Nat → List (S50) → List Int → List (S50) → Int → Int → Option ((List (S50)))
 | 0, _, _, _, _, _ => none
 | k + 1, x0, x3, x10, x11, x12 => if x12 < x11 then (if 0 ≤ x12 then (if x12 < (x10.length : Int) then (if x3.length < 17592186044416 then (exposure_normal.l0 k x0 (x3 ++ [(rd_T50 x10 x12).f0]) x10 x11 (wrap64 (x12 + 1))) else (none)) else (none)) else (none)) else ((slices_Sort_int_int.f x3).bind fun t1061 => ((slices_Compact_int_int.f t1061).bind fun t1062 => (exposure_normal.l1 k x0 ([] : List (S50)) t1062 (t1062.length : Int) 0)))
def exposure_normal.l1 : Nat → List (S50) → List (S50) → List Int → Int → Int → Option ((List (S50)))
 | 0, _, _, _, _, _ => none
 | k + 1, x0, x6, x25, x26, x27 => if x27 < x26 then (if 0 ≤ x27 then (if x27 < (x25.length : Int) then ((exposure_Count.f k x0 (rd x25 x27)).bind fun t1066 => (if t1066 > 0 then (if x6.length < 8796093022208 then (exposure_normal.l1 k x0 (x6 ++ [(⟨rd x25 x27, t1066⟩ : S50)]) x25 x26 (wrap64 (x27 + 1))) else (none)) else (exposure_normal.l1 k x0 x6 x25 x26 (wrap64 (x27 + 1))))) else (none)) else (none)) else (some x6)
end
def exposure_normal.f (k : Nat) (l0 : List (S50)) : Option ((List (S50))) := exposure_normal.l0 k l0 ([] : List Int) l0 (l0.length : Int) 0
def cmp_Compare_int.f (a0 : Int) (a1 : Int) : Option (Int) := (cmp_isNaN_int.f a0).bind fun t1070 => ((cmp_isNaN_int.f a1).bind fun t1071 => (if t1070 = true then (if t1071 = true then (some 0) else (some (-1))) else (if t1071 = true then (some 1) else (if a0 < a1 then (some (-1)) else (if a0 > a1 then (some 1) else (some 0))))))
def exposure_Record_1.f (a0_0 : Int) (a0_1 : Int) (a1 : Int) : Option (Int) := (cmp_Compare_int.f a0_0 a1).bind fun t1073 => (some t1073)
def api_Use_int.l0 : Nat → List (S50) → Int → Int → Int → Int → Option (Int × Bool)
 | 0, _, _, _, _, _ => none
 | k + 1, x0, x1, x8, x9, x10 => if x9 < x10 then (if 0 ≤ (wrap64 ((IntKind.u64.wrap (wrap64 (x9 + x10))) / 2)) then (if (wrap64 ((IntKind.u64.wrap (wrap64 (x9 + x10))) / 2)) < (x0.length : Int) then ((exposure_Record_1.f ((rd_T50 x0 (wrap64 ((IntKind.u64.wrap (wrap64 (x9 + x10))) / 2))).f0) ((rd_T50 x0 (wrap64 ((IntKind.u64.wrap (wrap64 (x9 + x10))) / 2))).f1) x1).bind fun t1075 => (if t1075 < 0 then (api_Use_int.l0 k x0 x1 x8 (wrap64 ((wrap64 ((IntKind.u64.wrap (wrap64 (x9 + x10))) / 2)) + 1)) x10) else (api_Use_int.l0 k x0 x1 x8 x9 (wrap64 ((IntKind.u64.wrap (wrap64 (x9 + x10))) / 2))))) else (none)) else (none)) else (if x9 < x8 then (if 0 ≤ x9 then (if x9 < (x0.length : Int) then ((exposure_Record_1.f ((rd_T50 x0 x9).f0) ((rd_T50 x0 x9).f1) x1).bind fun t1077 => (some (x9, (t1077 == 0)))) else (none)) else (none)) else (some (x9, false)))
def api_Use_int.f (k : Nat) (l0 : List (S50)) (a1 : Int) (a2 : Int) : Option (Int × Bool) := api_Use_int.l0 k l0 a1 (l0.length : Int) 0 (l0.length : Int)
def api_Use_47.f (l0 : List S50) (a1 : Int) (l2 : List S50) : Option (List S50) :=
 if 0 ≤ a1 then (if a1 ≤ (l0.length : Int) then (if 0 < l2.length then (if l0.length + l2.length < 8796093022208 then some (l0.take a1.toNat ++ l2 ++ l0.drop a1.toNat) else none) else none) else none) else none
theorem api_Use_47.mv {w w' : World} {b b' : Nat} {ok ok' : Nat → Prop} {x : S50} {cs : List Value} (h : k50.M w b ok x cs) : k50.M w' b' ok' x cs := by
 obtain rfl := k50_openM h
 exact k50_mkM _ _ _ _
theorem api_Use_47.mk {w w' : World} {b' : Nat} {ok' : Nat → Prop} {x : S50} {cs : List Value} (h : k50.K w x cs) : k50.M w' b' ok' x cs := by
 obtain rfl := k50_open h
 exact k50_mkM _ _ _ _
mutual
def exposure_Record.l0 : Nat → List (S50) → List Int → List Int → Int → Int → Option ((List (S50)) × Int)
 | 0, _, _, _, _, _ => none
 | k + 1, x0, x1, x15, x16, x17 => if x17 < x16 then (if 0 ≤ x17 then (if x17 < (x15.length : Int) then (if x17 ≤ (x1.length : Int) then ((slices_Contains_int_int.f k (x1.take (x17 : Int).toNat) (rd x15 x17)).bind fun t1088 => (if t1088 = true then (some (([] : List (S50)), 7)) else (exposure_Record.l0 k x0 x1 x15 x16 (wrap64 (x17 + 1))))) else (none)) else (none)) else (none)) else (exposure_Record.l1 k x0 x1 x1 (x1.length : Int) 0)
def exposure_Record.l1 : Nat → List (S50) → List Int → List Int → Int → Int → Option ((List (S50)) × Int)
 | 0, _, _, _, _, _ => none
 | k + 1, x0, x1, x28, x29, x30 => if x30 < x29 then (if 0 ≤ x30 then (if x30 < (x28.length : Int) then (if (rd x28 x30) < 1 then (some (([] : List (S50)), 3)) else (if (rd x28 x30) > 9999999 then (some (([] : List (S50)), 3)) else (exposure_Record.l1 k x0 x1 x28 x29 (wrap64 (x30 + 1))))) else (none)) else (none)) else ((exposure_normal.f k x0).bind fun t1090 => (exposure_Record.l2 k t1090 x1 (x1.length : Int) 0))
def exposure_Record.l2 : Nat → List (S50) → List Int → Int → Int → Option ((List (S50)) × Int)
 | 0, _, _, _, _ => none
 | k + 1, x10, x43, x44, x45 => if x45 < x44 then (if 0 ≤ x45 then (if x45 < (x43.length : Int) then ((api_Use_int.f k x10 (rd x43 x45) 0).bind fun bt1094 => (if bt1094.2 = true then (if 0 ≤ bt1094.1 then (if bt1094.1 < (x10.length : Int) then ((exposure_bounded.f (wrap64 (((rd_T50 x10 bt1094.1).f1) + 1))).bind fun t1097 => (exposure_Record.l2 k (x10.set (bt1094.1 : Int).toNat (⟨(rd_T50 x10 bt1094.1).f0, t1097⟩ : S50)) x43 x44 (wrap64 (x45 + 1)))) else (none)) else (none)) else ((api_Use_47.f x10 bt1094.1 (([(⟨rd x43 x45, 1⟩ : S50)] : List (S50)))).bind fun t1102 => (exposure_Record.l2 k t1102 x43 x44 (wrap64 (x45 + 1)))))) else (none)) else (none)) else (some (x10, 0))
end
def exposure_Record.f (k : Nat) (l0 : List (S50)) (l1 : List Int) : Option ((List (S50)) × Int) := exposure_Record.l0 k l0 l1 l1 (l1.length : Int) 0
mutual
def examboardlaw37_ExposureCap.j0 : Nat → Int → List Bool → Bool → Bool → List Int → List Int → Option (Bool)
 | 0, _, _, _, _, _, _ => none
 | k + 1, x1, x2, x37, x1106000, x1106001, x1106002 => if x37 = true then (some true) else ((ratio_Of.f k 1 1).bind fun bt1108 => ((exposure_Eligible.f k 0 0 bt1108.1 bt1108.2.1 bt1108.2.2.1 0).bind fun t1117 => (if t1117 = true then (examboardlaw37_ExposureCap.l0 k x1 x2 ([] : List (S50)) 0 x1106000 x1106001 x1106002) else (some false))))
def examboardlaw37_ExposureCap.l0 : Nat → Int → List Bool → List (S50) → Int → Bool → List Int → List Int → Option (Bool)
 | 0, _, _, _, _, _, _, _ => none
 | k + 1, x1, x2, x9, x10, x1106000, x1106001, x1106002 => if x10 < (x2.length : Int) then ((exposure_Count.f k x9 7).bind fun t1118 => (if 0 ≤ x10 then (if rdOf false x2 x10 = true then ((exposure_Eligible.f k t1118 x10 x1106000 x1106001 x1106002 x1).bind fun t1120 => (examboardlaw37_ExposureCap.j2 k x1 x2 x9 x10 t1118 t1120 x1106000 x1106001 x1106002)) else (examboardlaw37_ExposureCap.j2 k x1 x2 x9 x10 t1118 false x1106000 x1106001 x1106002)) else (none))) else (some true)
def examboardlaw37_ExposureCap.j2 : Nat → Int → List Bool → List (S50) → Int → Int → Bool → Bool → List Int → List Int → Option (Bool)
 | 0, _, _, _, _, _, _, _, _, _ => none
 | k + 1, x1, x2, x9, x10, x11, x63, x1106000, x1106001, x1106002 => if x63 = true then ((exposure_Record.f k x9 (([7] : List Int))).bind fun bt1124 => (if bt1124.2 = 0 then ((exposure_Count.f k bt1124.1 7).bind fun t1128 => (if t1128 = (wrap64 (x11 + 1)) then (examboardlaw37_ExposureCap.j3 k x1 x2 bt1124.1 x10 x1106000 x1106001 x1106002) else (some false))) else (some false))) else (examboardlaw37_ExposureCap.j3 k x1 x2 x9 x10 x1106000 x1106001 x1106002)
def examboardlaw37_ExposureCap.j3 : Nat → Int → List Bool → List (S50) → Int → Bool → List Int → List Int → Option (Bool)
 | 0, _, _, _, _, _, _, _ => none
 | k + 1, x1, x2, x9, x10, x1106000, x1106001, x1106002 => (exposure_Count.f k x9 7).bind fun t1129 => ((ratio_Of.f k t1129 1).bind fun bt1130 => ((ratio_Of.f k (wrap64 ((wrap64 (x10 + 1)) + x1)) 1).bind fun bt1139 => (if bt1130.2.2.2 = true then (if bt1139.2.2.2 = true then ((ratio_Mul.f k x1106000 x1106001 x1106002 bt1139.1 bt1139.2.1 bt1139.2.2.1).bind fun bt1148 => ((ratio_Cmp.f k bt1130.1 bt1130.2.1 bt1130.2.2.1 bt1148.1 bt1148.2.1 bt1148.2.2).bind fun t1155 => (if t1155 > 0 then (some false) else (examboardlaw37_ExposureCap.l0 k x1 x2 x9 (wrap64 (x10 + 1)) x1106000 x1106001 x1106002)))) else (some false)) else (some false))))
end
def examboardlaw37_ExposureCap.f (k : Nat) (a0_0 : Bool) (l0_1 : List Int) (l0_2 : List Int) (a1 : Int) (l2 : List Bool) : Option (Bool) := (examboardlaw37_large.f a0_0 l0_1 l0_2).bind fun t1106 => (if t1106 = true then (examboardlaw37_ExposureCap.j0 k a1 l2 true a0_0 l0_1 l0_2) else ((ratio_Sign.f k a0_0 l0_1 l0_2).bind fun t1107 => (if t1107 < 0 then (examboardlaw37_ExposureCap.j0 k a1 l2 true a0_0 l0_1 l0_2) else (if a1 < 0 then (examboardlaw37_ExposureCap.j0 k a1 l2 true a0_0 l0_1 l0_2) else (if a1 > 1000 then (examboardlaw37_ExposureCap.j0 k a1 l2 true a0_0 l0_1 l0_2) else (examboardlaw37_ExposureCap.j0 k a1 l2 (decide ((l2.length : Int) > 100)) a0_0 l0_1 l0_2))))))
set_option maxHeartbeats 8000000 in
set_option maxRecDepth 100000 in
theorem ratio_Sign.calls (k : Nat) (a0_0 : Bool) (A0_1 : Option Addr) (c0_1 : Nat) (l0_1 : List Int) (A0_2 : Option Addr) (c0_2 : Nat) (l0_2 : List Int) (r : Int) (w : World) (hr0_1 : Kd.C (Kd.int .u32) w A0_1 l0_1.length l0_1) (hc0_1 : l0_1.length ≤ c0_1) (hr0_2 : Kd.C (Kd.int .u32) w A0_2 l0_2.length l0_2) (hc0_2 : l0_2.length ≤ c0_2) (h : ratio_Sign.f k a0_0 l0_1 l0_2 = some r) :
  Calls Try.prog 15 #[.agg #[.bool a0_0, .slice A0_1 l0_1.length c0_1, .slice A0_2 l0_2.length c0_2]] w fun e w' => e = .returned (.int .i64 r) ∧ Below w.heap.size w w' := by
 have hu29 := Try.underlying29
 have hu27 := Try.underlying27
 have HR0_1 := mk0 hr0_1
 have HC0_1 := mk0 hc0_1
 clear hr0_1 hc0_1
 have HR0_2 := mk0 hr0_2
 have HC0_2 := mk0 hc0_2
 clear hr0_2 hc0_2
 have HB := mk0 (Below.refl w.heap.size w)
 have H : ((ratio_parts.f k a0_0 l0_1 l0_2).bind fun bt1043 => ((integer_Sign.f k bt1043.1 bt1043.2.1).bind fun t1053 => (some t1053))) = some r := h
 clear h
 obtain ⟨⟨t1043, t1044, t1047, t1048⟩, A2, H⟩ := bindA H
 obtain ⟨t1053, A3, H⟩ := bindA H
 obtain rfl := Option.some.inj H
 go_enter Try.func15, Try.ntmps15
 go_wp2_with (first | ((with_reducible refine gate_dst (N := 1) rfl ?_); refine box_event rfl (N := 1) rfl (cs := #[.bool a0_0, .slice A0_1 l0_1.length c0_1, .slice A0_2 l0_2.length c0_2]) (t := 29) (by go_simp <;> rfl) ?_; intro gb1042 hg w4 hbox hb; have BK1042 := mk0 (hbox); have GE1042 := geB hg HB; replace HB := hbS HB hb; clear hb hbox hg; obtain ⟨hcz5_0, hcz5_1, hcz5_2, hfz5_0, hfz5_1, hfz5_2⟩ := cz3 BK1042) | ((with_reducible refine gate_callee (f := 36) rfl ?_); refine goA 7 Try.func36 #[.agg #[.bool a0_0, .slice A0_1 l0_1.length c0_1, .slice A0_2 l0_2.length c0_2]] ?_; (with_reducible refine (ratio_parts.calls k a0_0 (fun k_ => k_ < w.heap.size) _ _ l0_1 _ _ l0_2 t1043 t1044 t1047 t1048 _ (by exact Kd.V_mk HC0_1.out (Kd.F_below (Kd.C_F (Kd.heap_int .u32) HR0_1.out) HB.out)) (by exact Cb HR0_2.out HB.out) HC0_2.out A2.out).mono ?_); rintro e w6 ⟨v1045, v1049, rfl, ho0, ho1, hb⟩; refine ⟨_, rfl, ?_⟩; have HO1046 := mk0 (Vl (Vm (ok' := fun k_ => some k_ ≠ (v1049 : Value).ownBlock ∧ k_ ≠ gb1042) ho0 (fun k_ hk_ => ⟨hk_.2, Or.elim hk_.1 (fun hs_ => fun e_ => Nat.not_le.2 hs_ (by rw [e_]; exact GE1042.out)) (fun hn_ => (Kd.freshB BK1042.out k_ hn_))⟩)) (bZ HB.out)); have HO1050 := mk0 (Rl (Rm (ok' := fun k_ => True) ho1 tv) (bZ HB.out)); replace BK1042 := bkB BK1042 hb; replace HB := hbS HB hb) | ((with_reducible refine gate_dst (N := 3) rfl ?_); refine box_event rfl (N := 3) rfl (cs := #[.bool false, .slice none 0 0]) (t := 27) (by go_simp <;> rfl) ?_; intro gb1051 hg w7 hbox hb; replace HO1046 := vB HO1046 hg hb; replace HO1050 := rB HO1050 hb; have BK1051 := mk0 (hbox); have GE1051 := geB hg HB; replace HB := hbS HB hb; have NB1042_1051 := nbA hg BK1042; have NB1051_1042 := nbB hg BK1042; replace BK1042 := bkB BK1042 hb; clear hb hbox hg) | ((with_reducible refine gate_dst (N := 4) rfl ?_); refine box_event rfl (N := 4) rfl (cs := #[.bool false, .slice none 0 0]) (t := 27) (by go_simp <;> rfl) ?_; intro gb1052 hg w8 hbox hb; replace HO1046 := vB HO1046 hg hb; replace HO1050 := rB HO1050 hb; have BK1052 := mk0 (hbox); have GE1052 := geB hg HB; replace HB := hbS HB hb; have NB1042_1052 := nbA hg BK1042; have NB1052_1042 := nbB hg BK1042; replace BK1042 := bkB BK1042 hb; have NB1051_1052 := nbA hg BK1051; have NB1052_1051 := nbB hg BK1051; replace BK1051 := bkB BK1051 hb; clear hb hbox hg; have hnb9 := NB1051_1042.out; have hnc9 := NB1042_1051.out; have hnb10 := NB1051_1052.out; have hnc10 := NB1052_1051.out; obtain ⟨hcz11_0, hcz11_1, hfz11_0, hfz11_1⟩ := cz2 BK1051; obtain ⟨Ao12, co12, eo12⟩ := Kd.V_slice HO1046.out; subst eo12; have hnb13 := NB1052_1042.out; have hnc13 := NB1042_1052.out; obtain ⟨hcz14_0, hcz14_1, hfz14_0, hfz14_1⟩ := cz2 BK1052; obtain ⟨Ao15, co15, eo15⟩ := Kd.R_slice HO1050.out; subst eo15) | ((with_reducible refine gate_callee (f := 37) rfl ?_); refine goA 11 Try.func37 #[.agg #[.bool t1043, .slice Ao12 t1044.length co12]] ?_; (with_reducible refine (integer_Sign.calls k t1043 _ _ t1044 t1053 _ (by refine (Kd.V_reads' (e := 87) (base := w.heap.size) (ok := fun k_ => (((some k_ ≠ (.slice Ao15 t1048.length co15 : Value).ownBlock ∧ k_ ≠ gb1042) ∧ k_ ≠ gb1051) ∧ k_ ≠ gb1052)) (n := t1044.length) (c := co12) ?_).2.2; exact ((Vm (Vm (Vf (p := ⟨gb1052, 1, none⟩) (Vf (p := ⟨gb1052, 0, none⟩) (Vf (p := ⟨gb1051, 1, none⟩) (Vf (p := ⟨gb1051, 0, none⟩) (Vm (Vm HO1046.out (fun k_ hk => (⟨hk, hk.1.2⟩ : _ ∧ k_ ≠ gb1051))) (fun k_ hk => (⟨hk, hk.1.2⟩ : _ ∧ k_ ≠ gb1052))) (fun _ hk => hk.1.2) (.bool t1043)) (fun _ hk => hk.1.2) (.slice Ao12 t1044.length co12)) (fun _ hk => hk.2) (.bool t1047)) (fun _ hk => hk.2) (.slice Ao15 t1048.length co15)) (fun _ h_ => h_.1)) (fun _ h_ => h_.1)))) (by exact (Kd.V_reads' HO1046.out).2.1) A3.out).mono ?_); rintro e w16 ⟨rfl, hb⟩; refine ⟨_, rfl, ?_⟩; replace HO1046 := mk0 (Kd.V_below ((Vm (Vm (Vf (p := ⟨gb1052, 1, none⟩) (Vf (p := ⟨gb1052, 0, none⟩) (Vf (p := ⟨gb1051, 1, none⟩) (Vf (p := ⟨gb1051, 0, none⟩) (Vm (Vm HO1046.out (fun k_ hk => (⟨hk, hk.1.2⟩ : _ ∧ k_ ≠ gb1051))) (fun k_ hk => (⟨hk, hk.1.2⟩ : _ ∧ k_ ≠ gb1052))) (fun _ hk => hk.1.2) (.bool t1043)) (fun _ hk => hk.1.2) (.slice Ao12 t1044.length co12)) (fun _ hk => hk.2) (.bool t1047)) (fun _ hk => hk.2) (.slice Ao15 t1048.length co15)) (fun _ h_ => h_.1)) (fun _ h_ => h_.1))) hb); replace HO1050 := mk0 (Rb ((Rm (Rm (Rf (p := ⟨gb1052, 1, none⟩) (Rf (p := ⟨gb1052, 0, none⟩) (Rf (p := ⟨gb1051, 1, none⟩) (Rf (p := ⟨gb1051, 0, none⟩) (Rt (Rt HO1050.out BK1051.out (by decide)) BK1052.out (by decide)) (fun _ hk => hk.1.2) (.bool t1043)) (fun _ hk => hk.1.2) (.slice Ao12 t1044.length co12)) (fun _ hk => hk.2) (.bool t1047)) (fun _ hk => hk.2) (.slice Ao15 t1048.length co15)) (fun _ h_ => h_.1)) (fun _ h_ => h_.1))) hb); replace BK1042 := mk0 (blk_below (g := gb1042) (o := .cells #[.bool a0_0, .slice A0_1 l0_1.length c0_1, .slice A0_2 l0_2.length c0_2] 29 (0, 0)) (by refine blk_far ?_ NB1042_1052.out _; refine blk_far ?_ NB1042_1052.out _; refine blk_far ?_ NB1042_1051.out _; refine blk_far ?_ NB1042_1051.out _; exact BK1042.out) hb); replace BK1051 := mk0 (blk_below (g := gb1051) (o := .cells #[.bool t1043, .slice Ao12 t1044.length co12] 27 (0, 0)) (by refine blk_far ?_ NB1051_1052.out _; refine blk_far ?_ NB1051_1052.out _; refine blk_put (cs := #[.bool t1043, .slice none 0 0]) ?_ 1 _ rfl; refine blk_put (cs := #[.bool false, .slice none 0 0]) ?_ 0 _ rfl; exact BK1051.out) hb); replace BK1052 := mk0 (blk_below (g := gb1052) (o := .cells #[.bool t1047, .slice Ao15 t1048.length co15] 27 (0, 0)) (by refine blk_put (cs := #[.bool t1047, .slice none 0 0]) ?_ 1 _ rfl; refine blk_put (cs := #[.bool false, .slice none 0 0]) ?_ 0 _ rfl; refine blk_far ?_ NB1052_1051.out _; refine blk_far ?_ NB1052_1051.out _; exact BK1052.out) hb); replace HB := mk0 (below_step (by repeat (first | exact HB.out | refine bS ?_ GE1051.out | refine bS ?_ GE1052.out)) hb)))
 go_ret
 exact ⟨by first | rfl | (simp [errW_none, errW_some] <;> rfl) | (simp [*, errW_none, errW_some] <;> rfl), by repeat (first | exact HB.out | apply bN | apply b1 | apply bA | refine bS ?_ GE1042.out | refine bS ?_ GE1051.out | refine bS ?_ GE1052.out)⟩
set_option maxHeartbeats 8000000 in
set_option maxRecDepth 100000 in
theorem exposure_Count.calls (k : Nat) (A0 : Option Addr) (c0 : Nat) (l0 : List (S50)) (a1 : Int) (r : Int) (w : World) (hr0 : Kd.C k50 w A0 l0.length l0) (hc0 : l0.length ≤ c0) (h : exposure_Count.f k l0 a1 = some r) :
  Calls Try.prog 17 #[.slice A0 l0.length c0, .int .i64 a1] w fun e w' => e = .returned (.int .i64 r) ∧ Below w.heap.size w w' := by
 have hu50 := Try.underlying50
 have HR0 := mk0 hr0
 have HC0 := mk0 hc0
 clear hr0 hc0
 have HB := mk0 (Below.refl w.heap.size w)
 have H : (exposure_Count.l0 k a1 0 l0 (l0.length : Int) 0) = some r := h
 clear h
 have H' := mk0 H
 clear H
 go_enter Try.func17, Try.ntmps17
 go_wp2
 go_loopg [5, 10] k (fun kq v5 v10 w' => ∃ (x5_1 : Int) (x10_1 : Int), v5 = .int .i64 x5_1 ∧ v10 = .int .i64 x10_1 ∧ Aside0 (exposure_Count.l0 kq a1 x5_1 l0 (l0.length : Int) x10_1 = some r) ∧ Aside0 (kq ≤ k) ∧ Aside0 (Below w.heap.size w w'))
 case atStart => exact ⟨(0), (0), (by first | rfl | (simp; done) | (simp [*]; done)), (by first | rfl | (simp; done) | (simp [*]; done)), H', ⟨Nat.le_refl _⟩, ⟨by repeat (first | exact HB.out | apply bN | apply b1 | apply bA)⟩⟩
 case round =>
  clear H'
  try clear c1
  try clear p2
  obtain ⟨x5_1, x10_1, rfl, rfl, HA, HK1, HB⟩ := hrel
  cases gk with
  | zero => exact absurd HA.out (by simp [exposure_Count.l0])
  | succ k1 =>
   have H := HA.out
   clear HA
   simp only [exposure_Count.l0] at H
   by_cases c3 : x10_1 < (l0.length : Int)
   ·rw [if_pos c3] at H
    have c3b0 : decide (x10_1 < (l0.length : Int)) = true := decide_eq_true c3
    clear c3
    by_cases c4 : 0 ≤ x10_1
    ·rw [if_pos c4] at H
     have c4b0 : decide (0 ≤ x10_1) = true := decide_eq_true c4
     clear c4
     by_cases c5 : x10_1 < (l0.length : Int)
     ·rw [if_pos c5] at H
      have c5b0 : decide (x10_1 < (l0.length : Int)) = true := decide_eq_true c5
      clear c5
      by_cases c6 : ((rd_T50 l0 x10_1).f0) = a1
      ·rw [if_pos c6] at H
       have c6b0 : (((rd_T50 l0 x10_1).f0) == a1) = true := beq_iff_eq.mpr c6
       have c6b1 : (((rd_T50 l0 x10_1).f0) != a1) = false := bne_eq_false_iff_eq.mpr c6
       clear c6
       obtain ⟨t486, A7, H⟩ := bindA H
       obtain ⟨t487, A8, H⟩ := bindA H
       have H' := mk0 H
       clear H
       have p484 : 0 ≤ (x10_1 : Int) := of_decide_eq_true (by assumption)
       have q484 : x10_1 < (l0.length : Int) := of_decide_eq_true (by assumption)
       obtain ⟨ad484, e484, hx484_0, hx484_1⟩ := at_T50 HR0.out x10_1 p484 q484
       cases e484
       replace hx484_0 := (HB.out.cell (World.block_lt_of_cell? w _ hx484_0)).trans hx484_0
       replace hx484_1 := (HB.out.cell (World.block_lt_of_cell? w _ hx484_1)).trans hx484_1
       replace p484 := eq_true p484
       replace q484 := eq_true q484
       go_wp2_with (first | ((with_reducible refine gate_dst (N := 7) rfl ?_); refine box_event rfl (N := 7) rfl (cs := #[.int .i64 0, .int .i64 0]) (t := 50) (by go_simp <;> rfl) ?_; intro gb485 hg w9 hbox hb; have BK485 := mk0 (hbox); have GE485 := geB hg HB; replace HB := hbS HB hb; clear hb hbox hg; obtain ⟨hcz10_0, hcz10_1, hfz10_0, hfz10_1⟩ := cz2 BK485) | ((with_reducible refine gate_callee (f := 31) rfl ?_); refine goA 21 Try.func31 #[.int .i64 ((rd_T50 l0 x10_1).f1)] ?_; (with_reducible refine (exposure_bounded.calls ((rd_T50 l0 x10_1).f1) t486 _ A7.out).mono ?_); rintro e w11 ⟨rfl, hb⟩; refine ⟨_, rfl, ?_⟩; replace BK485 := mk0 (blk_below (g := gb485) (o := .cells #[.int .i64 ((rd_T50 l0 x10_1).f0), .int .i64 ((rd_T50 l0 x10_1).f1)] 50 (0, 0)) (by refine blk_put (cs := #[.int .i64 ((rd_T50 l0 x10_1).f0), .int .i64 0]) ?_ 1 _ rfl; refine blk_put (cs := #[.int .i64 0, .int .i64 0]) ?_ 0 _ rfl; exact BK485.out) hb); replace HB := mk0 (below_step (by repeat (first | exact HB.out | refine bS ?_ GE485.out)) hb)) | ((with_reducible refine gate_callee (f := 31) rfl ?_); refine goA 23 Try.func31 #[.int .i64 (wrap64 (x5_1 + t486))] ?_; (with_reducible refine (exposure_bounded.calls (wrap64 (x5_1 + t486)) t487 _ A8.out).mono ?_); rintro e w12 ⟨rfl, hb⟩; refine ⟨_, rfl, ?_⟩; replace BK485 := bkB BK485 hb; replace HB := hbS HB hb))
       go_roundg k1
       case measure => have := HK1.out; omega
       case rel => exact ⟨(t487), (wrap64 (x10_1 + 1)), (by first | rfl | (simp; done) | (simp [*]; done)), (by first | rfl | (simp; done) | (simp [*]; done)), H', ⟨by have := HK1.out; omega⟩, ⟨by repeat (first | exact HB.out | apply bN | apply b1 | apply bA | refine bS ?_ GE485.out)⟩⟩
      ·rw [if_neg c6] at H
       have c6b0 : (((rd_T50 l0 x10_1).f0) == a1) = false := beq_eq_false_iff_ne.mpr c6
       have c6b1 : (((rd_T50 l0 x10_1).f0) != a1) = true := bne_iff_ne.mpr c6
       have H' := mk0 H
       clear H
       have p484 : 0 ≤ (x10_1 : Int) := of_decide_eq_true (by assumption)
       have q484 : x10_1 < (l0.length : Int) := of_decide_eq_true (by assumption)
       obtain ⟨ad484, e484, hx484_0, hx484_1⟩ := at_T50 HR0.out x10_1 p484 q484
       cases e484
       replace hx484_0 := (HB.out.cell (World.block_lt_of_cell? w _ hx484_0)).trans hx484_0
       replace hx484_1 := (HB.out.cell (World.block_lt_of_cell? w _ hx484_1)).trans hx484_1
       replace p484 := eq_true p484
       replace q484 := eq_true q484
       go_wp2_with (first | ((with_reducible refine gate_dst (N := 7) rfl ?_); refine box_event rfl (N := 7) rfl (cs := #[.int .i64 0, .int .i64 0]) (t := 50) (by go_simp <;> rfl) ?_; intro gb485 hg w13 hbox hb; have BK485 := mk0 (hbox); have GE485 := geB hg HB; replace HB := hbS HB hb; clear hb hbox hg; obtain ⟨hcz14_0, hcz14_1, hfz14_0, hfz14_1⟩ := cz2 BK485))
       go_roundg k1
       case measure => have := HK1.out; omega
       case rel => exact ⟨(x5_1), (wrap64 (x10_1 + 1)), (by first | rfl | (simp; done) | (simp [*]; done)), (by first | rfl | (simp; done) | (simp [*]; done)), H', ⟨by have := HK1.out; omega⟩, ⟨by repeat (first | exact HB.out | apply bN | apply b1 | apply bA | refine bS ?_ GE485.out)⟩⟩
     ·rw [if_neg c5] at H
      exact absurd H (by simp)
    ·rw [if_neg c4] at H
     exact absurd H (by simp)
   ·rw [if_neg c3] at H
    have c3b0 : decide (x10_1 < (l0.length : Int)) = false := decide_eq_false c3
    clear c3
    obtain rfl := Option.some.inj H
    go_wp2
    go_ret
    exact ⟨by first | rfl | (simp [errW_none, errW_some] <;> rfl) | (simp [*, errW_none, errW_some] <;> rfl), by repeat (first | exact HB.out | apply bN | apply b1 | apply bA)⟩
end Go.Proofs.Ythamhjmhgcpdgaa.Q
end
