/- Lemmas and contracts for the law ExposureCounts: words of the print, contracts of the functions that the law reaches, and what these compute, as far as the law needs them; packed by a program of this session. -/
import Derived.Test.YthamhjmhgcpdgaaZExposureCounts2
section
namespace Go.Proofs.Ythamhjmhgcpdgaa.Q
open Go.RowKit Go.Proofs.YthamhjmhgcpdgaaW.PrintWords Go.Proofs.YthamhjmhgcpdgaaW.PrintLast Go.Proofs.YthamhjmhgcpdgaaW.PrintMore Go.Proofs.Ythamhjmhgcpdgaa.MyWords
attribute [local go_sem] max2_int min2_int max_two min_two
set_option linter.unusedVariables false
set_option linter.unusedSimpArgs false
set_option maxHeartbeats 8000000 in
set_option maxRecDepth 100000 in
theorem examboardref01_short.calls (k : Nat) (A0 : Option Addr) (c0 : Nat) (l0 : List Int) (a1 : Int) (r1 : List Int) (r2 : Int) (w : World) (hr0 : Kd.C (Kd.int .u32) w A0 l0.length l0) (hc0 : l0.length ≤ c0) (h : examboardref01_short.f k l0 a1 = some (r1, r2)) :
  Calls Try.prog 114 #[.slice A0 l0.length c0, .int .u64 a1] w fun e w' => ∃ v0_ : Value, e = .returned (.tuple #[v0_, .int .u64 r2]) ∧ Kd.R (Kd.int .u32) 87 w' w.heap.size (fun _ => True) v0_ r1 ∧ Below w.heap.size w w' := by
 have HR0 := mk0 hr0
 have HC0 := mk0 hc0
 clear hr0 hc0
 have HB := mk0 (Below.refl w.heap.size w)
 have H : (if 0 ≤ (l0.length : Int) then (if ((l0.length : Int) : Int).toNat ≤ 70368744177664 then (examboardref01_short.l0 k l0 a1 (List.replicate ((l0.length : Int) : Int).toNat 0) 0 (wrap64 ((l0.length : Int) - 1))) else (none)) else (none)) = some (r1, r2) := h
 clear h
 by_cases c3 : 0 ≤ (l0.length : Int)
 ·rw [if_pos c3] at H
  have c3b0 := eq_true c3
  have c3b1 : decide (0 ≤ (l0.length : Int)) = true := decide_eq_true c3
  clear c3
  by_cases c4 : ((l0.length : Int) : Int).toNat ≤ 70368744177664
  ·rw [if_pos c4] at H
   have c4b0 := eq_true c4
   have c4b1 : decide (((l0.length : Int) : Int).toNat ≤ 70368744177664) = true := decide_eq_true c4
   clear c4
   obtain ⟨y454, hy454⟩ : ∃ y_ : List Int, y_ = (List.replicate ((l0.length : Int) : Int).toNat 0) := ⟨_, rfl⟩
   replace H : (examboardref01_short.l0 k l0 a1 y454 0 (wrap64 ((l0.length : Int) - 1))) = some (r1, r2) := by first | (rw [hy454]; with_reducible exact H) | (have H2_ := (Option.bind_some _ _).symm.trans H; rw [hy454]; with_reducible exact H2_) | (have H2_ := (Option.bind_some _ _).symm.trans H; with_reducible exact H2_) | with_reducible exact H | (rw [hy454]; exact H) | exact H
   have Ny454 := mk0 hy454
   clear hy454
   have H' := mk0 H
   clear H
   go_enter Try.func114, Try.ntmps114
   go_wp2_with (first | ((with_reducible refine gate_dst (N := 12) rfl ?_); refine Kd.R_make (Kd.int .u32) _ 87 rfl (N := 12) rfl 25 _ _ rfl (l0.length : Int) rfl rfl Try.underlying25 (.int .u32 0) 4 info87 rfl (by decide) (by omega) 0 (ok := fun _ => True) (okp := fun _ => True) rfl (fun _ hk => hk) trivial (of_decide_eq_true (by assumption)) (Nat.le_trans (Nat.mul_le_mul_right _ (of_decide_eq_true (by assumption) : (l0.length : Int).toNat ≤ 70368744177664)) (by omega)) (Below.refl _ _) (Nat.le_refl _) ?_; intro v455 w5 ho6 hb hg_ hnew_; clear hg_ hnew_; (first | rw [← Ny454.out] at ho6 | (simp only [Int.reduceToNat] at ho6; rw [← Ny454.out] at ho6)); have HO456 := mk0 (Rl ho6 (bZ HB.out)); replace HB := hbS HB hb; clear hb ho6))
   go_loopg [7, 8] k (fun kq v7 v8 w' => ∃ (x6_1 : List Int) (x7_1 : Int) (x8_1 : Int), v7 = .int .u64 x7_1 ∧ v8 = .int .i64 x8_1 ∧ Aside0 (examboardref01_short.l0 kq l0 a1 x6_1 x7_1 x8_1 = some (r1, r2)) ∧ Aside0 (kq ≤ k) ∧ Aside0 (Kd.R (Kd.int .u32) 87 w' w.heap.size (fun _ => True) v455 x6_1) ∧ Aside0 (Below w.heap.size w w'))
   case atStart => exact ⟨(y454), (0), (wrap64 ((l0.length : Int) - 1)), (by first | rfl | (simp; done) | (simp [*]; done)), (by first | rfl | (simp; done) | (simp [*]; done)), H', ⟨Nat.le_refl _⟩, ⟨HO456.out⟩, ⟨by repeat (first | exact HB.out | apply bN | apply b1 | apply bA)⟩⟩
   case round =>
    clear H'
    try clear c1
    try clear p2
    try clear c3
    try clear c3b0
    try clear c3b1
    try clear c4
    try clear c4b0
    try clear c4b1
    try clear p6
    obtain ⟨x6_1, x7_1, x8_1, rfl, rfl, HA, HK1, HO_6, HB⟩ := hrel
    cases gk with
    | zero => exact absurd HA.out (by simp [examboardref01_short.l0])
    | succ k1 =>
     have H := HA.out
     clear HA
     simp only [examboardref01_short.l0] at H
     by_cases c7 : x8_1 ≥ 0
     ·rw [if_pos c7] at H
      have c7b0 : decide (0 ≤ x8_1) = true := decide_eq_true c7
      clear c7
      by_cases c8 : 0 ≤ x8_1
      ·rw [if_pos c8] at H
       have c8b0 : decide (0 ≤ x8_1) = true := decide_eq_true c8
       clear c8
       by_cases c9 : x8_1 < (l0.length : Int)
       ·rw [if_pos c9] at H
        have c9b0 : decide (x8_1 < (l0.length : Int)) = true := decide_eq_true c9
        clear c9
        by_cases c10 : a1 = 0
        ·rw [if_pos c10] at H
         exact absurd H (by simp)
        ·rw [if_neg c10] at H
         have c10b0 : (a1 == 0) = false := beq_eq_false_iff_ne.mpr c10
         have c10b1 : (a1 != 0) = true := bne_iff_ne.mpr c10
         by_cases c11 : x8_1 < (x6_1.length : Int)
         ·rw [if_pos c11] at H
          have c11b0 : decide (x8_1 < (x6_1.length : Int)) = true := decide_eq_true c11
          clear c11
          obtain ⟨y458, hy458⟩ : ∃ y_ : List Int, y_ = (x6_1.set (x8_1 : Int).toNat ((IntKind.u64.wrap (Int.tdiv (IntKind.u64.wrap ((IntKind.u64.wrap (x7_1 * 4294967296)) + (IntKind.u64.wrap (rd l0 x8_1)))) a1)) % 4294967296)) := ⟨_, rfl⟩
          replace H : (examboardref01_short.l0 k1 l0 a1 y458 (Int.tmod (IntKind.u64.wrap ((IntKind.u64.wrap (x7_1 * 4294967296)) + (IntKind.u64.wrap (rd l0 x8_1)))) a1) (wrap64 (x8_1 - 1))) = some (r1, r2) := by first | (rw [hy458]; with_reducible exact H) | (have H2_ := (Option.bind_some _ _).symm.trans H; rw [hy458]; with_reducible exact H2_) | (have H2_ := (Option.bind_some _ _).symm.trans H; with_reducible exact H2_) | with_reducible exact H | (rw [hy458]; exact H) | exact H
          have Ny458 := mk0 hy458
          clear hy458
          have H' := mk0 H
          clear H
          have p457 : 0 ≤ (x8_1 : Int) := of_decide_eq_true (by assumption)
          have q457 : x8_1 < (l0.length : Int) := of_decide_eq_true (by assumption)
          obtain ⟨ad457, e457, hx457_0⟩ := Kd.at_int HR0.out x8_1 p457 q457
          cases e457
          replace hx457_0 := (HB.out.cell (World.block_lt_of_cell? w _ hx457_0)).trans hx457_0
          replace p457 := eq_true p457
          replace q457 := eq_true q457
          have p12 : 0 ≤ (x8_1 : Int) := of_decide_eq_true (by assumption)
          have q12 : (x8_1 : Int) < ((x6_1.length : Int) : Int) := of_decide_eq_true (by assumption)
          obtain ⟨go12, co12, eo12, gb12, gl12, cl12, HG12⟩ := Kd.R_form HO_6.out (by omega)
          (first | cases eo12 | (injection eo12 with ea_ en_ ec_; (first | subst ea_ | (injection ea_ with ea_; subst ea_)); subst ec_; clear en_))
          have GB12 := mk0 gb12
          have GG12 := mk0 HG12
          clear gb12 gl12 HG12
          obtain ⟨hx12_0, hf12_0⟩ := Kd.R_celln 0 HO_6.out (x8_1 : Int) p12 q12
          replace p12 := eq_true p12
          replace q12 := eq_true q12
          have HP13 := Kd.R_putg HO_6.out (x8_1 : Int) ((IntKind.u64.wrap (Int.tdiv (IntKind.u64.wrap ((IntKind.u64.wrap (x7_1 * 4294967296)) + (IntKind.u64.wrap (rd l0 x8_1)))) a1)) % 4294967296)
          go_wp2_with (first | ((with_reducible refine gate_store (t := 87) (p := 34) rfl ?_); refine store_event (t := 87) (p := 34) (v := ?vo_w14) (w1 := (wr.setCell ⟨go12, (x8_1 : Int).toNat, none⟩ (.int .u32 ((IntKind.u64.wrap (Int.tdiv (IntKind.u64.wrap ((IntKind.u64.wrap (x7_1 * 4294967296)) + (IntKind.u64.wrap (rd l0 x8_1)))) a1)) % 4294967296)))) ?hg ?ho ?hn ?hr ?_; (case ho => rfl); (case hg => rfl); (case hn => rfl); (case hr => go_simp <;> rfl); intro w14 hw; have hg : wr.grownBy w14 (some go12) := (by rw [hw]; exact HP13.2); have hp_ : Kd.R (Kd.int .u32) 87 w14 w.heap.size (fun _ => True) (.slice (some ⟨go12, 0, none⟩) x6_1.length co12) y458 := (by rw [hw, Ny458.out]; exact HP13.1); clear HP13; replace HO_6 := mk0 (hp_); replace HB := mk0 ((by rw [hw]; exact bS (HB.out) GB12.out : Below w.heap.size w w14)); clear hg hw hp_))
          go_roundg k1
          case measure => have := HK1.out; omega
          case rel => exact ⟨(y458), (Int.tmod (IntKind.u64.wrap ((IntKind.u64.wrap (x7_1 * 4294967296)) + (IntKind.u64.wrap (rd l0 x8_1)))) a1), (wrap64 (x8_1 - 1)), (by first | rfl | (simp; done) | (simp [*]; done)), (by first | rfl | (simp; done) | (simp [*]; done)), H', ⟨by have := HK1.out; omega⟩, ⟨HO_6.out⟩, ⟨by repeat (first | exact HB.out | apply bN | apply b1 | apply bA)⟩⟩
         ·rw [if_neg c11] at H
          exact absurd H (by simp)
       ·rw [if_neg c9] at H
        exact absurd H (by simp)
      ·rw [if_neg c8] at H
       exact absurd H (by simp)
     ·rw [if_neg c7] at H
      have c7b0 : decide (0 ≤ x8_1) = false := decide_eq_false c7
      clear c7
      obtain ⟨t459, A15, H⟩ := bindA H
      simp only [Option.some.injEq, Prod.mk.injEq] at H
      obtain ⟨rfl, rfl⟩ := H
      obtain ⟨Ao16, co16, eo16⟩ := Kd.R_slice HO_6.out
      subst eo16
      go_wp2_with (first | ((with_reducible refine gate_callee (f := 89) rfl ?_); refine goA 39 Try.func89 #[.slice Ao16 x6_1.length co16] ?_; (with_reducible refine (examboardref01_Norm.calls k1 _ _ x6_1 t459 _ (by exact (Kd.R_reads' HO_6.out).2.2) (by exact (Kd.R_reads' HO_6.out).2.1) A15.out).mono ?_); rintro e w17 ⟨v460, rfl, ho0, hb⟩; refine ⟨_, rfl, ?_⟩; have HO461 := mk0 (Rl (Rn ho0 (Rq HO_6.out)) (bZ HB.out)); replace HO_6 := mk0 (Re HO_6.out (Rs ho0) hb); replace HB := hbS HB hb))
      go_ret2
      exact ⟨_, by first | rfl | (simp [errW_none, errW_some] <;> rfl) | (simp [*, errW_none, errW_some] <;> rfl), Rm HO461.out tv, by repeat (first | exact HB.out | apply bN | apply b1 | apply bA)⟩
  ·rw [if_neg c4] at H
   exact absurd H (by simp)
 ·rw [if_neg c3] at H
  exact absurd H (by simp)
set_option maxHeartbeats 8000000 in
set_option maxRecDepth 100000 in
theorem examboardref01_Shift.calls (k : Nat) (A0 : Option Addr) (c0 : Nat) (l0 : List Int) (a1 : Int) (r : List Int) (w : World) (hr0 : Kd.C (Kd.int .u32) w A0 l0.length l0) (hc0 : l0.length ≤ c0) (h : examboardref01_Shift.f k l0 a1 = some r) :
  Calls Try.prog 115 #[.slice A0 l0.length c0, .int .i64 a1] w fun e w' => ∃ v0_ : Value, e = .returned (v0_) ∧ Kd.R (Kd.int .u32) 87 w' w.heap.size (fun _ => True) v0_ r ∧ Below w.heap.size w w' := by
 have HR0 := mk0 hr0
 have HC0 := mk0 hc0
 clear hr0 hc0
 have HB := mk0 (Below.refl w.heap.size w)
 have H : (if 0 ≤ (wrap64 ((wrap64 ((l0.length : Int) + (wrap64 (Int.tdiv a1 32)))) + 1)) then (if (wrap64 ((wrap64 ((l0.length : Int) + (wrap64 (Int.tdiv a1 32)))) + 1) : Int).toNat ≤ 70368744177664 then (examboardref01_Shift.l0 k l0 a1 (List.replicate (wrap64 ((wrap64 ((l0.length : Int) + (wrap64 (Int.tdiv a1 32)))) + 1) : Int).toNat 0) 0) else (none)) else (none)) = some r := h
 clear h
 obtain ⟨ji3, hji3⟩ : ∃ j_ : Int, (wrap64 ((wrap64 ((l0.length : Int) + (wrap64 (Int.tdiv a1 32)))) + 1)) = j_ := ⟨_, rfl⟩
 replace H : (if 0 ≤ (ji3) then (if (ji3 : Int).toNat ≤ 70368744177664 then (examboardref01_Shift.l0 k l0 a1 (List.replicate (ji3 : Int).toNat 0) 0) else (none)) else (none)) = some r := by first | (rw [hji3] at H; exact H) | (simp only [hji3] at H ⊢; exact H)
 have hji3w : (IntKind.i64.wrap ((wrap64 ((l0.length : Int) + (wrap64 (Int.tdiv a1 32)))) + 1)) = ji3 := (i64_w _).trans hji3
 by_cases c4 : 0 ≤ (ji3)
 ·rw [if_pos c4] at H
  have c4b0 := eq_true c4
  have c4b1 : decide (0 ≤ (ji3)) = true := decide_eq_true c4
  clear c4
  by_cases c5 : (ji3 : Int).toNat ≤ 70368744177664
  ·rw [if_pos c5] at H
   have c5b0 := eq_true c5
   have c5b1 : decide ((ji3 : Int).toNat ≤ 70368744177664) = true := decide_eq_true c5
   clear c5
   obtain ⟨y462, hy462⟩ : ∃ y_ : List Int, y_ = (List.replicate (ji3 : Int).toNat 0) := ⟨_, rfl⟩
   replace H : (examboardref01_Shift.l0 k l0 a1 y462 0) = some r := by first | (rw [hy462]; with_reducible exact H) | (have H2_ := (Option.bind_some _ _).symm.trans H; rw [hy462]; with_reducible exact H2_) | (have H2_ := (Option.bind_some _ _).symm.trans H; with_reducible exact H2_) | with_reducible exact H | (rw [hy462]; exact H) | exact H
   have Ny462 := mk0 hy462
   clear hy462
   have H' := mk0 H
   clear H
   go_enter Try.func115, Try.ntmps115
   go_wp2_with (first | ((with_reducible refine gate_dst (N := 14) rfl ?_); refine Kd.R_make (Kd.int .u32) _ 87 rfl (N := 14) rfl 25 _ _ rfl ji3 rfl rfl Try.underlying25 (.int .u32 0) 4 info87 rfl (by decide) (by omega) 0 (ok := fun _ => True) (okp := fun _ => True) rfl (fun _ hk => hk) trivial (of_decide_eq_true (by assumption)) (Nat.le_trans (Nat.mul_le_mul_right _ (of_decide_eq_true (by assumption) : ji3.toNat ≤ 70368744177664)) (by omega)) (Below.refl _ _) (Nat.le_refl _) ?_; intro v463 w6 ho7 hb hg_ hnew_; clear hg_ hnew_; (first | rw [← Ny462.out] at ho7 | (simp only [Int.reduceToNat] at ho7; rw [← Ny462.out] at ho7)); have HO464 := mk0 (Rl ho7 (bZ HB.out)); replace HB := hbS HB hb; clear hb ho7))
   go_loopg [6] k (fun kq v6 w' => ∃ (x5_1 : List Int) (x6_1 : Int), v6 = .int .i64 x6_1 ∧ Aside0 (examboardref01_Shift.l0 kq l0 a1 x5_1 x6_1 = some r) ∧ Aside0 (kq ≤ k) ∧ Aside0 (Kd.R (Kd.int .u32) 87 w' w.heap.size (fun _ => True) v463 x5_1) ∧ Aside0 (Below w.heap.size w w'))
   case atStart => exact ⟨(y462), (0), (by first | rfl | (simp; done) | (simp [*]; done)), H', ⟨Nat.le_refl _⟩, ⟨HO464.out⟩, ⟨by repeat (first | exact HB.out | apply bN | apply b1 | apply bA)⟩⟩
   case round =>
    clear H'
    try clear c1
    try clear p2
    try clear c4
    try clear c4b0
    try clear c4b1
    try clear c5
    try clear c5b0
    try clear c5b1
    try clear p6
    obtain ⟨x5_1, x6_1, rfl, HA, HK1, HO_5, HB⟩ := hrel
    cases gk with
    | zero => exact absurd HA.out (by simp [examboardref01_Shift.l0])
    | succ k1 =>
     have H := HA.out
     clear HA
     simp only [examboardref01_Shift.l0] at H
     by_cases c8 : x6_1 < (l0.length : Int)
     ·rw [if_pos c8] at H
      have c8b0 : decide (x6_1 < (l0.length : Int)) = true := decide_eq_true c8
      clear c8
      by_cases c9 : 0 ≤ x6_1
      ·rw [if_pos c9] at H
       have c9b0 : decide (0 ≤ x6_1) = true := decide_eq_true c9
       clear c9
       obtain ⟨ji10, hji10⟩ : ∃ j_ : Int, (IntKind.u64.wrap (Int.tmod a1 32)) = j_ := ⟨_, rfl⟩
       replace H : (if 0 ≤ (ji10) then (if 0 ≤ (wrap64 (x6_1 + (wrap64 (Int.tdiv a1 32)))) then (if (wrap64 (x6_1 + (wrap64 (Int.tdiv a1 32)))) < (x5_1.length : Int) then (if 0 ≤ (wrap64 ((wrap64 (x6_1 + (wrap64 (Int.tdiv a1 32)))) + 1)) then (if (wrap64 ((wrap64 (x6_1 + (wrap64 (Int.tdiv a1 32)))) + 1)) < (x5_1.length : Int) then (examboardref01_Shift.l0 k1 l0 a1 ((x5_1.set ((wrap64 (x6_1 + (wrap64 (Int.tdiv a1 32)))) : Int).toNat (Go.bits .or .u32 (rd x5_1 (wrap64 (x6_1 + (wrap64 (Int.tdiv a1 32))))) ((shl .u64 (IntKind.u64.wrap (rd l0 x6_1)) (ji10)) % 4294967296))).set ((wrap64 ((wrap64 (x6_1 + (wrap64 (Int.tdiv a1 32)))) + 1)) : Int).toNat (((shl .u64 (IntKind.u64.wrap (rd l0 x6_1)) (ji10)) / 4294967296) % 4294967296)) (wrap64 (x6_1 + 1))) else (none)) else (none)) else (none)) else (none)) else (none)) = some r := by first | (rw [hji10] at H; exact H) | (simp only [hji10] at H ⊢; exact H)
       by_cases c11 : 0 ≤ (ji10)
       ·rw [if_pos c11] at H
        have c11b0 := eq_true c11
        have c11b1 : decide (0 ≤ (ji10)) = true := decide_eq_true c11
        clear c11
        obtain ⟨ji12, hji12⟩ : ∃ j_ : Int, (shl .u64 (IntKind.u64.wrap (rd l0 x6_1)) (ji10)) = j_ := ⟨_, rfl⟩
        replace H : (if 0 ≤ (wrap64 (x6_1 + (wrap64 (Int.tdiv a1 32)))) then (if (wrap64 (x6_1 + (wrap64 (Int.tdiv a1 32)))) < (x5_1.length : Int) then (if 0 ≤ (wrap64 ((wrap64 (x6_1 + (wrap64 (Int.tdiv a1 32)))) + 1)) then (if (wrap64 ((wrap64 (x6_1 + (wrap64 (Int.tdiv a1 32)))) + 1)) < (x5_1.length : Int) then (examboardref01_Shift.l0 k1 l0 a1 ((x5_1.set ((wrap64 (x6_1 + (wrap64 (Int.tdiv a1 32)))) : Int).toNat (Go.bits .or .u32 (rd x5_1 (wrap64 (x6_1 + (wrap64 (Int.tdiv a1 32))))) ((ji12) % 4294967296))).set ((wrap64 ((wrap64 (x6_1 + (wrap64 (Int.tdiv a1 32)))) + 1)) : Int).toNat (((ji12) / 4294967296) % 4294967296)) (wrap64 (x6_1 + 1))) else (none)) else (none)) else (none)) else (none)) = some r := by first | (rw [hji12] at H; exact H) | (simp only [hji12] at H ⊢; exact H)
        have hji12_ : (IntKind.u64.wrap ((IntKind.u64.wrap (rd l0 x6_1)) * 2 ^ min (ji10).toNat 64)) = ji12 := hji12
        have hji12z : (ji10) ≤ 64 → (IntKind.u64.wrap ((IntKind.u64.wrap (rd l0 x6_1)) * 2 ^ (ji10).toNat)) = ji12 := shl_small hji12
        obtain ⟨ji13, hji13⟩ : ∃ j_ : Int, (wrap64 (x6_1 + (wrap64 (Int.tdiv a1 32)))) = j_ := ⟨_, rfl⟩
        replace H : (if 0 ≤ (ji13) then (if (ji13) < (x5_1.length : Int) then (if 0 ≤ (wrap64 ((ji13) + 1)) then (if (wrap64 ((ji13) + 1)) < (x5_1.length : Int) then (examboardref01_Shift.l0 k1 l0 a1 ((x5_1.set ((ji13) : Int).toNat (Go.bits .or .u32 (rd x5_1 (ji13)) ((ji12) % 4294967296))).set ((wrap64 ((ji13) + 1)) : Int).toNat (((ji12) / 4294967296) % 4294967296)) (wrap64 (x6_1 + 1))) else (none)) else (none)) else (none)) else (none)) = some r := by first | (rw [hji13] at H; exact H) | (simp only [hji13] at H ⊢; exact H)
        have hji13w : (IntKind.i64.wrap (x6_1 + (wrap64 (Int.tdiv a1 32)))) = ji13 := (i64_w _).trans hji13
        by_cases c14 : 0 ≤ (ji13)
        ·rw [if_pos c14] at H
         have c14b0 : decide (0 ≤ (ji13)) = true := decide_eq_true c14
         clear c14
         by_cases c15 : (ji13) < (x5_1.length : Int)
         ·rw [if_pos c15] at H
          have c15b0 : decide ((ji13) < (x5_1.length : Int)) = true := decide_eq_true c15
          clear c15
          obtain ⟨y467, hy467⟩ : ∃ y_ : List Int, y_ = (x5_1.set ((ji13) : Int).toNat (Go.bits .or .u32 (rd x5_1 (ji13)) ((ji12) % 4294967296))) := ⟨_, rfl⟩
          replace H : (if 0 ≤ (wrap64 ((ji13) + 1)) then (if (wrap64 ((ji13) + 1)) < (x5_1.length : Int) then (examboardref01_Shift.l0 k1 l0 a1 (y467.set ((wrap64 ((ji13) + 1)) : Int).toNat (((ji12) / 4294967296) % 4294967296)) (wrap64 (x6_1 + 1))) else (none)) else (none)) = some r := by first | (rw [hy467]; with_reducible exact H) | (have H2_ := (Option.bind_some _ _).symm.trans H; rw [hy467]; with_reducible exact H2_) | (have H2_ := (Option.bind_some _ _).symm.trans H; with_reducible exact H2_) | with_reducible exact H | (rw [hy467]; exact H) | exact H
          have Ny467 := mk0 hy467
          clear hy467
          obtain ⟨ji17, hji17⟩ : ∃ j_ : Int, (wrap64 ((ji13) + 1)) = j_ := ⟨_, rfl⟩
          replace H : (if 0 ≤ (ji17) then (if (ji17) < (x5_1.length : Int) then (examboardref01_Shift.l0 k1 l0 a1 (y467.set ((ji17) : Int).toNat (((ji12) / 4294967296) % 4294967296)) (wrap64 (x6_1 + 1))) else (none)) else (none)) = some r := by first | (rw [hji17] at H; exact H) | (simp only [hji17] at H ⊢; exact H)
          have hji17w : (IntKind.i64.wrap ((ji13) + 1)) = ji17 := (i64_w _).trans hji17
          by_cases c18 : 0 ≤ (ji17)
          ·rw [if_pos c18] at H
           have c18b0 : decide (0 ≤ (ji17)) = true := decide_eq_true c18
           clear c18
           by_cases c19 : (ji17) < (x5_1.length : Int)
           ·rw [if_pos c19] at H
            have c19b0 : decide ((ji17) < (x5_1.length : Int)) = true := decide_eq_true c19
            clear c19
            obtain ⟨y468, hy468⟩ : ∃ y_ : List Int, y_ = (y467.set ((ji17) : Int).toNat (((ji12) / 4294967296) % 4294967296)) := ⟨_, rfl⟩
            replace H : (examboardref01_Shift.l0 k1 l0 a1 y468 (wrap64 (x6_1 + 1))) = some r := by first | (rw [hy468]; with_reducible exact H) | (have H2_ := (Option.bind_some _ _).symm.trans H; rw [hy468]; with_reducible exact H2_) | (have H2_ := (Option.bind_some _ _).symm.trans H; with_reducible exact H2_) | with_reducible exact H | (rw [hy468]; exact H) | exact H
            have Ny468 := mk0 hy468
            clear hy468
            have H' := mk0 H
            clear H
            have p465 : 0 ≤ (x6_1 : Int) := of_decide_eq_true (by assumption)
            have q465 : x6_1 < (l0.length : Int) := of_decide_eq_true (by assumption)
            obtain ⟨ad465, e465, hx465_0⟩ := Kd.at_int HR0.out x6_1 p465 q465
            cases e465
            replace hx465_0 := (HB.out.cell (World.block_lt_of_cell? w _ hx465_0)).trans hx465_0
            replace p465 := eq_true p465
            replace q465 := eq_true q465
            obtain ⟨Ao21, co21, eo21⟩ := Kd.R_slice HO_5.out
            subst eo21
            have p466 : 0 ≤ ((ji13) : Int) := of_decide_eq_true (by assumption)
            have q466 : (ji13) < (x5_1.length : Int) := of_decide_eq_true (by assumption)
            obtain ⟨ad466, e466, hx466_0⟩ := Kd.at_int (Kd.R_reads' HO_5.out).2.2 (ji13) p466 q466
            cases e466
            replace p466 := eq_true p466
            replace q466 := eq_true q466
            have p16 : 0 ≤ ((ji13) : Int) := of_decide_eq_true (by assumption)
            have q16 : ((ji13) : Int) < ((x5_1.length : Int) : Int) := of_decide_eq_true (by assumption)
            obtain ⟨go16, co16, eo16, gb16, gl16, cl16, HG16⟩ := Kd.R_form HO_5.out (by omega)
            (first | cases eo16 | (injection eo16 with ea_ en_ ec_; (first | subst ea_ | (injection ea_ with ea_; subst ea_)); subst ec_; clear en_))
            have GB16 := mk0 gb16
            have GG16 := mk0 HG16
            clear gb16 gl16 HG16
            (first | simp only [add_plain] at hx466_0 | skip)
            obtain ⟨hx16_0, hf16_0⟩ := Kd.R_celln 0 HO_5.out ((ji13) : Int) p16 q16
            replace p16 := eq_true p16
            replace q16 := eq_true q16
            have HP22 := Kd.R_putg HO_5.out ((ji13) : Int) (Go.bits .or .u32 (rd x5_1 (ji13)) ((ji12) % 4294967296))
            go_wp2_with (first | ((with_reducible refine gate_store (t := 87) (p := 45) rfl ?_); refine store_event (t := 87) (p := 45) (v := ?vo_w23) (w1 := (wr.setCell ⟨go16, ((ji13) : Int).toNat, none⟩ (.int .u32 (Go.bits .or .u32 (rd x5_1 (ji13)) ((ji12) % 4294967296))))) ?hg ?ho ?hn ?hr ?_; (case ho => rfl); (case hg => rfl); (case hn => rfl); (case hr => go_simp <;> rfl); intro w23 hw; have hg : wr.grownBy w23 (some go16) := (by rw [hw]; exact HP22.2); have hp_ : Kd.R (Kd.int .u32) 87 w23 w.heap.size (fun _ => True) (.slice (some ⟨go16, 0, none⟩) x5_1.length co21) y467 := (by rw [hw, Ny467.out]; exact HP22.1); clear HP22; replace HO_5 := mk0 (hp_); replace HB := mk0 ((by rw [hw]; exact bS (HB.out) GB16.out : Below w.heap.size w w23)); clear hg hw hp_; have p20 : 0 ≤ ((ji17) : Int) := of_decide_eq_true (by assumption); have q20 : ((ji17) : Int) < ((x5_1.length : Int) : Int) := of_decide_eq_true (by assumption); obtain ⟨hx20_0, hf20_0⟩ := Kd.R_celln 0 HO_5.out ((ji17) : Int) p20 q20; replace p20 := eq_true p20; replace q20 := eq_true q20; obtain ⟨hy24_, hz24_⟩ := Kd.R_celln 0 HO_5.out ((ji17) : Int) (of_decide_eq_true (by assumption)) (of_decide_eq_true (by assumption)); have HP24 := Kd.R_putg HO_5.out ((ji17) : Int) (((ji12) / 4294967296) % 4294967296)) | ((with_reducible refine gate_store (t := 87) (p := 55) rfl ?_); refine store_event (t := 87) (p := 55) (v := ?vo_w25) (w1 := (w23.setCell ⟨go16, ((ji17) : Int).toNat, none⟩ (.int .u32 (((ji12) / 4294967296) % 4294967296)))) ?hg ?ho ?hn ?hr ?_; (case ho => rfl); (case hg => rfl); (case hn => rfl); (case hr => go_simp <;> rfl); intro w25 hw; have hg : w23.grownBy w25 (some go16) := (by rw [hw]; exact HP24.2); have hp_ : Kd.R (Kd.int .u32) 87 w25 w.heap.size (fun _ => True) (.slice (some ⟨go16, 0, none⟩) x5_1.length co21) y468 := (by rw [hw, Ny468.out]; exact HP24.1); clear HP24; replace HO_5 := mk0 (hp_); replace HB := mk0 ((by rw [hw]; exact bS (HB.out) GB16.out : Below w.heap.size w w25)); clear hg hw hp_))
            go_roundg k1
            case measure => have := HK1.out; omega
            case rel => exact ⟨(y468), (wrap64 (x6_1 + 1)), (by first | rfl | (simp; done) | (simp [*]; done)), H', ⟨by have := HK1.out; omega⟩, ⟨HO_5.out⟩, ⟨by repeat (first | exact HB.out | apply bN | apply b1 | apply bA)⟩⟩
           ·rw [if_neg c19] at H
            exact absurd H (by simp)
          ·rw [if_neg c18] at H
           exact absurd H (by simp)
         ·rw [if_neg c15] at H
          exact absurd H (by simp)
        ·rw [if_neg c14] at H
         exact absurd H (by simp)
       ·rw [if_neg c11] at H
        exact absurd H (by simp)
      ·rw [if_neg c9] at H
       exact absurd H (by simp)
     ·rw [if_neg c8] at H
      have c8b0 : decide (x6_1 < (l0.length : Int)) = false := decide_eq_false c8
      clear c8
      obtain ⟨t469, A26, H⟩ := bindA H
      obtain rfl := Option.some.inj H
      obtain ⟨Ao27, co27, eo27⟩ := Kd.R_slice HO_5.out
      subst eo27
      go_wp2_with (first | ((with_reducible refine gate_callee (f := 89) rfl ?_); refine goA 57 Try.func89 #[.slice Ao27 x5_1.length co27] ?_; (with_reducible refine (examboardref01_Norm.calls k1 _ _ x5_1 t469 _ (by exact (Kd.R_reads' HO_5.out).2.2) (by exact (Kd.R_reads' HO_5.out).2.1) A26.out).mono ?_); rintro e w28 ⟨v470, rfl, ho0, hb⟩; refine ⟨_, rfl, ?_⟩; have HO471 := mk0 (Rl (Rn ho0 (Rq HO_5.out)) (bZ HB.out)); replace HO_5 := mk0 (Re HO_5.out (Rs ho0) hb); replace HB := hbS HB hb))
      go_ret
      exact ⟨_, by first | rfl | (simp [errW_none, errW_some] <;> rfl) | (simp only [← hji3]; first | rfl | (simp [errW_none, errW_some] <;> rfl)) | (simp [*, errW_none, errW_some] <;> rfl), Rm HO471.out tv, by repeat (first | exact HB.out | apply bN | apply b1 | apply bA)⟩
  ·rw [if_neg c5] at H
   exact absurd H (by simp)
 ·rw [if_neg c4] at H
  exact absurd H (by simp)
set_option maxHeartbeats 8000000 in
set_option maxRecDepth 100000 in
theorem examboardref01_limb.calls (A0 : Option Addr) (c0 : Nat) (l0 : List Int) (a1 : Int) (r : Int) (w : World) (hr0 : Kd.C (Kd.int .u32) w A0 l0.length l0) (hc0 : l0.length ≤ c0) (h : examboardref01_limb.f l0 a1 = some r) :
  Calls Try.prog 118 #[.slice A0 l0.length c0, .int .i64 a1] w fun e w' => e = .returned (.int .u64 r) ∧ Drawn0 w w' := by
 have HR0 := mk0 hr0
 have HC0 := mk0 hc0
 clear hr0 hc0
 have H : (if a1 < (l0.length : Int) then (if 0 ≤ a1 then (some (IntKind.u64.wrap (rd l0 a1))) else (none)) else (some 0)) = some r := h
 clear h
 by_cases c3 : a1 < (l0.length : Int)
 ·rw [if_pos c3] at H
  have c3b0 : decide (a1 < (l0.length : Int)) = true := decide_eq_true c3
  clear c3
  by_cases c4 : 0 ≤ a1
  ·rw [if_pos c4] at H
   have c4b0 : decide (0 ≤ a1) = true := decide_eq_true c4
   clear c4
   obtain rfl := Option.some.inj H
   have p451 : 0 ≤ (a1 : Int) := of_decide_eq_true (by assumption)
   have q451 : a1 < (l0.length : Int) := of_decide_eq_true (by assumption)
   obtain ⟨ad451, e451, hx451_0⟩ := Kd.at_int HR0.out a1 p451 q451
   cases e451
   replace p451 := eq_true p451
   replace q451 := eq_true q451
   go_enter Try.func118, Try.ntmps118
   go_wp2
   go_ret
   exact ⟨by first | rfl | (simp; done) | (simp [*]; done), by repeat (first | exact Drawn0.refl _ | apply Drawn0.step)⟩
  ·rw [if_neg c4] at H
   exact absurd H (by simp)
 ·rw [if_neg c3] at H
  have c3b0 : decide (a1 < (l0.length : Int)) = false := decide_eq_false c3
  clear c3
  obtain rfl := Option.some.inj H
  go_enter Try.func118, Try.ntmps118
  go_wp2
  go_ret
  exact ⟨by first | rfl | (simp; done) | (simp [*]; done), by repeat (first | exact Drawn0.refl _ | apply Drawn0.step)⟩
set_option maxHeartbeats 8000000 in
set_option maxRecDepth 100000 in
theorem examboardref01_Cmp.calls (k : Nat) (A0 : Option Addr) (c0 : Nat) (l0 : List Int) (A1 : Option Addr) (c1 : Nat) (l1 : List Int) (r : Int) (w : World) (hr0 : Kd.C (Kd.int .u32) w A0 l0.length l0) (hc0 : l0.length ≤ c0) (hr1 : Kd.C (Kd.int .u32) w A1 l1.length l1) (hc1 : l1.length ≤ c1) (h : examboardref01_Cmp.f k l0 l1 = some r) :
  Calls Try.prog 92 #[.slice A0 l0.length c0, .slice A1 l1.length c1] w fun e w' => e = .returned (.int .i64 r) ∧ Below w.heap.size w w' := by
 have HR0 := mk0 hr0
 have HC0 := mk0 hc0
 clear hr0 hc0
 have HR1 := mk0 hr1
 have HC1 := mk0 hc1
 clear hr1 hc1
 have HB := mk0 (Below.refl w.heap.size w)
 have H : (examboardref01_Cmp.l0 k l0 l1 (wrap64 ((mx (l0.length : Int) (l1.length : Int)) - 1))) = some r := h
 clear h
 obtain ⟨ji3, hji3⟩ : ∃ j_ : Int, (mx (l0.length : Int) (l1.length : Int)) = j_ := ⟨_, rfl⟩
 replace H : (examboardref01_Cmp.l0 k l0 l1 (wrap64 ((ji3) - 1))) = some r := by first | (rw [hji3] at H; exact H) | (simp only [hji3] at H ⊢; exact H)
 (try (have hji3l : 0 ≤ ji3 := by (rw [← hji3]; unfold mx; (repeat' split) <;> omega)))
 (try (have hji3m : 0 ≤ ji3 := by omega))
 have hji3_ : (if (l0.length : Int) < (l1.length : Int) then (l1.length : Int) else (l0.length : Int)) = ji3 := hji3
 have hji3_n : (if l0.length < l1.length then (l1.length : Int) else (l0.length : Int)) = ji3 := (by rw [← hji3_]; simp only [Int.ofNat_lt])
 have H' := mk0 H
 clear H
 go_enter Try.func92, Try.ntmps92
 go_wp2
 go_loopg [5] k (fun kq v5 w' => ∃ (x5_1 : Int), v5 = .int .i64 x5_1 ∧ Aside0 (examboardref01_Cmp.l0 kq l0 l1 x5_1 = some r) ∧ Aside0 (kq ≤ k) ∧ Aside0 (Below w.heap.size w w'))
 case atStart => exact ⟨(wrap64 ((ji3) - 1)), (by first | rfl | (simp; done) | (simp only [← hji3] <;> (first | rfl | simp)) | (simp [*]; done)), H', ⟨Nat.le_refl _⟩, ⟨by repeat (first | exact HB.out | apply bN | apply b1 | apply bA)⟩⟩
 case round =>
  clear H'
  try clear c1
  try clear p2
  obtain ⟨x5_1, rfl, HA, HK1, HB⟩ := hrel
  cases gk with
  | zero => exact absurd HA.out (by simp [examboardref01_Cmp.l0])
  | succ k1 =>
   have H := HA.out
   clear HA
   simp only [examboardref01_Cmp.l0] at H
   by_cases c4 : x5_1 ≥ 0
   ·rw [if_pos c4] at H
    have c4b0 : decide (0 ≤ x5_1) = true := decide_eq_true c4
    clear c4
    obtain ⟨t452, A5, H⟩ := bindA H
    obtain ⟨t453, A6, H⟩ := bindA H
    by_cases c7 : t452 < t453
    ·rw [if_pos c7] at H
     have c7b0 : decide (t452 < t453) = true := decide_eq_true c7
     clear c7
     obtain rfl := Option.some.inj H
     go_wp2_with (first | ((with_reducible refine gate_callee (f := 118) rfl ?_); refine goA 20 Try.func118 #[.slice A0 l0.length c0, .int .i64 x5_1] ?_; (with_reducible refine (examboardref01_limb.calls _ _ l0 x5_1 t452 _ (by exact Cb HR0.out HB.out) HC0.out A5.out).mono ?_); rintro e w' ⟨rfl, ⟨nd, rfl⟩⟩; refine ⟨_, rfl, ?_⟩) | ((with_reducible refine gate_callee (f := 118) rfl ?_); refine goA 23 Try.func118 #[.slice A1 l1.length c1, .int .i64 x5_1] ?_; (with_reducible refine (examboardref01_limb.calls _ _ l1 x5_1 t453 _ (by repeat (first | exact (Cb HR1.out (by repeat (first | exact HB.out | apply bN | apply b1 | apply bA))) | (with_reducible refine Kd.C_alloc ?_ _) | (with_reducible refine Kd.C_drewN ?_ _) | (with_reducible refine Kd.C_drew ?_))) HC1.out A6.out).mono ?_); rintro e w' ⟨rfl, ⟨nd, rfl⟩⟩; refine ⟨_, rfl, ?_⟩))
     go_ret
     exact ⟨by first | rfl | (simp [errW_none, errW_some] <;> rfl) | (simp only [← hji3]; first | rfl | (simp [errW_none, errW_some] <;> rfl)) | (simp [*, errW_none, errW_some] <;> rfl), by repeat (first | exact HB.out | apply bN | apply b1 | apply bA)⟩
    ·rw [if_neg c7] at H
     have c7b0 : decide (t452 < t453) = false := decide_eq_false c7
     clear c7
     by_cases c8 : t452 > t453
     ·rw [if_pos c8] at H
      have c8b0 : decide (t453 < t452) = true := decide_eq_true c8
      clear c8
      obtain rfl := Option.some.inj H
      go_wp2_with (first | ((with_reducible refine gate_callee (f := 118) rfl ?_); refine goA 20 Try.func118 #[.slice A0 l0.length c0, .int .i64 x5_1] ?_; (with_reducible refine (examboardref01_limb.calls _ _ l0 x5_1 t452 _ (by exact Cb HR0.out HB.out) HC0.out A5.out).mono ?_); rintro e w' ⟨rfl, ⟨nd, rfl⟩⟩; refine ⟨_, rfl, ?_⟩) | ((with_reducible refine gate_callee (f := 118) rfl ?_); refine goA 23 Try.func118 #[.slice A1 l1.length c1, .int .i64 x5_1] ?_; (with_reducible refine (examboardref01_limb.calls _ _ l1 x5_1 t453 _ (by repeat (first | exact (Cb HR1.out (by repeat (first | exact HB.out | apply bN | apply b1 | apply bA))) | (with_reducible refine Kd.C_alloc ?_ _) | (with_reducible refine Kd.C_drewN ?_ _) | (with_reducible refine Kd.C_drew ?_))) HC1.out A6.out).mono ?_); rintro e w' ⟨rfl, ⟨nd, rfl⟩⟩; refine ⟨_, rfl, ?_⟩))
      go_ret
      exact ⟨by first | rfl | (simp [errW_none, errW_some] <;> rfl) | (simp only [← hji3]; first | rfl | (simp [errW_none, errW_some] <;> rfl)) | (simp [*, errW_none, errW_some] <;> rfl), by repeat (first | exact HB.out | apply bN | apply b1 | apply bA)⟩
     ·rw [if_neg c8] at H
      have c8b0 : decide (t453 < t452) = false := decide_eq_false c8
      clear c8
      have H' := mk0 H
      clear H
      go_wp2_with (first | ((with_reducible refine gate_callee (f := 118) rfl ?_); refine goA 20 Try.func118 #[.slice A0 l0.length c0, .int .i64 x5_1] ?_; (with_reducible refine (examboardref01_limb.calls _ _ l0 x5_1 t452 _ (by exact Cb HR0.out HB.out) HC0.out A5.out).mono ?_); rintro e w' ⟨rfl, ⟨nd, rfl⟩⟩; refine ⟨_, rfl, ?_⟩) | ((with_reducible refine gate_callee (f := 118) rfl ?_); refine goA 23 Try.func118 #[.slice A1 l1.length c1, .int .i64 x5_1] ?_; (with_reducible refine (examboardref01_limb.calls _ _ l1 x5_1 t453 _ (by repeat (first | exact (Cb HR1.out (by repeat (first | exact HB.out | apply bN | apply b1 | apply bA))) | (with_reducible refine Kd.C_alloc ?_ _) | (with_reducible refine Kd.C_drewN ?_ _) | (with_reducible refine Kd.C_drew ?_))) HC1.out A6.out).mono ?_); rintro e w' ⟨rfl, ⟨nd, rfl⟩⟩; refine ⟨_, rfl, ?_⟩))
      go_roundg k1
      case measure => have := HK1.out; omega
      case rel => exact ⟨(wrap64 (x5_1 - 1)), (by first | rfl | (simp; done) | (simp [*]; done)), H', ⟨by have := HK1.out; omega⟩, ⟨by repeat (first | exact HB.out | apply bN | apply b1 | apply bA)⟩⟩
   ·rw [if_neg c4] at H
    have c4b0 : decide (0 ≤ x5_1) = false := decide_eq_false c4
    clear c4
    obtain rfl := Option.some.inj H
    go_wp2
    go_ret
    exact ⟨by first | rfl | (simp [errW_none, errW_some] <;> rfl) | (simp only [← hji3]; first | rfl | (simp [errW_none, errW_some] <;> rfl)) | (simp [*, errW_none, errW_some] <;> rfl), by repeat (first | exact HB.out | apply bN | apply b1 | apply bA)⟩
set_option maxHeartbeats 8000000 in
set_option maxRecDepth 100000 in
theorem examboardref01_Sub.calls (k : Nat) (A0 : Option Addr) (c0 : Nat) (l0 : List Int) (A1 : Option Addr) (c1 : Nat) (l1 : List Int) (r1 : List Int) (r2 : Bool) (w : World) (hr0 : Kd.C (Kd.int .u32) w A0 l0.length l0) (hc0 : l0.length ≤ c0) (hr1 : Kd.C (Kd.int .u32) w A1 l1.length l1) (hc1 : l1.length ≤ c1) (h : examboardref01_Sub.f k l0 l1 = some (r1, r2)) :
  Calls Try.prog 116 #[.slice A0 l0.length c0, .slice A1 l1.length c1] w fun e w' => ∃ v0_ : Value, e = .returned (.tuple #[v0_, .bool r2]) ∧ Kd.R (Kd.int .u32) 87 w' w.heap.size (fun _ => True) v0_ r1 ∧ Below w.heap.size w w' := by
 have HR0 := mk0 hr0
 have HC0 := mk0 hc0
 clear hr0 hc0
 have HR1 := mk0 hr1
 have HC1 := mk0 hc1
 clear hr1 hc1
 have HB := mk0 (Below.refl w.heap.size w)
 have H : ((examboardref01_Cmp.f k l0 l1).bind fun t472 => (if t472 < 0 then (some (([] : List Int), false)) else (if 0 ≤ (l0.length : Int) then (if ((l0.length : Int) : Int).toNat ≤ 70368744177664 then (examboardref01_Sub.l0 k l0 l1 (List.replicate ((l0.length : Int) : Int).toNat 0) 0 0) else (none)) else (none)))) = some (r1, r2) := h
 clear h
 obtain ⟨t472, A3, H⟩ := bindA H
 by_cases c4 : t472 < 0
 ·rw [if_pos c4] at H
  have c4b0 : decide (t472 < 0) = true := decide_eq_true c4
  clear c4
  simp only [Option.some.injEq, Prod.mk.injEq] at H
  obtain ⟨rfl, rfl⟩ := H
  go_enter Try.func116, Try.ntmps116
  go_wp2_with (first | ((with_reducible refine gate_callee (f := 92) rfl ?_); refine goA 13 Try.func92 #[.slice A0 l0.length c0, .slice A1 l1.length c1] ?_; (with_reducible refine (examboardref01_Cmp.calls k _ _ l0 _ _ l1 t472 _ HR0.out HC0.out HR1.out HC1.out A3.out).mono ?_); rintro e w5 ⟨rfl, hb⟩; refine ⟨_, rfl, ?_⟩; replace HB := (by first | exact hbS HB hb | exact hbD HB hb)))
  go_ret2
  exact ⟨_, by first | rfl | (simp [errW_none, errW_some] <;> rfl) | (simp [*, errW_none, errW_some] <;> rfl), by first | exact Kd.R_nil _ _ _ _ _ | exact Kd.N_nil _ _ _ _ _ | exact Kd.V_nil _ _ _ _ _ | exact Kd.Q_nil _ _ _ _ _ | exact Kd.S_nil _ _ _ _ _, by repeat (first | exact HB.out | apply bN | apply b1 | apply bA)⟩
 ·rw [if_neg c4] at H
  have c4b0 : decide (t472 < 0) = false := decide_eq_false c4
  clear c4
  by_cases c6 : 0 ≤ (l0.length : Int)
  ·rw [if_pos c6] at H
   have c6b0 := eq_true c6
   have c6b1 : decide (0 ≤ (l0.length : Int)) = true := decide_eq_true c6
   clear c6
   by_cases c7 : ((l0.length : Int) : Int).toNat ≤ 70368744177664
   ·rw [if_pos c7] at H
    have c7b0 := eq_true c7
    have c7b1 : decide (((l0.length : Int) : Int).toNat ≤ 70368744177664) = true := decide_eq_true c7
    clear c7
    obtain ⟨y473, hy473⟩ : ∃ y_ : List Int, y_ = (List.replicate ((l0.length : Int) : Int).toNat 0) := ⟨_, rfl⟩
    replace H : (examboardref01_Sub.l0 k l0 l1 y473 0 0) = some (r1, r2) := by first | (rw [hy473]; with_reducible exact H) | (have H2_ := (Option.bind_some _ _).symm.trans H; rw [hy473]; with_reducible exact H2_) | (have H2_ := (Option.bind_some _ _).symm.trans H; with_reducible exact H2_) | with_reducible exact H | (rw [hy473]; exact H) | exact H
    have Ny473 := mk0 hy473
    clear hy473
    have H' := mk0 H
    clear H
    go_enter Try.func116, Try.ntmps116
    go_wp2_with (first | ((with_reducible refine gate_callee (f := 92) rfl ?_); refine goA 13 Try.func92 #[.slice A0 l0.length c0, .slice A1 l1.length c1] ?_; (with_reducible refine (examboardref01_Cmp.calls k _ _ l0 _ _ l1 t472 _ HR0.out HC0.out HR1.out HC1.out A3.out).mono ?_); rintro e w8 ⟨rfl, hb⟩; refine ⟨_, rfl, ?_⟩; replace HB := (by first | exact hbS HB hb | exact hbD HB hb)) | ((with_reducible refine gate_dst (N := 17) rfl ?_); refine Kd.R_make (Kd.int .u32) _ 87 rfl (N := 17) rfl 25 _ _ rfl (l0.length : Int) rfl rfl Try.underlying25 (.int .u32 0) 4 info87 rfl (by decide) (by omega) 0 (ok := fun _ => True) (okp := fun _ => True) rfl (fun _ hk => hk) trivial (of_decide_eq_true (by assumption)) (Nat.le_trans (Nat.mul_le_mul_right _ (of_decide_eq_true (by assumption) : (l0.length : Int).toNat ≤ 70368744177664)) (by omega)) (Below.refl _ _) (Nat.le_refl _) ?_; intro v474 w9 ho10 hb hg_ hnew_; clear hg_ hnew_; (first | rw [← Ny473.out] at ho10 | (simp only [Int.reduceToNat] at ho10; rw [← Ny473.out] at ho10)); have HO475 := mk0 (Rl ho10 (bZ (by repeat (first | exact HB.out | apply bN | apply b1 | apply bA)))); replace HB := (by first | exact hbS HB hb | exact hbD HB hb); clear hb ho10))
    go_loopg [7, 8] k (fun kq v7 v8 w' => ∃ (x6_1 : List Int) (x7_1 : Int) (x8_1 : Int), v7 = .int .u64 x7_1 ∧ v8 = .int .i64 x8_1 ∧ Aside0 (examboardref01_Sub.l0 kq l0 l1 x6_1 x7_1 x8_1 = some (r1, r2)) ∧ Aside0 (kq ≤ k) ∧ Aside0 (Kd.R (Kd.int .u32) 87 w' w.heap.size (fun _ => True) v474 x6_1) ∧ Aside0 (Below w.heap.size w w'))
    case atStart => exact ⟨(y473), (0), (0), (by first | rfl | (simp; done) | (simp [*]; done)), (by first | rfl | (simp; done) | (simp [*]; done)), H', ⟨Nat.le_refl _⟩, ⟨by (with_reducible repeat apply Kd.R_drewN); exact HO475.out⟩, ⟨by repeat (first | exact HB.out | apply bN | apply b1 | apply bA)⟩⟩
    case round =>
     clear H'
     try clear c1
     try clear p2
     try clear c4
     try clear c4b0
     try clear c6
     try clear c6b0
     try clear c6b1
     try clear c7
     try clear c7b0
     try clear c7b1
     try clear c9
     obtain ⟨x6_1, x7_1, x8_1, rfl, rfl, HA, HK1, HO_6, HB⟩ := hrel
     cases gk with
     | zero => exact absurd HA.out (by simp [examboardref01_Sub.l0])
     | succ k1 =>
      have H := HA.out
      clear HA
      simp only [examboardref01_Sub.l0] at H
      by_cases c11 : x8_1 < (l0.length : Int)
      ·rw [if_pos c11] at H
       have c11b0 : decide (x8_1 < (l0.length : Int)) = true := decide_eq_true c11
       clear c11
       obtain ⟨t479, A12, H⟩ := bindA H
       obtain ⟨t480, A13, H⟩ := bindA H
       by_cases c14 : t479 < (IntKind.u64.wrap (t480 + x7_1))
       ·rw [if_pos c14] at H
        have c14b0 : decide (t479 < (IntKind.u64.wrap (t480 + x7_1))) = true := decide_eq_true c14
        clear c14
        by_cases c15 : 0 ≤ x8_1
        ·rw [if_pos c15] at H
         have c15b0 : decide (0 ≤ x8_1) = true := decide_eq_true c15
         clear c15
         by_cases c16 : x8_1 < (x6_1.length : Int)
         ·rw [if_pos c16] at H
          have c16b0 : decide (x8_1 < (x6_1.length : Int)) = true := decide_eq_true c16
          clear c16
          obtain ⟨y481, hy481⟩ : ∃ y_ : List Int, y_ = (x6_1.set (x8_1 : Int).toNat ((IntKind.u64.wrap ((IntKind.u64.wrap (t479 + 4294967296)) - (IntKind.u64.wrap (t480 + x7_1)))) % 4294967296)) := ⟨_, rfl⟩
          replace H : (examboardref01_Sub.l0 k1 l0 l1 y481 1 (wrap64 (x8_1 + 1))) = some (r1, r2) := by first | (rw [hy481]; with_reducible exact H) | (have H2_ := (Option.bind_some _ _).symm.trans H; rw [hy481]; with_reducible exact H2_) | (have H2_ := (Option.bind_some _ _).symm.trans H; with_reducible exact H2_) | with_reducible exact H | (rw [hy481]; exact H) | exact H
          have Ny481 := mk0 hy481
          clear hy481
          have H' := mk0 H
          clear H
          go_wp2_with (first | ((with_reducible refine gate_callee (f := 118) rfl ?_); refine goA 26 Try.func118 #[.slice A0 l0.length c0, .int .i64 x8_1] ?_; (with_reducible refine (examboardref01_limb.calls _ _ l0 x8_1 t479 _ (by exact Cb HR0.out HB.out) HC0.out A12.out).mono ?_); rintro e w' ⟨rfl, ⟨nd, rfl⟩⟩; refine ⟨_, rfl, ?_⟩; (try (rw [drewN_self wr]; generalize hq_ : World.drewN wr _ = wr; replace HO_6 : Aside0 (Kd.R (Kd.int .u32) 87 wr w.heap.size (fun _ => True) v474 x6_1) := ⟨by rw [← hq_]; exact (by (with_reducible repeat apply Kd.R_drewN); exact HO_6.out)⟩; replace HB : Aside0 (Below w.heap.size w wr) := ⟨by rw [← hq_]; exact (by repeat (first | exact HB.out | apply bN | apply b1 | apply bA))⟩; clear hq_))) | ((with_reducible refine gate_callee (f := 118) rfl ?_); refine goA 29 Try.func118 #[.slice A1 l1.length c1, .int .i64 x8_1] ?_; (with_reducible refine (examboardref01_limb.calls _ _ l1 x8_1 t480 _ (by exact Cb HR1.out HB.out) HC1.out A13.out).mono ?_); rintro e w' ⟨rfl, ⟨nd, rfl⟩⟩; refine ⟨_, rfl, ?_⟩; (try (rw [drewN_self wr]; generalize hq_ : World.drewN wr _ = wr; replace HO_6 : Aside0 (Kd.R (Kd.int .u32) 87 wr w.heap.size (fun _ => True) v474 x6_1) := ⟨by rw [← hq_]; exact (by (with_reducible repeat apply Kd.R_drewN); exact HO_6.out)⟩; replace HB : Aside0 (Below w.heap.size w wr) := ⟨by rw [← hq_]; exact (by repeat (first | exact HB.out | apply bN | apply b1 | apply bA))⟩; clear hq_)); have p17 : 0 ≤ (x8_1 : Int) := of_decide_eq_true (by assumption); have q17 : (x8_1 : Int) < ((x6_1.length : Int) : Int) := of_decide_eq_true (by assumption); obtain ⟨go17, co17, eo17, gb17, gl17, cl17, HG17⟩ := Kd.R_form HO_6.out (by omega); (first | cases eo17 | (injection eo17 with ea_ en_ ec_; (first | subst ea_ | (injection ea_ with ea_; subst ea_)); subst ec_; clear en_)); have GB17 := mk0 gb17; have GG17 := mk0 HG17; clear gb17 gl17 HG17; obtain ⟨hx17_0, hf17_0⟩ := Kd.R_celln 0 HO_6.out (x8_1 : Int) p17 q17; replace p17 := eq_true p17; replace q17 := eq_true q17; obtain ⟨hy18_, hz18_⟩ := Kd.R_celln 0 HO_6.out (x8_1 : Int) (of_decide_eq_true (by assumption)) (of_decide_eq_true (by assumption)); have HP18 := Kd.R_putg HO_6.out (x8_1 : Int) ((IntKind.u64.wrap ((IntKind.u64.wrap (t479 + 4294967296)) - (IntKind.u64.wrap (t480 + x7_1)))) % 4294967296)) | ((with_reducible refine gate_store (t := 87) (p := 43) rfl ?_); refine store_event (t := 87) (p := 43) (v := ?vo_w19) (w1 := (wr.setCell ⟨go17, (x8_1 : Int).toNat, none⟩ (.int .u32 ((IntKind.u64.wrap ((IntKind.u64.wrap (t479 + 4294967296)) - (IntKind.u64.wrap (t480 + x7_1)))) % 4294967296)))) ?hg ?ho ?hn ?hr ?_; (case ho => rfl); (case hg => rfl); (case hn => rfl); (case hr => go_simp <;> rfl); intro w19 hw; have hg : wr.grownBy w19 (some go17) := (by rw [hw]; exact HP18.2); have hp_ : Kd.R (Kd.int .u32) 87 w19 w.heap.size (fun _ => True) (.slice (some ⟨go17, 0, none⟩) x6_1.length co17) y481 := (by rw [hw, Ny481.out]; exact HP18.1); clear HP18; replace HO_6 := mk0 (hp_); replace HB := mk0 ((by rw [hw]; exact bS (HB.out) GB17.out : Below w.heap.size w w19)); clear hg hw hp_))
          go_roundg k1
          case measure => have := HK1.out; omega
          case rel => exact ⟨(y481), (1), (wrap64 (x8_1 + 1)), (by first | rfl | (simp; done) | (simp [*]; done)), (by first | rfl | (simp; done) | (simp [*]; done)), H', ⟨by have := HK1.out; omega⟩, ⟨by (with_reducible repeat apply Kd.R_drewN); exact HO_6.out⟩, ⟨by repeat (first | exact HB.out | apply bN | apply b1 | apply bA)⟩⟩
         ·rw [if_neg c16] at H
          exact absurd H (by simp)
        ·rw [if_neg c15] at H
         exact absurd H (by simp)
       ·rw [if_neg c14] at H
        have c14b0 : decide (t479 < (IntKind.u64.wrap (t480 + x7_1))) = false := decide_eq_false c14
        clear c14
        by_cases c20 : 0 ≤ x8_1
        ·rw [if_pos c20] at H
         have c20b0 : decide (0 ≤ x8_1) = true := decide_eq_true c20
         clear c20
         by_cases c21 : x8_1 < (x6_1.length : Int)
         ·rw [if_pos c21] at H
          have c21b0 : decide (x8_1 < (x6_1.length : Int)) = true := decide_eq_true c21
          clear c21
          obtain ⟨y482, hy482⟩ : ∃ y_ : List Int, y_ = (x6_1.set (x8_1 : Int).toNat ((IntKind.u64.wrap (t479 - (IntKind.u64.wrap (t480 + x7_1)))) % 4294967296)) := ⟨_, rfl⟩
          replace H : (examboardref01_Sub.l0 k1 l0 l1 y482 0 (wrap64 (x8_1 + 1))) = some (r1, r2) := by first | (rw [hy482]; with_reducible exact H) | (have H2_ := (Option.bind_some _ _).symm.trans H; rw [hy482]; with_reducible exact H2_) | (have H2_ := (Option.bind_some _ _).symm.trans H; with_reducible exact H2_) | with_reducible exact H | (rw [hy482]; exact H) | exact H
          have Ny482 := mk0 hy482
          clear hy482
          have H' := mk0 H
          clear H
          go_wp2_with (first | ((with_reducible refine gate_callee (f := 118) rfl ?_); refine goA 26 Try.func118 #[.slice A0 l0.length c0, .int .i64 x8_1] ?_; (with_reducible refine (examboardref01_limb.calls _ _ l0 x8_1 t479 _ (by exact Cb HR0.out HB.out) HC0.out A12.out).mono ?_); rintro e w' ⟨rfl, ⟨nd, rfl⟩⟩; refine ⟨_, rfl, ?_⟩; (try (rw [drewN_self wr]; generalize hq_ : World.drewN wr _ = wr; replace HO_6 : Aside0 (Kd.R (Kd.int .u32) 87 wr w.heap.size (fun _ => True) v474 x6_1) := ⟨by rw [← hq_]; exact (by (with_reducible repeat apply Kd.R_drewN); exact HO_6.out)⟩; replace HB : Aside0 (Below w.heap.size w wr) := ⟨by rw [← hq_]; exact (by repeat (first | exact HB.out | apply bN | apply b1 | apply bA))⟩; clear hq_))) | ((with_reducible refine gate_callee (f := 118) rfl ?_); refine goA 29 Try.func118 #[.slice A1 l1.length c1, .int .i64 x8_1] ?_; (with_reducible refine (examboardref01_limb.calls _ _ l1 x8_1 t480 _ (by exact Cb HR1.out HB.out) HC1.out A13.out).mono ?_); rintro e w' ⟨rfl, ⟨nd, rfl⟩⟩; refine ⟨_, rfl, ?_⟩; (try (rw [drewN_self wr]; generalize hq_ : World.drewN wr _ = wr; replace HO_6 : Aside0 (Kd.R (Kd.int .u32) 87 wr w.heap.size (fun _ => True) v474 x6_1) := ⟨by rw [← hq_]; exact (by (with_reducible repeat apply Kd.R_drewN); exact HO_6.out)⟩; replace HB : Aside0 (Below w.heap.size w wr) := ⟨by rw [← hq_]; exact (by repeat (first | exact HB.out | apply bN | apply b1 | apply bA))⟩; clear hq_)); have p22 : 0 ≤ (x8_1 : Int) := of_decide_eq_true (by assumption); have q22 : (x8_1 : Int) < ((x6_1.length : Int) : Int) := of_decide_eq_true (by assumption); obtain ⟨go22, co22, eo22, gb22, gl22, cl22, HG22⟩ := Kd.R_form HO_6.out (by omega); (first | cases eo22 | (injection eo22 with ea_ en_ ec_; (first | subst ea_ | (injection ea_ with ea_; subst ea_)); subst ec_; clear en_)); have GB22 := mk0 gb22; have GG22 := mk0 HG22; clear gb22 gl22 HG22; obtain ⟨hx22_0, hf22_0⟩ := Kd.R_celln 0 HO_6.out (x8_1 : Int) p22 q22; replace p22 := eq_true p22; replace q22 := eq_true q22; obtain ⟨hy23_, hz23_⟩ := Kd.R_celln 0 HO_6.out (x8_1 : Int) (of_decide_eq_true (by assumption)) (of_decide_eq_true (by assumption)); have HP23 := Kd.R_putg HO_6.out (x8_1 : Int) ((IntKind.u64.wrap (t479 - (IntKind.u64.wrap (t480 + x7_1)))) % 4294967296)) | ((with_reducible refine gate_store (t := 87) (p := 43) rfl ?_); refine store_event (t := 87) (p := 43) (v := ?vo_w24) (w1 := (wr.setCell ⟨go22, (x8_1 : Int).toNat, none⟩ (.int .u32 ((IntKind.u64.wrap (t479 - (IntKind.u64.wrap (t480 + x7_1)))) % 4294967296)))) ?hg ?ho ?hn ?hr ?_; (case ho => rfl); (case hg => rfl); (case hn => rfl); (case hr => go_simp <;> rfl); intro w24 hw; have hg : wr.grownBy w24 (some go22) := (by rw [hw]; exact HP23.2); have hp_ : Kd.R (Kd.int .u32) 87 w24 w.heap.size (fun _ => True) (.slice (some ⟨go22, 0, none⟩) x6_1.length co22) y482 := (by rw [hw, Ny482.out]; exact HP23.1); clear HP23; replace HO_6 := mk0 (hp_); replace HB := mk0 ((by rw [hw]; exact bS (HB.out) GB22.out : Below w.heap.size w w24)); clear hg hw hp_))
          go_roundg k1
          case measure => have := HK1.out; omega
          case rel => exact ⟨(y482), (0), (wrap64 (x8_1 + 1)), (by first | rfl | (simp; done) | (simp [*]; done)), (by first | rfl | (simp; done) | (simp [*]; done)), H', ⟨by have := HK1.out; omega⟩, ⟨by (with_reducible repeat apply Kd.R_drewN); exact HO_6.out⟩, ⟨by repeat (first | exact HB.out | apply bN | apply b1 | apply bA)⟩⟩
         ·rw [if_neg c21] at H
          exact absurd H (by simp)
        ·rw [if_neg c20] at H
         exact absurd H (by simp)
      ·rw [if_neg c11] at H
       have c11b0 : decide (x8_1 < (l0.length : Int)) = false := decide_eq_false c11
       clear c11
       obtain ⟨t476, A25, H⟩ := bindA H
       simp only [Option.some.injEq, Prod.mk.injEq] at H
       obtain ⟨rfl, rfl⟩ := H
       obtain ⟨Ao26, co26, eo26⟩ := Kd.R_slice HO_6.out
       subst eo26
       go_wp2_with (first | ((with_reducible refine gate_callee (f := 89) rfl ?_); refine goA 45 Try.func89 #[.slice Ao26 x6_1.length co26] ?_; (with_reducible refine (examboardref01_Norm.calls k1 _ _ x6_1 t476 _ (by exact (Kd.R_reads' HO_6.out).2.2) (by exact (Kd.R_reads' HO_6.out).2.1) A25.out).mono ?_); rintro e w27 ⟨v477, rfl, ho0, hb⟩; refine ⟨_, rfl, ?_⟩; have HO478 := mk0 (Rl (Rn ho0 (Rq (by (with_reducible repeat apply Kd.R_drewN); exact HO_6.out))) (bZ (by repeat (first | exact HB.out | apply bN | apply b1 | apply bA)))); replace HO_6 := mk0 (Re (by (with_reducible repeat apply Kd.R_drewN); exact HO_6.out) (Rs ho0) hb); replace HB := (by first | exact hbS HB hb | exact hbD HB hb)))
       go_ret2
       exact ⟨_, by first | rfl | (simp [errW_none, errW_some] <;> rfl) | (simp [*, errW_none, errW_some] <;> rfl), by (with_reducible repeat apply Kd.R_drewN); exact Rm HO478.out tv, by repeat (first | exact HB.out | apply bN | apply b1 | apply bA)⟩
   ·rw [if_neg c7] at H
    exact absurd H (by simp)
  ·rw [if_neg c6] at H
   exact absurd H (by simp)
def examboardref01_half.T5 : Bool × List (List Nat × List Nat) := (true, [([], []), ([], []), ([], []), ([], []), ([3], [3]), ([2, 4], [2, 4]), ([5], [5]), ([], []), ([], []), ([7, 8], [7, 8]), ([9], [9]), ([10], [10]), ([6, 11], [6, 11]), ([12], [12]), ([13], [13]), ([0, 1, 0, 1, 2, 3, 4, 5, 6, 7, 8, 9, 10, 11, 12, 13, 14], [0, 1]), ([15, 14, 5, 0, 1, 2, 3, 4, 5, 6, 7, 8, 9, 10, 11, 12, 13, 14], [14, 15])])
def examboardref01_half.B5 : List Nat := [0, 0, 0, 0, 8, 28, 60, 0, 0, 384, 896, 1920, 4092, 8188, 16380, 32767, 65535]
theorem examboardref01_half.tab5 : rtab .any (opsOf Try.f117 5) = examboardref01_half.T5 := by kernel_rfl
theorem examboardref01_half.bits5 : waitsOk examboardref01_half.T5.2 examboardref01_half.B5 = true := by kernel_rfl
set_option maxHeartbeats 8000000 in
set_option maxRecDepth 100000 in
theorem examboardref01_half.calls (k : Nat) (A0 : Option Addr) (c0 : Nat) (l0 : List Int) (r : List Int) (w : World) (hr0 : Kd.C (Kd.int .u32) w A0 l0.length l0) (hc0 : l0.length ≤ c0) (h : examboardref01_half.f k l0 = some r) :
  Calls Try.prog 117 #[.slice A0 l0.length c0] w fun e w' => ∃ v0_ : Value, e = .returned (v0_) ∧ Kd.R (Kd.int .u32) 87 w' w.heap.size (fun _ => True) v0_ r ∧ Below w.heap.size w w' := by
 have HR0 := mk0 hr0
 have HC0 := mk0 hc0
 clear hr0 hc0
 have HB := mk0 (Below.refl w.heap.size w)
 have H : (if 0 ≤ (l0.length : Int) then (if ((l0.length : Int) : Int).toNat ≤ 70368744177664 then (examboardref01_half.l0 k l0 (List.replicate ((l0.length : Int) : Int).toNat 0) 0) else (none)) else (none)) = some r := h
 clear h
 by_cases c2 : 0 ≤ (l0.length : Int)
 ·rw [if_pos c2] at H
  have c2b0 := eq_true c2
  have c2b1 : decide (0 ≤ (l0.length : Int)) = true := decide_eq_true c2
  clear c2
  by_cases c3 : ((l0.length : Int) : Int).toNat ≤ 70368744177664
  ·rw [if_pos c3] at H
   have c3b0 := eq_true c3
   have c3b1 : decide (((l0.length : Int) : Int).toNat ≤ 70368744177664) = true := decide_eq_true c3
   clear c3
   obtain ⟨y483, hy483⟩ : ∃ y_ : List Int, y_ = (List.replicate ((l0.length : Int) : Int).toNat 0) := ⟨_, rfl⟩
   replace H : (examboardref01_half.l0 k l0 y483 0) = some r := by first | (rw [hy483]; with_reducible exact H) | (have H2_ := (Option.bind_some _ _).symm.trans H; rw [hy483]; with_reducible exact H2_) | (have H2_ := (Option.bind_some _ _).symm.trans H; with_reducible exact H2_) | with_reducible exact H | (rw [hy483]; exact H) | exact H
   have Ny483 := mk0 hy483
   clear hy483
   have H' := mk0 H
   clear H
   go_enter Try.func117, Try.ntmps117
   go_wp2_with (first | ((with_reducible refine gate_dst (N := 7) rfl ?_); refine Kd.R_make (Kd.int .u32) _ 87 rfl (N := 7) rfl 25 _ _ rfl (l0.length : Int) rfl rfl Try.underlying25 (.int .u32 0) 4 info87 rfl (by decide) (by omega) 0 (ok := fun _ => True) (okp := fun _ => True) rfl (fun _ hk => hk) trivial (of_decide_eq_true (by assumption)) (Nat.le_trans (Nat.mul_le_mul_right _ (of_decide_eq_true (by assumption) : (l0.length : Int).toNat ≤ 70368744177664)) (by omega)) (Below.refl _ _) (Nat.le_refl _) ?_; intro v484 w4 ho5 hb hg_ hnew_; clear hg_ hnew_; (first | rw [← Ny483.out] at ho5 | (simp only [Int.reduceToNat] at ho5; rw [← Ny483.out] at ho5)); have HO485 := mk0 (Rl ho5 (bZ (by repeat (first | exact HB.out | apply bN | apply b1 | apply bA)))); replace HB := (by first | exact hbS HB hb | exact hbD HB hb); clear hb ho5))
   go_loopg [4] k (fun kq v4 w' => ∃ (x3_1 : List Int) (x4_1 : Int), v4 = .int .i64 x4_1 ∧ Aside0 (examboardref01_half.l0 kq l0 x3_1 x4_1 = some r) ∧ Aside0 (kq ≤ k) ∧ Aside0 (Kd.R (Kd.int .u32) 87 w' w.heap.size (fun _ => True) v484 x3_1) ∧ Aside0 (Below w.heap.size w w'))
   case atStart => exact ⟨(y483), (0), (by first | rfl | (simp; done) | (simp [*]; done)), H', ⟨Nat.le_refl _⟩, ⟨by (with_reducible repeat apply Kd.R_drewN); exact HO485.out⟩, ⟨by repeat (first | exact HB.out | apply bN | apply b1 | apply bA)⟩⟩
   case round =>
    clear H'
    try clear c1
    try clear c2
    try clear c2b0
    try clear c2b1
    try clear p2
    try clear c3
    try clear c3b0
    try clear c3b1
    obtain ⟨x3_1, x4_1, rfl, HA, HK1, HO_3, HB⟩ := hrel
    cases gk with
    | zero => exact absurd HA.out (by simp [examboardref01_half.l0])
    | succ k1 =>
     have H := HA.out
     clear HA
     simp only [examboardref01_half.l0] at H
     by_cases c6 : x4_1 < (l0.length : Int)
     ·rw [if_pos c6] at H
      have c6b0 : decide (x4_1 < (l0.length : Int)) = true := decide_eq_true c6
      clear c6
      obtain ⟨t486, A7, H⟩ := bindA H
      by_cases c8 : 0 ≤ x4_1
      ·rw [if_pos c8] at H
       have c8b0 : decide (0 ≤ x4_1) = true := decide_eq_true c8
       clear c8
       by_cases c9 : x4_1 < (x3_1.length : Int)
       ·rw [if_pos c9] at H
        have c9b0 : decide (x4_1 < (x3_1.length : Int)) = true := decide_eq_true c9
        clear c9
        obtain ⟨y488, hy488⟩ : ∃ y_ : List Int, y_ = (x3_1.set (x4_1 : Int).toNat (((IntKind.u64.wrap ((IntKind.u64.wrap (t486 * 4294967296)) + (IntKind.u64.wrap (rd l0 x4_1)))) / 2) % 4294967296)) := ⟨_, rfl⟩
        replace H : (examboardref01_half.l0 k1 l0 y488 (wrap64 (x4_1 + 1))) = some r := by first | (rw [hy488]; with_reducible exact H) | (have H2_ := (Option.bind_some _ _).symm.trans H; rw [hy488]; with_reducible exact H2_) | (have H2_ := (Option.bind_some _ _).symm.trans H; with_reducible exact H2_) | with_reducible exact H | (rw [hy488]; exact H) | exact H
        have Ny488 := mk0 hy488
        clear hy488
        have H' := mk0 H
        clear H
        try go_wp2
        replace HO_3 := mk0 (Kd.R_drew HO_3.out)
        replace HB := mk0 (b1 HB.out)
        have p487 : 0 ≤ (x4_1 : Int) := of_decide_eq_true (by assumption)
        have q487 : x4_1 < (l0.length : Int) := of_decide_eq_true (by assumption)
        obtain ⟨ad487, e487, hx487_0⟩ := Kd.at_int HR0.out x4_1 p487 q487
        have hw487_0 := hx487_0
        cases e487
        replace hx487_0 := (HB.out.cell (World.block_lt_of_cell? w _ hx487_0)).trans hx487_0
        replace p487 := eq_true p487
        replace q487 := eq_true q487
        refine start_ (n := 17) (S := fun w' => w'.cell? (ad487.add (x4_1).toNat) = some (.int .u32 (rd l0 x4_1))) (ds := [16]) (bv 17 0) (by kernel_rfl) rfl rfl (((HB.out.cell (World.block_lt_of_cell? w _ hw487_0)).trans hw487_0)) (fun hHeld => ?_); refine with_tabW examboardref01_half.tab5 examboardref01_half.bits5 (fun HT_ HW_ => ?_)
        generalize wr.drew = w11 at HO_3 HB hx487_0 hHeld ⊢
        refine puA (i := 0) (N := 14) (v := ?_) (a' := ?_) (bv 17 1) HT_ ?_ ?_ ?_; rotate_left; (intro w'; go_simp; with_reducible rfl); rotate_left; (simp only [Act.put, sA, sZ, sS, i64_w, i32_w]; rfl)
        refine puA (i := 1) (N := 15) (v := ?_) (a' := ?_) (bv 17 3) HT_ ?_ ?_ ?_; rotate_left; (intro w'; go_simp; with_reducible rfl); rotate_left; (simp only [Act.put, sA, sZ, sS, i64_w, i32_w]; rfl)
        refine puA (i := 2) (N := 16) (v := ?_) (a' := ?_) (bv 17 7) HT_ ?_ ?_ ?_; rotate_left; (intro w'; go_simp; with_reducible rfl); rotate_left; (simp only [Act.put, sA, sZ, sS, i64_w, i32_w]; rfl)
        refine puA (i := 3) (N := 17) (v := ?_) (a' := ?_) (bv 17 15) HT_ ?_ ?_ ?_; rotate_left; (intro w'; go_simp; with_reducible rfl); rotate_left; (simp only [Act.put, sA, sZ, sS, i64_w, i32_w]; rfl)
        refine puA (i := 4) (N := 18) (v := ?_) (a' := ?_) (bv 17 31) HT_ ?_ ?_ ?_; rotate_left; (intro w'; go_simp; with_reducible rfl); rotate_left; (simp only [Act.put, sA, sZ, sS, i64_w, i32_w]; rfl)
        refine puA (i := 7) (N := 21) (v := ?_) (a' := ?_) (bv 17 159) HT_ ?_ ?_ ?_; rotate_left; (intro w'; go_simp; with_reducible rfl); rotate_left; (simp only [Act.put, sA, sZ, sS, i64_w, i32_w]; rfl)
        refine puA (i := 8) (N := 22) (v := ?_) (a' := ?_) (bv 17 415) HT_ ?_ ?_ ?_; rotate_left; (intro w'; go_simp; with_reducible rfl); rotate_left; (simp only [Act.put, sA, sZ, sS, i64_w, i32_w]; rfl)
        refine puA (i := 9) (N := 23) (v := ?_) (a' := ?_) (bv 17 927) HT_ ?_ ?_ ?_; rotate_left; (intro w'; go_simp; with_reducible rfl); rotate_left; (simp only [Act.put, sA, sZ, sS, i64_w, i32_w]; rfl)
        refine take_ (i := 10) (N := some 24) (v := ?_) (a' := ?_) (bv 17 1951) rfl rfl (take_ofW HT_.out HW_.out (by kernel_rfl)) (fun _ _ _ h => h) (Or.inl ⟨by rfl, ?_⟩) hHeld ?_ ?_
        rotate_left
        ·intro w' s0
         go_simp
         with_reducible rfl
        rotate_left
        ·simp only [Act.put, sA, sZ, sS, i64_w, i32_w]
         rfl
        refine puA (i := 11) (N := 25) (v := ?_) (a' := ?_) (bv 17 3999) HT_ ?_ ?_ ?_; rotate_left; (intro w'; go_simp; with_reducible rfl); rotate_left; (simp only [Act.put, sA, sZ, sS, i64_w, i32_w]; rfl)
        refine one_ (i := 5) (N := some 19) (bv 17 4031) rfl rfl (one_of HT_.out (by kernel_rfl)) (by decide) (fun K hK => ?_)
        refine goes_ Try.func118 (by kernel_rfl) rfl #[.slice (some ad487) l0.length c0, .int .i64 (wrap64 (x4_1 + 1))] (by rfl) rfl rfl (by go_simp <;> rfl) ?_
        with_reducible refine (examboardref01_limb.calls _ _ l0 (wrap64 (x4_1 + 1)) t486 _ ?side1 ?side2 A7.out).mono ?_
        (case side1 => repeat (first | exact (Cb HR0.out HB.out) | (with_reducible refine Kd.C_alloc ?_ _) | (with_reducible refine Kd.C_drewN ?_ _) | (with_reducible refine Kd.C_drew ?_)))
        (case side2 => exact HC0.out)
        rintro e w' ⟨rfl, ⟨nd, rfl⟩⟩
        refine ⟨_, rfl, ?_⟩
        have p10 : 0 ≤ (x4_1 : Int) := of_decide_eq_true (by assumption)
        have q10 : (x4_1 : Int) < ((x3_1.length : Int) : Int) := of_decide_eq_true (by assumption)
        obtain ⟨go10, co10, eo10, gb10, gl10, cl10, HG10⟩ := Kd.R_form HO_3.out (by omega)
        (first | cases eo10 | (injection eo10 with ea_ en_ ec_; (first | subst ea_ | (injection ea_ with ea_; subst ea_)); subst ec_; clear en_))
        have GB10 := mk0 gb10
        have GG10 := mk0 HG10
        clear gb10 gl10 HG10
        obtain ⟨hx10_0, hf10_0⟩ := Kd.R_celln 0 HO_3.out (x4_1 : Int) p10 q10
        replace p10 := eq_true p10
        replace q10 := eq_true q10
        have HP12 := Kd.R_putn HO_3.out (x4_1 : Int) (((IntKind.u64.wrap ((IntKind.u64.wrap (t486 * 4294967296)) + (IntKind.u64.wrap (rd l0 x4_1)))) / 2) % 4294967296)
        rw [← Ny488.out] at HP12
        have HQ12 := mk0 HP12
        clear HP12
        refine hK.out _ _ (((HB.out.cell (World.block_lt_of_cell? w _ hw487_0)).trans hw487_0)) (fun hHeld => ?_)
        clear hK K
        refine norm_ (a' := ?_) ?_ ?_
        rotate_left
        ·show Act.put _ (some 19) _ = _
         simp only [Act.put, sA, sZ, sS, i64_w, i32_w]
         rfl
        refine puA (i := 6) (N := 20) (v := ?_) (a' := ?_) (bv 17 4095) HT_ ?_ ?_ ?_; rotate_left; (intro w'; go_simp; with_reducible rfl); rotate_left; (simp only [Act.put, sA, sZ, sS, i64_w, i32_w]; rfl)
        refine puA (i := 12) (N := 26) (v := ?_) (a' := ?_) (bv 17 8191) HT_ ?_ ?_ ?_; rotate_left; (intro w'; go_simp; with_reducible rfl); rotate_left; (simp only [Act.put, sA, sZ, sS, i64_w, i32_w]; rfl)
        refine puA (i := 13) (N := 27) (v := ?_) (a' := ?_) (bv 17 16383) HT_ ?_ ?_ ?_; rotate_left; (intro w'; go_simp; with_reducible rfl); rotate_left; (simp only [Act.put, sA, sZ, sS, i64_w, i32_w]; rfl)
        refine puA (i := 14) (N := 28) (v := ?_) (a' := ?_) (bv 17 32767) HT_ ?_ ?_ ?_; rotate_left; (intro w'; go_simp; with_reducible rfl); rotate_left; (simp only [Act.put, sA, sZ, sS, i64_w, i32_w]; rfl)
        refine puA (i := 15) (N := 29) (v := ?_) (a' := ?_) (bv 17 65535) HT_ ?_ ?_ ?_; rotate_left; (intro w'; go_simp; with_reducible rfl); rotate_left; (simp only [Act.put, sA, sZ, sS, i64_w, i32_w]; rfl)
        refine last_ (i := 16) (N := none) (bv 17 131071) rfl rfl (one_of HT_.out (by kernel_rfl)) (by decide) (fun K hK => ?_)
        refine skip_ (w1 := ?_) (by rfl) rfl ?_ ?_
        rotate_left
        ·go_simp
         rfl
        refine hK.out _ _ ?_
        clear hK K
        refine done_ (done_of HT_.out (by kernel_rfl)) ?_
        try go_wp2
        go_roundg k1
        case measure => have := HK1.out; omega
        case rel => exact ⟨(y488), (wrap64 (x4_1 + 1)), (by first | rfl | (simp; done) | (simp [*]; done)), H', ⟨by have := HK1.out; omega⟩, ⟨by (with_reducible repeat apply Kd.R_drewN); exact HQ12.out⟩, ⟨by repeat (first | exact HB.out | apply bN | apply b1 | apply bA | refine bS ?_ GB10.out)⟩⟩
       ·rw [if_neg c9] at H
        exact absurd H (by simp)
      ·rw [if_neg c8] at H
       exact absurd H (by simp)
     ·rw [if_neg c6] at H
      have c6b0 : decide (x4_1 < (l0.length : Int)) = false := decide_eq_false c6
      clear c6
      obtain ⟨t489, A13, H⟩ := bindA H
      obtain rfl := Option.some.inj H
      obtain ⟨Ao14, co14, eo14⟩ := Kd.R_slice HO_3.out
      subst eo14
      go_wp2_with (first | ((with_reducible refine gate_callee (f := 89) rfl ?_); refine goA 31 Try.func89 #[.slice Ao14 x3_1.length co14] ?_; (with_reducible refine (examboardref01_Norm.calls k1 _ _ x3_1 t489 _ (by exact (Kd.R_reads' HO_3.out).2.2) (by exact (Kd.R_reads' HO_3.out).2.1) A13.out).mono ?_); rintro e w15 ⟨v490, rfl, ho0, hb⟩; refine ⟨_, rfl, ?_⟩; have HO491 := mk0 (Rl (Rn ho0 (Rq (by (with_reducible repeat apply Kd.R_drewN); exact HO_3.out))) (bZ (by repeat (first | exact HB.out | apply bN | apply b1 | apply bA)))); replace HO_3 := mk0 (Re (by (with_reducible repeat apply Kd.R_drewN); exact HO_3.out) (Rs ho0) hb); replace HB := (by first | exact hbS HB hb | exact hbD HB hb)))
      go_ret
      exact ⟨_, by first | rfl | (simp [errW_none, errW_some] <;> rfl) | (simp [*, errW_none, errW_some] <;> rfl), by (with_reducible repeat apply Kd.R_drewN); exact Rm HO491.out tv, by repeat (first | exact HB.out | apply bN | apply b1 | apply bA)⟩
  ·rw [if_neg c3] at H
   exact absurd H (by simp)
 ·rw [if_neg c2] at H
  exact absurd H (by simp)
set_option maxHeartbeats 8000000 in
set_option maxRecDepth 100000 in
theorem examboardref01_DivMod.calls (k : Nat) (A0 : Option Addr) (c0 : Nat) (l0 : List Int) (A1 : Option Addr) (c1 : Nat) (l1 : List Int) (r1 : List Int) (r2 : List Int) (r3 : Bool) (w : World) (hr0 : Kd.C (Kd.int .u32) w A0 l0.length l0) (hc0 : l0.length ≤ c0) (hr1 : Kd.C (Kd.int .u32) w A1 l1.length l1) (hc1 : l1.length ≤ c1) (h : examboardref01_DivMod.f k l0 l1 = some (r1, r2, r3)) :
  Calls Try.prog 88 #[.slice A0 l0.length c0, .slice A1 l1.length c1] w fun e w' => ∃ v0_ v1_ : Value, e = .returned (.tuple #[v0_, v1_, .bool r3]) ∧ Kd.R (Kd.int .u32) 87 w' w.heap.size (fun k_ => some k_ ≠ (v1_ : Value).ownBlock) v0_ r1 ∧ Kd.R (Kd.int .u32) 87 w' w.heap.size (fun k_ => some k_ ≠ (v0_ : Value).ownBlock) v1_ r2 ∧ Below w.heap.size w w' := by
 have HR0 := mk0 hr0
 have HC0 := mk0 hc0
 clear hr0 hc0
 have HR1 := mk0 hr1
 have HC1 := mk0 hc1
 clear hr1 hc1
 have HB := mk0 (Below.refl w.heap.size w)
 have H : ((examboardref01_Norm.f k l0).bind fun t492 => ((examboardref01_Norm.f k l1).bind fun t495 => (if (t495.length : Int) = 0 then (some (([] : List Int), ([] : List Int), false)) else (if (t495.length : Int) = 1 then (if 0 < (t495.length : Int) then ((examboardref01_short.f k t492 (IntKind.u64.wrap (rd t495 0))).bind fun bt499 => ((examboardref01_Of.f k bt499.2).bind fun t503 => (some (bt499.1, t503, true)))) else (none)) else ((examboardref01_Bits.f k t492).bind fun t506 => ((examboardref01_Bits.f k t495).bind fun t507 => (if (wrap64 (t506 - t507)) < 0 then (some (([] : List Int), t492, true)) else (if 0 ≤ (wrap64 ((wrap64 (Int.tdiv (wrap64 (t506 - t507)) 32)) + 1)) then (if (wrap64 ((wrap64 (Int.tdiv (wrap64 (t506 - t507)) 32)) + 1) : Int).toNat ≤ 70368744177664 then ((examboardref01_Shift.f k t495 (wrap64 (t506 - t507))).bind fun t511 => (examboardref01_DivMod.l0 k t492 (List.replicate (wrap64 ((wrap64 (Int.tdiv (wrap64 (t506 - t507)) 32)) + 1) : Int).toNat 0) t511 (wrap64 (t506 - t507)))) else (none)) else (none))))))))) = some (r1, r2, r3) := h
 clear h
 obtain ⟨t492, A3, H⟩ := bindA H
 obtain ⟨t495, A4, H⟩ := bindA H
 by_cases c5 : (t495.length : Int) = 0
 ·rw [if_pos c5] at H
  have c5b0 : ((t495.length : Int) == 0) = true := beq_iff_eq.mpr c5
  have c5b1 : ((t495.length : Int) != 0) = false := bne_eq_false_iff_eq.mpr c5
  clear c5
  simp only [Option.some.injEq, Prod.mk.injEq] at H
  obtain ⟨rfl, rfl, rfl⟩ := H
  go_enter Try.func88, Try.ntmps88
  go_wp2_with (first | ((with_reducible refine gate_callee (f := 89) rfl ?_); refine goA 14 Try.func89 #[.slice A0 l0.length c0] ?_; (with_reducible refine (examboardref01_Norm.calls k _ _ l0 t492 _ HR0.out HC0.out A3.out).mono ?_); rintro e w6 ⟨v493, rfl, ho0, hb⟩; refine ⟨_, rfl, ?_⟩; have HO494 := mk0 (Rl ho0 (bZ HB.out)); replace HB := hbS HB hb) | ((with_reducible refine gate_callee (f := 89) rfl ?_); refine goA 16 Try.func89 #[.slice A1 l1.length c1] ?_; (with_reducible refine (examboardref01_Norm.calls k _ _ l1 t495 _ (by exact Cb HR1.out HB.out) HC1.out A4.out).mono ?_); rintro e w7 ⟨v496, rfl, ho0, hb⟩; refine ⟨_, rfl, ?_⟩; have HO497 := mk0 (Rl (Rn ho0 (Rq HO494.out)) (bZ HB.out)); replace HO494 := mk0 (Re HO494.out (Rs ho0) hb); replace HB := hbS HB hb; obtain ⟨Ao8, co8, eo8⟩ := Kd.R_slice HO497.out; subst eo8))
  go_ret3
  exact ⟨_, _, by first | rfl | (simp [errW_none, errW_some] <;> rfl) | (simp [*, errW_none, errW_some] <;> rfl), by first | exact Kd.R_nil _ _ _ _ _ | exact Kd.N_nil _ _ _ _ _ | exact Kd.V_nil _ _ _ _ _ | exact Kd.Q_nil _ _ _ _ _ | exact Kd.S_nil _ _ _ _ _, by first | exact Kd.R_nil _ _ _ _ _ | exact Kd.N_nil _ _ _ _ _ | exact Kd.V_nil _ _ _ _ _ | exact Kd.Q_nil _ _ _ _ _ | exact Kd.S_nil _ _ _ _ _, by repeat (first | exact HB.out | apply bN | apply b1 | apply bA)⟩
 ·rw [if_neg c5] at H
  have c5b0 : ((t495.length : Int) == 0) = false := beq_eq_false_iff_ne.mpr c5
  have c5b1 : ((t495.length : Int) != 0) = true := bne_iff_ne.mpr c5
  have c5b2 : ¬ (t495 = []) := fun h_ => c5 (by rw [h_]; rfl)
  by_cases c9 : (t495.length : Int) = 1
  ·rw [if_pos c9] at H
   have c9b0 : ((t495.length : Int) == 1) = true := beq_iff_eq.mpr c9
   have c9b1 : ((t495.length : Int) != 1) = false := bne_eq_false_iff_eq.mpr c9
   clear c9
   by_cases c10 : 0 < (t495.length : Int)
   ·rw [if_pos c10] at H
    have c10b0 : decide (0 < (t495.length : Int)) = true := decide_eq_true c10
    have c10b1 : decide (0 < t495.length) = true := decide_eq_true (by omega)
    clear c10
    obtain ⟨⟨t499, t500⟩, A11, H⟩ := bindA H
    obtain ⟨t503, A12, H⟩ := bindA H
    simp only [Option.some.injEq, Prod.mk.injEq] at H
    obtain ⟨rfl, rfl, rfl⟩ := H
    go_enter Try.func88, Try.ntmps88
    go_wp2_with (first | ((with_reducible refine gate_callee (f := 89) rfl ?_); refine goA 14 Try.func89 #[.slice A0 l0.length c0] ?_; (with_reducible refine (examboardref01_Norm.calls k _ _ l0 t492 _ HR0.out HC0.out A3.out).mono ?_); rintro e w13 ⟨v493, rfl, ho0, hb⟩; refine ⟨_, rfl, ?_⟩; have HO494 := mk0 (Rl ho0 (bZ HB.out)); replace HB := hbS HB hb) | ((with_reducible refine gate_callee (f := 89) rfl ?_); refine goA 16 Try.func89 #[.slice A1 l1.length c1] ?_; (with_reducible refine (examboardref01_Norm.calls k _ _ l1 t495 _ (by exact Cb HR1.out HB.out) HC1.out A4.out).mono ?_); rintro e w14 ⟨v496, rfl, ho0, hb⟩; refine ⟨_, rfl, ?_⟩; have HO497 := mk0 (Rl (Rn ho0 (Rq HO494.out)) (bZ HB.out)); replace HO494 := mk0 (Re HO494.out (Rs ho0) hb); replace HB := hbS HB hb; obtain ⟨Ao15, co15, eo15⟩ := Kd.R_slice HO497.out; subst eo15; have p498 : 0 ≤ (0 : Int) := (by omega); have q498 : 0 < (t495.length : Int) := of_decide_eq_true (by assumption); obtain ⟨ad498, e498, hx498_0⟩ := Kd.at_int (Kd.R_reads' HO497.out).2.2 0 p498 q498; cases e498; have qi498 : (0 < t495.length) = True := eq_true (by omega); (try rw [show ((0 : Int)).toNat = 0 from rfl] at hx498_0); (try rw [Addr.add_zero'] at hx498_0); replace p498 := eq_true p498; replace q498 := eq_true q498; obtain ⟨Ao16, co16, eo16⟩ := Kd.R_slice HO494.out; subst eo16) | ((with_reducible refine gate_callee (f := 114) rfl ?_); refine goA 29 Try.func114 #[.slice Ao16 t492.length co16, .int .u64 (IntKind.u64.wrap (rd t495 0))] ?_; (with_reducible refine (examboardref01_short.calls k _ _ t492 (IntKind.u64.wrap (rd t495 0)) t499 t500 _ (by exact (Kd.R_reads' HO494.out).2.2) (by exact (Kd.R_reads' HO494.out).2.1) A11.out).mono ?_); rintro e w17 ⟨v501, rfl, ho0, hb⟩; refine ⟨_, rfl, ?_⟩; have HO502 := mk0 (Rl (Rn (Rn ho0 (Rq HO494.out)) (Rq HO497.out)) (bZ HB.out)); replace HO494 := mk0 (Re HO494.out (Rs ho0) hb); replace HO497 := mk0 (Re HO497.out (Rs ho0) hb); replace HB := hbS HB hb) | ((with_reducible refine gate_callee (f := 90) rfl ?_); refine goA 34 Try.func90 #[.int .u64 t500] ?_; (with_reducible refine (examboardref01_Of.calls k t500 t503 _ A12.out).mono ?_); rintro e w18 ⟨v504, rfl, ho0, hb⟩; refine ⟨_, rfl, ?_⟩; have HO505 := mk0 (Rl (Rn (Rn (Rn ho0 (Rq HO494.out)) (Rq HO497.out)) (Rq HO502.out)) (bZ HB.out)); replace HO494 := mk0 (Re HO494.out (Rs ho0) hb); replace HO497 := mk0 (Re HO497.out (Rs ho0) hb); replace HO502 := mk0 (Re HO502.out (Rs ho0) hb); replace HB := hbS HB hb))
    go_ret3
    exact ⟨_, _, by first | rfl | (simp [errW_none, errW_some] <;> rfl) | (simp [*, errW_none, errW_some] <;> rfl), Rm HO502.out (fun _ hk => hk.2), Rm HO505.out (fun _ hk => hk.2), by repeat (first | exact HB.out | apply bN | apply b1 | apply bA)⟩
   ·rw [if_neg c10] at H
    exact absurd H (by simp)
  ·rw [if_neg c9] at H
   have c9b0 : ((t495.length : Int) == 1) = false := beq_eq_false_iff_ne.mpr c9
   have c9b1 : ((t495.length : Int) != 1) = true := bne_iff_ne.mpr c9
   obtain ⟨t506, A19, H⟩ := bindA H
   obtain ⟨t507, A20, H⟩ := bindA H
   by_cases c21 : (wrap64 (t506 - t507)) < 0
   ·rw [if_pos c21] at H
    have c21b0 : decide ((wrap64 (t506 - t507)) < 0) = true := decide_eq_true c21
    clear c21
    simp only [Option.some.injEq, Prod.mk.injEq] at H
    obtain ⟨rfl, rfl, rfl⟩ := H
    go_enter Try.func88, Try.ntmps88
    go_wp2_with (first | ((with_reducible refine gate_callee (f := 89) rfl ?_); refine goA 14 Try.func89 #[.slice A0 l0.length c0] ?_; (with_reducible refine (examboardref01_Norm.calls k _ _ l0 t492 _ HR0.out HC0.out A3.out).mono ?_); rintro e w22 ⟨v493, rfl, ho0, hb⟩; refine ⟨_, rfl, ?_⟩; have HO494 := mk0 (Rl ho0 (bZ HB.out)); replace HB := hbS HB hb) | ((with_reducible refine gate_callee (f := 89) rfl ?_); refine goA 16 Try.func89 #[.slice A1 l1.length c1] ?_; (with_reducible refine (examboardref01_Norm.calls k _ _ l1 t495 _ (by exact Cb HR1.out HB.out) HC1.out A4.out).mono ?_); rintro e w23 ⟨v496, rfl, ho0, hb⟩; refine ⟨_, rfl, ?_⟩; have HO497 := mk0 (Rl (Rn ho0 (Rq HO494.out)) (bZ HB.out)); replace HO494 := mk0 (Re HO494.out (Rs ho0) hb); replace HB := hbS HB hb; obtain ⟨Ao24, co24, eo24⟩ := Kd.R_slice HO497.out; subst eo24; obtain ⟨Ao25, co25, eo25⟩ := Kd.R_slice HO494.out; subst eo25) | ((with_reducible refine gate_callee (f := 85) rfl ?_); refine goA 36 Try.func85 #[.slice Ao25 t492.length co25] ?_; (with_reducible refine (examboardref01_Bits.calls k _ _ t492 t506 _ (by exact (Kd.R_reads' HO494.out).2.2) (by exact (Kd.R_reads' HO494.out).2.1) A19.out).mono ?_); rintro e w26 ⟨rfl, hb⟩; refine ⟨_, rfl, ?_⟩; replace HO494 := rB HO494 hb; replace HO497 := rB HO497 hb; replace HB := hbS HB hb) | ((with_reducible refine gate_callee (f := 85) rfl ?_); refine goA 38 Try.func85 #[.slice Ao24 t495.length co24] ?_; (with_reducible refine (examboardref01_Bits.calls k _ _ t495 t507 _ (by exact (Kd.R_reads' HO497.out).2.2) (by exact (Kd.R_reads' HO497.out).2.1) A20.out).mono ?_); rintro e w27 ⟨rfl, hb⟩; refine ⟨_, rfl, ?_⟩; replace HO494 := rB HO494 hb; replace HO497 := rB HO497 hb; replace HB := hbS HB hb))
    go_ret3
    exact ⟨_, _, by first | rfl | (simp [errW_none, errW_some] <;> rfl) | (simp [*, errW_none, errW_some] <;> rfl), by first | exact Kd.R_nil _ _ _ _ _ | exact Kd.N_nil _ _ _ _ _ | exact Kd.V_nil _ _ _ _ _ | exact Kd.Q_nil _ _ _ _ _ | exact Kd.S_nil _ _ _ _ _, Rm HO494.out (fun _ hk => (by simp [Value.ownBlock])), by repeat (first | exact HB.out | apply bN | apply b1 | apply bA)⟩
   ·rw [if_neg c21] at H
    have c21b0 : decide ((wrap64 (t506 - t507)) < 0) = false := decide_eq_false c21
    clear c21
    obtain ⟨ji28, hji28⟩ : ∃ j_ : Int, (wrap64 ((wrap64 (Int.tdiv (wrap64 (t506 - t507)) 32)) + 1)) = j_ := ⟨_, rfl⟩
    replace H : (if 0 ≤ (ji28) then (if (ji28 : Int).toNat ≤ 70368744177664 then ((examboardref01_Shift.f k t495 (wrap64 (t506 - t507))).bind fun t511 => (examboardref01_DivMod.l0 k t492 (List.replicate (ji28 : Int).toNat 0) t511 (wrap64 (t506 - t507)))) else (none)) else (none)) = some (r1, r2, r3) := by first | (rw [hji28] at H; exact H) | (simp only [hji28] at H ⊢; exact H)
    (try rw [hji28] at A3)
    (try rw [hji28] at A4)
    (try rw [hji28] at A19)
    (try rw [hji28] at A20)
    have hji28w : (IntKind.i64.wrap ((wrap64 (Int.tdiv (wrap64 (t506 - t507)) 32)) + 1)) = ji28 := (i64_w _).trans hji28
    by_cases c29 : 0 ≤ (ji28)
    ·rw [if_pos c29] at H
     have c29b0 := eq_true c29
     have c29b1 : decide (0 ≤ (ji28)) = true := decide_eq_true c29
     clear c29
     by_cases c30 : (ji28 : Int).toNat ≤ 70368744177664
     ·rw [if_pos c30] at H
      have c30b0 := eq_true c30
      have c30b1 : decide ((ji28 : Int).toNat ≤ 70368744177664) = true := decide_eq_true c30
      clear c30
      obtain ⟨y508, hy508⟩ : ∃ y_ : List Int, y_ = (List.replicate (ji28 : Int).toNat 0) := ⟨_, rfl⟩
      replace H : ((examboardref01_Shift.f k t495 (wrap64 (t506 - t507))).bind fun t511 => (examboardref01_DivMod.l0 k t492 y508 t511 (wrap64 (t506 - t507)))) = some (r1, r2, r3) := by first | (rw [hy508]; with_reducible exact H) | (have H2_ := (Option.bind_some _ _).symm.trans H; rw [hy508]; with_reducible exact H2_) | (have H2_ := (Option.bind_some _ _).symm.trans H; with_reducible exact H2_) | with_reducible exact H | (rw [hy508]; exact H) | exact H
      have Ny508 := mk0 hy508
      clear hy508
      obtain ⟨t511, A31, H⟩ := bindA H
      have H' := mk0 H
      clear H
      go_enter Try.func88, Try.ntmps88
      go_wp2_with (first | ((with_reducible refine gate_callee (f := 89) rfl ?_); refine goA 14 Try.func89 #[.slice A0 l0.length c0] ?_; (with_reducible refine (examboardref01_Norm.calls k _ _ l0 t492 _ HR0.out HC0.out A3.out).mono ?_); rintro e w32 ⟨v493, rfl, ho0, hb⟩; refine ⟨_, rfl, ?_⟩; have HO494 := mk0 (Rl ho0 (bZ HB.out)); replace HB := hbS HB hb) | ((with_reducible refine gate_callee (f := 89) rfl ?_); refine goA 16 Try.func89 #[.slice A1 l1.length c1] ?_; (with_reducible refine (examboardref01_Norm.calls k _ _ l1 t495 _ (by exact Cb HR1.out HB.out) HC1.out A4.out).mono ?_); rintro e w33 ⟨v496, rfl, ho0, hb⟩; refine ⟨_, rfl, ?_⟩; have HO497 := mk0 (Rl (Rn ho0 (Rq HO494.out)) (bZ HB.out)); replace HO494 := mk0 (Re HO494.out (Rs ho0) hb); replace HB := hbS HB hb; obtain ⟨Ao34, co34, eo34⟩ := Kd.R_slice HO497.out; subst eo34; obtain ⟨Ao35, co35, eo35⟩ := Kd.R_slice HO494.out; subst eo35) | ((with_reducible refine gate_callee (f := 85) rfl ?_); refine goA 36 Try.func85 #[.slice Ao35 t492.length co35] ?_; (with_reducible refine (examboardref01_Bits.calls k _ _ t492 t506 _ (by exact (Kd.R_reads' HO494.out).2.2) (by exact (Kd.R_reads' HO494.out).2.1) A19.out).mono ?_); rintro e w36 ⟨rfl, hb⟩; refine ⟨_, rfl, ?_⟩; replace HO494 := rB HO494 hb; replace HO497 := rB HO497 hb; replace HB := hbS HB hb) | ((with_reducible refine gate_callee (f := 85) rfl ?_); refine goA 38 Try.func85 #[.slice Ao34 t495.length co34] ?_; (with_reducible refine (examboardref01_Bits.calls k _ _ t495 t507 _ (by exact (Kd.R_reads' HO497.out).2.2) (by exact (Kd.R_reads' HO497.out).2.1) A20.out).mono ?_); rintro e w37 ⟨rfl, hb⟩; refine ⟨_, rfl, ?_⟩; replace HO494 := rB HO494 hb; replace HO497 := rB HO497 hb; replace HB := hbS HB hb) | ((with_reducible refine gate_dst (N := 46) rfl ?_); refine Kd.R_make (Kd.int .u32) _ 87 rfl (N := 46) rfl 25 _ _ rfl ji28 rfl rfl Try.underlying25 (.int .u32 0) 4 info87 rfl (by decide) (by omega) 0 (ok := fun _ => True) (okp := fun _ => True) rfl (fun _ hk => hk) trivial (of_decide_eq_true (by assumption)) (Nat.le_trans (Nat.mul_le_mul_right _ (of_decide_eq_true (by assumption) : ji28.toNat ≤ 70368744177664)) (by omega)) (Below.refl _ _) (Nat.le_refl _) ?_; intro v509 w38 ho39 hb hg_ hnew_; clear hg_ hnew_; (first | rw [← Ny508.out] at ho39 | (simp only [Int.reduceToNat] at ho39; rw [← Ny508.out] at ho39)); have HO510 := mk0 (Rl (Rn (Rn ho39 (Rq HO494.out)) (Rq HO497.out)) (bZ HB.out)); replace HO494 := mk0 (Re HO494.out (Rs ho39) hb); replace HO497 := mk0 (Re HO497.out (Rs ho39) hb); replace HB := hbS HB hb; clear hb ho39) | ((with_reducible refine gate_callee (f := 115) rfl ?_); refine goA 49 Try.func115 #[.slice Ao34 t495.length co34, .int .i64 (wrap64 (t506 - t507))] ?_; (with_reducible refine (examboardref01_Shift.calls k _ _ t495 (wrap64 (t506 - t507)) t511 _ (by exact (Kd.R_reads' HO497.out).2.2) (by exact (Kd.R_reads' HO497.out).2.1) A31.out).mono ?_); rintro e w40 ⟨v512, rfl, ho0, hb⟩; refine ⟨_, rfl, ?_⟩; have HO513 := mk0 (Rl (Rn (Rn (Rn ho0 (Rq HO494.out)) (Rq HO497.out)) (Rq HO510.out)) (bZ HB.out)); replace HO494 := mk0 (Re HO494.out (Rs ho0) hb); replace HO497 := mk0 (Re HO497.out (Rs ho0) hb); replace HO510 := mk0 (Re HO510.out (Rs ho0) hb); replace HB := hbS HB hb))
      go_loopg [0, 11, 12] k (fun kq v0 v11 v12 w' => ∃ (x0_1 : List Int) (x10_1 : List Int) (x11_1 : List Int) (x12_1 : Int), v12 = .int .i64 x12_1 ∧ Aside0 (examboardref01_DivMod.l0 kq x0_1 x10_1 x11_1 x12_1 = some (r1, r2, r3)) ∧ Aside0 (kq ≤ k) ∧ Aside0 (Kd.R (Kd.int .u32) 87 w' w.heap.size (fun k_ => some k_ ≠ (v509 : Value).ownBlock ∧ some k_ ≠ (v11 : Value).ownBlock) v0 x0_1) ∧ Aside0 (Kd.R (Kd.int .u32) 87 w' w.heap.size (fun k_ => some k_ ≠ (v0 : Value).ownBlock ∧ some k_ ≠ (v11 : Value).ownBlock) v509 x10_1) ∧ Aside0 (Kd.R (Kd.int .u32) 87 w' w.heap.size (fun k_ => some k_ ≠ (v0 : Value).ownBlock ∧ some k_ ≠ (v509 : Value).ownBlock) v11 x11_1) ∧ Aside0 (Below w.heap.size w w'))
      case atStart => exact ⟨(t492), (y508), (t511), (wrap64 (t506 - t507)), (by first | rfl | (simp; done) | (simp [*]; done)), H', ⟨Nat.le_refl _⟩, ⟨Rm HO494.out (fun _ hk => ⟨hk.1.2, hk.2⟩)⟩, ⟨Rm HO510.out (fun _ hk => ⟨hk.1.1.2, hk.2⟩)⟩, ⟨Rm HO513.out (fun _ hk => ⟨hk.1.1.2, hk.2⟩)⟩, ⟨by repeat (first | exact HB.out | apply bN | apply b1 | apply bA)⟩⟩
      case round =>
       clear H'
       try clear c1
       try clear c2
       try clear p2
       try clear c3
       try clear p4
       try clear q4
       try clear hx4
       try clear qi4
       try clear c5
       try clear c5b0
       try clear c5b1
       try clear c5b2
       try clear p6
       try clear c8
       try clear c9
       try clear c9b0
       try clear c9b1
       try clear c10
       try clear c10b0
       try clear c10b1
       try clear c11
       try clear c21
       try clear c21b0
       try clear c29
       try clear c29b0
       try clear c29b1
       try clear c30
       try clear c30b0
       try clear c30b1
       try clear hx498_0
       try clear p498
       try clear q498
       obtain ⟨x0_1, x10_1, x11_1, x12_1, rfl, HA, HK1, HO_0, HO_10, HO_11, HB⟩ := hrel
       cases gk with
       | zero => exact absurd HA.out (by simp [examboardref01_DivMod.l0])
       | succ k1 =>
        have H := HA.out
        clear HA
        simp only [examboardref01_DivMod.l0] at H
        by_cases c41 : x12_1 ≥ 0
        ·rw [if_pos c41] at H
         have c41b0 : decide (0 ≤ x12_1) = true := decide_eq_true c41
         clear c41
         obtain ⟨t517, A42, H⟩ := bindA H
         by_cases c43 : t517 ≥ 0
         ·rw [if_pos c43] at H
          have c43b0 : decide (0 ≤ t517) = true := decide_eq_true c43
          clear c43
          obtain ⟨⟨t518, t519⟩, A44, H⟩ := bindA H
          obtain ⟨ji45, hji45⟩ : ∃ j_ : Int, (wrap64 (Int.tdiv x12_1 32)) = j_ := ⟨_, rfl⟩
          replace H : (if 0 ≤ (ji45) then (if (ji45) < (x10_1.length : Int) then (if 0 ≤ (IntKind.u64.wrap (Int.tmod x12_1 32)) then ((examboardref01_half.f k1 x11_1).bind fun t524 => (examboardref01_DivMod.l0 k1 t518 (x10_1.set ((ji45) : Int).toNat (Go.bits .or .u32 (rd x10_1 (ji45)) (shl .u32 1 (IntKind.u64.wrap (Int.tmod x12_1 32))))) t524 (wrap64 (x12_1 - 1)))) else (none)) else (none)) else (none)) = some (r1, r2, r3) := by first | (rw [hji45] at H; exact H) | (simp only [hji45] at H ⊢; exact H)
          (try rw [hji45] at A42)
          (try rw [hji45] at A44)
          have hji45w : (IntKind.i64.wrap (Int.tdiv x12_1 32)) = ji45 := (i64_w _).trans hji45
          by_cases c46 : 0 ≤ (ji45)
          ·rw [if_pos c46] at H
           have c46b0 : decide (0 ≤ (ji45)) = true := decide_eq_true c46
           clear c46
           by_cases c47 : (ji45) < (x10_1.length : Int)
           ·rw [if_pos c47] at H
            have c47b0 : decide ((ji45) < (x10_1.length : Int)) = true := decide_eq_true c47
            clear c47
            obtain ⟨ji48, hji48⟩ : ∃ j_ : Int, (IntKind.u64.wrap (Int.tmod x12_1 32)) = j_ := ⟨_, rfl⟩
            replace H : (if 0 ≤ (ji48) then ((examboardref01_half.f k1 x11_1).bind fun t524 => (examboardref01_DivMod.l0 k1 t518 (x10_1.set ((ji45) : Int).toNat (Go.bits .or .u32 (rd x10_1 (ji45)) (shl .u32 1 (ji48)))) t524 (wrap64 (x12_1 - 1)))) else (none)) = some (r1, r2, r3) := by first | (rw [hji48] at H; exact H) | (simp only [hji48] at H ⊢; exact H)
            (try rw [hji48] at A42)
            (try rw [hji48] at A44)
            by_cases c49 : 0 ≤ (ji48)
            ·rw [if_pos c49] at H
             have c49b0 := eq_true c49
             have c49b1 : decide (0 ≤ (ji48)) = true := decide_eq_true c49
             clear c49
             obtain ⟨ji50, hji50⟩ : ∃ j_ : Int, (shl .u32 1 (ji48)) = j_ := ⟨_, rfl⟩
             replace H : ((examboardref01_half.f k1 x11_1).bind fun t524 => (examboardref01_DivMod.l0 k1 t518 (x10_1.set ((ji45) : Int).toNat (Go.bits .or .u32 (rd x10_1 (ji45)) (ji50))) t524 (wrap64 (x12_1 - 1)))) = some (r1, r2, r3) := by first | (rw [hji50] at H; exact H) | (simp only [hji50] at H ⊢; exact H)
             (try rw [hji50] at A42)
             (try rw [hji50] at A44)
             have hji50_ : (IntKind.u32.wrap (1 * 2 ^ min (ji48).toNat 32)) = ji50 := hji50
             have hji50z : (ji48) ≤ 32 → (IntKind.u32.wrap (1 * 2 ^ (ji48).toNat)) = ji50 := shl_small hji50
             have hji50u : (IntKind.u32.wrap (2 ^ min (ji48).toNat 32)) = ji50 := by have h_ := hji50_; rw [Int.one_mul] at h_; exact h_
             have hji50v : (ji48) ≤ 32 → (IntKind.u32.wrap (2 ^ (ji48).toNat)) = ji50 := fun hle_ => by have h_ := hji50z hle_; rw [Int.one_mul] at h_; exact h_
             obtain ⟨y523, hy523⟩ : ∃ y_ : List Int, y_ = (x10_1.set ((ji45) : Int).toNat (Go.bits .or .u32 (rd x10_1 (ji45)) (ji50))) := ⟨_, rfl⟩
             replace H : ((examboardref01_half.f k1 x11_1).bind fun t524 => (examboardref01_DivMod.l0 k1 t518 y523 t524 (wrap64 (x12_1 - 1)))) = some (r1, r2, r3) := by first | (rw [hy523]; with_reducible exact H) | (have H2_ := (Option.bind_some _ _).symm.trans H; rw [hy523]; with_reducible exact H2_) | (have H2_ := (Option.bind_some _ _).symm.trans H; with_reducible exact H2_) | with_reducible exact H | (rw [hy523]; exact H) | exact H
             have Ny523 := mk0 hy523
             clear hy523
             obtain ⟨t524, A52, H⟩ := bindA H
             have H' := mk0 H
             clear H
             obtain ⟨Ao53, co53, eo53⟩ := Kd.R_slice HO_0.out
             subst eo53
             obtain ⟨Ao54, co54, eo54⟩ := Kd.R_slice HO_11.out
             subst eo54
             go_wp2_with (first | ((with_reducible refine gate_callee (f := 92) rfl ?_); refine goA 57 Try.func92 #[.slice Ao53 x0_1.length co53, .slice Ao54 x11_1.length co54] ?_; (with_reducible refine (examboardref01_Cmp.calls k1 _ _ x0_1 _ _ x11_1 t517 _ (by exact (Kd.R_reads' HO_0.out).2.2) (by exact (Kd.R_reads' HO_0.out).2.1) (by exact (Kd.R_reads' HO_11.out).2.2) (by exact (Kd.R_reads' HO_11.out).2.1) A42.out).mono ?_); rintro e w55 ⟨rfl, hb⟩; refine ⟨_, rfl, ?_⟩; replace HO_0 := rB HO_0 hb; replace HO_10 := rB HO_10 hb; replace HO_11 := rB HO_11 hb; replace HB := hbS HB hb) | ((with_reducible refine gate_callee (f := 116) rfl ?_); refine goA 62 Try.func116 #[.slice Ao53 x0_1.length co53, .slice Ao54 x11_1.length co54] ?_; (with_reducible refine (examboardref01_Sub.calls k1 _ _ x0_1 _ _ x11_1 t518 t519 _ (by exact (Kd.R_reads' HO_0.out).2.2) (by exact (Kd.R_reads' HO_0.out).2.1) (by exact (Kd.R_reads' HO_11.out).2.2) (by exact (Kd.R_reads' HO_11.out).2.1) A44.out).mono ?_); rintro e w56 ⟨v520, rfl, ho0, hb⟩; refine ⟨_, rfl, ?_⟩; have HO521 := mk0 (Rl (Rn (Rn (Rn ho0 (Rq HO_0.out)) (Rq HO_10.out)) (Rq HO_11.out)) (bZ HB.out)); replace HO_0 := mk0 (Re HO_0.out (Rs ho0) hb); replace HO_10 := mk0 (Re HO_10.out (Rs ho0) hb); replace HO_11 := mk0 (Re HO_11.out (Rs ho0) hb); replace HB := hbS HB hb; obtain ⟨Ao57, co57, eo57⟩ := Kd.R_slice HO_10.out; subst eo57; have p522 : 0 ≤ ((ji45) : Int) := of_decide_eq_true (by assumption); have q522 : (ji45) < (x10_1.length : Int) := of_decide_eq_true (by assumption); obtain ⟨ad522, e522, hx522_0⟩ := Kd.at_int (Kd.R_reads' HO_10.out).2.2 (ji45) p522 q522; cases e522; replace p522 := eq_true p522; replace q522 := eq_true q522; have p51 : 0 ≤ ((ji45) : Int) := of_decide_eq_true (by assumption); have q51 : ((ji45) : Int) < ((x10_1.length : Int) : Int) := of_decide_eq_true (by assumption); obtain ⟨go51, co51, eo51, gb51, gl51, cl51, HG51⟩ := Kd.R_form HO_10.out (by omega); (first | cases eo51 | (injection eo51 with ea_ en_ ec_; (first | subst ea_ | (injection ea_ with ea_; subst ea_)); subst ec_; clear en_)); have GB51 := mk0 gb51; have GG51 := mk0 HG51; clear gb51 gl51 HG51; (first | simp only [add_plain] at hx522_0 | skip); obtain ⟨hx51_0, hf51_0⟩ := Kd.R_celln 0 HO_10.out ((ji45) : Int) p51 q51; replace p51 := eq_true p51; replace q51 := eq_true q51; have n_ := mk0 (Rm (ok' := (fun k_ => some k_ ≠ (.slice Ao53 x0_1.length co53 : Value).ownBlock ∧ some k_ ≠ (.slice Ao54 x11_1.length co54 : Value).ownBlock ∧ some k_ ≠ (v520 : Value).ownBlock)) HO_10.out (fun k_ hk => ⟨hk.1.1, ⟨hk.1.2, hk.2⟩⟩)); clear HO_10; have HO_10 := n_; clear n_; obtain ⟨hy58_, hz58_⟩ := Kd.R_celln 0 HO_10.out ((ji45) : Int) (of_decide_eq_true (by assumption)) (of_decide_eq_true (by assumption)); have HP58 := Kd.R_putg HO_10.out ((ji45) : Int) (Go.bits .or .u32 (rd x10_1 (ji45)) (ji50))) | ((with_reducible refine gate_store (t := 87) (p := 78) rfl ?_); refine store_event (t := 87) (p := 78) (v := ?vo_w59) (w1 := (w56.setCell ⟨go51, ((ji45) : Int).toNat, none⟩ (.int .u32 (Go.bits .or .u32 (rd x10_1 (ji45)) (ji50))))) ?hg ?ho ?hn ?hr ?_; (case ho => rfl); (case hg => rfl); (case hn => rfl); (case hr => go_simp <;> rfl); intro w59 hw; have hg : w56.grownBy w59 (some go51) := (by rw [hw]; exact HP58.2); have hp_ : Kd.R (Kd.int .u32) 87 w59 w.heap.size (fun k_ => some k_ ≠ (.slice Ao53 x0_1.length co53 : Value).ownBlock ∧ some k_ ≠ (.slice Ao54 x11_1.length co54 : Value).ownBlock ∧ some k_ ≠ (v520 : Value).ownBlock) (.slice (some ⟨go51, 0, none⟩) x10_1.length co57) y523 := (by rw [hw, Ny523.out]; exact HP58.1); clear HP58; replace HO_0 := mk0 (Kd.R_after (v := (.slice (some ⟨go51, 0, none⟩) x10_1.length co57)) (v1 := (.slice (some ⟨go51, 0, none⟩) x10_1.length co57)) (ok := (fun k_ => some k_ ≠ (.slice Ao54 x11_1.length co54 : Value).ownBlock ∧ some k_ ≠ (v520 : Value).ownBlock)) (Rm HO_0.out (fun _ hk => ⟨⟨hk.1.2, hk.2⟩, hk.1.1⟩)) hg (.inl rfl)); replace HO_10 := mk0 (hp_); replace HO_11 := mk0 (Kd.R_after (v := (.slice (some ⟨go51, 0, none⟩) x10_1.length co57)) (v1 := (.slice (some ⟨go51, 0, none⟩) x10_1.length co57)) (ok := (fun k_ => some k_ ≠ (.slice Ao53 x0_1.length co53 : Value).ownBlock ∧ some k_ ≠ (v520 : Value).ownBlock)) (Rm HO_11.out (fun _ hk => ⟨⟨hk.1.1, hk.2⟩, hk.1.2⟩)) hg (.inl rfl)); replace HO521 := mk0 (Kd.R_after (v := (.slice (some ⟨go51, 0, none⟩) x10_1.length co57)) (v1 := (.slice (some ⟨go51, 0, none⟩) x10_1.length co57)) (ok := (fun k_ => some k_ ≠ (.slice Ao53 x0_1.length co53 : Value).ownBlock ∧ some k_ ≠ (.slice Ao54 x11_1.length co54 : Value).ownBlock)) (Rm HO521.out (fun _ hk => ⟨⟨hk.1.1.2, hk.2⟩, hk.1.2⟩)) hg (.inl rfl)); replace HB := mk0 ((by rw [hw]; exact bS (HB.out) GB51.out : Below w.heap.size w w59)); clear hg hw hp_) | ((with_reducible refine gate_callee (f := 117) rfl ?_); refine goA 80 Try.func117 #[.slice Ao54 x11_1.length co54] ?_; (with_reducible refine (examboardref01_half.calls k1 _ _ x11_1 t524 _ (by exact (Kd.R_reads' HO_11.out).2.2) (by exact (Kd.R_reads' HO_11.out).2.1) A52.out).mono ?_); rintro e w60 ⟨v525, rfl, ho0, hb⟩; refine ⟨_, rfl, ?_⟩; have HO526 := mk0 (Rl (Rn (Rn (Rn (Rn ho0 (Rq HO_0.out)) (Rq HO_10.out)) (Rq HO_11.out)) (Rq HO521.out)) (bZ HB.out)); replace HO_0 := mk0 (Re HO_0.out (Rs ho0) hb); replace HO_10 := mk0 (Re HO_10.out (Rs ho0) hb); replace HO_11 := mk0 (Re HO_11.out (Rs ho0) hb); replace HO521 := mk0 (Re HO521.out (Rs ho0) hb); replace HB := hbS HB hb))
             go_roundg k1
             case measure => have := HK1.out; omega
             case rel => exact ⟨(t518), (y523), (t524), (wrap64 (x12_1 - 1)), (by first | rfl | (simp; done) | (simp [*]; done)), H', ⟨by have := HK1.out; omega⟩, ⟨Rm HO521.out (fun _ hk => ⟨hk.1.2, hk.2⟩)⟩, ⟨Rm HO_10.out (fun _ hk => ⟨hk.1.2.2, hk.2⟩)⟩, ⟨Rm HO526.out (fun _ hk => ⟨hk.2, hk.1.1.2⟩)⟩, ⟨by repeat (first | exact HB.out | apply bN | apply b1 | apply bA)⟩⟩
            ·rw [if_neg c49] at H
             exact absurd H (by simp)
           ·rw [if_neg c47] at H
            exact absurd H (by simp)
          ·rw [if_neg c46] at H
           exact absurd H (by simp)
         ·rw [if_neg c43] at H
          have c43b0 : decide (0 ≤ t517) = false := decide_eq_false c43
          clear c43
          obtain ⟨t527, A61, H⟩ := bindA H
          have H' := mk0 H
          clear H
          obtain ⟨Ao62, co62, eo62⟩ := Kd.R_slice HO_0.out
          subst eo62
          obtain ⟨Ao63, co63, eo63⟩ := Kd.R_slice HO_11.out
          subst eo63
          go_wp2_with (first | ((with_reducible refine gate_callee (f := 92) rfl ?_); refine goA 57 Try.func92 #[.slice Ao62 x0_1.length co62, .slice Ao63 x11_1.length co63] ?_; (with_reducible refine (examboardref01_Cmp.calls k1 _ _ x0_1 _ _ x11_1 t517 _ (by exact (Kd.R_reads' HO_0.out).2.2) (by exact (Kd.R_reads' HO_0.out).2.1) (by exact (Kd.R_reads' HO_11.out).2.2) (by exact (Kd.R_reads' HO_11.out).2.1) A42.out).mono ?_); rintro e w64 ⟨rfl, hb⟩; refine ⟨_, rfl, ?_⟩; replace HO_0 := rB HO_0 hb; replace HO_10 := rB HO_10 hb; replace HO_11 := rB HO_11 hb; replace HB := hbS HB hb) | ((with_reducible refine gate_callee (f := 117) rfl ?_); refine goA 80 Try.func117 #[.slice Ao63 x11_1.length co63] ?_; (with_reducible refine (examboardref01_half.calls k1 _ _ x11_1 t527 _ (by exact (Kd.R_reads' HO_11.out).2.2) (by exact (Kd.R_reads' HO_11.out).2.1) A61.out).mono ?_); rintro e w65 ⟨v528, rfl, ho0, hb⟩; refine ⟨_, rfl, ?_⟩; have HO529 := mk0 (Rl (Rn (Rn (Rn ho0 (Rq HO_0.out)) (Rq HO_10.out)) (Rq HO_11.out)) (bZ HB.out)); replace HO_0 := mk0 (Re HO_0.out (Rs ho0) hb); replace HO_10 := mk0 (Re HO_10.out (Rs ho0) hb); replace HO_11 := mk0 (Re HO_11.out (Rs ho0) hb); replace HB := hbS HB hb))
          go_roundg k1
          case measure => have := HK1.out; omega
          case rel => exact ⟨(x0_1), (x10_1), (t527), (wrap64 (x12_1 - 1)), (by first | rfl | (simp; done) | (simp [*]; done)), H', ⟨by have := HK1.out; omega⟩, ⟨Rm HO_0.out (fun _ hk => ⟨hk.1.1, hk.2⟩)⟩, ⟨Rm HO_10.out (fun _ hk => ⟨hk.1.1, hk.2⟩)⟩, ⟨Rm HO529.out (fun _ hk => ⟨hk.1.1.2, hk.1.2⟩)⟩, ⟨by repeat (first | exact HB.out | apply bN | apply b1 | apply bA)⟩⟩
        ·rw [if_neg c41] at H
         have c41b0 : decide (0 ≤ x12_1) = false := decide_eq_false c41
         clear c41
         obtain ⟨t514, A66, H⟩ := bindA H
         simp only [Option.some.injEq, Prod.mk.injEq] at H
         obtain ⟨rfl, rfl, rfl⟩ := H
         obtain ⟨Ao67, co67, eo67⟩ := Kd.R_slice HO_10.out
         subst eo67
         go_wp2_with (first | ((with_reducible refine gate_callee (f := 89) rfl ?_); refine goA 82 Try.func89 #[.slice Ao67 x10_1.length co67] ?_; (with_reducible refine (examboardref01_Norm.calls k1 _ _ x10_1 t514 _ (by exact (Kd.R_reads' HO_10.out).2.2) (by exact (Kd.R_reads' HO_10.out).2.1) A66.out).mono ?_); rintro e w68 ⟨v515, rfl, ho0, hb⟩; refine ⟨_, rfl, ?_⟩; have HO516 := mk0 (Rl (Rn (Rn (Rn ho0 (Rq HO_0.out)) (Rq HO_10.out)) (Rq HO_11.out)) (bZ HB.out)); replace HO_0 := mk0 (Re HO_0.out (Rs ho0) hb); replace HO_10 := mk0 (Re HO_10.out (Rs ho0) hb); replace HO_11 := mk0 (Re HO_11.out (Rs ho0) hb); replace HB := hbS HB hb))
         go_ret3
         exact ⟨_, _, by first | rfl | (simp [errW_none, errW_some] <;> rfl) | (simp only [← hji28]; first | rfl | (simp [errW_none, errW_some] <;> rfl)) | (simp [*, errW_none, errW_some] <;> rfl), Rm HO516.out (fun _ hk => hk.1.1.2), Rm HO_0.out (fun _ hk => hk.2), by repeat (first | exact HB.out | apply bN | apply b1 | apply bA)⟩
     ·rw [if_neg c30] at H
      exact absurd H (by simp)
    ·rw [if_neg c29] at H
     exact absurd H (by simp)
set_option maxHeartbeats 8000000 in
set_option maxRecDepth 100000 in
theorem examboardref01_Gcd.calls (k : Nat) (A0 : Option Addr) (c0 : Nat) (l0 : List Int) (A1 : Option Addr) (c1 : Nat) (l1 : List Int) (r : List Int) (w : World) (hr0 : Kd.C (Kd.int .u32) w A0 l0.length l0) (hc0 : l0.length ≤ c0) (hr1 : Kd.C (Kd.int .u32) w A1 l1.length l1) (hc1 : l1.length ≤ c1) (h : examboardref01_Gcd.f k l0 l1 = some r) :
  Calls Try.prog 87 #[.slice A0 l0.length c0, .slice A1 l1.length c1] w fun e w' => ∃ v0_ : Value, e = .returned (v0_) ∧ Kd.R (Kd.int .u32) 87 w' w.heap.size (fun _ => True) v0_ r ∧ Below w.heap.size w w' := by
 have HR0 := mk0 hr0
 have HC0 := mk0 hc0
 clear hr0 hc0
 have HR1 := mk0 hr1
 have HC1 := mk0 hc1
 clear hr1 hc1
 have HB := mk0 (Below.refl w.heap.size w)
 have H : ((examboardref01_Norm.f k l0).bind fun t530 => ((examboardref01_Norm.f k l1).bind fun t533 => (examboardref01_Gcd.l0 k t530 t533))) = some r := h
 clear h
 obtain ⟨t530, A3, H⟩ := bindA H
 obtain ⟨t533, A4, H⟩ := bindA H
 have H' := mk0 H
 clear H
 go_enter Try.func87, Try.ntmps87
 go_wp2_with (first | ((with_reducible refine gate_callee (f := 89) rfl ?_); refine goA 9 Try.func89 #[.slice A0 l0.length c0] ?_; (with_reducible refine (examboardref01_Norm.calls k _ _ l0 t530 _ HR0.out HC0.out A3.out).mono ?_); rintro e w5 ⟨v531, rfl, ho0, hb⟩; refine ⟨_, rfl, ?_⟩; have HO532 := mk0 (Rl ho0 (bZ HB.out)); replace HB := hbS HB hb) | ((with_reducible refine gate_callee (f := 89) rfl ?_); refine goA 11 Try.func89 #[.slice A1 l1.length c1] ?_; (with_reducible refine (examboardref01_Norm.calls k _ _ l1 t533 _ (by exact Cb HR1.out HB.out) HC1.out A4.out).mono ?_); rintro e w6 ⟨v534, rfl, ho0, hb⟩; refine ⟨_, rfl, ?_⟩; have HO535 := mk0 (Rl (Rn ho0 (Rq HO532.out)) (bZ HB.out)); replace HO532 := mk0 (Re HO532.out (Rs ho0) hb); replace HB := hbS HB hb))
 go_loopg [0, 1] k (fun kq v0 v1 w' => ∃ (x0_1 : List Int) (x1_1 : List Int), Aside0 (examboardref01_Gcd.l0 kq x0_1 x1_1 = some r) ∧ Aside0 (kq ≤ k) ∧ Aside0 (Kd.R (Kd.int .u32) 87 w' w.heap.size (fun k_ => some k_ ≠ (v1 : Value).ownBlock) v0 x0_1) ∧ Aside0 (Kd.R (Kd.int .u32) 87 w' w.heap.size (fun k_ => some k_ ≠ (v0 : Value).ownBlock) v1 x1_1) ∧ Aside0 (Below w.heap.size w w'))
 case atStart => exact ⟨(t530), (t533), H', ⟨Nat.le_refl _⟩, ⟨Rm HO532.out (fun _ hk => hk.2)⟩, ⟨Rm HO535.out (fun _ hk => hk.2)⟩, ⟨by repeat (first | exact HB.out | apply bN | apply b1 | apply bA)⟩⟩
 case round =>
  clear H'
  try clear c1
  try clear p2
  obtain ⟨x0_1, x1_1, HA, HK1, HO_0, HO_1, HB⟩ := hrel
  cases gk with
  | zero => exact absurd HA.out (by simp [examboardref01_Gcd.l0])
  | succ k1 =>
   have H := HA.out
   clear HA
   simp only [examboardref01_Gcd.l0] at H
   by_cases c7 : (x1_1.length : Int) > 0
   ·rw [if_pos c7] at H
    have c7b0 : decide (0 < (x1_1.length : Int)) = true := decide_eq_true c7
    have c7b1 : decide (0 < x1_1.length) = true := decide_eq_true (by omega)
    clear c7
    obtain ⟨⟨t536, t537, t538⟩, A8, H⟩ := bindA H
    have H' := mk0 H
    clear H
    obtain ⟨Ao9, co9, eo9⟩ := Kd.R_slice HO_1.out
    subst eo9
    obtain ⟨Ao10, co10, eo10⟩ := Kd.R_slice HO_0.out
    subst eo10
    go_wp2_with (first | ((with_reducible refine gate_callee (f := 88) rfl ?_); refine goA 18 Try.func88 #[.slice Ao10 x0_1.length co10, .slice Ao9 x1_1.length co9] ?_; (with_reducible refine (examboardref01_DivMod.calls k1 _ _ x0_1 _ _ x1_1 t536 t537 t538 _ (by exact (Kd.R_reads' HO_0.out).2.2) (by exact (Kd.R_reads' HO_0.out).2.1) (by exact (Kd.R_reads' HO_1.out).2.2) (by exact (Kd.R_reads' HO_1.out).2.1) A8.out).mono ?_); rintro e w11 ⟨v539, v541, rfl, ho0, ho1, hb⟩; refine ⟨_, rfl, ?_⟩; have HO542 := mk0 (Rl (Rn (Rn ho1 (Rq HO_0.out)) (Rq HO_1.out)) (bZ HB.out)); replace HO_0 := mk0 (Rm (Kd.R_told (Kd.R_told (Kd.R_old HO_0.out hb) (Rs ho0)) (Rs ho1)) (fun _ h_ => h_.1)); replace HO_1 := mk0 (Rm (Kd.R_told (Kd.R_told (Kd.R_old HO_1.out hb) (Rs ho0)) (Rs ho1)) (fun _ h_ => h_.1)); replace HB := hbS HB hb))
    go_roundg k1
    case measure => have := HK1.out; omega
    case rel => exact ⟨(x1_1), (t537), H', ⟨by have := HK1.out; omega⟩, ⟨Rm HO_1.out (fun _ hk => hk.2)⟩, ⟨Rm HO542.out (fun _ hk => hk.2)⟩, ⟨by repeat (first | exact HB.out | apply bN | apply b1 | apply bA)⟩⟩
   ·rw [if_neg c7] at H
    have c7b0 : decide (0 < (x1_1.length : Int)) = false := decide_eq_false c7
    have c7b1 : decide (0 < x1_1.length) = false := decide_eq_false (by omega)
    clear c7
    obtain rfl := Option.some.inj H
    obtain ⟨Ao12, co12, eo12⟩ := Kd.R_slice HO_1.out
    subst eo12
    go_wp2
    go_ret
    exact ⟨_, by first | rfl | (simp [errW_none, errW_some] <;> rfl) | (simp [*, errW_none, errW_some] <;> rfl), Rm HO_0.out tv, by repeat (first | exact HB.out | apply bN | apply b1 | apply bA)⟩
set_option maxHeartbeats 8000000 in
set_option maxRecDepth 100000 in
theorem examboardref03_reduce.calls (k : Nat) (a0_0 : Bool) (A0_1 : Option Addr) (c0_1 : Nat) (l0_1 : List Int) (A1 : Option Addr) (c1 : Nat) (l1 : List Int) (r1 : Bool) (r2 : List Int) (r3 : List Int) (w : World) (hr0_1 : Kd.C (Kd.int .u32) w A0_1 l0_1.length l0_1) (hc0_1 : l0_1.length ≤ c0_1) (hr1 : Kd.C (Kd.int .u32) w A1 l1.length l1) (hc1 : l1.length ≤ c1) (h : examboardref03_reduce.f k a0_0 l0_1 l1 = some (r1, r2, r3)) :
  Calls Try.prog 57 #[.agg #[.bool a0_0, .slice A0_1 l0_1.length c0_1], .slice A1 l1.length c1] w fun e w' => ∃ v1_ v2_ : Value, e = .returned (.agg #[.bool r1, v1_, v2_]) ∧ Kd.R (Kd.int .u32) 87 w' w.heap.size (fun k_ => some k_ ≠ (v2_ : Value).ownBlock) v1_ r2 ∧ Kd.R (Kd.int .u32) 87 w' w.heap.size (fun k_ => some k_ ≠ (v1_ : Value).ownBlock) v2_ r3 ∧ Below w.heap.size w w' := by
 have hu27 := Try.underlying27
 have hu29 := Try.underlying29
 have HR0_1 := mk0 hr0_1
 have HC0_1 := mk0 hc0_1
 clear hr0_1 hc0_1
 have HR1 := mk0 hr1
 have HC1 := mk0 hc1
 clear hr1 hc1
 have HB := mk0 (Below.refl w.heap.size w)
 have H : ((examboardref02_Norm.f k a0_0 l0_1).bind fun bt545 => ((examboardref01_Bits.f k bt545.2).bind fun t550 => (if t550 = 0 then ((examboardref03_zero.f k).bind fun bt551 => (some (bt551.1, bt551.2.1, bt551.2.2))) else ((examboardref01_Gcd.f k bt545.2 l1).bind fun t558 => ((examboardref01_DivMod.f k bt545.2 t558).bind fun bt561 => ((examboardref01_DivMod.f k l1 t558).bind fun bt568 => ((examboardref02_Make.f k bt545.1 bt561.1).bind fun bt575 => (some (bt575.1, bt575.2, bt568.1))))))))) = some (r1, r2, r3) := h
 clear h
 obtain ⟨⟨t545, t546⟩, A3, H⟩ := bindA H
 obtain ⟨t550, A4, H⟩ := bindA H
 by_cases c5 : t550 = 0
 ·rw [if_pos c5] at H
  have c5b0 : (t550 == 0) = true := beq_iff_eq.mpr c5
  have c5b1 : (t550 != 0) = false := bne_eq_false_iff_eq.mpr c5
  clear c5
  obtain ⟨⟨t551, t552, t555⟩, A6, H⟩ := bindA H
  simp only [Option.some.injEq, Prod.mk.injEq] at H
  obtain ⟨rfl, rfl, rfl⟩ := H
  go_enter Try.func57, Try.ntmps57
  go_wp2_with (first | ((with_reducible refine gate_dst (N := 2) rfl ?_); refine box_event rfl (N := 2) rfl (cs := #[.bool a0_0, .slice A0_1 l0_1.length c0_1]) (t := 27) (by go_simp <;> rfl) ?_; intro gb543 hg w7 hbox hb; have BK543 := mk0 (hbox); have GE543 := geB hg HB; replace HB := hbS HB hb; clear hb hbox hg) | ((with_reducible refine gate_dst (N := 4) rfl ?_); refine box_event rfl (N := 4) rfl (cs := #[.bool false, .slice none 0 0, .slice none 0 0]) (t := 29) (by go_simp <;> rfl) ?_; intro gb544 hg w8 hbox hb; have BK544 := mk0 (hbox); have GE544 := geB hg HB; replace HB := hbS HB hb; have NB543_544 := nbA hg BK543; have NB544_543 := nbB hg BK543; replace BK543 := bkB BK543 hb; clear hb hbox hg; have hnb9 := NB543_544.out; have hnc9 := NB544_543.out; obtain ⟨hcz10_0, hcz10_1, hfz10_0, hfz10_1⟩ := cz2 BK543) | ((with_reducible refine gate_callee (f := 84) rfl ?_); refine goA 14 Try.func84 #[.agg #[.bool a0_0, .slice A0_1 l0_1.length c0_1]] ?_; (with_reducible refine (examboardref02_Norm.calls k a0_0 _ _ l0_1 t545 t546 _ (by exact Cb HR0_1.out HB.out) HC0_1.out A3.out).mono ?_); rintro e w11 ⟨v547, rfl, ho0, hb⟩; refine ⟨_, rfl, ?_⟩; have HO548 := mk0 (Rl ho0 (bZ HB.out)); replace BK543 := bkB BK543 hb; replace BK544 := bkB BK544 hb; replace HB := hbS HB hb) | ((with_reducible refine gate_dst (N := 5) rfl ?_); refine box_event rfl (N := 5) rfl (cs := #[.bool false, .slice none 0 0]) (t := 27) (by go_simp <;> rfl) ?_; intro gb549 hg w12 hbox hb; replace HO548 := rB HO548 hb; have BK549 := mk0 (hbox); have GE549 := geB hg HB; replace HB := hbS HB hb; have NB543_549 := nbA hg BK543; have NB549_543 := nbB hg BK543; replace BK543 := bkB BK543 hb; have NB544_549 := nbA hg BK544; have NB549_544 := nbB hg BK544; replace BK544 := bkB BK544 hb; clear hb hbox hg; have hnb13 := NB549_543.out; have hnc13 := NB543_549.out; have hnb14 := NB549_544.out; have hnc14 := NB544_549.out; obtain ⟨hcz15_0, hcz15_1, hfz15_0, hfz15_1⟩ := cz2 BK549; obtain ⟨Ao16, co16, eo16⟩ := Kd.R_slice HO548.out; subst eo16) | ((with_reducible refine gate_callee (f := 85) rfl ?_); refine goA 17 Try.func85 #[.slice Ao16 t546.length co16] ?_; (with_reducible refine (examboardref01_Bits.calls k _ _ t546 t550 _ (by refine (Kd.R_reads' (e := 87) (base := w.heap.size) (ok := fun k_ => True) (n := t546.length) (c := co16) ?_).2.2; exact ((Rm (Rf (p := ⟨gb549, 1, none⟩) (Rf (p := ⟨gb549, 0, none⟩) (Rt HO548.out BK549.out (by decide)) (fun _ hk => hk.2) (.bool t545)) (fun _ hk => hk.2) (.slice Ao16 t546.length co16)) (fun _ h_ => h_.1)))) (by exact (Kd.R_reads' HO548.out).2.1) A4.out).mono ?_); rintro e w17 ⟨rfl, hb⟩; refine ⟨_, rfl, ?_⟩; replace HO548 := mk0 (Rb ((Rm (Rf (p := ⟨gb549, 1, none⟩) (Rf (p := ⟨gb549, 0, none⟩) (Rt HO548.out BK549.out (by decide)) (fun _ hk => hk.2) (.bool t545)) (fun _ hk => hk.2) (.slice Ao16 t546.length co16)) (fun _ h_ => h_.1))) hb); replace BK543 := mk0 (blk_below (g := gb543) (o := .cells #[.bool a0_0, .slice A0_1 l0_1.length c0_1] 27 (0, 0)) (by refine blk_far ?_ NB543_549.out _; refine blk_far ?_ NB543_549.out _; exact BK543.out) hb); replace BK544 := mk0 (blk_below (g := gb544) (o := .cells #[.bool false, .slice none 0 0, .slice none 0 0] 29 (0, 0)) (by refine blk_far ?_ NB544_549.out _; refine blk_far ?_ NB544_549.out _; exact BK544.out) hb); replace BK549 := mk0 (blk_below (g := gb549) (o := .cells #[.bool t545, .slice Ao16 t546.length co16] 27 (0, 0)) (by refine blk_put (cs := #[.bool t545, .slice none 0 0]) ?_ 1 _ rfl; refine blk_put (cs := #[.bool false, .slice none 0 0]) ?_ 0 _ rfl; exact BK549.out) hb); replace HB := mk0 (below_step (by repeat (first | exact HB.out | refine bS ?_ GE544.out | refine bS ?_ GE549.out)) hb)) | ((with_reducible refine gate_callee (f := 86) rfl ?_); refine goA 19 Try.func86 #[] ?_; (with_reducible refine (examboardref03_zero.calls k  t551 t552 t555 _ A6.out).mono ?_); rintro e w18 ⟨v553, v556, rfl, ho0, ho1, hb⟩; refine ⟨_, rfl, ?_⟩; have HO554 := mk0 (Rl (Rn ho0 (Rq HO548.out)) (bZ HB.out)); have HO557 := mk0 (Rl (Rn ho1 (Rq HO548.out)) (bZ HB.out)); replace HO548 := mk0 (Rm (Kd.R_told (Kd.R_told (Kd.R_old HO548.out hb) (Rs ho0)) (Rs ho1)) (fun _ h_ => h_.1)); replace BK543 := bkB BK543 hb; replace BK544 := bkB BK544 hb; replace BK549 := bkB BK549 hb; replace HB := hbS HB hb; obtain ⟨hcz19_0, hcz19_1, hcz19_2, hfz19_0, hfz19_1, hfz19_2⟩ := cz3 BK544; obtain ⟨Ao20, co20, eo20⟩ := Kd.R_slice HO554.out; subst eo20; obtain ⟨Ao21, co21, eo21⟩ := Kd.R_slice HO557.out; subst eo21))
  refine bodyPost_ret (results_cell_row rfl _ _ gb544 29 #[.bool t551, .slice Ao20 t552.length co20, .slice Ao21 t555.length co21] (0, 0) _ rfl (by refine blk_put (cs := #[.bool t551, .slice Ao20 t552.length co20, .slice none 0 0]) ?_ 2 _ rfl; refine blk_put (cs := #[.bool t551, .slice none 0 0, .slice none 0 0]) ?_ 1 _ rfl; refine blk_put (cs := #[.bool false, .slice none 0 0, .slice none 0 0]) ?_ 0 _ rfl; exact BK544.out) Try.underlying29 rfl (by kernel_rfl)) rfl ?_
  exact ⟨_, _, by first | rfl | (simp [errW_none, errW_some] <;> rfl) | (simp [*, errW_none, errW_some] <;> rfl), Rm (Rf (p := ⟨gb544, 2, none⟩) (Rf (p := ⟨gb544, 1, none⟩) (Rf (p := ⟨gb544, 0, none⟩) (Rt HO554.out BK544.out (by decide)) (fun _ hk => hk.2) (.bool t551)) (fun _ hk => hk.2) (.slice Ao20 t552.length co20)) (fun _ hk => hk.2) (.slice Ao21 t555.length co21)) (fun _ hk => hk.1.1), Rm (Rf (p := ⟨gb544, 2, none⟩) (Rf (p := ⟨gb544, 1, none⟩) (Rf (p := ⟨gb544, 0, none⟩) (Rt HO557.out BK544.out (by decide)) (fun _ hk => hk.2) (.bool t551)) (fun _ hk => hk.2) (.slice Ao20 t552.length co20)) (fun _ hk => hk.2) (.slice Ao21 t555.length co21)) (fun _ hk => hk.1.1), by repeat (first | exact HB.out | apply bN | apply b1 | apply bA | refine bS ?_ GE543.out | refine bS ?_ GE544.out | refine bS ?_ GE549.out)⟩
 ·rw [if_neg c5] at H
  have c5b0 : (t550 == 0) = false := beq_eq_false_iff_ne.mpr c5
  have c5b1 : (t550 != 0) = true := bne_iff_ne.mpr c5
  obtain ⟨t558, A22, H⟩ := bindA H
  obtain ⟨⟨t561, t562, t563⟩, A23, H⟩ := bindA H
  obtain ⟨⟨t568, t569, t570⟩, A24, H⟩ := bindA H
  obtain ⟨⟨t575, t576⟩, A25, H⟩ := bindA H
  simp only [Option.some.injEq, Prod.mk.injEq] at H
  obtain ⟨rfl, rfl, rfl⟩ := H
  go_enter Try.func57, Try.ntmps57
  go_wp2_with (first | ((with_reducible refine gate_dst (N := 2) rfl ?_); refine box_event rfl (N := 2) rfl (cs := #[.bool a0_0, .slice A0_1 l0_1.length c0_1]) (t := 27) (by go_simp <;> rfl) ?_; intro gb543 hg w26 hbox hb; have BK543 := mk0 (hbox); have GE543 := geB hg HB; replace HB := hbS HB hb; clear hb hbox hg) | ((with_reducible refine gate_dst (N := 4) rfl ?_); refine box_event rfl (N := 4) rfl (cs := #[.bool false, .slice none 0 0, .slice none 0 0]) (t := 29) (by go_simp <;> rfl) ?_; intro gb544 hg w27 hbox hb; have BK544 := mk0 (hbox); have GE544 := geB hg HB; replace HB := hbS HB hb; have NB543_544 := nbA hg BK543; have NB544_543 := nbB hg BK543; replace BK543 := bkB BK543 hb; clear hb hbox hg; have hnb28 := NB543_544.out; have hnc28 := NB544_543.out; obtain ⟨hcz29_0, hcz29_1, hfz29_0, hfz29_1⟩ := cz2 BK543) | ((with_reducible refine gate_callee (f := 84) rfl ?_); refine goA 14 Try.func84 #[.agg #[.bool a0_0, .slice A0_1 l0_1.length c0_1]] ?_; (with_reducible refine (examboardref02_Norm.calls k a0_0 _ _ l0_1 t545 t546 _ (by exact Cb HR0_1.out HB.out) HC0_1.out A3.out).mono ?_); rintro e w30 ⟨v547, rfl, ho0, hb⟩; refine ⟨_, rfl, ?_⟩; have HO548 := mk0 (Rl ho0 (bZ HB.out)); replace BK543 := bkB BK543 hb; replace BK544 := bkB BK544 hb; replace HB := hbS HB hb) | ((with_reducible refine gate_dst (N := 5) rfl ?_); refine box_event rfl (N := 5) rfl (cs := #[.bool false, .slice none 0 0]) (t := 27) (by go_simp <;> rfl) ?_; intro gb549 hg w31 hbox hb; replace HO548 := rB HO548 hb; have BK549 := mk0 (hbox); have GE549 := geB hg HB; replace HB := hbS HB hb; have NB543_549 := nbA hg BK543; have NB549_543 := nbB hg BK543; replace BK543 := bkB BK543 hb; have NB544_549 := nbA hg BK544; have NB549_544 := nbB hg BK544; replace BK544 := bkB BK544 hb; clear hb hbox hg; have hnb32 := NB549_543.out; have hnc32 := NB543_549.out; have hnb33 := NB549_544.out; have hnc33 := NB544_549.out; obtain ⟨hcz34_0, hcz34_1, hfz34_0, hfz34_1⟩ := cz2 BK549; obtain ⟨Ao35, co35, eo35⟩ := Kd.R_slice HO548.out; subst eo35) | ((with_reducible refine gate_callee (f := 85) rfl ?_); refine goA 17 Try.func85 #[.slice Ao35 t546.length co35] ?_; (with_reducible refine (examboardref01_Bits.calls k _ _ t546 t550 _ (by refine (Kd.R_reads' (e := 87) (base := w.heap.size) (ok := fun k_ => True) (n := t546.length) (c := co35) ?_).2.2; exact ((Rm (Rf (p := ⟨gb549, 1, none⟩) (Rf (p := ⟨gb549, 0, none⟩) (Rt HO548.out BK549.out (by decide)) (fun _ hk => hk.2) (.bool t545)) (fun _ hk => hk.2) (.slice Ao35 t546.length co35)) (fun _ h_ => h_.1)))) (by exact (Kd.R_reads' HO548.out).2.1) A4.out).mono ?_); rintro e w36 ⟨rfl, hb⟩; refine ⟨_, rfl, ?_⟩; replace HO548 := mk0 (Rb ((Rm (Rf (p := ⟨gb549, 1, none⟩) (Rf (p := ⟨gb549, 0, none⟩) (Rt HO548.out BK549.out (by decide)) (fun _ hk => hk.2) (.bool t545)) (fun _ hk => hk.2) (.slice Ao35 t546.length co35)) (fun _ h_ => h_.1))) hb); replace BK543 := mk0 (blk_below (g := gb543) (o := .cells #[.bool a0_0, .slice A0_1 l0_1.length c0_1] 27 (0, 0)) (by refine blk_far ?_ NB543_549.out _; refine blk_far ?_ NB543_549.out _; exact BK543.out) hb); replace BK544 := mk0 (blk_below (g := gb544) (o := .cells #[.bool false, .slice none 0 0, .slice none 0 0] 29 (0, 0)) (by refine blk_far ?_ NB544_549.out _; refine blk_far ?_ NB544_549.out _; exact BK544.out) hb); replace BK549 := mk0 (blk_below (g := gb549) (o := .cells #[.bool t545, .slice Ao35 t546.length co35] 27 (0, 0)) (by refine blk_put (cs := #[.bool t545, .slice none 0 0]) ?_ 1 _ rfl; refine blk_put (cs := #[.bool false, .slice none 0 0]) ?_ 0 _ rfl; exact BK549.out) hb); replace HB := mk0 (below_step (by repeat (first | exact HB.out | refine bS ?_ GE544.out | refine bS ?_ GE549.out)) hb); obtain ⟨hcz37_0, hcz37_1, hfz37_0, hfz37_1⟩ := cz2 BK549) | ((with_reducible refine gate_callee (f := 87) rfl ?_); refine goA 23 Try.func87 #[.slice Ao35 t546.length co35, .slice A1 l1.length c1] ?_; (with_reducible refine (examboardref01_Gcd.calls k _ _ t546 _ _ l1 t558 _ (by exact (Kd.R_reads' HO548.out).2.2) (by exact (Kd.R_reads' HO548.out).2.1) (by exact Cb HR1.out HB.out) HC1.out A22.out).mono ?_); rintro e w38 ⟨v559, rfl, ho0, hb⟩; refine ⟨_, rfl, ?_⟩; have HO560 := mk0 (Rl (Rn ho0 (Rq HO548.out)) (bZ HB.out)); replace HO548 := mk0 (Re HO548.out (Rs ho0) hb); replace BK543 := bkB BK543 hb; replace BK544 := bkB BK544 hb; replace BK549 := bkB BK549 hb; replace HB := hbS HB hb; obtain ⟨hcz39_0, hcz39_1, hfz39_0, hfz39_1⟩ := cz2 BK549; obtain ⟨Ao40, co40, eo40⟩ := Kd.R_slice HO560.out; subst eo40) | ((with_reducible refine gate_callee (f := 88) rfl ?_); refine goA 28 Try.func88 #[.slice Ao35 t546.length co35, .slice Ao40 t558.length co40] ?_; (with_reducible refine (examboardref01_DivMod.calls k _ _ t546 _ _ t558 t561 t562 t563 _ (by exact (Kd.R_reads' HO548.out).2.2) (by exact (Kd.R_reads' HO548.out).2.1) (by exact (Kd.R_reads' HO560.out).2.2) (by exact (Kd.R_reads' HO560.out).2.1) A23.out).mono ?_); rintro e w41 ⟨v564, v566, rfl, ho0, ho1, hb⟩; refine ⟨_, rfl, ?_⟩; have HO565 := mk0 (Rl (Rn (Rn ho0 (Rq HO548.out)) (Rq HO560.out)) (bZ HB.out)); have HO567 := mk0 (Rl (Rn (Rn ho1 (Rq HO548.out)) (Rq HO560.out)) (bZ HB.out)); replace HO548 := mk0 (Rm (Kd.R_told (Kd.R_told (Kd.R_old HO548.out hb) (Rs ho0)) (Rs ho1)) (fun _ h_ => h_.1)); replace HO560 := mk0 (Rm (Kd.R_told (Kd.R_told (Kd.R_old HO560.out hb) (Rs ho0)) (Rs ho1)) (fun _ h_ => h_.1)); replace BK543 := bkB BK543 hb; replace BK544 := bkB BK544 hb; replace BK549 := bkB BK549 hb; replace HB := hbS HB hb) | ((with_reducible refine gate_callee (f := 88) rfl ?_); refine goA 35 Try.func88 #[.slice A1 l1.length c1, .slice Ao40 t558.length co40] ?_; (with_reducible refine (examboardref01_DivMod.calls k _ _ l1 _ _ t558 t568 t569 t570 _ (by exact Cb HR1.out HB.out) HC1.out (by exact (Kd.R_reads' HO560.out).2.2) (by exact (Kd.R_reads' HO560.out).2.1) A24.out).mono ?_); rintro e w42 ⟨v571, v573, rfl, ho0, ho1, hb⟩; refine ⟨_, rfl, ?_⟩; have HO572 := mk0 (Rl (Rn (Rn (Rn (Rn ho0 (Rq HO548.out)) (Rq HO560.out)) (Rq HO565.out)) (Rq HO567.out)) (bZ HB.out)); have HO574 := mk0 (Rl (Rn (Rn (Rn (Rn ho1 (Rq HO548.out)) (Rq HO560.out)) (Rq HO565.out)) (Rq HO567.out)) (bZ HB.out)); replace HO548 := mk0 (Rm (Kd.R_told (Kd.R_told (Kd.R_old HO548.out hb) (Rs ho0)) (Rs ho1)) (fun _ h_ => h_.1)); replace HO560 := mk0 (Rm (Kd.R_told (Kd.R_told (Kd.R_old HO560.out hb) (Rs ho0)) (Rs ho1)) (fun _ h_ => h_.1)); replace HO565 := mk0 (Rm (Kd.R_told (Kd.R_told (Kd.R_old HO565.out hb) (Rs ho0)) (Rs ho1)) (fun _ h_ => h_.1)); replace HO567 := mk0 (Rm (Kd.R_told (Kd.R_told (Kd.R_old HO567.out hb) (Rs ho0)) (Rs ho1)) (fun _ h_ => h_.1)); replace BK543 := bkB BK543 hb; replace BK544 := bkB BK544 hb; replace BK549 := bkB BK549 hb; replace HB := hbS HB hb; obtain ⟨hcz43_0, hcz43_1, hfz43_0, hfz43_1⟩ := cz2 BK549; obtain ⟨Ao44, co44, eo44⟩ := Kd.R_slice HO565.out; subst eo44) | ((with_reducible refine gate_callee (f := 62) rfl ?_); refine goA 42 Try.func62 #[.bool t545, .slice Ao44 t561.length co44] ?_; (with_reducible refine (examboardref02_Make.calls k t545 _ _ t561 t575 t576 _ (by exact (Kd.R_reads' HO565.out).2.2) (by exact (Kd.R_reads' HO565.out).2.1) A25.out).mono ?_); rintro e w45 ⟨v577, rfl, ho0, hb⟩; refine ⟨_, rfl, ?_⟩; have HO578 := mk0 (Rl (Rn (Rn (Rn (Rn (Rn (Rn ho0 (Rq HO548.out)) (Rq HO560.out)) (Rq HO565.out)) (Rq HO567.out)) (Rq HO572.out)) (Rq HO574.out)) (bZ HB.out)); replace HO548 := mk0 (Re HO548.out (Rs ho0) hb); replace HO560 := mk0 (Re HO560.out (Rs ho0) hb); replace HO565 := mk0 (Re HO565.out (Rs ho0) hb); replace HO567 := mk0 (Re HO567.out (Rs ho0) hb); replace HO572 := mk0 (Re HO572.out (Rs ho0) hb); replace HO574 := mk0 (Re HO574.out (Rs ho0) hb); replace BK543 := bkB BK543 hb; replace BK544 := bkB BK544 hb; replace BK549 := bkB BK549 hb; replace HB := hbS HB hb; obtain ⟨Ao46, co46, eo46⟩ := Kd.R_slice HO572.out; subst eo46; obtain ⟨Ao47, co47, eo47⟩ := Kd.R_slice HO578.out; subst eo47; obtain ⟨hcz48_0, hcz48_1, hcz48_2, hfz48_0, hfz48_1, hfz48_2⟩ := cz3 BK544))
  refine bodyPost_ret (results_cell_row rfl _ _ gb544 29 #[.bool t575, .slice Ao47 t576.length co47, .slice Ao46 t568.length co46] (0, 0) _ rfl (by refine blk_put (cs := #[.bool t575, .slice Ao47 t576.length co47, .slice none 0 0]) ?_ 2 _ rfl; refine blk_put (cs := #[.bool t575, .slice none 0 0, .slice none 0 0]) ?_ 1 _ rfl; refine blk_put (cs := #[.bool false, .slice none 0 0, .slice none 0 0]) ?_ 0 _ rfl; exact BK544.out) Try.underlying29 rfl (by kernel_rfl)) rfl ?_
  exact ⟨_, _, by first | rfl | (simp [errW_none, errW_some] <;> rfl) | (simp [*, errW_none, errW_some] <;> rfl), Rm (Rf (p := ⟨gb544, 2, none⟩) (Rf (p := ⟨gb544, 1, none⟩) (Rf (p := ⟨gb544, 0, none⟩) (Rt HO578.out BK544.out (by decide)) (fun _ hk => hk.2) (.bool t575)) (fun _ hk => hk.2) (.slice Ao47 t576.length co47)) (fun _ hk => hk.2) (.slice Ao46 t568.length co46)) (fun _ hk => hk.1.1.2), Rm (Rf (p := ⟨gb544, 2, none⟩) (Rf (p := ⟨gb544, 1, none⟩) (Rf (p := ⟨gb544, 0, none⟩) (Rt HO572.out BK544.out (by decide)) (fun _ hk => hk.2) (.bool t575)) (fun _ hk => hk.2) (.slice Ao47 t576.length co47)) (fun _ hk => hk.2) (.slice Ao46 t568.length co46)) (fun _ hk => hk.1.2), by repeat (first | exact HB.out | apply bN | apply b1 | apply bA | refine bS ?_ GE543.out | refine bS ?_ GE544.out | refine bS ?_ GE549.out)⟩
def examboardref01_Mul.T9 : Bool × List (List Nat × List Nat) := (true, [([], []), ([], []), ([], []), ([1, 2], [1, 2]), ([0, 3], [0, 3]), ([4], [4]), ([5], [5]), ([], []), ([], []), ([7, 8], [7, 8]), ([9], [9]), ([10], [10]), ([], []), ([], []), ([12, 13], [12, 13]), ([14], [14]), ([15], [15]), ([11, 16], [11, 16]), ([6, 17], [6, 17]), ([], []), ([18, 19], [18, 19]), ([20, 0, 1, 2, 3, 4, 5, 6, 7, 8, 9, 10, 11, 12, 13, 14, 15, 16, 17, 18, 19, 20], [20])])
def examboardref01_Mul.B9 : List Nat := [0, 0, 0, 6, 15, 31, 63, 0, 0, 384, 896, 1920, 0, 0, 12288, 28672, 61440, 130944, 262143, 0, 1048575, 2097151]
theorem examboardref01_Mul.tab9 : rtab .any (opsOf Try.f60 9) = examboardref01_Mul.T9 := by kernel_rfl
theorem examboardref01_Mul.bits9 : waitsOk examboardref01_Mul.T9.2 examboardref01_Mul.B9 = true := by kernel_rfl
set_option maxHeartbeats 8000000 in
set_option maxRecDepth 100000 in
theorem examboardref01_Mul.calls (k : Nat) (A0 : Option Addr) (c0 : Nat) (l0 : List Int) (A1 : Option Addr) (c1 : Nat) (l1 : List Int) (r : List Int) (w : World) (hr0 : Kd.C (Kd.int .u32) w A0 l0.length l0) (hc0 : l0.length ≤ c0) (hr1 : Kd.C (Kd.int .u32) w A1 l1.length l1) (hc1 : l1.length ≤ c1) (h : examboardref01_Mul.f k l0 l1 = some r) :
  Calls Try.prog 60 #[.slice A0 l0.length c0, .slice A1 l1.length c1] w fun e w' => ∃ v0_ : Value, e = .returned (v0_) ∧ Kd.R (Kd.int .u32) 87 w' w.heap.size (fun _ => True) v0_ r ∧ Below w.heap.size w w' := by
 have HR0 := mk0 hr0
 have HC0 := mk0 hc0
 clear hr0 hc0
 have HR1 := mk0 hr1
 have HC1 := mk0 hc1
 clear hr1 hc1
 have HB := mk0 (Below.refl w.heap.size w)
 have H : (if 0 ≤ (wrap64 ((l0.length : Int) + (l1.length : Int))) then (if (wrap64 ((l0.length : Int) + (l1.length : Int)) : Int).toNat ≤ 70368744177664 then (examboardref01_Mul.l0 k l0 l1 (List.replicate (wrap64 ((l0.length : Int) + (l1.length : Int)) : Int).toNat 0) 0) else (none)) else (none)) = some r := h
 clear h
 obtain ⟨ji3, hji3⟩ : ∃ j_ : Int, (wrap64 ((l0.length : Int) + (l1.length : Int))) = j_ := ⟨_, rfl⟩
 replace H : (if 0 ≤ (ji3) then (if (ji3 : Int).toNat ≤ 70368744177664 then (examboardref01_Mul.l0 k l0 l1 (List.replicate (ji3 : Int).toNat 0) 0) else (none)) else (none)) = some r := by first | (rw [hji3] at H; exact H) | (simp only [hji3] at H ⊢; exact H)
 have hji3w : (IntKind.i64.wrap ((l0.length : Int) + (l1.length : Int))) = ji3 := (i64_w _).trans hji3
 by_cases c4 : 0 ≤ (ji3)
 ·rw [if_pos c4] at H
  have c4b0 := eq_true c4
  have c4b1 : decide (0 ≤ (ji3)) = true := decide_eq_true c4
  clear c4
  by_cases c5 : (ji3 : Int).toNat ≤ 70368744177664
  ·rw [if_pos c5] at H
   have c5b0 := eq_true c5
   have c5b1 : decide ((ji3 : Int).toNat ≤ 70368744177664) = true := decide_eq_true c5
   clear c5
   obtain ⟨y579, hy579⟩ : ∃ y_ : List Int, y_ = (List.replicate (ji3 : Int).toNat 0) := ⟨_, rfl⟩
   replace H : (examboardref01_Mul.l0 k l0 l1 y579 0) = some r := by first | (rw [hy579]; with_reducible exact H) | (have H2_ := (Option.bind_some _ _).symm.trans H; rw [hy579]; with_reducible exact H2_) | (have H2_ := (Option.bind_some _ _).symm.trans H; with_reducible exact H2_) | with_reducible exact H | (rw [hy579]; exact H) | exact H
   have Ny579 := mk0 hy579
   clear hy579
   have H' := mk0 H
   clear H
   go_enter Try.func60, Try.ntmps60
   go_wp2_with (first | ((with_reducible refine gate_dst (N := 15) rfl ?_); refine Kd.R_make (Kd.int .u32) _ 87 rfl (N := 15) rfl 25 _ _ rfl ji3 rfl rfl Try.underlying25 (.int .u32 0) 4 info87 rfl (by decide) (by omega) 0 (ok := fun _ => True) (okp := fun _ => True) rfl (fun _ hk => hk) trivial (of_decide_eq_true (by assumption)) (Nat.le_trans (Nat.mul_le_mul_right _ (of_decide_eq_true (by assumption) : ji3.toNat ≤ 70368744177664)) (by omega)) (Below.refl _ _) (Nat.le_refl _) ?_; intro v580 w6 ho7 hb hg_ hnew_; clear hg_ hnew_; (first | rw [← Ny579.out] at ho7 | (simp only [Int.reduceToNat] at ho7; rw [← Ny579.out] at ho7)); have HO581 := mk0 (Rl ho7 (bZ HB.out)); replace HB := hbS HB hb; clear hb ho7))
   go_loopg [6] k (fun kq v6 w' => ∃ (x5_1 : List Int) (x6_1 : Int), v6 = .int .i64 x6_1 ∧ Aside0 (examboardref01_Mul.l0 kq l0 l1 x5_1 x6_1 = some r) ∧ Aside0 (kq ≤ k) ∧ Aside0 (Kd.R (Kd.int .u32) 87 w' w.heap.size (fun _ => True) v580 x5_1) ∧ Aside0 (Below w.heap.size w w'))
   case atStart => exact ⟨(y579), (0), (by first | rfl | (simp; done) | (simp [*]; done)), H', ⟨Nat.le_refl _⟩, ⟨HO581.out⟩, ⟨by repeat (first | exact HB.out | apply bN | apply b1 | apply bA)⟩⟩
   case round =>
    clear H'
    try clear c1
    try clear p2
    try clear c4
    try clear c4b0
    try clear c4b1
    try clear c5
    try clear c5b0
    try clear c5b1
    try clear c6
    try clear p6
    obtain ⟨x5_1, x6_1, rfl, HA, HK1, HO_5, HB⟩ := hrel
    cases gk with
    | zero => exact absurd HA.out (by simp [examboardref01_Mul.l0])
    | succ k1 =>
     have H := HA.out
     clear HA
     simp only [examboardref01_Mul.l0] at H
     by_cases c8 : x6_1 < (l0.length : Int)
     ·rw [if_pos c8] at H
      have c8b0 : decide (x6_1 < (l0.length : Int)) = true := decide_eq_true c8
      clear c8
      have H' := mk0 H
      clear H
      go_wp2
      go_loopg [7, 8] k1 (fun kq v7 v8 w' => ∃ (x5_2 : List Int) (x7_2 : Int) (x8_2 : Int), v7 = .int .u64 x7_2 ∧ v8 = .int .i64 x8_2 ∧ Aside0 (examboardref01_Mul.l1 kq l0 l1 x5_2 x6_1 x7_2 x8_2 = some r) ∧ Aside0 (kq ≤ k1) ∧ Aside0 (Kd.R (Kd.int .u32) 87 w' w.heap.size (fun _ => True) v580 x5_2) ∧ Aside0 (Below w.heap.size w w'))
      case atStart => exact ⟨(x5_1), (0), (0), (by first | rfl | (simp; done) | (simp [*]; done)), (by first | rfl | (simp; done) | (simp [*]; done)), H', ⟨Nat.le_refl _⟩, ⟨HO_5.out⟩, ⟨by repeat (first | exact HB.out | apply bN | apply b1 | apply bA)⟩⟩
      case round =>
       clear H'
       try clear c1
       try clear p2
       try clear c4
       try clear c4b0
       try clear c4b1
       try clear c5
       try clear c5b0
       try clear c5b1
       try clear c6
       try clear p6
       try clear c8
       try clear c8b0
       try clear p2
       try clear p6
       obtain ⟨x5_2, x7_2, x8_2, rfl, rfl, HA, HK2, HO_5, HB⟩ := hrel
       cases gk with
       | zero => exact absurd HA.out (by simp [examboardref01_Mul.l1])
       | succ k2 =>
        have H := HA.out
        clear HA
        simp only [examboardref01_Mul.l1] at H
        by_cases c9 : x8_2 < (l1.length : Int)
        ·rw [if_pos c9] at H
         have c9b0 : decide (x8_2 < (l1.length : Int)) = true := decide_eq_true c9
         clear c9
         obtain ⟨ji10, hji10⟩ : ∃ j_ : Int, (wrap64 (x6_1 + x8_2)) = j_ := ⟨_, rfl⟩
         replace H : (if 0 ≤ (ji10) then (if (ji10) < (x5_2.length : Int) then (if 0 ≤ x6_1 then (if x6_1 < (l0.length : Int) then (if 0 ≤ x8_2 then (examboardref01_Mul.l1 k2 l0 l1 (x5_2.set ((ji10) : Int).toNat ((IntKind.u64.wrap ((IntKind.u64.wrap ((IntKind.u64.wrap (rd x5_2 (ji10))) + (IntKind.u64.wrap ((IntKind.u64.wrap (rd l0 x6_1)) * (IntKind.u64.wrap (rd l1 x8_2)))))) + x7_2)) % 4294967296)) x6_1 ((IntKind.u64.wrap ((IntKind.u64.wrap ((IntKind.u64.wrap (rd x5_2 (ji10))) + (IntKind.u64.wrap ((IntKind.u64.wrap (rd l0 x6_1)) * (IntKind.u64.wrap (rd l1 x8_2)))))) + x7_2)) / 4294967296) (wrap64 (x8_2 + 1))) else (none)) else (none)) else (none)) else (none)) else (none)) = some r := by first | (rw [hji10] at H; exact H) | (simp only [hji10] at H ⊢; exact H)
         have hji10w : (IntKind.i64.wrap (x6_1 + x8_2)) = ji10 := (i64_w _).trans hji10
         by_cases c11 : 0 ≤ (ji10)
         ·rw [if_pos c11] at H
          have c11b0 : decide (0 ≤ (ji10)) = true := decide_eq_true c11
          clear c11
          by_cases c12 : (ji10) < (x5_2.length : Int)
          ·rw [if_pos c12] at H
           have c12b0 : decide ((ji10) < (x5_2.length : Int)) = true := decide_eq_true c12
           clear c12
           by_cases c13 : 0 ≤ x6_1
           ·rw [if_pos c13] at H
            have c13b0 : decide (0 ≤ x6_1) = true := decide_eq_true c13
            clear c13
            by_cases c14 : x6_1 < (l0.length : Int)
            ·rw [if_pos c14] at H
             have c14b0 : decide (x6_1 < (l0.length : Int)) = true := decide_eq_true c14
             clear c14
             by_cases c15 : 0 ≤ x8_2
             ·rw [if_pos c15] at H
              have c15b0 : decide (0 ≤ x8_2) = true := decide_eq_true c15
              clear c15
              obtain ⟨y588, hy588⟩ : ∃ y_ : List Int, y_ = (x5_2.set ((ji10) : Int).toNat ((IntKind.u64.wrap ((IntKind.u64.wrap ((IntKind.u64.wrap (rd x5_2 (ji10))) + (IntKind.u64.wrap ((IntKind.u64.wrap (rd l0 x6_1)) * (IntKind.u64.wrap (rd l1 x8_2)))))) + x7_2)) % 4294967296)) := ⟨_, rfl⟩
              replace H : (examboardref01_Mul.l1 k2 l0 l1 y588 x6_1 ((IntKind.u64.wrap ((IntKind.u64.wrap ((IntKind.u64.wrap (rd x5_2 (ji10))) + (IntKind.u64.wrap ((IntKind.u64.wrap (rd l0 x6_1)) * (IntKind.u64.wrap (rd l1 x8_2)))))) + x7_2)) / 4294967296) (wrap64 (x8_2 + 1))) = some r := by first | (rw [hy588]; with_reducible exact H) | (have H2_ := (Option.bind_some _ _).symm.trans H; rw [hy588]; with_reducible exact H2_) | (have H2_ := (Option.bind_some _ _).symm.trans H; with_reducible exact H2_) | with_reducible exact H | (rw [hy588]; exact H) | exact H
              have Ny588 := mk0 hy588
              clear hy588
              have H' := mk0 H
              clear H
              try go_wp2
              replace HO_5 := mk0 (Kd.R_drew HO_5.out)
              replace HB := mk0 (b1 HB.out)
              obtain ⟨Ao18, co18, eo18⟩ := Kd.R_slice HO_5.out
              (first | subst eo18 | (injection eo18 with f1_ f2_ f3_; have f4_ := f1_.symm; have f5_ := f3_.symm; clear f1_ f2_ f3_; subst f4_; subst f5_))
              have p585 : 0 ≤ ((ji10) : Int) := of_decide_eq_true (by assumption)
              have q585 : (ji10) < (x5_2.length : Int) := of_decide_eq_true (by assumption)
              obtain ⟨ad585, e585, hx585_0⟩ := Kd.at_int (Kd.R_reads' HO_5.out).2.2 (ji10) p585 q585
              cases e585
              replace p585 := eq_true p585
              replace q585 := eq_true q585
              have p586 : 0 ≤ (x6_1 : Int) := of_decide_eq_true (by assumption)
              have q586 : x6_1 < (l0.length : Int) := of_decide_eq_true (by assumption)
              obtain ⟨ad586, e586, hx586_0⟩ := Kd.at_int HR0.out x6_1 p586 q586
              have hw586_0 := hx586_0
              cases e586
              replace hx586_0 := (HB.out.cell (World.block_lt_of_cell? w _ hx586_0)).trans hx586_0
              replace p586 := eq_true p586
              replace q586 := eq_true q586
              have p587 : 0 ≤ (x8_2 : Int) := of_decide_eq_true (by assumption)
              have q587 : x8_2 < (l1.length : Int) := of_decide_eq_true (by assumption)
              obtain ⟨ad587, e587, hx587_0⟩ := Kd.at_int HR1.out x8_2 p587 q587
              have hw587_0 := hx587_0
              cases e587
              replace hx587_0 := (HB.out.cell (World.block_lt_of_cell? w _ hx587_0)).trans hx587_0
              replace p587 := eq_true p587
              replace q587 := eq_true q587
              refine start_ (n := 22) (S := fun w' => w'.cell? (ad585.add ((ji10)).toNat) = some (.int .u32 (rd x5_2 (ji10))) ∧ w'.cell? (ad586.add (x6_1).toNat) = some (.int .u32 (rd l0 x6_1)) ∧ w'.cell? (ad587.add (x8_2).toNat) = some (.int .u32 (rd l1 x8_2))) (ds := []) (bv 22 0) (by kernel_rfl) rfl rfl ⟨hx585_0, ((HB.out.cell (World.block_lt_of_cell? w _ hw586_0)).trans hw586_0), ((HB.out.cell (World.block_lt_of_cell? w _ hw587_0)).trans hw587_0)⟩ (fun hHeld => ?_); refine with_tabW examboardref01_Mul.tab9 examboardref01_Mul.bits9 (fun HT_ HW_ => ?_)
              generalize wr.drew = w17 at HO_5 HB hx585_0 hx586_0 hx587_0 hHeld ⊢
              refine puA (i := 0) (N := 28) (v := ?_) (a' := ?_) (bv 22 1) HT_ ?_ ?_ ?_; rotate_left; (intro w'; go_simp; with_reducible rfl); rotate_left; (simp only [Act.put, sA, sZ, sS, i64_w, i32_w]; rfl)
              refine puA (i := 1) (N := 29) (v := ?_) (a' := ?_) (bv 22 3) HT_ ?_ ?_ ?_; rotate_left; (intro w'; go_simp; with_reducible rfl); rotate_left; (simp only [Act.put, sA, sZ, sS, i64_w, i32_w]; rfl)
              refine puA (i := 2) (N := 30) (v := ?_) (a' := ?_) (bv 22 7) HT_ ?_ ?_ ?_; rotate_left; (intro w'; go_simp; with_reducible rfl); rotate_left; (simp only [Act.put, sA, sZ, sS, i64_w, i32_w]; rfl)
              refine puA (i := 3) (N := 31) (v := ?_) (a' := ?_) (bv 22 15) HT_ ?_ ?_ ?_; rotate_left; (intro w'; go_simp; with_reducible rfl); rotate_left; (simp only [Act.put, sA, sZ, sS, i64_w, i32_w]; rfl)
              refine puA (i := 4) (N := 32) (v := ?_) (a' := ?_) (bv 22 31) HT_ ?_ ?_ ?_; rotate_left; (intro w'; go_simp; with_reducible rfl); rotate_left; (simp only [Act.put, sA, sZ, sS, i64_w, i32_w]; rfl)
              refine puA (i := 7) (N := 35) (v := ?_) (a' := ?_) (bv 22 159) HT_ ?_ ?_ ?_; rotate_left; (intro w'; go_simp; with_reducible rfl); rotate_left; (simp only [Act.put, sA, sZ, sS, i64_w, i32_w]; rfl)
              refine puA (i := 8) (N := 36) (v := ?_) (a' := ?_) (bv 22 415) HT_ ?_ ?_ ?_; rotate_left; (intro w'; go_simp; with_reducible rfl); rotate_left; (simp only [Act.put, sA, sZ, sS, i64_w, i32_w]; rfl)
              refine puA (i := 9) (N := 37) (v := ?_) (a' := ?_) (bv 22 927) HT_ ?_ ?_ ?_; rotate_left; (intro w'; go_simp; with_reducible rfl); rotate_left; (simp only [Act.put, sA, sZ, sS, i64_w, i32_w]; rfl)
              refine puA (i := 12) (N := 40) (v := ?_) (a' := ?_) (bv 22 5023) HT_ ?_ ?_ ?_; rotate_left; (intro w'; go_simp; with_reducible rfl); rotate_left; (simp only [Act.put, sA, sZ, sS, i64_w, i32_w]; rfl)
              refine puA (i := 13) (N := 41) (v := ?_) (a' := ?_) (bv 22 13215) HT_ ?_ ?_ ?_; rotate_left; (intro w'; go_simp; with_reducible rfl); rotate_left; (simp only [Act.put, sA, sZ, sS, i64_w, i32_w]; rfl)
              refine puA (i := 14) (N := 42) (v := ?_) (a' := ?_) (bv 22 29599) HT_ ?_ ?_ ?_; rotate_left; (intro w'; go_simp; with_reducible rfl); rotate_left; (simp only [Act.put, sA, sZ, sS, i64_w, i32_w]; rfl)
              refine puA (i := 19) (N := 47) (v := ?_) (a' := ?_) (bv 22 553887) HT_ ?_ ?_ ?_; rotate_left; (intro w'; go_simp; with_reducible rfl); rotate_left; (simp only [Act.put, sA, sZ, sS, i64_w, i32_w]; rfl)
              refine take_ (i := 5) (N := some 33) (v := ?_) (a' := ?_) (bv 22 553919) rfl rfl (take_ofW HT_.out HW_.out (by kernel_rfl)) (fun _ _ _ h => h) (Or.inl ⟨by rfl, ?_⟩) hHeld ?_ ?_; rotate_left; (rintro w' ⟨s0, s1, s2⟩; go_simp; with_reducible rfl); rotate_left; (simp only [Act.put, sA, sZ, sS, i64_w, i32_w]; rfl)
              refine puA (i := 6) (N := 34) (v := ?_) (a' := ?_) (bv 22 553983) HT_ ?_ ?_ ?_; rotate_left; (intro w'; go_simp; with_reducible rfl); rotate_left; (simp only [Act.put, sA, sZ, sS, i64_w, i32_w]; rfl)
              refine take_ (i := 10) (N := some 38) (v := ?_) (a' := ?_) (bv 22 555007) rfl rfl (take_ofW HT_.out HW_.out (by kernel_rfl)) (fun _ _ _ h => h) (Or.inl ⟨by rfl, ?_⟩) hHeld ?_ ?_; rotate_left; (rintro w' ⟨s0, s1, s2⟩; go_simp; with_reducible rfl); rotate_left; (simp only [Act.put, sA, sZ, sS, i64_w, i32_w]; rfl)
              refine puA (i := 11) (N := 39) (v := ?_) (a' := ?_) (bv 22 557055) HT_ ?_ ?_ ?_; rotate_left; (intro w'; go_simp; with_reducible rfl); rotate_left; (simp only [Act.put, sA, sZ, sS, i64_w, i32_w]; rfl)
              refine take_ (i := 15) (N := some 43) (v := ?_) (a' := ?_) (bv 22 589823) rfl rfl (take_ofW HT_.out HW_.out (by kernel_rfl)) (fun _ _ _ h => h) (Or.inl ⟨by rfl, ?_⟩) hHeld ?_ ?_; rotate_left; (rintro w' ⟨s0, s1, s2⟩; go_simp; with_reducible rfl); rotate_left; (simp only [Act.put, sA, sZ, sS, i64_w, i32_w]; rfl)
              refine puA (i := 16) (N := 44) (v := ?_) (a' := ?_) (bv 22 655359) HT_ ?_ ?_ ?_; rotate_left; (intro w'; go_simp; with_reducible rfl); rotate_left; (simp only [Act.put, sA, sZ, sS, i64_w, i32_w]; rfl)
              refine puA (i := 17) (N := 45) (v := ?_) (a' := ?_) (bv 22 786431) HT_ ?_ ?_ ?_; rotate_left; (intro w'; go_simp; with_reducible rfl); rotate_left; (simp only [Act.put, sA, sZ, sS, i64_w, i32_w]; rfl)
              refine puA (i := 18) (N := 46) (v := ?_) (a' := ?_) (bv 22 1048575) HT_ ?_ ?_ ?_; rotate_left; (intro w'; go_simp; with_reducible rfl); rotate_left; (simp only [Act.put, sA, sZ, sS, i64_w, i32_w]; rfl)
              refine puA (i := 20) (N := 48) (v := ?_) (a' := ?_) (bv 22 2097151) HT_ ?_ ?_ ?_; rotate_left; (intro w'; go_simp; with_reducible rfl); rotate_left; (simp only [Act.put, sA, sZ, sS, i64_w, i32_w]; rfl)
              refine puA (i := 21) (N := 9) (v := ?_) (a' := ?_) (bv 22 4194303) HT_ ?_ ?_ ?_; rotate_left; (intro w'; go_simp; with_reducible rfl); rotate_left; (simp only [Act.put, sA, sZ, sS, i64_w, i32_w]; rfl)
              refine done_ (done_of HT_.out (by kernel_rfl)) ?_
              have p16 : 0 ≤ ((ji10) : Int) := of_decide_eq_true (by assumption)
              have q16 : ((ji10) : Int) < ((x5_2.length : Int) : Int) := of_decide_eq_true (by assumption)
              obtain ⟨go16, co16, eo16, gb16, gl16, cl16, HG16⟩ := Kd.R_form HO_5.out (by omega)
              (first | cases eo16 | (injection eo16 with ea_ en_ ec_; (first | subst ea_ | (injection ea_ with ea_; subst ea_)); subst ec_; clear en_))
              have GB16 := mk0 gb16
              have GG16 := mk0 HG16
              clear gb16 gl16 HG16
              (first | simp only [add_plain] at hx585_0 | skip)
              obtain ⟨hx16_0, hf16_0⟩ := Kd.R_celln 0 HO_5.out ((ji10) : Int) p16 q16
              replace p16 := eq_true p16
              replace q16 := eq_true q16
              obtain ⟨hy19_, hz19_⟩ := Kd.R_celln 0 HO_5.out ((ji10) : Int) (of_decide_eq_true (by assumption)) (of_decide_eq_true (by assumption))
              have HP19 := Kd.R_putg HO_5.out ((ji10) : Int) ((IntKind.u64.wrap ((IntKind.u64.wrap ((IntKind.u64.wrap (rd x5_2 (ji10))) + (IntKind.u64.wrap ((IntKind.u64.wrap (rd l0 x6_1)) * (IntKind.u64.wrap (rd l1 x8_2)))))) + x7_2)) % 4294967296)
              try go_wp2_with (first | ((with_reducible refine gate_store (t := 87) (p := 55) rfl ?_); refine store_event (t := 87) (p := 55) (v := ?vo_w20) (w1 := (w17.setCell ⟨go16, ((ji10) : Int).toNat, none⟩ (.int .u32 ((IntKind.u64.wrap ((IntKind.u64.wrap ((IntKind.u64.wrap (rd x5_2 (ji10))) + (IntKind.u64.wrap ((IntKind.u64.wrap (rd l0 x6_1)) * (IntKind.u64.wrap (rd l1 x8_2)))))) + x7_2)) % 4294967296)))) ?hg ?ho ?hn ?hr ?_; (case ho => rfl); (case hg => rfl); (case hn => rfl); (case hr => go_simp <;> rfl); intro w20 hw; have hg : w17.grownBy w20 (some go16) := (by rw [hw]; exact HP19.2); have hp_ : Kd.R (Kd.int .u32) 87 w20 w.heap.size (fun _ => True) (.slice (some ⟨go16, 0, none⟩) x5_2.length co18) y588 := (by rw [hw, Ny588.out]; exact HP19.1); clear HP19; replace HO_5 := mk0 (hp_); replace HB := mk0 ((by rw [hw]; exact bS (HB.out) GB16.out : Below w.heap.size w w20)); clear hg hw hp_))
              go_roundg k2
              case measure => have := HK1.out; have := HK2.out; omega
              case rel => exact ⟨(y588), ((IntKind.u64.wrap ((IntKind.u64.wrap ((IntKind.u64.wrap (rd x5_2 (ji10))) + (IntKind.u64.wrap ((IntKind.u64.wrap (rd l0 x6_1)) * (IntKind.u64.wrap (rd l1 x8_2)))))) + x7_2)) / 4294967296), (wrap64 (x8_2 + 1)), (by first | rfl | (simp; done) | (simp only [← hji10] <;> (first | rfl | simp)) | (simp [*]; done)), (by first | rfl | (simp; done) | (simp [*]; done)), H', ⟨by have := HK1.out; have := HK2.out; omega⟩, ⟨HO_5.out⟩, ⟨by repeat (first | exact HB.out | apply bN | apply b1 | apply bA)⟩⟩
             ·rw [if_neg c15] at H
              exact absurd H (by simp)
            ·rw [if_neg c14] at H
             exact absurd H (by simp)
           ·rw [if_neg c13] at H
            exact absurd H (by simp)
          ·rw [if_neg c12] at H
           exact absurd H (by simp)
         ·rw [if_neg c11] at H
          exact absurd H (by simp)
        ·rw [if_neg c9] at H
         have c9b0 : decide (x8_2 < (l1.length : Int)) = false := decide_eq_false c9
         clear c9
         obtain ⟨ji21, hji21⟩ : ∃ j_ : Int, (wrap64 (x6_1 + (l1.length : Int))) = j_ := ⟨_, rfl⟩
         replace H : (if 0 ≤ (ji21) then (if (ji21) < (x5_2.length : Int) then (examboardref01_Mul.l0 k2 l0 l1 (x5_2.set ((ji21) : Int).toNat ((x7_2) % 4294967296)) (wrap64 (x6_1 + 1))) else (none)) else (none)) = some r := by first | (rw [hji21] at H; exact H) | (simp only [hji21] at H ⊢; exact H)
         have hji21w : (IntKind.i64.wrap (x6_1 + (l1.length : Int))) = ji21 := (i64_w _).trans hji21
         by_cases c22 : 0 ≤ (ji21)
         ·rw [if_pos c22] at H
          have c22b0 : decide (0 ≤ (ji21)) = true := decide_eq_true c22
          clear c22
          by_cases c23 : (ji21) < (x5_2.length : Int)
          ·rw [if_pos c23] at H
           have c23b0 : decide ((ji21) < (x5_2.length : Int)) = true := decide_eq_true c23
           clear c23
           obtain ⟨y589, hy589⟩ : ∃ y_ : List Int, y_ = (x5_2.set ((ji21) : Int).toNat ((x7_2) % 4294967296)) := ⟨_, rfl⟩
           replace H : (examboardref01_Mul.l0 k2 l0 l1 y589 (wrap64 (x6_1 + 1))) = some r := by first | (rw [hy589]; with_reducible exact H) | (have H2_ := (Option.bind_some _ _).symm.trans H; rw [hy589]; with_reducible exact H2_) | (have H2_ := (Option.bind_some _ _).symm.trans H; with_reducible exact H2_) | with_reducible exact H | (rw [hy589]; exact H) | exact H
           have Ny589 := mk0 hy589
           clear hy589
           have H' := mk0 H
           clear H
           have p24 : 0 ≤ ((ji21) : Int) := of_decide_eq_true (by assumption)
           have q24 : ((ji21) : Int) < ((x5_2.length : Int) : Int) := of_decide_eq_true (by assumption)
           obtain ⟨go24, co24, eo24, gb24, gl24, cl24, HG24⟩ := Kd.R_form HO_5.out (by omega)
           (first | cases eo24 | (injection eo24 with ea_ en_ ec_; (first | subst ea_ | (injection ea_ with ea_; subst ea_)); subst ec_; clear en_))
           have GB24 := mk0 gb24
           have GG24 := mk0 HG24
           clear gb24 gl24 HG24
           obtain ⟨hx24_0, hf24_0⟩ := Kd.R_celln 0 HO_5.out ((ji21) : Int) p24 q24
           replace p24 := eq_true p24
           replace q24 := eq_true q24
           have HP25 := Kd.R_putg HO_5.out ((ji21) : Int) ((x7_2) % 4294967296)
           go_wp2_with (first | ((with_reducible refine gate_store (t := 87) (p := 65) rfl ?_); refine store_event (t := 87) (p := 65) (v := ?vo_w26) (w1 := (wr.setCell ⟨go24, ((ji21) : Int).toNat, none⟩ (.int .u32 ((x7_2) % 4294967296)))) ?hg ?ho ?hn ?hr ?_; (case ho => rfl); (case hg => rfl); (case hn => rfl); (case hr => go_simp <;> rfl); intro w26 hw; have hg : wr.grownBy w26 (some go24) := (by rw [hw]; exact HP25.2); have hp_ : Kd.R (Kd.int .u32) 87 w26 w.heap.size (fun _ => True) (.slice (some ⟨go24, 0, none⟩) x5_2.length co24) y589 := (by rw [hw, Ny589.out]; exact HP25.1); clear HP25; replace HO_5 := mk0 (hp_); replace HB := mk0 ((by rw [hw]; exact bS (HB.out) GB24.out : Below w.heap.size w w26)); clear hg hw hp_))
           go_roundg k2
           case measure => have := HK1.out; have := HK2.out; omega
           case rel => exact ⟨(y589), (wrap64 (x6_1 + 1)), (by first | rfl | (simp; done) | (simp [*]; done)), H', ⟨by have := HK1.out; have := HK2.out; omega⟩, ⟨HO_5.out⟩, ⟨by repeat (first | exact HB.out | apply bN | apply b1 | apply bA)⟩⟩
          ·rw [if_neg c23] at H
           exact absurd H (by simp)
         ·rw [if_neg c22] at H
          exact absurd H (by simp)
     ·rw [if_neg c8] at H
      have c8b0 : decide (x6_1 < (l0.length : Int)) = false := decide_eq_false c8
      clear c8
      obtain ⟨t582, A27, H⟩ := bindA H
      obtain rfl := Option.some.inj H
      obtain ⟨Ao28, co28, eo28⟩ := Kd.R_slice HO_5.out
      subst eo28
      go_wp2_with (first | ((with_reducible refine gate_callee (f := 89) rfl ?_); refine goA 67 Try.func89 #[.slice Ao28 x5_1.length co28] ?_; (with_reducible refine (examboardref01_Norm.calls k1 _ _ x5_1 t582 _ (by exact (Kd.R_reads' HO_5.out).2.2) (by exact (Kd.R_reads' HO_5.out).2.1) A27.out).mono ?_); rintro e w29 ⟨v583, rfl, ho0, hb⟩; refine ⟨_, rfl, ?_⟩; have HO584 := mk0 (Rl (Rn ho0 (Rq HO_5.out)) (bZ HB.out)); replace HO_5 := mk0 (Re HO_5.out (Rs ho0) hb); replace HB := hbS HB hb))
      go_ret
      exact ⟨_, by first | rfl | (simp [errW_none, errW_some] <;> rfl) | (simp only [← hji3]; first | rfl | (simp [errW_none, errW_some] <;> rfl)) | (simp [*, errW_none, errW_some] <;> rfl), Rm HO584.out tv, by repeat (first | exact HB.out | apply bN | apply b1 | apply bA)⟩
  ·rw [if_neg c5] at H
   exact absurd H (by simp)
 ·rw [if_neg c4] at H
  exact absurd H (by simp)
def examboardref02_Mul.T1 : Bool × List (List Nat × List Nat) := (true, [([], []), ([0], [0]), ([], []), ([2], [2]), ([1, 3], [1, 3]), ([], []), ([5], [5]), ([], []), ([7], [7]), ([6, 8], [6, 8]), ([4, 9, 9], [4, 9]), ([10, 10, 0, 1, 2, 3, 4, 5, 6, 7, 8, 9, 10], [10])])
def examboardref02_Mul.B1 : List Nat := [0, 1, 0, 4, 15, 0, 32, 0, 128, 480, 1023, 2047]
theorem examboardref02_Mul.tab1 : rtab .any (opsOf Try.f58 1) = examboardref02_Mul.T1 := by kernel_rfl
theorem examboardref02_Mul.bits1 : waitsOk examboardref02_Mul.T1.2 examboardref02_Mul.B1 = true := by kernel_rfl
set_option maxHeartbeats 8000000 in
set_option maxRecDepth 100000 in
theorem examboardref02_Mul.calls (k : Nat) (a0_0 : Bool) (A0_1 : Option Addr) (c0_1 : Nat) (l0_1 : List Int) (a1_0 : Bool) (A1_1 : Option Addr) (c1_1 : Nat) (l1_1 : List Int) (r1 : Bool) (r2 : List Int) (w : World) (hr0_1 : Kd.C (Kd.int .u32) w A0_1 l0_1.length l0_1) (hc0_1 : l0_1.length ≤ c0_1) (hr1_1 : Kd.C (Kd.int .u32) w A1_1 l1_1.length l1_1) (hc1_1 : l1_1.length ≤ c1_1) (h : examboardref02_Mul.f k a0_0 l0_1 a1_0 l1_1 = some (r1, r2)) :
  Calls Try.prog 58 #[.agg #[.bool a0_0, .slice A0_1 l0_1.length c0_1], .agg #[.bool a1_0, .slice A1_1 l1_1.length c1_1]] w fun e w' => ∃ v1_ : Value, e = .returned (.agg #[.bool r1, v1_]) ∧ Kd.R (Kd.int .u32) 87 w' w.heap.size (fun _ => True) v1_ r2 ∧ Below w.heap.size w w' := by
 have hu27 := Try.underlying27
 have HR0_1 := mk0 hr0_1
 have HC0_1 := mk0 hc0_1
 clear hr0_1 hc0_1
 have HR1_1 := mk0 hr1_1
 have HC1_1 := mk0 hc1_1
 clear hr1_1 hc1_1
 have HB := mk0 (Below.refl w.heap.size w)
 have H : ((examboardref01_Mul.f k l0_1 l1_1).bind fun t593 => ((examboardref02_Make.f k (a0_0 != a1_0) t593).bind fun bt596 => (some (bt596.1, bt596.2)))) = some (r1, r2) := h
 clear h
 obtain ⟨t593, A3, H⟩ := bindA H
 obtain ⟨⟨t596, t597⟩, A4, H⟩ := bindA H
 simp only [Option.some.injEq, Prod.mk.injEq] at H
 obtain ⟨rfl, rfl⟩ := H
 go_enter Try.func58, Try.ntmps58
 try go_wp2_with (first | ((with_reducible refine gate_dst (N := 2) rfl ?_); refine box_event rfl (N := 2) rfl (cs := #[.bool a0_0, .slice A0_1 l0_1.length c0_1]) (t := 27) (by go_simp <;> rfl) ?_; intro gb590 hg w5 hbox hb; have BK590 := mk0 (hbox); have GE590 := geB hg HB; replace HB := hbS HB hb; clear hb hbox hg) | ((with_reducible refine gate_dst (N := 3) rfl ?_); refine box_event rfl (N := 3) rfl (cs := #[.bool a1_0, .slice A1_1 l1_1.length c1_1]) (t := 27) (by go_simp <;> rfl) ?_; intro gb591 hg w6 hbox hb; have BK591 := mk0 (hbox); have GE591 := geB hg HB; replace HB := hbS HB hb; replace BK590 := bkB BK590 hb; clear hb hbox hg) | ((with_reducible refine gate_dst (N := 4) rfl ?_); refine box_event rfl (N := 4) rfl (cs := #[.bool false, .slice none 0 0]) (t := 27) (by go_simp <;> rfl) ?_; intro gb592 hg w7 hbox hb; have BK592 := mk0 (hbox); have GE592 := geB hg HB; replace HB := hbS HB hb; have NB590_592 := nbA hg BK590; have NB592_590 := nbB hg BK590; replace BK590 := bkB BK590 hb; have NB591_592 := nbA hg BK591; have NB592_591 := nbB hg BK591; replace BK591 := bkB BK591 hb; clear hb hbox hg))
 replace BK590 := mk0 (blk_drew BK590.out)
 replace BK591 := mk0 (blk_drew BK591.out)
 replace BK592 := mk0 (blk_drew BK592.out)
 replace HB := mk0 (b1 HB.out)
 refine start_ (n := 12) (S := fun w' => w'.cell? ⟨gb590, 0, none⟩ = some (.bool a0_0) ∧ w'.cell? ⟨gb590, 1, none⟩ = some (.slice A0_1 l0_1.length c0_1) ∧ w'.cell? ⟨gb591, 0, none⟩ = some (.bool a1_0) ∧ w'.cell? ⟨gb591, 1, none⟩ = some (.slice A1_1 l1_1.length c1_1)) (ds := []) (bv 12 0) (by kernel_rfl) rfl rfl ⟨(blk_cell BK590.out 0).trans rfl, (blk_cell BK590.out 1).trans rfl, (blk_cell BK591.out 0).trans rfl, (blk_cell BK591.out 1).trans rfl⟩ (fun hHeld => ?_); refine with_tabW examboardref02_Mul.tab1 examboardref02_Mul.bits1 (fun HT_ HW_ => ?_)
 generalize w7.drew = w8 at BK590 BK591 BK592 HB hHeld ⊢
 refine puA (i := 0) (N := 5) (v := ?_) (a' := ?_) (bv 12 1) HT_ ?_ ?_ ?_; rotate_left; (intro w'; go_simp; with_reducible rfl); rotate_left; (simp only [Act.put, sA, sZ, sS, i64_w, i32_w]; rfl)
 refine puA (i := 2) (N := 7) (v := ?_) (a' := ?_) (bv 12 5) HT_ ?_ ?_ ?_; rotate_left; (intro w'; go_simp; with_reducible rfl); rotate_left; (simp only [Act.put, sA, sZ, sS, i64_w, i32_w]; rfl)
 refine puA (i := 5) (N := 10) (v := ?_) (a' := ?_) (bv 12 37) HT_ ?_ ?_ ?_; rotate_left; (intro w'; go_simp; with_reducible rfl); rotate_left; (simp only [Act.put, sA, sZ, sS, i64_w, i32_w]; rfl)
 refine puA (i := 7) (N := 12) (v := ?_) (a' := ?_) (bv 12 165) HT_ ?_ ?_ ?_; rotate_left; (intro w'; go_simp; with_reducible rfl); rotate_left; (simp only [Act.put, sA, sZ, sS, i64_w, i32_w]; rfl)
 refine take_ (i := 1) (N := some 6) (v := ?_) (a' := ?_) (bv 12 167) rfl rfl (take_ofW HT_.out HW_.out (by kernel_rfl)) (fun _ _ _ h => h) (Or.inl ⟨by rfl, ?_⟩) hHeld ?_ ?_; rotate_left; (rintro w' ⟨s0, s1, s2, s3⟩; go_simp; with_reducible rfl); rotate_left; (simp only [Act.put, sA, sZ, sS, i64_w, i32_w]; rfl)
 refine take_ (i := 3) (N := some 8) (v := ?_) (a' := ?_) (bv 12 175) rfl rfl (take_ofW HT_.out HW_.out (by kernel_rfl)) (fun _ _ _ h => h) (Or.inl ⟨by rfl, ?_⟩) hHeld ?_ ?_; rotate_left; (rintro w' ⟨s0, s1, s2, s3⟩; go_simp; with_reducible rfl); rotate_left; (simp only [Act.put, sA, sZ, sS, i64_w, i32_w]; rfl)
 refine puA (i := 4) (N := 9) (v := ?_) (a' := ?_) (bv 12 191) HT_ ?_ ?_ ?_; rotate_left; (intro w'; go_simp; with_reducible rfl); rotate_left; (simp only [Act.put, sA, sZ, sS, i64_w, i32_w]; rfl)
 refine take_ (i := 6) (N := some 11) (v := ?_) (a' := ?_) (bv 12 255) rfl rfl (take_ofW HT_.out HW_.out (by kernel_rfl)) (fun _ _ _ h => h) (Or.inl ⟨by rfl, ?_⟩) hHeld ?_ ?_; rotate_left; (rintro w' ⟨s0, s1, s2, s3⟩; go_simp; with_reducible rfl); rotate_left; (simp only [Act.put, sA, sZ, sS, i64_w, i32_w]; rfl)
 refine take_ (i := 8) (N := some 13) (v := ?_) (a' := ?_) (bv 12 511) rfl rfl (take_ofW HT_.out HW_.out (by kernel_rfl)) (fun _ _ _ h => h) (Or.inl ⟨by rfl, ?_⟩) hHeld ?_ ?_; rotate_left; (rintro w' ⟨s0, s1, s2, s3⟩; go_simp; with_reducible rfl); rotate_left; (simp only [Act.put, sA, sZ, sS, i64_w, i32_w]; rfl)
 refine one_ (i := 9) (N := some 14) (bv 12 1023) rfl rfl (one_of HT_.out (by kernel_rfl)) (by decide) (fun K hK => ?_)
 refine goes_ Try.func60 (by kernel_rfl) rfl #[.slice A0_1 l0_1.length c0_1, .slice A1_1 l1_1.length c1_1] (by rfl) rfl rfl (by (try simp only [mA, mC, mN]); first | done | rfl | (simp only [lD, lT]; rfl)) ?_
 with_reducible refine (examboardref01_Mul.calls k _ _ l0_1 _ _ l1_1 t593 _ ?side1 ?side2 ?side3 ?side4 A3.out).mono ?_
 (case side1 => repeat (first | exact (Cb HR0_1.out HB.out) | (with_reducible refine Kd.C_alloc ?_ _) | (with_reducible refine Kd.C_drewN ?_ _) | (with_reducible refine Kd.C_drew ?_)))
 (case side2 => exact HC0_1.out)
 (case side3 => repeat (first | exact (Cb HR1_1.out HB.out) | (with_reducible refine Kd.C_alloc ?_ _) | (with_reducible refine Kd.C_drewN ?_ _) | (with_reducible refine Kd.C_drew ?_)))
 (case side4 => exact HC1_1.out)
 rintro e w9 ⟨v594, rfl, ho0, hb⟩
 refine ⟨_, rfl, ?_⟩
 have HO595 := mk0 (Rl ho0 (bZ (by repeat (first | exact HB.out | apply bN | apply b1 | apply bA | refine bS ?_ GE590.out | refine bS ?_ GE591.out | refine bS ?_ GE592.out))))
 replace BK590 := bkB BK590 hb
 replace BK591 := bkB BK591 hb
 replace BK592 := bkB BK592 hb
 replace HB := mk0 (below_step (by repeat (first | exact HB.out | apply bN | apply b1 | apply bA | refine bS ?_ GE590.out | refine bS ?_ GE591.out | refine bS ?_ GE592.out)) hb)
 obtain ⟨Ao10, co10, eo10⟩ := Kd.R_slice HO595.out
 (first | subst eo10 | (injection eo10 with f1_ f2_ f3_; have f4_ := f1_.symm; have f5_ := f3_.symm; clear f1_ f2_ f3_; subst f4_; subst f5_))
 refine hK.out _ _ ⟨(blk_cell BK590.out 0).trans rfl, (blk_cell BK590.out 1).trans rfl, (blk_cell BK591.out 0).trans rfl, (blk_cell BK591.out 1).trans rfl⟩ (fun hHeld => ?_)
 clear hK K
 refine norm_ (a' := ?_) ?_ ?_
 rotate_left
 ·show Act.put _ (some 14) _ = _
  simp only [Act.put, sA, sZ, sS, i64_w, i32_w]
  rfl
 refine one_ (i := 10) (N := some 15) (bv 12 2047) rfl rfl (one_of HT_.out (by kernel_rfl)) (by decide) (fun K hK => ?_)
 refine goes_ Try.func62 (by kernel_rfl) rfl #[.bool (a0_0 != a1_0), .slice Ao10 t593.length co10] (by rfl) rfl rfl (by (try simp only [mA, mC, mN]); first | done | rfl | (simp only [lD, lT]; rfl)) ?_
 with_reducible refine (examboardref02_Make.calls k (a0_0 != a1_0) _ _ t593 t596 t597 _ ?side1 ?side2 A4.out).mono ?_
 (case side1 => repeat (first | exact (Kd.R_reads' HO595.out).2.2 | (with_reducible refine Kd.C_alloc ?_ _) | (with_reducible refine Kd.C_drewN ?_ _) | (with_reducible refine Kd.C_drew ?_)))
 (case side2 => exact (Kd.R_reads' HO595.out).2.1)
 rintro e w11 ⟨v598, rfl, ho0, hb⟩
 refine ⟨_, rfl, ?_⟩
 have HO599 := mk0 (Rl (Rn ho0 (Rq HO595.out)) (bZ (by repeat (first | exact HB.out | apply bN | apply b1 | apply bA | refine bS ?_ GE590.out | refine bS ?_ GE591.out | refine bS ?_ GE592.out))))
 replace HO595 := mk0 (Re HO595.out (Rs ho0) hb)
 replace BK590 := bkB BK590 hb
 replace BK591 := bkB BK591 hb
 replace BK592 := bkB BK592 hb
 replace HB := mk0 (below_step (by repeat (first | exact HB.out | apply bN | apply b1 | apply bA | refine bS ?_ GE590.out | refine bS ?_ GE591.out | refine bS ?_ GE592.out)) hb)
 obtain ⟨Ao13, co13, eo13⟩ := Kd.R_slice HO599.out
 (first | subst eo13 | (injection eo13 with f1_ f2_ f3_; have f4_ := f1_.symm; have f5_ := f3_.symm; clear f1_ f2_ f3_; subst f4_; subst f5_))
 refine hK.out _ _ ⟨(blk_cell BK590.out 0).trans rfl, (blk_cell BK590.out 1).trans rfl, (blk_cell BK591.out 0).trans rfl, (blk_cell BK591.out 1).trans rfl⟩ (fun hHeld => ?_)
 clear hK K
 refine norm_ (a' := ?_) ?_ ?_
 rotate_left
 ·show Act.put _ (some 15) _ = _
  simp only [Act.put, sA, sZ, sS, i64_w, i32_w]
  rfl
 refine one_ (i := 11) (N := none) (bv 12 4095) rfl rfl (one_of HT_.out (by kernel_rfl)) (by decide) (fun K hK => ?_)
 have hs12 : w11.cell? ⟨gb592, 0, none⟩ = some (.bool false) := (blk_cell BK592.out 0).trans rfl
 have hfs12 := blk_frozen BK592.out 0
 have hns12_0 := NB590_592.out
 have hns12_1 := NB591_592.out
 have hms12_0 := NB592_590.out
 have hms12_1 := NB592_591.out
 have hs14 : w11.cell? ⟨gb592, 1, none⟩ = some (.slice none 0 0) := (blk_cell BK592.out 1).trans rfl
 have hfs14 := blk_frozen BK592.out 1
 have hns14_0 := NB590_592.out
 have hns14_1 := NB591_592.out
 have hms14_0 := NB592_590.out
 have hms14_1 := NB592_591.out
 refine skip_ (w1 := ?_) (by rfl) rfl ?_ ?_
 rotate_left
 ·go_simp
  rfl
 refine hK.out _ _ ⟨((cell_far (p := ⟨gb592, _, none⟩) NB590_592.out _).trans (((cell_far (p := ⟨gb592, _, none⟩) NB590_592.out _).trans (hHeld.1)))), ((cell_far (p := ⟨gb592, _, none⟩) NB590_592.out _).trans (((cell_far (p := ⟨gb592, _, none⟩) NB590_592.out _).trans (hHeld.2.1)))), ((cell_far (p := ⟨gb592, _, none⟩) NB591_592.out _).trans (((cell_far (p := ⟨gb592, _, none⟩) NB591_592.out _).trans (hHeld.2.2.1)))), ((cell_far (p := ⟨gb592, _, none⟩) NB591_592.out _).trans (((cell_far (p := ⟨gb592, _, none⟩) NB591_592.out _).trans (hHeld.2.2.2))))⟩ (fun hHeld => ?_)
 clear hK K
 refine done_ (done_of HT_.out (by kernel_rfl)) ?_
 try go_wp2
 refine bodyPost_ret (results_cell_row rfl _ _ gb592 27 #[.bool t596, .slice Ao13 t597.length co13] (0, 0) _ rfl (by refine blk_put (cs := #[.bool t596, .slice none 0 0]) ?_ 1 _ rfl; refine blk_put (cs := #[.bool false, .slice none 0 0]) ?_ 0 _ rfl; exact BK592.out) Try.underlying27 rfl (by kernel_rfl)) rfl ?_
 exact ⟨_, by first | rfl | (simp [errW_none, errW_some] <;> rfl) | (simp [*, errW_none, errW_some] <;> rfl), Rm (Rf (p := ⟨gb592, 1, none⟩) (Rf (p := ⟨gb592, 0, none⟩) (Rt HO599.out BK592.out (by decide)) (fun _ hk => hk.2) (.bool t596)) (fun _ hk => hk.2) (.slice Ao13 t597.length co13)) tv, by repeat (first | exact HB.out | apply bN | apply b1 | apply bA | refine bS ?_ GE590.out | refine bS ?_ GE591.out | refine bS ?_ GE592.out)⟩
set_option maxHeartbeats 8000000 in
set_option maxRecDepth 100000 in
theorem examboardref02_Of.calls (k : Nat) (a0 : Int) (r1 : Bool) (r2 : List Int) (w : World) (h : examboardref02_Of.f k a0 = some (r1, r2)) :
  Calls Try.prog 69 #[.int .i64 a0] w fun e w' => ∃ v1_ : Value, e = .returned (.agg #[.bool r1, v1_]) ∧ Kd.R (Kd.int .u32) 87 w' w.heap.size (fun _ => True) v1_ r2 ∧ Below w.heap.size w w' := by
 have hu27 := Try.underlying27
 have HB := mk0 (Below.refl w.heap.size w)
 have H : (if a0 < 0 then ((examboardref01_Of.f k (IntKind.u64.wrap ((IntKind.u64.wrap (wrap64 (-(wrap64 (a0 + 1))))) + 1))).bind fun t601 => ((examboardref02_Make.f k true t601).bind fun bt604 => (some (bt604.1, bt604.2)))) else ((examboardref01_Of.f k (IntKind.u64.wrap (a0))).bind fun t608 => ((examboardref02_Make.f k false t608).bind fun bt611 => (some (bt611.1, bt611.2))))) = some (r1, r2) := h
 clear h
 by_cases c2 : a0 < 0
 ·rw [if_pos c2] at H
  have c2b0 : decide (a0 < 0) = true := decide_eq_true c2
  clear c2
  obtain ⟨t601, A3, H⟩ := bindA H
  obtain ⟨⟨t604, t605⟩, A4, H⟩ := bindA H
  simp only [Option.some.injEq, Prod.mk.injEq] at H
  obtain ⟨rfl, rfl⟩ := H
  go_enter Try.func69, Try.ntmps69
  go_wp2_with (first | ((with_reducible refine gate_dst (N := 2) rfl ?_); refine box_event rfl (N := 2) rfl (cs := #[.bool false, .slice none 0 0]) (t := 27) (by go_simp <;> rfl) ?_; intro gb600 hg w5 hbox hb; have BK600 := mk0 (hbox); have GE600 := geB hg HB; replace HB := hbS HB hb; clear hb hbox hg) | ((with_reducible refine gate_callee (f := 90) rfl ?_); refine goA 10 Try.func90 #[.int .u64 (IntKind.u64.wrap ((IntKind.u64.wrap (wrap64 (-(wrap64 (a0 + 1))))) + 1))] ?_; (with_reducible refine (examboardref01_Of.calls k (IntKind.u64.wrap ((IntKind.u64.wrap (wrap64 (-(wrap64 (a0 + 1))))) + 1)) t601 _ A3.out).mono ?_); rintro e w6 ⟨v602, rfl, ho0, hb⟩; refine ⟨_, rfl, ?_⟩; have HO603 := mk0 (Rl ho0 (bZ HB.out)); replace BK600 := bkB BK600 hb; replace HB := hbS HB hb; obtain ⟨Ao7, co7, eo7⟩ := Kd.R_slice HO603.out; subst eo7) | ((with_reducible refine gate_callee (f := 62) rfl ?_); refine goA 11 Try.func62 #[.bool true, .slice Ao7 t601.length co7] ?_; (with_reducible refine (examboardref02_Make.calls k true _ _ t601 t604 t605 _ (by exact (Kd.R_reads' HO603.out).2.2) (by exact (Kd.R_reads' HO603.out).2.1) A4.out).mono ?_); rintro e w8 ⟨v606, rfl, ho0, hb⟩; refine ⟨_, rfl, ?_⟩; have HO607 := mk0 (Rl (Rn ho0 (Rq HO603.out)) (bZ HB.out)); replace HO603 := mk0 (Re HO603.out (Rs ho0) hb); replace BK600 := bkB BK600 hb; replace HB := hbS HB hb; obtain ⟨hcz9_0, hcz9_1, hfz9_0, hfz9_1⟩ := cz2 BK600; obtain ⟨Ao10, co10, eo10⟩ := Kd.R_slice HO607.out; subst eo10))
  refine bodyPost_ret (results_cell_row rfl _ _ gb600 27 #[.bool t604, .slice Ao10 t605.length co10] (0, 0) _ rfl (by refine blk_put (cs := #[.bool t604, .slice none 0 0]) ?_ 1 _ rfl; refine blk_put (cs := #[.bool false, .slice none 0 0]) ?_ 0 _ rfl; exact BK600.out) Try.underlying27 rfl (by kernel_rfl)) rfl ?_
  exact ⟨_, by first | rfl | (simp [errW_none, errW_some] <;> rfl) | (simp [*, errW_none, errW_some] <;> rfl), Rm (Rf (p := ⟨gb600, 1, none⟩) (Rf (p := ⟨gb600, 0, none⟩) (Rt HO607.out BK600.out (by decide)) (fun _ hk => hk.2) (.bool t604)) (fun _ hk => hk.2) (.slice Ao10 t605.length co10)) tv, by repeat (first | exact HB.out | apply bN | apply b1 | apply bA | refine bS ?_ GE600.out)⟩
 ·rw [if_neg c2] at H
  have c2b0 : decide (a0 < 0) = false := decide_eq_false c2
  clear c2
  obtain ⟨t608, A11, H⟩ := bindA H
  obtain ⟨⟨t611, t612⟩, A12, H⟩ := bindA H
  simp only [Option.some.injEq, Prod.mk.injEq] at H
  obtain ⟨rfl, rfl⟩ := H
  go_enter Try.func69, Try.ntmps69
  go_wp2_with (first | ((with_reducible refine gate_dst (N := 2) rfl ?_); refine box_event rfl (N := 2) rfl (cs := #[.bool false, .slice none 0 0]) (t := 27) (by go_simp <;> rfl) ?_; intro gb600 hg w13 hbox hb; have BK600 := mk0 (hbox); have GE600 := geB hg HB; replace HB := hbS HB hb; clear hb hbox hg) | ((with_reducible refine gate_callee (f := 90) rfl ?_); refine goA 14 Try.func90 #[.int .u64 (IntKind.u64.wrap (a0))] ?_; (with_reducible refine (examboardref01_Of.calls k (IntKind.u64.wrap (a0)) t608 _ A11.out).mono ?_); rintro e w14 ⟨v609, rfl, ho0, hb⟩; refine ⟨_, rfl, ?_⟩; have HO610 := mk0 (Rl ho0 (bZ HB.out)); replace BK600 := bkB BK600 hb; replace HB := hbS HB hb; obtain ⟨Ao15, co15, eo15⟩ := Kd.R_slice HO610.out; subst eo15) | ((with_reducible refine gate_callee (f := 62) rfl ?_); refine goA 15 Try.func62 #[.bool false, .slice Ao15 t608.length co15] ?_; (with_reducible refine (examboardref02_Make.calls k false _ _ t608 t611 t612 _ (by exact (Kd.R_reads' HO610.out).2.2) (by exact (Kd.R_reads' HO610.out).2.1) A12.out).mono ?_); rintro e w16 ⟨v613, rfl, ho0, hb⟩; refine ⟨_, rfl, ?_⟩; have HO614 := mk0 (Rl (Rn ho0 (Rq HO610.out)) (bZ HB.out)); replace HO610 := mk0 (Re HO610.out (Rs ho0) hb); replace BK600 := bkB BK600 hb; replace HB := hbS HB hb; obtain ⟨hcz17_0, hcz17_1, hfz17_0, hfz17_1⟩ := cz2 BK600; obtain ⟨Ao18, co18, eo18⟩ := Kd.R_slice HO614.out; subst eo18))
  refine bodyPost_ret (results_cell_row rfl _ _ gb600 27 #[.bool t611, .slice Ao18 t612.length co18] (0, 0) _ rfl (by refine blk_put (cs := #[.bool t611, .slice none 0 0]) ?_ 1 _ rfl; refine blk_put (cs := #[.bool false, .slice none 0 0]) ?_ 0 _ rfl; exact BK600.out) Try.underlying27 rfl (by kernel_rfl)) rfl ?_
  exact ⟨_, by first | rfl | (simp [errW_none, errW_some] <;> rfl) | (simp [*, errW_none, errW_some] <;> rfl), Rm (Rf (p := ⟨gb600, 1, none⟩) (Rf (p := ⟨gb600, 0, none⟩) (Rt HO614.out BK600.out (by decide)) (fun _ hk => hk.2) (.bool t611)) (fun _ hk => hk.2) (.slice Ao18 t612.length co18)) tv, by repeat (first | exact HB.out | apply bN | apply b1 | apply bA | refine bS ?_ GE600.out)⟩
set_option maxHeartbeats 8000000 in
set_option maxRecDepth 100000 in
theorem examboardref03_top.calls (k : Nat) (a0_0 : Bool) (A0_1 : Option Addr) (c0_1 : Nat) (l0_1 : List Int) (A0_2 : Option Addr) (c0_2 : Nat) (l0_2 : List Int) (r1 : Bool) (r2 : List Int) (w : World) (hr0_1 : Kd.C (Kd.int .u32) w A0_1 l0_1.length l0_1) (hc0_1 : l0_1.length ≤ c0_1) (hr0_2 : Kd.C (Kd.int .u32) w A0_2 l0_2.length l0_2) (hc0_2 : l0_2.length ≤ c0_2) (h : examboardref03_top.f k a0_0 l0_1 l0_2 = some (r1, r2)) :
  Calls Try.prog 59 #[.agg #[.bool a0_0, .slice A0_1 l0_1.length c0_1, .slice A0_2 l0_2.length c0_2]] w fun e w' => ∃ v1_ : Value, e = .returned (.agg #[.bool r1, v1_]) ∧ Kd.R (Kd.int .u32) 87 w' w.heap.size (fun _ => True) v1_ r2 ∧ Below w.heap.size w w' := by
 have hu29 := Try.underlying29
 have hu27 := Try.underlying27
 have HR0_1 := mk0 hr0_1
 have HC0_1 := mk0 hc0_1
 clear hr0_1 hc0_1
 have HR0_2 := mk0 hr0_2
 have HC0_2 := mk0 hc0_2
 clear hr0_2 hc0_2
 have HB := mk0 (Below.refl w.heap.size w)
 have H : ((examboardref01_Bits.f k l0_2).bind fun t617 => (if t617 = 0 then ((examboardref02_Of.f k 0).bind fun bt618 => (some (bt618.1, bt618.2))) else ((examboardref02_Norm.f k a0_0 l0_1).bind fun bt622 => (some (bt622.1, bt622.2))))) = some (r1, r2) := h
 clear h
 obtain ⟨t617, A2, H⟩ := bindA H
 by_cases c3 : t617 = 0
 ·rw [if_pos c3] at H
  have c3b0 : (t617 == 0) = true := beq_iff_eq.mpr c3
  have c3b1 : (t617 != 0) = false := bne_eq_false_iff_eq.mpr c3
  clear c3
  obtain ⟨⟨t618, t619⟩, A4, H⟩ := bindA H
  simp only [Option.some.injEq, Prod.mk.injEq] at H
  obtain ⟨rfl, rfl⟩ := H
  go_enter Try.func59, Try.ntmps59
  go_wp2_with (first | ((with_reducible refine gate_dst (N := 1) rfl ?_); refine box_event rfl (N := 1) rfl (cs := #[.bool a0_0, .slice A0_1 l0_1.length c0_1, .slice A0_2 l0_2.length c0_2]) (t := 29) (by go_simp <;> rfl) ?_; intro gb615 hg w5 hbox hb; have BK615 := mk0 (hbox); have GE615 := geB hg HB; replace HB := hbS HB hb; clear hb hbox hg) | ((with_reducible refine gate_dst (N := 2) rfl ?_); refine box_event rfl (N := 2) rfl (cs := #[.bool false, .slice none 0 0]) (t := 27) (by go_simp <;> rfl) ?_; intro gb616 hg w6 hbox hb; have BK616 := mk0 (hbox); have GE616 := geB hg HB; replace HB := hbS HB hb; have NB615_616 := nbA hg BK615; have NB616_615 := nbB hg BK615; replace BK615 := bkB BK615 hb; clear hb hbox hg; have hnb7 := NB615_616.out; have hnc7 := NB616_615.out; obtain ⟨hcz8_0, hcz8_1, hcz8_2, hfz8_0, hfz8_1, hfz8_2⟩ := cz3 BK615) | ((with_reducible refine gate_callee (f := 85) rfl ?_); refine goA 5 Try.func85 #[.slice A0_2 l0_2.length c0_2] ?_; (with_reducible refine (examboardref01_Bits.calls k _ _ l0_2 t617 _ (by exact Cb HR0_2.out HB.out) HC0_2.out A2.out).mono ?_); rintro e w9 ⟨rfl, hb⟩; refine ⟨_, rfl, ?_⟩; replace BK615 := bkB BK615 hb; replace BK616 := bkB BK616 hb; replace HB := hbS HB hb) | ((with_reducible refine gate_callee (f := 69) rfl ?_); refine goA 7 Try.func69 #[.int .i64 0] ?_; (with_reducible refine (examboardref02_Of.calls k 0 t618 t619 _ A4.out).mono ?_); rintro e w10 ⟨v620, rfl, ho0, hb⟩; refine ⟨_, rfl, ?_⟩; have HO621 := mk0 (Rl ho0 (bZ HB.out)); replace BK615 := bkB BK615 hb; replace BK616 := bkB BK616 hb; replace HB := hbS HB hb; obtain ⟨hcz11_0, hcz11_1, hfz11_0, hfz11_1⟩ := cz2 BK616; obtain ⟨Ao12, co12, eo12⟩ := Kd.R_slice HO621.out; subst eo12))
  refine bodyPost_ret (results_cell_row rfl _ _ gb616 27 #[.bool t618, .slice Ao12 t619.length co12] (0, 0) _ rfl (by refine blk_put (cs := #[.bool t618, .slice none 0 0]) ?_ 1 _ rfl; refine blk_put (cs := #[.bool false, .slice none 0 0]) ?_ 0 _ rfl; exact BK616.out) Try.underlying27 rfl (by kernel_rfl)) rfl ?_
  exact ⟨_, by first | rfl | (simp [errW_none, errW_some] <;> rfl) | (simp [*, errW_none, errW_some] <;> rfl), Rm (Rf (p := ⟨gb616, 1, none⟩) (Rf (p := ⟨gb616, 0, none⟩) (Rt HO621.out BK616.out (by decide)) (fun _ hk => hk.2) (.bool t618)) (fun _ hk => hk.2) (.slice Ao12 t619.length co12)) tv, by repeat (first | exact HB.out | apply bN | apply b1 | apply bA | refine bS ?_ GE615.out | refine bS ?_ GE616.out)⟩
 ·rw [if_neg c3] at H
  have c3b0 : (t617 == 0) = false := beq_eq_false_iff_ne.mpr c3
  have c3b1 : (t617 != 0) = true := bne_iff_ne.mpr c3
  obtain ⟨⟨t622, t623⟩, A13, H⟩ := bindA H
  simp only [Option.some.injEq, Prod.mk.injEq] at H
  obtain ⟨rfl, rfl⟩ := H
  go_enter Try.func59, Try.ntmps59
  go_wp2_with (first | ((with_reducible refine gate_dst (N := 1) rfl ?_); refine box_event rfl (N := 1) rfl (cs := #[.bool a0_0, .slice A0_1 l0_1.length c0_1, .slice A0_2 l0_2.length c0_2]) (t := 29) (by go_simp <;> rfl) ?_; intro gb615 hg w14 hbox hb; have BK615 := mk0 (hbox); have GE615 := geB hg HB; replace HB := hbS HB hb; clear hb hbox hg) | ((with_reducible refine gate_dst (N := 2) rfl ?_); refine box_event rfl (N := 2) rfl (cs := #[.bool false, .slice none 0 0]) (t := 27) (by go_simp <;> rfl) ?_; intro gb616 hg w15 hbox hb; have BK616 := mk0 (hbox); have GE616 := geB hg HB; replace HB := hbS HB hb; have NB615_616 := nbA hg BK615; have NB616_615 := nbB hg BK615; replace BK615 := bkB BK615 hb; clear hb hbox hg; have hnb16 := NB615_616.out; have hnc16 := NB616_615.out; obtain ⟨hcz17_0, hcz17_1, hcz17_2, hfz17_0, hfz17_1, hfz17_2⟩ := cz3 BK615) | ((with_reducible refine gate_callee (f := 85) rfl ?_); refine goA 5 Try.func85 #[.slice A0_2 l0_2.length c0_2] ?_; (with_reducible refine (examboardref01_Bits.calls k _ _ l0_2 t617 _ (by exact Cb HR0_2.out HB.out) HC0_2.out A2.out).mono ?_); rintro e w18 ⟨rfl, hb⟩; refine ⟨_, rfl, ?_⟩; replace BK615 := bkB BK615 hb; replace BK616 := bkB BK616 hb; replace HB := hbS HB hb; obtain ⟨hcz19_0, hcz19_1, hcz19_2, hfz19_0, hfz19_1, hfz19_2⟩ := cz3 BK615) | ((with_reducible refine gate_callee (f := 84) rfl ?_); refine goA 10 Try.func84 #[.agg #[.bool a0_0, .slice A0_1 l0_1.length c0_1]] ?_; (with_reducible refine (examboardref02_Norm.calls k a0_0 _ _ l0_1 t622 t623 _ (by exact Cb HR0_1.out HB.out) HC0_1.out A13.out).mono ?_); rintro e w20 ⟨v624, rfl, ho0, hb⟩; refine ⟨_, rfl, ?_⟩; have HO625 := mk0 (Rl ho0 (bZ HB.out)); replace BK615 := bkB BK615 hb; replace BK616 := bkB BK616 hb; replace HB := hbS HB hb; obtain ⟨hcz21_0, hcz21_1, hfz21_0, hfz21_1⟩ := cz2 BK616; obtain ⟨Ao22, co22, eo22⟩ := Kd.R_slice HO625.out; subst eo22))
  refine bodyPost_ret (results_cell_row rfl _ _ gb616 27 #[.bool t622, .slice Ao22 t623.length co22] (0, 0) _ rfl (by refine blk_put (cs := #[.bool t622, .slice none 0 0]) ?_ 1 _ rfl; refine blk_put (cs := #[.bool false, .slice none 0 0]) ?_ 0 _ rfl; exact BK616.out) Try.underlying27 rfl (by kernel_rfl)) rfl ?_
  exact ⟨_, by first | rfl | (simp [errW_none, errW_some] <;> rfl) | (simp [*, errW_none, errW_some] <;> rfl), Rm (Rf (p := ⟨gb616, 1, none⟩) (Rf (p := ⟨gb616, 0, none⟩) (Rt HO625.out BK616.out (by decide)) (fun _ hk => hk.2) (.bool t622)) (fun _ hk => hk.2) (.slice Ao22 t623.length co22)) tv, by repeat (first | exact HB.out | apply bN | apply b1 | apply bA | refine bS ?_ GE615.out | refine bS ?_ GE616.out)⟩
set_option maxHeartbeats 8000000 in
set_option maxRecDepth 100000 in
theorem examboardref03_low.calls (k : Nat) (a0_0 : Bool) (A0_1 : Option Addr) (c0_1 : Nat) (l0_1 : List Int) (A0_2 : Option Addr) (c0_2 : Nat) (l0_2 : List Int) (r : List Int) (w : World) (hr0_1 : Kd.C (Kd.int .u32) w A0_1 l0_1.length l0_1) (hc0_1 : l0_1.length ≤ c0_1) (hr0_2 : Kd.C (Kd.int .u32) w A0_2 l0_2.length l0_2) (hc0_2 : l0_2.length ≤ c0_2) (h : examboardref03_low.f k a0_0 l0_1 l0_2 = some r) :
  Calls Try.prog 61 #[.agg #[.bool a0_0, .slice A0_1 l0_1.length c0_1, .slice A0_2 l0_2.length c0_2]] w fun e w' => ∃ v0_ : Value, e = .returned (v0_) ∧ Kd.R (Kd.int .u32) 87 w' w.heap.size (fun _ => True) v0_ r ∧ Below w.heap.size w w' := by
 have hu29 := Try.underlying29
 have HR0_1 := mk0 hr0_1
 have HC0_1 := mk0 hc0_1
 clear hr0_1 hc0_1
 have HR0_2 := mk0 hr0_2
 have HC0_2 := mk0 hc0_2
 clear hr0_2 hc0_2
 have HB := mk0 (Below.refl w.heap.size w)
 have H : ((examboardref01_Bits.f k l0_2).bind fun t627 => (if t627 = 0 then ((examboardref01_Of.f k 1).bind fun t628 => (some t628)) else ((examboardref01_Norm.f k l0_2).bind fun t631 => (some t631)))) = some r := h
 clear h
 obtain ⟨t627, A2, H⟩ := bindA H
 by_cases c3 : t627 = 0
 ·rw [if_pos c3] at H
  have c3b0 : (t627 == 0) = true := beq_iff_eq.mpr c3
  have c3b1 : (t627 != 0) = false := bne_eq_false_iff_eq.mpr c3
  clear c3
  obtain ⟨t628, A4, H⟩ := bindA H
  obtain rfl := Option.some.inj H
  go_enter Try.func61, Try.ntmps61
  go_wp2_with (first | ((with_reducible refine gate_dst (N := 1) rfl ?_); refine box_event rfl (N := 1) rfl (cs := #[.bool a0_0, .slice A0_1 l0_1.length c0_1, .slice A0_2 l0_2.length c0_2]) (t := 29) (by go_simp <;> rfl) ?_; intro gb626 hg w5 hbox hb; have BK626 := mk0 (hbox); have GE626 := geB hg HB; replace HB := hbS HB hb; clear hb hbox hg; obtain ⟨hcz6_0, hcz6_1, hcz6_2, hfz6_0, hfz6_1, hfz6_2⟩ := cz3 BK626) | ((with_reducible refine gate_callee (f := 85) rfl ?_); refine goA 5 Try.func85 #[.slice A0_2 l0_2.length c0_2] ?_; (with_reducible refine (examboardref01_Bits.calls k _ _ l0_2 t627 _ (by exact Cb HR0_2.out HB.out) HC0_2.out A2.out).mono ?_); rintro e w7 ⟨rfl, hb⟩; refine ⟨_, rfl, ?_⟩; replace BK626 := bkB BK626 hb; replace HB := hbS HB hb) | ((with_reducible refine gate_callee (f := 90) rfl ?_); refine goA 7 Try.func90 #[.int .u64 1] ?_; (with_reducible refine (examboardref01_Of.calls k 1 t628 _ A4.out).mono ?_); rintro e w8 ⟨v629, rfl, ho0, hb⟩; refine ⟨_, rfl, ?_⟩; have HO630 := mk0 (Rl ho0 (bZ HB.out)); replace BK626 := bkB BK626 hb; replace HB := hbS HB hb))
  go_ret
  exact ⟨_, by first | rfl | (simp [errW_none, errW_some] <;> rfl) | (simp [*, errW_none, errW_some] <;> rfl), HO630.out, by repeat (first | exact HB.out | apply bN | apply b1 | apply bA | refine bS ?_ GE626.out)⟩
 ·rw [if_neg c3] at H
  have c3b0 : (t627 == 0) = false := beq_eq_false_iff_ne.mpr c3
  have c3b1 : (t627 != 0) = true := bne_iff_ne.mpr c3
  obtain ⟨t631, A9, H⟩ := bindA H
  obtain rfl := Option.some.inj H
  go_enter Try.func61, Try.ntmps61
  go_wp2_with (first | ((with_reducible refine gate_dst (N := 1) rfl ?_); refine box_event rfl (N := 1) rfl (cs := #[.bool a0_0, .slice A0_1 l0_1.length c0_1, .slice A0_2 l0_2.length c0_2]) (t := 29) (by go_simp <;> rfl) ?_; intro gb626 hg w10 hbox hb; have BK626 := mk0 (hbox); have GE626 := geB hg HB; replace HB := hbS HB hb; clear hb hbox hg; obtain ⟨hcz11_0, hcz11_1, hcz11_2, hfz11_0, hfz11_1, hfz11_2⟩ := cz3 BK626) | ((with_reducible refine gate_callee (f := 85) rfl ?_); refine goA 5 Try.func85 #[.slice A0_2 l0_2.length c0_2] ?_; (with_reducible refine (examboardref01_Bits.calls k _ _ l0_2 t627 _ (by exact Cb HR0_2.out HB.out) HC0_2.out A2.out).mono ?_); rintro e w12 ⟨rfl, hb⟩; refine ⟨_, rfl, ?_⟩; replace BK626 := bkB BK626 hb; replace HB := hbS HB hb; obtain ⟨hcz13_0, hcz13_1, hcz13_2, hfz13_0, hfz13_1, hfz13_2⟩ := cz3 BK626) | ((with_reducible refine gate_callee (f := 89) rfl ?_); refine goA 10 Try.func89 #[.slice A0_2 l0_2.length c0_2] ?_; (with_reducible refine (examboardref01_Norm.calls k _ _ l0_2 t631 _ (by exact Cb HR0_2.out HB.out) HC0_2.out A9.out).mono ?_); rintro e w14 ⟨v632, rfl, ho0, hb⟩; refine ⟨_, rfl, ?_⟩; have HO633 := mk0 (Rl ho0 (bZ HB.out)); replace BK626 := bkB BK626 hb; replace HB := hbS HB hb))
  go_ret
  exact ⟨_, by first | rfl | (simp [errW_none, errW_some] <;> rfl) | (simp [*, errW_none, errW_some] <;> rfl), HO633.out, by repeat (first | exact HB.out | apply bN | apply b1 | apply bA | refine bS ?_ GE626.out)⟩
def examboardref03_Mul.T1 : Bool × List (List Nat × List Nat) := (true, [([], []), ([0], [0]), ([], []), ([2, 1], [2]), ([1, 3, 3], [1, 3]), ([], []), ([5, 4], [5]), ([], []), ([7, 6], [7]), ([6, 8, 8], [6, 8]), ([4, 9, 9], [4, 9]), ([10, 10, 0, 1, 2, 3, 4, 5, 6, 7, 8, 9, 10], [10])])
def examboardref03_Mul.B1 : List Nat := [0, 1, 0, 7, 15, 0, 63, 0, 255, 511, 1023, 2047]
theorem examboardref03_Mul.tab1 : rtab .any (opsOf Try.f32 1) = examboardref03_Mul.T1 := by kernel_rfl
theorem examboardref03_Mul.bits1 : waitsOk examboardref03_Mul.T1.2 examboardref03_Mul.B1 = true := by kernel_rfl
set_option maxHeartbeats 8000000 in
set_option maxRecDepth 100000 in
theorem examboardref03_Mul.calls (k : Nat) (a0_0 : Bool) (A0_1 : Option Addr) (c0_1 : Nat) (l0_1 : List Int) (A0_2 : Option Addr) (c0_2 : Nat) (l0_2 : List Int) (a1_0 : Bool) (A1_1 : Option Addr) (c1_1 : Nat) (l1_1 : List Int) (A1_2 : Option Addr) (c1_2 : Nat) (l1_2 : List Int) (r1 : Bool) (r2 : List Int) (r3 : List Int) (w : World) (hr0_1 : Kd.C (Kd.int .u32) w A0_1 l0_1.length l0_1) (hc0_1 : l0_1.length ≤ c0_1) (hr0_2 : Kd.C (Kd.int .u32) w A0_2 l0_2.length l0_2) (hc0_2 : l0_2.length ≤ c0_2) (hr1_1 : Kd.C (Kd.int .u32) w A1_1 l1_1.length l1_1) (hc1_1 : l1_1.length ≤ c1_1) (hr1_2 : Kd.C (Kd.int .u32) w A1_2 l1_2.length l1_2) (hc1_2 : l1_2.length ≤ c1_2) (h : examboardref03_Mul.f k a0_0 l0_1 l0_2 a1_0 l1_1 l1_2 = some (r1, r2, r3)) :
  Calls Try.prog 32 #[.agg #[.bool a0_0, .slice A0_1 l0_1.length c0_1, .slice A0_2 l0_2.length c0_2], .agg #[.bool a1_0, .slice A1_1 l1_1.length c1_1, .slice A1_2 l1_2.length c1_2]] w fun e w' => ∃ v1_ v2_ : Value, e = .returned (.agg #[.bool r1, v1_, v2_]) ∧ Kd.R (Kd.int .u32) 87 w' w.heap.size (fun k_ => some k_ ≠ (v2_ : Value).ownBlock) v1_ r2 ∧ Kd.R (Kd.int .u32) 87 w' w.heap.size (fun k_ => some k_ ≠ (v1_ : Value).ownBlock) v2_ r3 ∧ Below w.heap.size w w' := by
 have hu29 := Try.underlying29
 have HR0_1 := mk0 hr0_1
 have HC0_1 := mk0 hc0_1
 clear hr0_1 hc0_1
 have HR0_2 := mk0 hr0_2
 have HC0_2 := mk0 hc0_2
 clear hr0_2 hc0_2
 have HR1_1 := mk0 hr1_1
 have HC1_1 := mk0 hc1_1
 clear hr1_1 hc1_1
 have HR1_2 := mk0 hr1_2
 have HC1_2 := mk0 hc1_2
 clear hr1_2 hc1_2
 have HB := mk0 (Below.refl w.heap.size w)
 have H : ((examboardref03_top.f k a0_0 l0_1 l0_2).bind fun bt637 => ((examboardref03_top.f k a1_0 l1_1 l1_2).bind fun bt641 => ((examboardref02_Mul.f k bt637.1 bt637.2 bt641.1 bt641.2).bind fun bt645 => ((examboardref03_low.f k a0_0 l0_1 l0_2).bind fun t649 => ((examboardref03_low.f k a1_0 l1_1 l1_2).bind fun t652 => ((examboardref01_Mul.f k t649 t652).bind fun t655 => ((examboardref03_reduce.f k bt645.1 bt645.2 t655).bind fun bt658 => (some (bt658.1, bt658.2.1, bt658.2.2))))))))) = some (r1, r2, r3) := h
 clear h
 obtain ⟨⟨t637, t638⟩, A3, H⟩ := bindA H
 obtain ⟨⟨t641, t642⟩, A4, H⟩ := bindA H
 obtain ⟨⟨t645, t646⟩, A5, H⟩ := bindA H
 obtain ⟨t649, A6, H⟩ := bindA H
 obtain ⟨t652, A7, H⟩ := bindA H
 obtain ⟨t655, A8, H⟩ := bindA H
 obtain ⟨⟨t658, t659, t662⟩, A9, H⟩ := bindA H
 simp only [Option.some.injEq, Prod.mk.injEq] at H
 obtain ⟨rfl, rfl, rfl⟩ := H
 go_enter Try.func32, Try.ntmps32
 try go_wp2_with (first | ((with_reducible refine gate_dst (N := 2) rfl ?_); refine box_event rfl (N := 2) rfl (cs := #[.bool a0_0, .slice A0_1 l0_1.length c0_1, .slice A0_2 l0_2.length c0_2]) (t := 29) (by go_simp <;> rfl) ?_; intro gb634 hg w10 hbox hb; have BK634 := mk0 (hbox); have GE634 := geB hg HB; replace HB := hbS HB hb; clear hb hbox hg) | ((with_reducible refine gate_dst (N := 3) rfl ?_); refine box_event rfl (N := 3) rfl (cs := #[.bool a1_0, .slice A1_1 l1_1.length c1_1, .slice A1_2 l1_2.length c1_2]) (t := 29) (by go_simp <;> rfl) ?_; intro gb635 hg w11 hbox hb; have BK635 := mk0 (hbox); have GE635 := geB hg HB; replace HB := hbS HB hb; replace BK634 := bkB BK634 hb; clear hb hbox hg) | ((with_reducible refine gate_dst (N := 4) rfl ?_); refine box_event rfl (N := 4) rfl (cs := #[.bool false, .slice none 0 0, .slice none 0 0]) (t := 29) (by go_simp <;> rfl) ?_; intro gb636 hg w12 hbox hb; have BK636 := mk0 (hbox); have GE636 := geB hg HB; replace HB := hbS HB hb; have NB634_636 := nbA hg BK634; have NB636_634 := nbB hg BK634; replace BK634 := bkB BK634 hb; have NB635_636 := nbA hg BK635; have NB636_635 := nbB hg BK635; replace BK635 := bkB BK635 hb; clear hb hbox hg))
 replace BK634 := mk0 (blk_drew BK634.out)
 replace BK635 := mk0 (blk_drew BK635.out)
 replace BK636 := mk0 (blk_drew BK636.out)
 replace HB := mk0 (b1 HB.out)
 refine start_ (n := 12) (S := fun w' => w'.cell? ⟨gb634, 0, none⟩ = some (.bool a0_0) ∧ w'.cell? ⟨gb634, 1, none⟩ = some (.slice A0_1 l0_1.length c0_1) ∧ w'.cell? ⟨gb634, 2, none⟩ = some (.slice A0_2 l0_2.length c0_2) ∧ w'.cell? ⟨gb635, 0, none⟩ = some (.bool a1_0) ∧ w'.cell? ⟨gb635, 1, none⟩ = some (.slice A1_1 l1_1.length c1_1) ∧ w'.cell? ⟨gb635, 2, none⟩ = some (.slice A1_2 l1_2.length c1_2)) (ds := []) (bv 12 0) (by kernel_rfl) rfl rfl ⟨(blk_cell BK634.out 0).trans rfl, (blk_cell BK634.out 1).trans rfl, (blk_cell BK634.out 2).trans rfl, (blk_cell BK635.out 0).trans rfl, (blk_cell BK635.out 1).trans rfl, (blk_cell BK635.out 2).trans rfl⟩ (fun hHeld => ?_); refine with_tabW examboardref03_Mul.tab1 examboardref03_Mul.bits1 (fun HT_ HW_ => ?_)
 generalize w12.drew = w13 at BK634 BK635 BK636 HB hHeld ⊢
 refine take_ (i := 0) (N := some 5) (v := ?_) (a' := ?_) (bv 12 1) rfl rfl (take_ofW HT_.out HW_.out (by kernel_rfl)) (fun _ _ _ h => h) (Or.inl ⟨by rfl, ?_⟩) hHeld ?_ ?_; rotate_left; (rintro w' ⟨s0, s1, s2, s3, s4, s5⟩; go_simp; with_reducible rfl); rotate_left; (simp only [Act.put, sA, sZ, sS, i64_w, i32_w]; rfl)
 refine take_ (i := 2) (N := some 7) (v := ?_) (a' := ?_) (bv 12 5) rfl rfl (take_ofW HT_.out HW_.out (by kernel_rfl)) (fun _ _ _ h => h) (Or.inl ⟨by rfl, ?_⟩) hHeld ?_ ?_; rotate_left; (rintro w' ⟨s0, s1, s2, s3, s4, s5⟩; go_simp; with_reducible rfl); rotate_left; (simp only [Act.put, sA, sZ, sS, i64_w, i32_w]; rfl)
 refine take_ (i := 5) (N := some 10) (v := ?_) (a' := ?_) (bv 12 37) rfl rfl (take_ofW HT_.out HW_.out (by kernel_rfl)) (fun _ _ _ h => h) (Or.inl ⟨by rfl, ?_⟩) hHeld ?_ ?_; rotate_left; (rintro w' ⟨s0, s1, s2, s3, s4, s5⟩; go_simp; with_reducible rfl); rotate_left; (simp only [Act.put, sA, sZ, sS, i64_w, i32_w]; rfl)
 refine take_ (i := 7) (N := some 12) (v := ?_) (a' := ?_) (bv 12 165) rfl rfl (take_ofW HT_.out HW_.out (by kernel_rfl)) (fun _ _ _ h => h) (Or.inl ⟨by rfl, ?_⟩) hHeld ?_ ?_; rotate_left; (rintro w' ⟨s0, s1, s2, s3, s4, s5⟩; go_simp; with_reducible rfl); rotate_left; (simp only [Act.put, sA, sZ, sS, i64_w, i32_w]; rfl)
 refine one_ (i := 1) (N := some 6) (bv 12 167) rfl rfl (one_of HT_.out (by kernel_rfl)) (by decide) (fun K hK => ?_)
 refine goes_ Try.func59 (by kernel_rfl) rfl #[.agg #[.bool a0_0, .slice A0_1 l0_1.length c0_1, .slice A0_2 l0_2.length c0_2]] (by rfl) rfl rfl (by go_simp <;> rfl) ?_
 with_reducible refine (examboardref03_top.calls k a0_0 _ _ l0_1 _ _ l0_2 t637 t638 _ ?side1 ?side2 ?side3 ?side4 A3.out).mono ?_
 (case side1 => repeat (first | exact (Cb HR0_1.out HB.out) | (with_reducible refine Kd.C_alloc ?_ _) | (with_reducible refine Kd.C_drewN ?_ _) | (with_reducible refine Kd.C_drew ?_)))
 (case side2 => exact HC0_1.out)
 (case side3 => repeat (first | exact (Cb HR0_2.out HB.out) | (with_reducible refine Kd.C_alloc ?_ _) | (with_reducible refine Kd.C_drewN ?_ _) | (with_reducible refine Kd.C_drew ?_)))
 (case side4 => exact HC0_2.out)
 rintro e w14 ⟨v639, rfl, ho0, hb⟩
 refine ⟨_, rfl, ?_⟩
 have HO640 := mk0 (Rl ho0 (bZ (by repeat (first | exact HB.out | apply bN | apply b1 | apply bA | refine bS ?_ GE634.out | refine bS ?_ GE635.out | refine bS ?_ GE636.out))))
 replace BK634 := bkB BK634 hb
 replace BK635 := bkB BK635 hb
 replace BK636 := bkB BK636 hb
 replace HB := mk0 (below_step (by repeat (first | exact HB.out | apply bN | apply b1 | apply bA | refine bS ?_ GE634.out | refine bS ?_ GE635.out | refine bS ?_ GE636.out)) hb)
 refine hK.out _ _ ⟨(blk_cell BK634.out 0).trans rfl, (blk_cell BK634.out 1).trans rfl, (blk_cell BK634.out 2).trans rfl, (blk_cell BK635.out 0).trans rfl, (blk_cell BK635.out 1).trans rfl, (blk_cell BK635.out 2).trans rfl⟩ (fun hHeld => ?_)
 clear hK K
 refine norm_ (a' := ?_) ?_ ?_
 rotate_left
 ·show Act.put _ (some 6) _ = _
  simp only [Act.put, sA, sZ, sS, i64_w, i32_w]
  rfl
 refine one_ (i := 3) (N := some 8) (bv 12 175) rfl rfl (one_of HT_.out (by kernel_rfl)) (by decide) (fun K hK => ?_)
 refine goes_ Try.func59 (by kernel_rfl) rfl #[.agg #[.bool a1_0, .slice A1_1 l1_1.length c1_1, .slice A1_2 l1_2.length c1_2]] (by rfl) rfl rfl (by go_simp <;> rfl) ?_
 with_reducible refine (examboardref03_top.calls k a1_0 _ _ l1_1 _ _ l1_2 t641 t642 _ ?side1 ?side2 ?side3 ?side4 A4.out).mono ?_
 (case side1 => repeat (first | exact (Cb HR1_1.out HB.out) | (with_reducible refine Kd.C_alloc ?_ _) | (with_reducible refine Kd.C_drewN ?_ _) | (with_reducible refine Kd.C_drew ?_)))
 (case side2 => exact HC1_1.out)
 (case side3 => repeat (first | exact (Cb HR1_2.out HB.out) | (with_reducible refine Kd.C_alloc ?_ _) | (with_reducible refine Kd.C_drewN ?_ _) | (with_reducible refine Kd.C_drew ?_)))
 (case side4 => exact HC1_2.out)
 rintro e w15 ⟨v643, rfl, ho0, hb⟩
 refine ⟨_, rfl, ?_⟩
 have HO644 := mk0 (Rl (Rn ho0 (Rq HO640.out)) (bZ (by repeat (first | exact HB.out | apply bN | apply b1 | apply bA | refine bS ?_ GE634.out | refine bS ?_ GE635.out | refine bS ?_ GE636.out))))
 replace HO640 := mk0 (Re HO640.out (Rs ho0) hb)
 replace BK634 := bkB BK634 hb
 replace BK635 := bkB BK635 hb
 replace BK636 := bkB BK636 hb
 replace HB := mk0 (below_step (by repeat (first | exact HB.out | apply bN | apply b1 | apply bA | refine bS ?_ GE634.out | refine bS ?_ GE635.out | refine bS ?_ GE636.out)) hb)
 obtain ⟨Ao16, co16, eo16⟩ := Kd.R_slice HO640.out
 (first | subst eo16 | (injection eo16 with f1_ f2_ f3_; have f4_ := f1_.symm; have f5_ := f3_.symm; clear f1_ f2_ f3_; subst f4_; subst f5_))
 obtain ⟨Ao17, co17, eo17⟩ := Kd.R_slice HO644.out
 (first | subst eo17 | (injection eo17 with f1_ f2_ f3_; have f4_ := f1_.symm; have f5_ := f3_.symm; clear f1_ f2_ f3_; subst f4_; subst f5_))
 refine hK.out _ _ ⟨(blk_cell BK634.out 0).trans rfl, (blk_cell BK634.out 1).trans rfl, (blk_cell BK634.out 2).trans rfl, (blk_cell BK635.out 0).trans rfl, (blk_cell BK635.out 1).trans rfl, (blk_cell BK635.out 2).trans rfl⟩ (fun hHeld => ?_)
 clear hK K
 refine norm_ (a' := ?_) ?_ ?_
 rotate_left
 ·show Act.put _ (some 8) _ = _
  simp only [Act.put, sA, sZ, sS, i64_w, i32_w]
  rfl
 refine one_ (i := 4) (N := some 9) (bv 12 191) rfl rfl (one_of HT_.out (by kernel_rfl)) (by decide) (fun K hK => ?_)
 refine goes_ Try.func58 (by kernel_rfl) rfl #[.agg #[.bool t637, .slice Ao16 t638.length co16], .agg #[.bool t641, .slice Ao17 t642.length co17]] (by rfl) rfl rfl (by go_simp <;> rfl) ?_
 with_reducible refine (examboardref02_Mul.calls k t637 _ _ t638 t641 _ _ t642 t645 t646 _ ?side1 ?side2 ?side3 ?side4 A5.out).mono ?_
 (case side1 => repeat (first | exact (Kd.R_reads' HO640.out).2.2 | (with_reducible refine Kd.C_alloc ?_ _) | (with_reducible refine Kd.C_drewN ?_ _) | (with_reducible refine Kd.C_drew ?_)))
 (case side2 => exact (Kd.R_reads' HO640.out).2.1)
 (case side3 => repeat (first | exact (Kd.R_reads' HO644.out).2.2 | (with_reducible refine Kd.C_alloc ?_ _) | (with_reducible refine Kd.C_drewN ?_ _) | (with_reducible refine Kd.C_drew ?_)))
 (case side4 => exact (Kd.R_reads' HO644.out).2.1)
 rintro e w18 ⟨v647, rfl, ho0, hb⟩
 refine ⟨_, rfl, ?_⟩
 have HO648 := mk0 (Rl (Rn (Rn ho0 (Rq HO640.out)) (Rq HO644.out)) (bZ (by repeat (first | exact HB.out | apply bN | apply b1 | apply bA | refine bS ?_ GE634.out | refine bS ?_ GE635.out | refine bS ?_ GE636.out))))
 replace HO640 := mk0 (Re HO640.out (Rs ho0) hb)
 replace HO644 := mk0 (Re HO644.out (Rs ho0) hb)
 replace BK634 := bkB BK634 hb
 replace BK635 := bkB BK635 hb
 replace BK636 := bkB BK636 hb
 replace HB := mk0 (below_step (by repeat (first | exact HB.out | apply bN | apply b1 | apply bA | refine bS ?_ GE634.out | refine bS ?_ GE635.out | refine bS ?_ GE636.out)) hb)
 refine hK.out _ _ ⟨(blk_cell BK634.out 0).trans rfl, (blk_cell BK634.out 1).trans rfl, (blk_cell BK634.out 2).trans rfl, (blk_cell BK635.out 0).trans rfl, (blk_cell BK635.out 1).trans rfl, (blk_cell BK635.out 2).trans rfl⟩ (fun hHeld => ?_)
 clear hK K
 refine norm_ (a' := ?_) ?_ ?_
 rotate_left
 ·show Act.put _ (some 9) _ = _
  simp only [Act.put, sA, sZ, sS, i64_w, i32_w]
  rfl
 refine one_ (i := 6) (N := some 11) (bv 12 255) rfl rfl (one_of HT_.out (by kernel_rfl)) (by decide) (fun K hK => ?_)
 refine goes_ Try.func61 (by kernel_rfl) rfl #[.agg #[.bool a0_0, .slice A0_1 l0_1.length c0_1, .slice A0_2 l0_2.length c0_2]] (by rfl) rfl rfl (by go_simp <;> rfl) ?_
 with_reducible refine (examboardref03_low.calls k a0_0 _ _ l0_1 _ _ l0_2 t649 _ ?side1 ?side2 ?side3 ?side4 A6.out).mono ?_
 (case side1 => repeat (first | exact (Cb HR0_1.out HB.out) | (with_reducible refine Kd.C_alloc ?_ _) | (with_reducible refine Kd.C_drewN ?_ _) | (with_reducible refine Kd.C_drew ?_)))
 (case side2 => exact HC0_1.out)
 (case side3 => repeat (first | exact (Cb HR0_2.out HB.out) | (with_reducible refine Kd.C_alloc ?_ _) | (with_reducible refine Kd.C_drewN ?_ _) | (with_reducible refine Kd.C_drew ?_)))
 (case side4 => exact HC0_2.out)
 rintro e w19 ⟨v650, rfl, ho0, hb⟩
 refine ⟨_, rfl, ?_⟩
 have HO651 := mk0 (Rl (Rn (Rn (Rn ho0 (Rq HO640.out)) (Rq HO644.out)) (Rq HO648.out)) (bZ (by repeat (first | exact HB.out | apply bN | apply b1 | apply bA | refine bS ?_ GE634.out | refine bS ?_ GE635.out | refine bS ?_ GE636.out))))
 replace HO640 := mk0 (Re HO640.out (Rs ho0) hb)
 replace HO644 := mk0 (Re HO644.out (Rs ho0) hb)
 replace HO648 := mk0 (Re HO648.out (Rs ho0) hb)
 replace BK634 := bkB BK634 hb
 replace BK635 := bkB BK635 hb
 replace BK636 := bkB BK636 hb
 replace HB := mk0 (below_step (by repeat (first | exact HB.out | apply bN | apply b1 | apply bA | refine bS ?_ GE634.out | refine bS ?_ GE635.out | refine bS ?_ GE636.out)) hb)
 refine hK.out _ _ ⟨(blk_cell BK634.out 0).trans rfl, (blk_cell BK634.out 1).trans rfl, (blk_cell BK634.out 2).trans rfl, (blk_cell BK635.out 0).trans rfl, (blk_cell BK635.out 1).trans rfl, (blk_cell BK635.out 2).trans rfl⟩ (fun hHeld => ?_)
 clear hK K
 refine norm_ (a' := ?_) ?_ ?_
 rotate_left
 ·show Act.put _ (some 11) _ = _
  simp only [Act.put, sA, sZ, sS, i64_w, i32_w]
  rfl
 refine one_ (i := 8) (N := some 13) (bv 12 511) rfl rfl (one_of HT_.out (by kernel_rfl)) (by decide) (fun K hK => ?_)
 refine goes_ Try.func61 (by kernel_rfl) rfl #[.agg #[.bool a1_0, .slice A1_1 l1_1.length c1_1, .slice A1_2 l1_2.length c1_2]] (by rfl) rfl rfl (by go_simp <;> rfl) ?_
 with_reducible refine (examboardref03_low.calls k a1_0 _ _ l1_1 _ _ l1_2 t652 _ ?side1 ?side2 ?side3 ?side4 A7.out).mono ?_
 (case side1 => repeat (first | exact (Cb HR1_1.out HB.out) | (with_reducible refine Kd.C_alloc ?_ _) | (with_reducible refine Kd.C_drewN ?_ _) | (with_reducible refine Kd.C_drew ?_)))
 (case side2 => exact HC1_1.out)
 (case side3 => repeat (first | exact (Cb HR1_2.out HB.out) | (with_reducible refine Kd.C_alloc ?_ _) | (with_reducible refine Kd.C_drewN ?_ _) | (with_reducible refine Kd.C_drew ?_)))
 (case side4 => exact HC1_2.out)
 rintro e w20 ⟨v653, rfl, ho0, hb⟩
 refine ⟨_, rfl, ?_⟩
 have HO654 := mk0 (Rl (Rn (Rn (Rn (Rn ho0 (Rq HO640.out)) (Rq HO644.out)) (Rq HO648.out)) (Rq HO651.out)) (bZ (by repeat (first | exact HB.out | apply bN | apply b1 | apply bA | refine bS ?_ GE634.out | refine bS ?_ GE635.out | refine bS ?_ GE636.out))))
 replace HO640 := mk0 (Re HO640.out (Rs ho0) hb)
 replace HO644 := mk0 (Re HO644.out (Rs ho0) hb)
 replace HO648 := mk0 (Re HO648.out (Rs ho0) hb)
 replace HO651 := mk0 (Re HO651.out (Rs ho0) hb)
 replace BK634 := bkB BK634 hb
 replace BK635 := bkB BK635 hb
 replace BK636 := bkB BK636 hb
 replace HB := mk0 (below_step (by repeat (first | exact HB.out | apply bN | apply b1 | apply bA | refine bS ?_ GE634.out | refine bS ?_ GE635.out | refine bS ?_ GE636.out)) hb)
 obtain ⟨Ao21, co21, eo21⟩ := Kd.R_slice HO651.out
 (first | subst eo21 | (injection eo21 with f1_ f2_ f3_; have f4_ := f1_.symm; have f5_ := f3_.symm; clear f1_ f2_ f3_; subst f4_; subst f5_))
 obtain ⟨Ao22, co22, eo22⟩ := Kd.R_slice HO654.out
 (first | subst eo22 | (injection eo22 with f1_ f2_ f3_; have f4_ := f1_.symm; have f5_ := f3_.symm; clear f1_ f2_ f3_; subst f4_; subst f5_))
 refine hK.out _ _ ⟨(blk_cell BK634.out 0).trans rfl, (blk_cell BK634.out 1).trans rfl, (blk_cell BK634.out 2).trans rfl, (blk_cell BK635.out 0).trans rfl, (blk_cell BK635.out 1).trans rfl, (blk_cell BK635.out 2).trans rfl⟩ (fun hHeld => ?_)
 clear hK K
 refine norm_ (a' := ?_) ?_ ?_
 rotate_left
 ·show Act.put _ (some 13) _ = _
  simp only [Act.put, sA, sZ, sS, i64_w, i32_w]
  rfl
 refine one_ (i := 9) (N := some 14) (bv 12 1023) rfl rfl (one_of HT_.out (by kernel_rfl)) (by decide) (fun K hK => ?_)
 refine goes_ Try.func60 (by kernel_rfl) rfl #[.slice Ao21 t649.length co21, .slice Ao22 t652.length co22] (by rfl) rfl rfl (by go_simp <;> rfl) ?_
 with_reducible refine (examboardref01_Mul.calls k _ _ t649 _ _ t652 t655 _ ?side1 ?side2 ?side3 ?side4 A8.out).mono ?_
 (case side1 => repeat (first | exact (Kd.R_reads' HO651.out).2.2 | (with_reducible refine Kd.C_alloc ?_ _) | (with_reducible refine Kd.C_drewN ?_ _) | (with_reducible refine Kd.C_drew ?_)))
 (case side2 => exact (Kd.R_reads' HO651.out).2.1)
 (case side3 => repeat (first | exact (Kd.R_reads' HO654.out).2.2 | (with_reducible refine Kd.C_alloc ?_ _) | (with_reducible refine Kd.C_drewN ?_ _) | (with_reducible refine Kd.C_drew ?_)))
 (case side4 => exact (Kd.R_reads' HO654.out).2.1)
 rintro e w23 ⟨v656, rfl, ho0, hb⟩
 refine ⟨_, rfl, ?_⟩
 have HO657 := mk0 (Rl (Rn (Rn (Rn (Rn (Rn ho0 (Rq HO640.out)) (Rq HO644.out)) (Rq HO648.out)) (Rq HO651.out)) (Rq HO654.out)) (bZ (by repeat (first | exact HB.out | apply bN | apply b1 | apply bA | refine bS ?_ GE634.out | refine bS ?_ GE635.out | refine bS ?_ GE636.out))))
 replace HO640 := mk0 (Re HO640.out (Rs ho0) hb)
 replace HO644 := mk0 (Re HO644.out (Rs ho0) hb)
 replace HO648 := mk0 (Re HO648.out (Rs ho0) hb)
 replace HO651 := mk0 (Re HO651.out (Rs ho0) hb)
 replace HO654 := mk0 (Re HO654.out (Rs ho0) hb)
 replace BK634 := bkB BK634 hb
 replace BK635 := bkB BK635 hb
 replace BK636 := bkB BK636 hb
 replace HB := mk0 (below_step (by repeat (first | exact HB.out | apply bN | apply b1 | apply bA | refine bS ?_ GE634.out | refine bS ?_ GE635.out | refine bS ?_ GE636.out)) hb)
 obtain ⟨Ao24, co24, eo24⟩ := Kd.R_slice HO648.out
 (first | subst eo24 | (injection eo24 with f1_ f2_ f3_; have f4_ := f1_.symm; have f5_ := f3_.symm; clear f1_ f2_ f3_; subst f4_; subst f5_))
 obtain ⟨Ao25, co25, eo25⟩ := Kd.R_slice HO657.out
 (first | subst eo25 | (injection eo25 with f1_ f2_ f3_; have f4_ := f1_.symm; have f5_ := f3_.symm; clear f1_ f2_ f3_; subst f4_; subst f5_))
 refine hK.out _ _ ⟨(blk_cell BK634.out 0).trans rfl, (blk_cell BK634.out 1).trans rfl, (blk_cell BK634.out 2).trans rfl, (blk_cell BK635.out 0).trans rfl, (blk_cell BK635.out 1).trans rfl, (blk_cell BK635.out 2).trans rfl⟩ (fun hHeld => ?_)
 clear hK K
 refine norm_ (a' := ?_) ?_ ?_
 rotate_left
 ·show Act.put _ (some 14) _ = _
  simp only [Act.put, sA, sZ, sS, i64_w, i32_w]
  rfl
 refine one_ (i := 10) (N := some 15) (bv 12 2047) rfl rfl (one_of HT_.out (by kernel_rfl)) (by decide) (fun K hK => ?_)
 refine goes_ Try.func57 (by kernel_rfl) rfl #[.agg #[.bool t645, .slice Ao24 t646.length co24], .slice Ao25 t655.length co25] (by rfl) rfl rfl (by go_simp <;> rfl) ?_
 with_reducible refine (examboardref03_reduce.calls k t645 _ _ t646 _ _ t655 t658 t659 t662 _ ?side1 ?side2 ?side3 ?side4 A9.out).mono ?_
 (case side1 => repeat (first | exact (Kd.R_reads' HO648.out).2.2 | (with_reducible refine Kd.C_alloc ?_ _) | (with_reducible refine Kd.C_drewN ?_ _) | (with_reducible refine Kd.C_drew ?_)))
 (case side2 => exact (Kd.R_reads' HO648.out).2.1)
 (case side3 => repeat (first | exact (Kd.R_reads' HO657.out).2.2 | (with_reducible refine Kd.C_alloc ?_ _) | (with_reducible refine Kd.C_drewN ?_ _) | (with_reducible refine Kd.C_drew ?_)))
 (case side4 => exact (Kd.R_reads' HO657.out).2.1)
 rintro e w26 ⟨v660, v663, rfl, ho0, ho1, hb⟩
 refine ⟨_, rfl, ?_⟩
 have HO661 := mk0 (Rl (Rn (Rn (Rn (Rn (Rn (Rn ho0 (Rq HO640.out)) (Rq HO644.out)) (Rq HO648.out)) (Rq HO651.out)) (Rq HO654.out)) (Rq HO657.out)) (bZ (by repeat (first | exact HB.out | apply bN | apply b1 | apply bA | refine bS ?_ GE634.out | refine bS ?_ GE635.out | refine bS ?_ GE636.out))))
 have HO664 := mk0 (Rl (Rn (Rn (Rn (Rn (Rn (Rn ho1 (Rq HO640.out)) (Rq HO644.out)) (Rq HO648.out)) (Rq HO651.out)) (Rq HO654.out)) (Rq HO657.out)) (bZ (by repeat (first | exact HB.out | apply bN | apply b1 | apply bA | refine bS ?_ GE634.out | refine bS ?_ GE635.out | refine bS ?_ GE636.out))))
 replace HO640 := mk0 (Rm (Kd.R_told (Kd.R_told (Kd.R_old HO640.out hb) (Rs ho0)) (Rs ho1)) (fun _ h_ => h_.1))
 replace HO644 := mk0 (Rm (Kd.R_told (Kd.R_told (Kd.R_old HO644.out hb) (Rs ho0)) (Rs ho1)) (fun _ h_ => h_.1))
 replace HO648 := mk0 (Rm (Kd.R_told (Kd.R_told (Kd.R_old HO648.out hb) (Rs ho0)) (Rs ho1)) (fun _ h_ => h_.1))
 replace HO651 := mk0 (Rm (Kd.R_told (Kd.R_told (Kd.R_old HO651.out hb) (Rs ho0)) (Rs ho1)) (fun _ h_ => h_.1))
 replace HO654 := mk0 (Rm (Kd.R_told (Kd.R_told (Kd.R_old HO654.out hb) (Rs ho0)) (Rs ho1)) (fun _ h_ => h_.1))
 replace HO657 := mk0 (Rm (Kd.R_told (Kd.R_told (Kd.R_old HO657.out hb) (Rs ho0)) (Rs ho1)) (fun _ h_ => h_.1))
 replace BK634 := bkB BK634 hb
 replace BK635 := bkB BK635 hb
 replace BK636 := bkB BK636 hb
 replace HB := mk0 (below_step (by repeat (first | exact HB.out | apply bN | apply b1 | apply bA | refine bS ?_ GE634.out | refine bS ?_ GE635.out | refine bS ?_ GE636.out)) hb)
 obtain ⟨Ao28, co28, eo28⟩ := Kd.R_slice HO661.out
 (first | subst eo28 | (injection eo28 with f1_ f2_ f3_; have f4_ := f1_.symm; have f5_ := f3_.symm; clear f1_ f2_ f3_; subst f4_; subst f5_))
 obtain ⟨Ao30, co30, eo30⟩ := Kd.R_slice HO664.out
 (first | subst eo30 | (injection eo30 with f1_ f2_ f3_; have f4_ := f1_.symm; have f5_ := f3_.symm; clear f1_ f2_ f3_; subst f4_; subst f5_))
 refine hK.out _ _ ⟨(blk_cell BK634.out 0).trans rfl, (blk_cell BK634.out 1).trans rfl, (blk_cell BK634.out 2).trans rfl, (blk_cell BK635.out 0).trans rfl, (blk_cell BK635.out 1).trans rfl, (blk_cell BK635.out 2).trans rfl⟩ (fun hHeld => ?_)
 clear hK K
 refine norm_ (a' := ?_) ?_ ?_
 rotate_left
 ·show Act.put _ (some 15) _ = _
  simp only [Act.put, sA, sZ, sS, i64_w, i32_w]
  rfl
 refine one_ (i := 11) (N := none) (bv 12 4095) rfl rfl (one_of HT_.out (by kernel_rfl)) (by decide) (fun K hK => ?_)
 have hs27 : w26.cell? ⟨gb636, 0, none⟩ = some (.bool false) := (blk_cell BK636.out 0).trans rfl
 have hfs27 := blk_frozen BK636.out 0
 have hns27_0 := NB634_636.out
 have hns27_1 := NB635_636.out
 have hms27_0 := NB636_634.out
 have hms27_1 := NB636_635.out
 have hs29 : w26.cell? ⟨gb636, 1, none⟩ = some (.slice none 0 0) := (blk_cell BK636.out 1).trans rfl
 have hfs29 := blk_frozen BK636.out 1
 have hns29_0 := NB634_636.out
 have hns29_1 := NB635_636.out
 have hms29_0 := NB636_634.out
 have hms29_1 := NB636_635.out
 have hs31 : w26.cell? ⟨gb636, 2, none⟩ = some (.slice none 0 0) := (blk_cell BK636.out 2).trans rfl
 have hfs31 := blk_frozen BK636.out 2
 have hns31_0 := NB634_636.out
 have hns31_1 := NB635_636.out
 have hms31_0 := NB636_634.out
 have hms31_1 := NB636_635.out
 refine skip_ (w1 := ?_) (by rfl) rfl ?_ ?_
 rotate_left
 ·go_simp
  rfl
 refine hK.out _ _ ⟨((cell_far (p := ⟨gb636, _, none⟩) NB634_636.out _).trans (((cell_far (p := ⟨gb636, _, none⟩) NB634_636.out _).trans (((cell_far (p := ⟨gb636, _, none⟩) NB634_636.out _).trans (hHeld.1)))))), ((cell_far (p := ⟨gb636, _, none⟩) NB634_636.out _).trans (((cell_far (p := ⟨gb636, _, none⟩) NB634_636.out _).trans (((cell_far (p := ⟨gb636, _, none⟩) NB634_636.out _).trans (hHeld.2.1)))))), ((cell_far (p := ⟨gb636, _, none⟩) NB634_636.out _).trans (((cell_far (p := ⟨gb636, _, none⟩) NB634_636.out _).trans (((cell_far (p := ⟨gb636, _, none⟩) NB634_636.out _).trans (hHeld.2.2.1)))))), ((cell_far (p := ⟨gb636, _, none⟩) NB635_636.out _).trans (((cell_far (p := ⟨gb636, _, none⟩) NB635_636.out _).trans (((cell_far (p := ⟨gb636, _, none⟩) NB635_636.out _).trans (hHeld.2.2.2.1)))))), ((cell_far (p := ⟨gb636, _, none⟩) NB635_636.out _).trans (((cell_far (p := ⟨gb636, _, none⟩) NB635_636.out _).trans (((cell_far (p := ⟨gb636, _, none⟩) NB635_636.out _).trans (hHeld.2.2.2.2.1)))))), ((cell_far (p := ⟨gb636, _, none⟩) NB635_636.out _).trans (((cell_far (p := ⟨gb636, _, none⟩) NB635_636.out _).trans (((cell_far (p := ⟨gb636, _, none⟩) NB635_636.out _).trans (hHeld.2.2.2.2.2))))))⟩ (fun hHeld => ?_)
 clear hK K
 refine done_ (done_of HT_.out (by kernel_rfl)) ?_
 try go_wp2
 refine bodyPost_ret (results_cell_row rfl _ _ gb636 29 #[.bool t658, .slice Ao28 t659.length co28, .slice Ao30 t662.length co30] (0, 0) _ rfl (by refine blk_put (cs := #[.bool t658, .slice Ao28 t659.length co28, .slice none 0 0]) ?_ 2 _ rfl; refine blk_put (cs := #[.bool t658, .slice none 0 0, .slice none 0 0]) ?_ 1 _ rfl; refine blk_put (cs := #[.bool false, .slice none 0 0, .slice none 0 0]) ?_ 0 _ rfl; exact BK636.out) Try.underlying29 rfl (by kernel_rfl)) rfl ?_
 exact ⟨_, _, by first | rfl | (simp [errW_none, errW_some] <;> rfl) | (simp [*, errW_none, errW_some] <;> rfl), Rm (Rf (p := ⟨gb636, 2, none⟩) (Rf (p := ⟨gb636, 1, none⟩) (Rf (p := ⟨gb636, 0, none⟩) (Rt HO661.out BK636.out (by decide)) (fun _ hk => hk.2) (.bool t658)) (fun _ hk => hk.2) (.slice Ao28 t659.length co28)) (fun _ hk => hk.2) (.slice Ao30 t662.length co30)) (fun _ hk => hk.1.1.1.1.1.1.1), Rm (Rf (p := ⟨gb636, 2, none⟩) (Rf (p := ⟨gb636, 1, none⟩) (Rf (p := ⟨gb636, 0, none⟩) (Rt HO664.out BK636.out (by decide)) (fun _ hk => hk.2) (.bool t658)) (fun _ hk => hk.2) (.slice Ao28 t659.length co28)) (fun _ hk => hk.2) (.slice Ao30 t662.length co30)) (fun _ hk => hk.1.1.1.1.1.1.1), by repeat (first | exact HB.out | apply bN | apply b1 | apply bA | refine bS ?_ GE634.out | refine bS ?_ GE635.out | refine bS ?_ GE636.out)⟩
set_option maxHeartbeats 8000000 in
set_option maxRecDepth 100000 in
theorem examboardref02_Neg.calls (k : Nat) (a0_0 : Bool) (A0_1 : Option Addr) (c0_1 : Nat) (l0_1 : List Int) (r1 : Bool) (r2 : List Int) (w : World) (hr0_1 : Kd.C (Kd.int .u32) w A0_1 l0_1.length l0_1) (hc0_1 : l0_1.length ≤ c0_1) (h : examboardref02_Neg.f k a0_0 l0_1 = some (r1, r2)) :
  Calls Try.prog 94 #[.agg #[.bool a0_0, .slice A0_1 l0_1.length c0_1]] w fun e w' => ∃ v1_ : Value, e = .returned (.agg #[.bool r1, v1_]) ∧ Kd.R (Kd.int .u32) 87 w' w.heap.size (fun _ => True) v1_ r2 ∧ Below w.heap.size w w' := by
 have hu27 := Try.underlying27
 have HR0_1 := mk0 hr0_1
 have HC0_1 := mk0 hc0_1
 clear hr0_1 hc0_1
 have HB := mk0 (Below.refl w.heap.size w)
 have H : ((examboardref02_Make.f k (!a0_0) l0_1).bind fun bt714 => (some (bt714.1, bt714.2))) = some (r1, r2) := h
 clear h
 obtain ⟨⟨t714, t715⟩, A2, H⟩ := bindA H
 simp only [Option.some.injEq, Prod.mk.injEq] at H
 obtain ⟨rfl, rfl⟩ := H
 go_enter Try.func94, Try.ntmps94
 go_wp2_with (first | ((with_reducible refine gate_dst (N := 1) rfl ?_); refine box_event rfl (N := 1) rfl (cs := #[.bool a0_0, .slice A0_1 l0_1.length c0_1]) (t := 27) (by go_simp <;> rfl) ?_; intro gb712 hg w3 hbox hb; have BK712 := mk0 (hbox); have GE712 := geB hg HB; replace HB := hbS HB hb; clear hb hbox hg) | ((with_reducible refine gate_dst (N := 2) rfl ?_); refine box_event rfl (N := 2) rfl (cs := #[.bool false, .slice none 0 0]) (t := 27) (by go_simp <;> rfl) ?_; intro gb713 hg w4 hbox hb; have BK713 := mk0 (hbox); have GE713 := geB hg HB; replace HB := hbS HB hb; have NB712_713 := nbA hg BK712; have NB713_712 := nbB hg BK712; replace BK712 := bkB BK712 hb; clear hb hbox hg; have hnb5 := NB712_713.out; have hnc5 := NB713_712.out; obtain ⟨hcz6_0, hcz6_1, hfz6_0, hfz6_1⟩ := cz2 BK712) | ((with_reducible refine gate_callee (f := 62) rfl ?_); refine goA 8 Try.func62 #[.bool (!a0_0), .slice A0_1 l0_1.length c0_1] ?_; (with_reducible refine (examboardref02_Make.calls k (!a0_0) _ _ l0_1 t714 t715 _ (by exact Cb HR0_1.out HB.out) HC0_1.out A2.out).mono ?_); rintro e w7 ⟨v716, rfl, ho0, hb⟩; refine ⟨_, rfl, ?_⟩; have HO717 := mk0 (Rl ho0 (bZ HB.out)); replace BK712 := bkB BK712 hb; replace BK713 := bkB BK713 hb; replace HB := hbS HB hb; obtain ⟨hcz8_0, hcz8_1, hfz8_0, hfz8_1⟩ := cz2 BK713; obtain ⟨Ao9, co9, eo9⟩ := Kd.R_slice HO717.out; subst eo9))
 refine bodyPost_ret (results_cell_row rfl _ _ gb713 27 #[.bool t714, .slice Ao9 t715.length co9] (0, 0) _ rfl (by refine blk_put (cs := #[.bool t714, .slice none 0 0]) ?_ 1 _ rfl; refine blk_put (cs := #[.bool false, .slice none 0 0]) ?_ 0 _ rfl; exact BK713.out) Try.underlying27 rfl (by kernel_rfl)) rfl ?_
 exact ⟨_, by first | rfl | (simp [errW_none, errW_some] <;> rfl) | (simp [*, errW_none, errW_some] <;> rfl), Rm (Rf (p := ⟨gb713, 1, none⟩) (Rf (p := ⟨gb713, 0, none⟩) (Rt HO717.out BK713.out (by decide)) (fun _ hk => hk.2) (.bool t714)) (fun _ hk => hk.2) (.slice Ao9 t715.length co9)) tv, by repeat (first | exact HB.out | apply bN | apply b1 | apply bA | refine bS ?_ GE712.out | refine bS ?_ GE713.out)⟩
set_option maxHeartbeats 8000000 in
set_option maxRecDepth 100000 in
theorem examboardref03_Make.calls (k : Nat) (a0_0 : Bool) (A0_1 : Option Addr) (c0_1 : Nat) (l0_1 : List Int) (a1_0 : Bool) (A1_1 : Option Addr) (c1_1 : Nat) (l1_1 : List Int) (r1 : Bool) (r2 : List Int) (r3 : List Int) (r4 : Bool) (w : World) (hr0_1 : Kd.C (Kd.int .u32) w A0_1 l0_1.length l0_1) (hc0_1 : l0_1.length ≤ c0_1) (hr1_1 : Kd.C (Kd.int .u32) w A1_1 l1_1.length l1_1) (hc1_1 : l1_1.length ≤ c1_1) (h : examboardref03_Make.f k a0_0 l0_1 a1_0 l1_1 = some (r1, r2, r3, r4)) :
  Calls Try.prog 68 #[.agg #[.bool a0_0, .slice A0_1 l0_1.length c0_1], .agg #[.bool a1_0, .slice A1_1 l1_1.length c1_1]] w fun e w' => ∃ v1_ v2_ : Value, e = .returned (.tuple #[.agg #[.bool r1, v1_, v2_], .bool r4]) ∧ Kd.R (Kd.int .u32) 87 w' w.heap.size (fun k_ => some k_ ≠ (v2_ : Value).ownBlock) v1_ r2 ∧ Kd.R (Kd.int .u32) 87 w' w.heap.size (fun k_ => some k_ ≠ (v1_ : Value).ownBlock) v2_ r3 ∧ Below w.heap.size w w' := by
 have hu27 := Try.underlying27
 have hu29 := Try.underlying29
 have HR0_1 := mk0 hr0_1
 have HC0_1 := mk0 hc0_1
 clear hr0_1 hc0_1
 have HR1_1 := mk0 hr1_1
 have HC1_1 := mk0 hc1_1
 clear hr1_1 hc1_1
 have HB := mk0 (Below.refl w.heap.size w)
 have H : ((examboardref02_Norm.f k a1_0 l1_1).bind fun bt721 => ((examboardref01_Bits.f k bt721.2).bind fun t726 => (if t726 = 0 then ((examboardref03_zero.f k).bind fun bt727 => (some (bt727.1, bt727.2.1, bt727.2.2, false))) else ((examboardref02_Norm.f k a0_0 l0_1).bind fun bt734 => (if bt721.1 = true then ((examboardref02_Neg.f k bt734.1 bt734.2).bind fun bt739 => ((examboardref03_reduce.f k bt739.1 bt739.2 bt721.2).bind fun bt743 => (some (bt743.1, bt743.2.1, bt743.2.2, true)))) else ((examboardref03_reduce.f k bt734.1 bt734.2 bt721.2).bind fun bt750 => (some (bt750.1, bt750.2.1, bt750.2.2, true)))))))) = some (r1, r2, r3, r4) := h
 clear h
 obtain ⟨⟨t721, t722⟩, A3, H⟩ := bindA H
 obtain ⟨t726, A4, H⟩ := bindA H
 by_cases c5 : t726 = 0
 ·rw [if_pos c5] at H
  have c5b0 : (t726 == 0) = true := beq_iff_eq.mpr c5
  have c5b1 : (t726 != 0) = false := bne_eq_false_iff_eq.mpr c5
  clear c5
  obtain ⟨⟨t727, t728, t731⟩, A6, H⟩ := bindA H
  simp only [Option.some.injEq, Prod.mk.injEq] at H
  obtain ⟨rfl, rfl, rfl, rfl⟩ := H
  go_enter Try.func68, Try.ntmps68
  go_wp2_with (first | ((with_reducible refine gate_dst (N := 2) rfl ?_); refine box_event rfl (N := 2) rfl (cs := #[.bool a0_0, .slice A0_1 l0_1.length c0_1]) (t := 27) (by go_simp <;> rfl) ?_; intro gb718 hg w7 hbox hb; have BK718 := mk0 (hbox); have GE718 := geB hg HB; replace HB := hbS HB hb; clear hb hbox hg) | ((with_reducible refine gate_dst (N := 3) rfl ?_); refine box_event rfl (N := 3) rfl (cs := #[.bool a1_0, .slice A1_1 l1_1.length c1_1]) (t := 27) (by go_simp <;> rfl) ?_; intro gb719 hg w8 hbox hb; have BK719 := mk0 (hbox); have GE719 := geB hg HB; replace HB := hbS HB hb; have NB718_719 := nbA hg BK718; have NB719_718 := nbB hg BK718; replace BK718 := bkB BK718 hb; clear hb hbox hg) | ((with_reducible refine gate_dst (N := 4) rfl ?_); refine box_event rfl (N := 4) rfl (cs := #[.bool false, .slice none 0 0, .slice none 0 0]) (t := 29) (by go_simp <;> rfl) ?_; intro gb720 hg w9 hbox hb; have BK720 := mk0 (hbox); have GE720 := geB hg HB; replace HB := hbS HB hb; have NB718_720 := nbA hg BK718; have NB720_718 := nbB hg BK718; replace BK718 := bkB BK718 hb; have NB719_720 := nbA hg BK719; have NB720_719 := nbB hg BK719; replace BK719 := bkB BK719 hb; clear hb hbox hg; have hnb10 := NB719_718.out; have hnc10 := NB718_719.out; have hnb11 := NB719_720.out; have hnc11 := NB720_719.out; obtain ⟨hcz12_0, hcz12_1, hfz12_0, hfz12_1⟩ := cz2 BK719) | ((with_reducible refine gate_callee (f := 84) rfl ?_); refine goA 9 Try.func84 #[.agg #[.bool a1_0, .slice A1_1 l1_1.length c1_1]] ?_; (with_reducible refine (examboardref02_Norm.calls k a1_0 _ _ l1_1 t721 t722 _ (by exact Cb HR1_1.out HB.out) HC1_1.out A3.out).mono ?_); rintro e w13 ⟨v723, rfl, ho0, hb⟩; refine ⟨_, rfl, ?_⟩; have HO724 := mk0 (Rl ho0 (bZ HB.out)); replace BK718 := bkB BK718 hb; replace BK719 := bkB BK719 hb; replace BK720 := bkB BK720 hb; replace HB := hbS HB hb) | ((with_reducible refine gate_dst (N := 6) rfl ?_); refine box_event rfl (N := 6) rfl (cs := #[.bool false, .slice none 0 0]) (t := 27) (by go_simp <;> rfl) ?_; intro gb725 hg w14 hbox hb; replace HO724 := rB HO724 hb; have BK725 := mk0 (hbox); have GE725 := geB hg HB; replace HB := hbS HB hb; have NB718_725 := nbA hg BK718; have NB725_718 := nbB hg BK718; replace BK718 := bkB BK718 hb; have NB719_725 := nbA hg BK719; have NB725_719 := nbB hg BK719; replace BK719 := bkB BK719 hb; have NB720_725 := nbA hg BK720; have NB725_720 := nbB hg BK720; replace BK720 := bkB BK720 hb; clear hb hbox hg; have hnb15 := NB725_718.out; have hnc15 := NB718_725.out; have hnb16 := NB725_719.out; have hnc16 := NB719_725.out; have hnb17 := NB725_720.out; have hnc17 := NB720_725.out; obtain ⟨hcz18_0, hcz18_1, hfz18_0, hfz18_1⟩ := cz2 BK725; obtain ⟨Ao19, co19, eo19⟩ := Kd.R_slice HO724.out; subst eo19) | ((with_reducible refine gate_callee (f := 85) rfl ?_); refine goA 12 Try.func85 #[.slice Ao19 t722.length co19] ?_; (with_reducible refine (examboardref01_Bits.calls k _ _ t722 t726 _ (by refine (Kd.R_reads' (e := 87) (base := w.heap.size) (ok := fun k_ => True) (n := t722.length) (c := co19) ?_).2.2; exact ((Rm (Rf (p := ⟨gb725, 1, none⟩) (Rf (p := ⟨gb725, 0, none⟩) (Rt HO724.out BK725.out (by decide)) (fun _ hk => hk.2) (.bool t721)) (fun _ hk => hk.2) (.slice Ao19 t722.length co19)) (fun _ h_ => h_.1)))) (by exact (Kd.R_reads' HO724.out).2.1) A4.out).mono ?_); rintro e w20 ⟨rfl, hb⟩; refine ⟨_, rfl, ?_⟩; replace HO724 := mk0 (Rb ((Rm (Rf (p := ⟨gb725, 1, none⟩) (Rf (p := ⟨gb725, 0, none⟩) (Rt HO724.out BK725.out (by decide)) (fun _ hk => hk.2) (.bool t721)) (fun _ hk => hk.2) (.slice Ao19 t722.length co19)) (fun _ h_ => h_.1))) hb); replace BK718 := mk0 (blk_below (g := gb718) (o := .cells #[.bool a0_0, .slice A0_1 l0_1.length c0_1] 27 (0, 0)) (by refine blk_far ?_ NB718_725.out _; refine blk_far ?_ NB718_725.out _; exact BK718.out) hb); replace BK719 := mk0 (blk_below (g := gb719) (o := .cells #[.bool a1_0, .slice A1_1 l1_1.length c1_1] 27 (0, 0)) (by refine blk_far ?_ NB719_725.out _; refine blk_far ?_ NB719_725.out _; exact BK719.out) hb); replace BK720 := mk0 (blk_below (g := gb720) (o := .cells #[.bool false, .slice none 0 0, .slice none 0 0] 29 (0, 0)) (by refine blk_far ?_ NB720_725.out _; refine blk_far ?_ NB720_725.out _; exact BK720.out) hb); replace BK725 := mk0 (blk_below (g := gb725) (o := .cells #[.bool t721, .slice Ao19 t722.length co19] 27 (0, 0)) (by refine blk_put (cs := #[.bool t721, .slice none 0 0]) ?_ 1 _ rfl; refine blk_put (cs := #[.bool false, .slice none 0 0]) ?_ 0 _ rfl; exact BK725.out) hb); replace HB := mk0 (below_step (by repeat (first | exact HB.out | refine bS ?_ GE720.out | refine bS ?_ GE725.out)) hb)) | ((with_reducible refine gate_callee (f := 86) rfl ?_); refine goA 14 Try.func86 #[] ?_; (with_reducible refine (examboardref03_zero.calls k  t727 t728 t731 _ A6.out).mono ?_); rintro e w21 ⟨v729, v732, rfl, ho0, ho1, hb⟩; refine ⟨_, rfl, ?_⟩; have HO730 := mk0 (Rl (Rn ho0 (Rq HO724.out)) (bZ HB.out)); have HO733 := mk0 (Rl (Rn ho1 (Rq HO724.out)) (bZ HB.out)); replace HO724 := mk0 (Rm (Kd.R_told (Kd.R_told (Kd.R_old HO724.out hb) (Rs ho0)) (Rs ho1)) (fun _ h_ => h_.1)); replace BK718 := bkB BK718 hb; replace BK719 := bkB BK719 hb; replace BK720 := bkB BK720 hb; replace BK725 := bkB BK725 hb; replace HB := hbS HB hb; have hnb22 := NB720_718.out; have hnc22 := NB718_720.out; obtain ⟨hcz23_0, hcz23_1, hcz23_2, hfz23_0, hfz23_1, hfz23_2⟩ := cz3 BK720; obtain ⟨Ao24, co24, eo24⟩ := Kd.R_slice HO730.out; subst eo24; obtain ⟨Ao25, co25, eo25⟩ := Kd.R_slice HO733.out; subst eo25))
  refine bodyPost_ret (results_ct rfl _ _ gb720 29 #[.bool t727, .slice Ao24 t728.length co24, .slice Ao25 t731.length co25] (0, 0) _ rfl (by refine blk_put (cs := #[.bool t727, .slice Ao24 t728.length co24, .slice none 0 0]) ?_ 2 _ rfl; refine blk_put (cs := #[.bool t727, .slice none 0 0, .slice none 0 0]) ?_ 1 _ rfl; refine blk_put (cs := #[.bool false, .slice none 0 0, .slice none 0 0]) ?_ 0 _ rfl; exact BK720.out) Try.underlying29 rfl (by kernel_rfl)) rfl ?_
  exact ⟨_, _, by first | rfl | (simp [errW_none, errW_some] <;> rfl) | (simp [*, errW_none, errW_some] <;> rfl), Rm (Rf (p := ⟨gb720, 2, none⟩) (Rf (p := ⟨gb720, 1, none⟩) (Rf (p := ⟨gb720, 0, none⟩) (Rt HO730.out BK720.out (by decide)) (fun _ hk => hk.2) (.bool t727)) (fun _ hk => hk.2) (.slice Ao24 t728.length co24)) (fun _ hk => hk.2) (.slice Ao25 t731.length co25)) (fun _ hk => hk.1.1), Rm (Rf (p := ⟨gb720, 2, none⟩) (Rf (p := ⟨gb720, 1, none⟩) (Rf (p := ⟨gb720, 0, none⟩) (Rt HO733.out BK720.out (by decide)) (fun _ hk => hk.2) (.bool t727)) (fun _ hk => hk.2) (.slice Ao24 t728.length co24)) (fun _ hk => hk.2) (.slice Ao25 t731.length co25)) (fun _ hk => hk.1.1), by repeat (first | exact HB.out | apply bN | apply b1 | apply bA | refine bS ?_ GE718.out | refine bS ?_ GE719.out | refine bS ?_ GE720.out | refine bS ?_ GE725.out)⟩
 ·rw [if_neg c5] at H
  have c5b0 : (t726 == 0) = false := beq_eq_false_iff_ne.mpr c5
  have c5b1 : (t726 != 0) = true := bne_iff_ne.mpr c5
  obtain ⟨⟨t734, t735⟩, A26, H⟩ := bindA H
  by_cases c27 : t721 = true
  ·subst c27
   have H1 : ((examboardref02_Neg.f k t734 t735).bind fun bt739 => ((examboardref03_reduce.f k bt739.1 bt739.2 t722).bind fun bt743 => (some (bt743.1, bt743.2.1, bt743.2.2, true)))) = some (r1, r2, r3, r4) := by rw [if_pos rfl] at H; exact H
   clear H
   have H := H1
   clear H1
   obtain ⟨⟨t739, t740⟩, A28, H⟩ := bindA H
   obtain ⟨⟨t743, t744, t747⟩, A29, H⟩ := bindA H
   simp only [Option.some.injEq, Prod.mk.injEq] at H
   obtain ⟨rfl, rfl, rfl, rfl⟩ := H
   go_enter Try.func68, Try.ntmps68
   go_wp2_with (first | ((with_reducible refine gate_dst (N := 2) rfl ?_); refine box_event rfl (N := 2) rfl (cs := #[.bool a0_0, .slice A0_1 l0_1.length c0_1]) (t := 27) (by go_simp <;> rfl) ?_; intro gb718 hg w30 hbox hb; have BK718 := mk0 (hbox); have GE718 := geB hg HB; replace HB := hbS HB hb; clear hb hbox hg) | ((with_reducible refine gate_dst (N := 3) rfl ?_); refine box_event rfl (N := 3) rfl (cs := #[.bool a1_0, .slice A1_1 l1_1.length c1_1]) (t := 27) (by go_simp <;> rfl) ?_; intro gb719 hg w31 hbox hb; have BK719 := mk0 (hbox); have GE719 := geB hg HB; replace HB := hbS HB hb; have NB718_719 := nbA hg BK718; have NB719_718 := nbB hg BK718; replace BK718 := bkB BK718 hb; clear hb hbox hg) | ((with_reducible refine gate_dst (N := 4) rfl ?_); refine box_event rfl (N := 4) rfl (cs := #[.bool false, .slice none 0 0, .slice none 0 0]) (t := 29) (by go_simp <;> rfl) ?_; intro gb720 hg w32 hbox hb; have BK720 := mk0 (hbox); have GE720 := geB hg HB; replace HB := hbS HB hb; have NB718_720 := nbA hg BK718; have NB720_718 := nbB hg BK718; replace BK718 := bkB BK718 hb; have NB719_720 := nbA hg BK719; have NB720_719 := nbB hg BK719; replace BK719 := bkB BK719 hb; clear hb hbox hg; have hnb33 := NB719_718.out; have hnc33 := NB718_719.out; have hnb34 := NB719_720.out; have hnc34 := NB720_719.out; obtain ⟨hcz35_0, hcz35_1, hfz35_0, hfz35_1⟩ := cz2 BK719) | ((with_reducible refine gate_callee (f := 84) rfl ?_); refine goA 9 Try.func84 #[.agg #[.bool a1_0, .slice A1_1 l1_1.length c1_1]] ?_; (with_reducible refine (examboardref02_Norm.calls k a1_0 _ _ l1_1 true t722 _ (by exact Cb HR1_1.out HB.out) HC1_1.out A3.out).mono ?_); rintro e w36 ⟨v723, rfl, ho0, hb⟩; refine ⟨_, rfl, ?_⟩; have HO724 := mk0 (Rl ho0 (bZ HB.out)); replace BK718 := bkB BK718 hb; replace BK719 := bkB BK719 hb; replace BK720 := bkB BK720 hb; replace HB := hbS HB hb) | ((with_reducible refine gate_dst (N := 6) rfl ?_); refine box_event rfl (N := 6) rfl (cs := #[.bool false, .slice none 0 0]) (t := 27) (by go_simp <;> rfl) ?_; intro gb725 hg w37 hbox hb; replace HO724 := rB HO724 hb; have BK725 := mk0 (hbox); have GE725 := geB hg HB; replace HB := hbS HB hb; have NB718_725 := nbA hg BK718; have NB725_718 := nbB hg BK718; replace BK718 := bkB BK718 hb; have NB719_725 := nbA hg BK719; have NB725_719 := nbB hg BK719; replace BK719 := bkB BK719 hb; have NB720_725 := nbA hg BK720; have NB725_720 := nbB hg BK720; replace BK720 := bkB BK720 hb; clear hb hbox hg; have hnb38 := NB725_718.out; have hnc38 := NB718_725.out; have hnb39 := NB725_719.out; have hnc39 := NB719_725.out; have hnb40 := NB725_720.out; have hnc40 := NB720_725.out; obtain ⟨hcz41_0, hcz41_1, hfz41_0, hfz41_1⟩ := cz2 BK725; obtain ⟨Ao42, co42, eo42⟩ := Kd.R_slice HO724.out; subst eo42) | ((with_reducible refine gate_callee (f := 85) rfl ?_); refine goA 12 Try.func85 #[.slice Ao42 t722.length co42] ?_; (with_reducible refine (examboardref01_Bits.calls k _ _ t722 t726 _ (by refine (Kd.R_reads' (e := 87) (base := w.heap.size) (ok := fun k_ => True) (n := t722.length) (c := co42) ?_).2.2; exact ((Rm (Rf (p := ⟨gb725, 1, none⟩) (Rf (p := ⟨gb725, 0, none⟩) (Rt HO724.out BK725.out (by decide)) (fun _ hk => hk.2) (.bool true)) (fun _ hk => hk.2) (.slice Ao42 t722.length co42)) (fun _ h_ => h_.1)))) (by exact (Kd.R_reads' HO724.out).2.1) A4.out).mono ?_); rintro e w43 ⟨rfl, hb⟩; refine ⟨_, rfl, ?_⟩; replace HO724 := mk0 (Rb ((Rm (Rf (p := ⟨gb725, 1, none⟩) (Rf (p := ⟨gb725, 0, none⟩) (Rt HO724.out BK725.out (by decide)) (fun _ hk => hk.2) (.bool true)) (fun _ hk => hk.2) (.slice Ao42 t722.length co42)) (fun _ h_ => h_.1))) hb); replace BK718 := mk0 (blk_below (g := gb718) (o := .cells #[.bool a0_0, .slice A0_1 l0_1.length c0_1] 27 (0, 0)) (by refine blk_far ?_ NB718_725.out _; refine blk_far ?_ NB718_725.out _; exact BK718.out) hb); replace BK719 := mk0 (blk_below (g := gb719) (o := .cells #[.bool a1_0, .slice A1_1 l1_1.length c1_1] 27 (0, 0)) (by refine blk_far ?_ NB719_725.out _; refine blk_far ?_ NB719_725.out _; exact BK719.out) hb); replace BK720 := mk0 (blk_below (g := gb720) (o := .cells #[.bool false, .slice none 0 0, .slice none 0 0] 29 (0, 0)) (by refine blk_far ?_ NB720_725.out _; refine blk_far ?_ NB720_725.out _; exact BK720.out) hb); replace BK725 := mk0 (blk_below (g := gb725) (o := .cells #[.bool true, .slice Ao42 t722.length co42] 27 (0, 0)) (by refine blk_put (cs := #[.bool true, .slice none 0 0]) ?_ 1 _ rfl; refine blk_put (cs := #[.bool false, .slice none 0 0]) ?_ 0 _ rfl; exact BK725.out) hb); replace HB := mk0 (below_step (by repeat (first | exact HB.out | refine bS ?_ GE720.out | refine bS ?_ GE725.out)) hb); have hnb44 := NB718_720.out; have hnc44 := NB720_718.out; obtain ⟨hcz45_0, hcz45_1, hfz45_0, hfz45_1⟩ := cz2 BK718) | ((with_reducible refine gate_callee (f := 84) rfl ?_); refine goA 16 Try.func84 #[.agg #[.bool a0_0, .slice A0_1 l0_1.length c0_1]] ?_; (with_reducible refine (examboardref02_Norm.calls k a0_0 _ _ l0_1 t734 t735 _ (by exact Cb HR0_1.out HB.out) HC0_1.out A26.out).mono ?_); rintro e w46 ⟨v736, rfl, ho0, hb⟩; refine ⟨_, rfl, ?_⟩; have HO737 := mk0 (Rl (Rn ho0 (Rq HO724.out)) (bZ HB.out)); replace HO724 := mk0 (Re HO724.out (Rs ho0) hb); replace BK718 := bkB BK718 hb; replace BK719 := bkB BK719 hb; replace BK720 := bkB BK720 hb; replace BK725 := bkB BK725 hb; replace HB := hbS HB hb) | ((with_reducible refine gate_dst (N := 7) rfl ?_); refine box_event rfl (N := 7) rfl (cs := #[.bool false, .slice none 0 0]) (t := 27) (by go_simp <;> rfl) ?_; intro gb738 hg w47 hbox hb; replace HO724 := rB HO724 hb; replace HO737 := rB HO737 hb; have BK738 := mk0 (hbox); have GE738 := geB hg HB; replace HB := hbS HB hb; have NB718_738 := nbA hg BK718; have NB738_718 := nbB hg BK718; replace BK718 := bkB BK718 hb; have NB719_738 := nbA hg BK719; have NB738_719 := nbB hg BK719; replace BK719 := bkB BK719 hb; have NB720_738 := nbA hg BK720; have NB738_720 := nbB hg BK720; replace BK720 := bkB BK720 hb; have NB725_738 := nbA hg BK725; have NB738_725 := nbB hg BK725; replace BK725 := bkB BK725 hb; clear hb hbox hg; have hnb48 := NB738_718.out; have hnc48 := NB718_738.out; have hnb49 := NB738_719.out; have hnc49 := NB719_738.out; have hnb50 := NB738_720.out; have hnc50 := NB720_738.out; have hnb51 := NB738_725.out; have hnc51 := NB725_738.out; obtain ⟨hcz52_0, hcz52_1, hfz52_0, hfz52_1⟩ := cz2 BK738; obtain ⟨Ao53, co53, eo53⟩ := Kd.R_slice HO737.out; subst eo53; obtain ⟨hcz54_0, hcz54_1, hfz54_0, hfz54_1⟩ := cz2 BK725) | ((with_reducible refine gate_callee (f := 94) rfl ?_); refine goA 20 Try.func94 #[.agg #[.bool t734, .slice Ao53 t735.length co53]] ?_; (with_reducible refine (examboardref02_Neg.calls k t734 _ _ t735 t739 t740 _ (by refine (Kd.R_reads' (e := 87) (base := w.heap.size) (ok := fun k_ => (True ∧ some k_ ≠ (.slice Ao42 t722.length co42 : Value).ownBlock)) (n := t735.length) (c := co53) ?_).2.2; exact ((Rm (Rf (p := ⟨gb738, 1, none⟩) (Rf (p := ⟨gb738, 0, none⟩) (Rt HO737.out BK738.out (by decide)) (fun _ hk => hk.2) (.bool t734)) (fun _ hk => hk.2) (.slice Ao53 t735.length co53)) (fun _ h_ => h_.1)))) (by exact (Kd.R_reads' HO737.out).2.1) A28.out).mono ?_); rintro e w55 ⟨v741, rfl, ho0, hb⟩; refine ⟨_, rfl, ?_⟩; have HO742 := mk0 (Rl (Rn (Rn ho0 (Rq ((Rm (Rf (p := ⟨gb738, 1, none⟩) (Rf (p := ⟨gb738, 0, none⟩) (Rt HO724.out BK738.out (by decide)) (fun _ hk => hk.2) (.bool t734)) (fun _ hk => hk.2) (.slice Ao53 t735.length co53)) (fun _ h_ => h_.1))))) (Rq ((Rm (Rf (p := ⟨gb738, 1, none⟩) (Rf (p := ⟨gb738, 0, none⟩) (Rt HO737.out BK738.out (by decide)) (fun _ hk => hk.2) (.bool t734)) (fun _ hk => hk.2) (.slice Ao53 t735.length co53)) (fun _ h_ => h_.1))))) (bZ (by repeat (first | exact HB.out | refine bS ?_ GE720.out | refine bS ?_ GE725.out | refine bS ?_ GE738.out)))); replace HO724 := mk0 (Re ((Rm (Rf (p := ⟨gb738, 1, none⟩) (Rf (p := ⟨gb738, 0, none⟩) (Rt HO724.out BK738.out (by decide)) (fun _ hk => hk.2) (.bool t734)) (fun _ hk => hk.2) (.slice Ao53 t735.length co53)) (fun _ h_ => h_.1))) (Rs ho0) hb); replace HO737 := mk0 (Re ((Rm (Rf (p := ⟨gb738, 1, none⟩) (Rf (p := ⟨gb738, 0, none⟩) (Rt HO737.out BK738.out (by decide)) (fun _ hk => hk.2) (.bool t734)) (fun _ hk => hk.2) (.slice Ao53 t735.length co53)) (fun _ h_ => h_.1))) (Rs ho0) hb); replace BK718 := mk0 (blk_below (g := gb718) (o := .cells #[.bool a0_0, .slice A0_1 l0_1.length c0_1] 27 (0, 0)) (by refine blk_far ?_ NB718_738.out _; refine blk_far ?_ NB718_738.out _; exact BK718.out) hb); replace BK719 := mk0 (blk_below (g := gb719) (o := .cells #[.bool a1_0, .slice A1_1 l1_1.length c1_1] 27 (0, 0)) (by refine blk_far ?_ NB719_738.out _; refine blk_far ?_ NB719_738.out _; exact BK719.out) hb); replace BK720 := mk0 (blk_below (g := gb720) (o := .cells #[.bool false, .slice none 0 0, .slice none 0 0] 29 (0, 0)) (by refine blk_far ?_ NB720_738.out _; refine blk_far ?_ NB720_738.out _; exact BK720.out) hb); replace BK725 := mk0 (blk_below (g := gb725) (o := .cells #[.bool true, .slice Ao42 t722.length co42] 27 (0, 0)) (by refine blk_far ?_ NB725_738.out _; refine blk_far ?_ NB725_738.out _; exact BK725.out) hb); replace BK738 := mk0 (blk_below (g := gb738) (o := .cells #[.bool t734, .slice Ao53 t735.length co53] 27 (0, 0)) (by refine blk_put (cs := #[.bool t734, .slice none 0 0]) ?_ 1 _ rfl; refine blk_put (cs := #[.bool false, .slice none 0 0]) ?_ 0 _ rfl; exact BK738.out) hb); replace HB := mk0 (below_step (by repeat (first | exact HB.out | refine bS ?_ GE720.out | refine bS ?_ GE725.out | refine bS ?_ GE738.out)) hb); obtain ⟨hcz56_0, hcz56_1, hfz56_0, hfz56_1⟩ := cz2 BK738; obtain ⟨Ao57, co57, eo57⟩ := Kd.R_slice HO742.out; subst eo57; obtain ⟨hcz58_0, hcz58_1, hfz58_0, hfz58_1⟩ := cz2 BK725) | ((with_reducible refine gate_callee (f := 57) rfl ?_); refine goA 24 Try.func57 #[.agg #[.bool t739, .slice Ao57 t740.length co57], .slice Ao42 t722.length co42] ?_; (with_reducible refine (examboardref03_reduce.calls k t739 _ _ t740 _ _ t722 t743 t744 t747 _ (by refine (Kd.R_reads' (e := 87) (base := w.heap.size) (ok := fun k_ => ((True ∧ some k_ ≠ (.slice Ao42 t722.length co42 : Value).ownBlock) ∧ some k_ ≠ (.slice Ao53 t735.length co53 : Value).ownBlock)) (n := t740.length) (c := co57) ?_).2.2; exact ((Rm (Rf (p := ⟨gb738, 1, none⟩) (Rf (p := ⟨gb738, 0, none⟩) (Rt HO742.out BK738.out (by decide)) (fun _ hk => hk.2) (.bool t739)) (fun _ hk => hk.2) (.slice Ao57 t740.length co57)) (fun _ h_ => h_.1)))) (by exact (Kd.R_reads' HO742.out).2.1) (by refine (Kd.R_reads' (e := 87) (base := w.heap.size) (ok := fun k_ => ((True ∧ some k_ ≠ (.slice Ao53 t735.length co53 : Value).ownBlock) ∧ some k_ ≠ (.slice Ao57 t740.length co57 : Value).ownBlock)) (n := t722.length) (c := co42) ?_).2.2; exact ((Rm (Rf (p := ⟨gb738, 1, none⟩) (Rf (p := ⟨gb738, 0, none⟩) (Rt HO724.out BK738.out (by decide)) (fun _ hk => hk.2) (.bool t739)) (fun _ hk => hk.2) (.slice Ao57 t740.length co57)) (fun _ h_ => h_.1)))) (by exact (Kd.R_reads' HO724.out).2.1) A29.out).mono ?_); rintro e w59 ⟨v745, v748, rfl, ho0, ho1, hb⟩; refine ⟨_, rfl, ?_⟩; have HO746 := mk0 (Rl (Rn (Rn (Rn ho0 (Rq ((Rm (Rf (p := ⟨gb738, 1, none⟩) (Rf (p := ⟨gb738, 0, none⟩) (Rt HO724.out BK738.out (by decide)) (fun _ hk => hk.2) (.bool t739)) (fun _ hk => hk.2) (.slice Ao57 t740.length co57)) (fun _ h_ => h_.1))))) (Rq ((Rm (Rf (p := ⟨gb738, 1, none⟩) (Rf (p := ⟨gb738, 0, none⟩) (Rt HO737.out BK738.out (by decide)) (fun _ hk => hk.2) (.bool t739)) (fun _ hk => hk.2) (.slice Ao57 t740.length co57)) (fun _ h_ => h_.1))))) (Rq ((Rm (Rf (p := ⟨gb738, 1, none⟩) (Rf (p := ⟨gb738, 0, none⟩) (Rt HO742.out BK738.out (by decide)) (fun _ hk => hk.2) (.bool t739)) (fun _ hk => hk.2) (.slice Ao57 t740.length co57)) (fun _ h_ => h_.1))))) (bZ (by repeat (first | exact HB.out | refine bS ?_ GE720.out | refine bS ?_ GE725.out | refine bS ?_ GE738.out)))); have HO749 := mk0 (Rl (Rn (Rn (Rn ho1 (Rq ((Rm (Rf (p := ⟨gb738, 1, none⟩) (Rf (p := ⟨gb738, 0, none⟩) (Rt HO724.out BK738.out (by decide)) (fun _ hk => hk.2) (.bool t739)) (fun _ hk => hk.2) (.slice Ao57 t740.length co57)) (fun _ h_ => h_.1))))) (Rq ((Rm (Rf (p := ⟨gb738, 1, none⟩) (Rf (p := ⟨gb738, 0, none⟩) (Rt HO737.out BK738.out (by decide)) (fun _ hk => hk.2) (.bool t739)) (fun _ hk => hk.2) (.slice Ao57 t740.length co57)) (fun _ h_ => h_.1))))) (Rq ((Rm (Rf (p := ⟨gb738, 1, none⟩) (Rf (p := ⟨gb738, 0, none⟩) (Rt HO742.out BK738.out (by decide)) (fun _ hk => hk.2) (.bool t739)) (fun _ hk => hk.2) (.slice Ao57 t740.length co57)) (fun _ h_ => h_.1))))) (bZ (by repeat (first | exact HB.out | refine bS ?_ GE720.out | refine bS ?_ GE725.out | refine bS ?_ GE738.out)))); replace HO724 := mk0 (Rm (Kd.R_told (Kd.R_told (Kd.R_old ((Rm (Rf (p := ⟨gb738, 1, none⟩) (Rf (p := ⟨gb738, 0, none⟩) (Rt HO724.out BK738.out (by decide)) (fun _ hk => hk.2) (.bool t739)) (fun _ hk => hk.2) (.slice Ao57 t740.length co57)) (fun _ h_ => h_.1))) hb) (Rs ho0)) (Rs ho1)) (fun _ h_ => h_.1)); replace HO737 := mk0 (Rm (Kd.R_told (Kd.R_told (Kd.R_old ((Rm (Rf (p := ⟨gb738, 1, none⟩) (Rf (p := ⟨gb738, 0, none⟩) (Rt HO737.out BK738.out (by decide)) (fun _ hk => hk.2) (.bool t739)) (fun _ hk => hk.2) (.slice Ao57 t740.length co57)) (fun _ h_ => h_.1))) hb) (Rs ho0)) (Rs ho1)) (fun _ h_ => h_.1)); replace HO742 := mk0 (Rm (Kd.R_told (Kd.R_told (Kd.R_old ((Rm (Rf (p := ⟨gb738, 1, none⟩) (Rf (p := ⟨gb738, 0, none⟩) (Rt HO742.out BK738.out (by decide)) (fun _ hk => hk.2) (.bool t739)) (fun _ hk => hk.2) (.slice Ao57 t740.length co57)) (fun _ h_ => h_.1))) hb) (Rs ho0)) (Rs ho1)) (fun _ h_ => h_.1)); replace BK718 := mk0 (blk_below (g := gb718) (o := .cells #[.bool a0_0, .slice A0_1 l0_1.length c0_1] 27 (0, 0)) (by refine blk_far ?_ NB718_738.out _; refine blk_far ?_ NB718_738.out _; exact BK718.out) hb); replace BK719 := mk0 (blk_below (g := gb719) (o := .cells #[.bool a1_0, .slice A1_1 l1_1.length c1_1] 27 (0, 0)) (by refine blk_far ?_ NB719_738.out _; refine blk_far ?_ NB719_738.out _; exact BK719.out) hb); replace BK720 := mk0 (blk_below (g := gb720) (o := .cells #[.bool false, .slice none 0 0, .slice none 0 0] 29 (0, 0)) (by refine blk_far ?_ NB720_738.out _; refine blk_far ?_ NB720_738.out _; exact BK720.out) hb); replace BK725 := mk0 (blk_below (g := gb725) (o := .cells #[.bool true, .slice Ao42 t722.length co42] 27 (0, 0)) (by refine blk_far ?_ NB725_738.out _; refine blk_far ?_ NB725_738.out _; exact BK725.out) hb); replace BK738 := mk0 (blk_below (g := gb738) (o := .cells #[.bool t739, .slice Ao57 t740.length co57] 27 (0, 0)) (by refine blk_put (cs := #[.bool t739, .slice Ao53 t735.length co53]) ?_ 1 _ rfl; refine blk_put (cs := #[.bool t734, .slice Ao53 t735.length co53]) ?_ 0 _ rfl; exact BK738.out) hb); replace HB := mk0 (below_step (by repeat (first | exact HB.out | refine bS ?_ GE720.out | refine bS ?_ GE725.out | refine bS ?_ GE738.out)) hb); obtain ⟨hcz60_0, hcz60_1, hcz60_2, hfz60_0, hfz60_1, hfz60_2⟩ := cz3 BK720; obtain ⟨Ao61, co61, eo61⟩ := Kd.R_slice HO746.out; subst eo61; obtain ⟨Ao62, co62, eo62⟩ := Kd.R_slice HO749.out; subst eo62))
   refine bodyPost_ret (results_ct rfl _ _ gb720 29 #[.bool t743, .slice Ao61 t744.length co61, .slice Ao62 t747.length co62] (0, 0) _ rfl (by refine blk_put (cs := #[.bool t743, .slice Ao61 t744.length co61, .slice none 0 0]) ?_ 2 _ rfl; refine blk_put (cs := #[.bool t743, .slice none 0 0, .slice none 0 0]) ?_ 1 _ rfl; refine blk_put (cs := #[.bool false, .slice none 0 0, .slice none 0 0]) ?_ 0 _ rfl; exact BK720.out) Try.underlying29 rfl (by kernel_rfl)) rfl ?_
   exact ⟨_, _, by first | rfl | (simp [errW_none, errW_some] <;> rfl) | (simp [*, errW_none, errW_some] <;> rfl), Rm (Rf (p := ⟨gb720, 2, none⟩) (Rf (p := ⟨gb720, 1, none⟩) (Rf (p := ⟨gb720, 0, none⟩) (Rt HO746.out BK720.out (by decide)) (fun _ hk => hk.2) (.bool t743)) (fun _ hk => hk.2) (.slice Ao61 t744.length co61)) (fun _ hk => hk.2) (.slice Ao62 t747.length co62)) (fun _ hk => hk.1.1.1.1), Rm (Rf (p := ⟨gb720, 2, none⟩) (Rf (p := ⟨gb720, 1, none⟩) (Rf (p := ⟨gb720, 0, none⟩) (Rt HO749.out BK720.out (by decide)) (fun _ hk => hk.2) (.bool t743)) (fun _ hk => hk.2) (.slice Ao61 t744.length co61)) (fun _ hk => hk.2) (.slice Ao62 t747.length co62)) (fun _ hk => hk.1.1.1.1), by repeat (first | exact HB.out | apply bN | apply b1 | apply bA | refine bS ?_ GE718.out | refine bS ?_ GE719.out | refine bS ?_ GE720.out | refine bS ?_ GE725.out | refine bS ?_ GE738.out)⟩
  ·replace c27 := Bool.eq_false_iff.mpr c27
   subst c27
   have H1 : ((examboardref03_reduce.f k t734 t735 t722).bind fun bt750 => (some (bt750.1, bt750.2.1, bt750.2.2, true))) = some (r1, r2, r3, r4) := by rw [if_neg (show ¬ (false = true) by decide)] at H; exact H
   clear H
   have H := H1
   clear H1
   obtain ⟨⟨t750, t751, t754⟩, A63, H⟩ := bindA H
   simp only [Option.some.injEq, Prod.mk.injEq] at H
   obtain ⟨rfl, rfl, rfl, rfl⟩ := H
   go_enter Try.func68, Try.ntmps68
   go_wp2_with (first | ((with_reducible refine gate_dst (N := 2) rfl ?_); refine box_event rfl (N := 2) rfl (cs := #[.bool a0_0, .slice A0_1 l0_1.length c0_1]) (t := 27) (by go_simp <;> rfl) ?_; intro gb718 hg w64 hbox hb; have BK718 := mk0 (hbox); have GE718 := geB hg HB; replace HB := hbS HB hb; clear hb hbox hg) | ((with_reducible refine gate_dst (N := 3) rfl ?_); refine box_event rfl (N := 3) rfl (cs := #[.bool a1_0, .slice A1_1 l1_1.length c1_1]) (t := 27) (by go_simp <;> rfl) ?_; intro gb719 hg w65 hbox hb; have BK719 := mk0 (hbox); have GE719 := geB hg HB; replace HB := hbS HB hb; have NB718_719 := nbA hg BK718; have NB719_718 := nbB hg BK718; replace BK718 := bkB BK718 hb; clear hb hbox hg) | ((with_reducible refine gate_dst (N := 4) rfl ?_); refine box_event rfl (N := 4) rfl (cs := #[.bool false, .slice none 0 0, .slice none 0 0]) (t := 29) (by go_simp <;> rfl) ?_; intro gb720 hg w66 hbox hb; have BK720 := mk0 (hbox); have GE720 := geB hg HB; replace HB := hbS HB hb; have NB718_720 := nbA hg BK718; have NB720_718 := nbB hg BK718; replace BK718 := bkB BK718 hb; have NB719_720 := nbA hg BK719; have NB720_719 := nbB hg BK719; replace BK719 := bkB BK719 hb; clear hb hbox hg; have hnb67 := NB719_718.out; have hnc67 := NB718_719.out; have hnb68 := NB719_720.out; have hnc68 := NB720_719.out; obtain ⟨hcz69_0, hcz69_1, hfz69_0, hfz69_1⟩ := cz2 BK719) | ((with_reducible refine gate_callee (f := 84) rfl ?_); refine goA 9 Try.func84 #[.agg #[.bool a1_0, .slice A1_1 l1_1.length c1_1]] ?_; (with_reducible refine (examboardref02_Norm.calls k a1_0 _ _ l1_1 false t722 _ (by exact Cb HR1_1.out HB.out) HC1_1.out A3.out).mono ?_); rintro e w70 ⟨v723, rfl, ho0, hb⟩; refine ⟨_, rfl, ?_⟩; have HO724 := mk0 (Rl ho0 (bZ HB.out)); replace BK718 := bkB BK718 hb; replace BK719 := bkB BK719 hb; replace BK720 := bkB BK720 hb; replace HB := hbS HB hb) | ((with_reducible refine gate_dst (N := 6) rfl ?_); refine box_event rfl (N := 6) rfl (cs := #[.bool false, .slice none 0 0]) (t := 27) (by go_simp <;> rfl) ?_; intro gb725 hg w71 hbox hb; replace HO724 := rB HO724 hb; have BK725 := mk0 (hbox); have GE725 := geB hg HB; replace HB := hbS HB hb; have NB718_725 := nbA hg BK718; have NB725_718 := nbB hg BK718; replace BK718 := bkB BK718 hb; have NB719_725 := nbA hg BK719; have NB725_719 := nbB hg BK719; replace BK719 := bkB BK719 hb; have NB720_725 := nbA hg BK720; have NB725_720 := nbB hg BK720; replace BK720 := bkB BK720 hb; clear hb hbox hg; have hnb72 := NB725_718.out; have hnc72 := NB718_725.out; have hnb73 := NB725_719.out; have hnc73 := NB719_725.out; have hnb74 := NB725_720.out; have hnc74 := NB720_725.out; obtain ⟨hcz75_0, hcz75_1, hfz75_0, hfz75_1⟩ := cz2 BK725; obtain ⟨Ao76, co76, eo76⟩ := Kd.R_slice HO724.out; subst eo76) | ((with_reducible refine gate_callee (f := 85) rfl ?_); refine goA 12 Try.func85 #[.slice Ao76 t722.length co76] ?_; (with_reducible refine (examboardref01_Bits.calls k _ _ t722 t726 _ (by refine (Kd.R_reads' (e := 87) (base := w.heap.size) (ok := fun k_ => True) (n := t722.length) (c := co76) ?_).2.2; exact ((Rm (Rf (p := ⟨gb725, 1, none⟩) (Rf (p := ⟨gb725, 0, none⟩) (Rt HO724.out BK725.out (by decide)) (fun _ hk => hk.2) (.bool false)) (fun _ hk => hk.2) (.slice Ao76 t722.length co76)) (fun _ h_ => h_.1)))) (by exact (Kd.R_reads' HO724.out).2.1) A4.out).mono ?_); rintro e w77 ⟨rfl, hb⟩; refine ⟨_, rfl, ?_⟩; replace HO724 := mk0 (Rb ((Rm (Rf (p := ⟨gb725, 1, none⟩) (Rf (p := ⟨gb725, 0, none⟩) (Rt HO724.out BK725.out (by decide)) (fun _ hk => hk.2) (.bool false)) (fun _ hk => hk.2) (.slice Ao76 t722.length co76)) (fun _ h_ => h_.1))) hb); replace BK718 := mk0 (blk_below (g := gb718) (o := .cells #[.bool a0_0, .slice A0_1 l0_1.length c0_1] 27 (0, 0)) (by refine blk_far ?_ NB718_725.out _; refine blk_far ?_ NB718_725.out _; exact BK718.out) hb); replace BK719 := mk0 (blk_below (g := gb719) (o := .cells #[.bool a1_0, .slice A1_1 l1_1.length c1_1] 27 (0, 0)) (by refine blk_far ?_ NB719_725.out _; refine blk_far ?_ NB719_725.out _; exact BK719.out) hb); replace BK720 := mk0 (blk_below (g := gb720) (o := .cells #[.bool false, .slice none 0 0, .slice none 0 0] 29 (0, 0)) (by refine blk_far ?_ NB720_725.out _; refine blk_far ?_ NB720_725.out _; exact BK720.out) hb); replace BK725 := mk0 (blk_below (g := gb725) (o := .cells #[.bool false, .slice Ao76 t722.length co76] 27 (0, 0)) (by refine blk_put (cs := #[.bool false, .slice none 0 0]) ?_ 1 _ rfl; refine blk_put (cs := #[.bool false, .slice none 0 0]) ?_ 0 _ rfl; exact BK725.out) hb); replace HB := mk0 (below_step (by repeat (first | exact HB.out | refine bS ?_ GE720.out | refine bS ?_ GE725.out)) hb); have hnb78 := NB718_720.out; have hnc78 := NB720_718.out; obtain ⟨hcz79_0, hcz79_1, hfz79_0, hfz79_1⟩ := cz2 BK718) | ((with_reducible refine gate_callee (f := 84) rfl ?_); refine goA 16 Try.func84 #[.agg #[.bool a0_0, .slice A0_1 l0_1.length c0_1]] ?_; (with_reducible refine (examboardref02_Norm.calls k a0_0 _ _ l0_1 t734 t735 _ (by exact Cb HR0_1.out HB.out) HC0_1.out A26.out).mono ?_); rintro e w80 ⟨v736, rfl, ho0, hb⟩; refine ⟨_, rfl, ?_⟩; have HO737 := mk0 (Rl (Rn ho0 (Rq HO724.out)) (bZ HB.out)); replace HO724 := mk0 (Re HO724.out (Rs ho0) hb); replace BK718 := bkB BK718 hb; replace BK719 := bkB BK719 hb; replace BK720 := bkB BK720 hb; replace BK725 := bkB BK725 hb; replace HB := hbS HB hb) | ((with_reducible refine gate_dst (N := 7) rfl ?_); refine box_event rfl (N := 7) rfl (cs := #[.bool false, .slice none 0 0]) (t := 27) (by go_simp <;> rfl) ?_; intro gb738 hg w81 hbox hb; replace HO724 := rB HO724 hb; replace HO737 := rB HO737 hb; have BK738 := mk0 (hbox); have GE738 := geB hg HB; replace HB := hbS HB hb; have NB718_738 := nbA hg BK718; have NB738_718 := nbB hg BK718; replace BK718 := bkB BK718 hb; have NB719_738 := nbA hg BK719; have NB738_719 := nbB hg BK719; replace BK719 := bkB BK719 hb; have NB720_738 := nbA hg BK720; have NB738_720 := nbB hg BK720; replace BK720 := bkB BK720 hb; have NB725_738 := nbA hg BK725; have NB738_725 := nbB hg BK725; replace BK725 := bkB BK725 hb; clear hb hbox hg; have hnb82 := NB738_718.out; have hnc82 := NB718_738.out; have hnb83 := NB738_719.out; have hnc83 := NB719_738.out; have hnb84 := NB738_720.out; have hnc84 := NB720_738.out; have hnb85 := NB738_725.out; have hnc85 := NB725_738.out; obtain ⟨hcz86_0, hcz86_1, hfz86_0, hfz86_1⟩ := cz2 BK738; obtain ⟨Ao87, co87, eo87⟩ := Kd.R_slice HO737.out; subst eo87; obtain ⟨hcz88_0, hcz88_1, hfz88_0, hfz88_1⟩ := cz2 BK725) | ((with_reducible refine gate_callee (f := 57) rfl ?_); refine goA 24 Try.func57 #[.agg #[.bool t734, .slice Ao87 t735.length co87], .slice Ao76 t722.length co76] ?_; (with_reducible refine (examboardref03_reduce.calls k t734 _ _ t735 _ _ t722 t750 t751 t754 _ (by refine (Kd.R_reads' (e := 87) (base := w.heap.size) (ok := fun k_ => (True ∧ some k_ ≠ (.slice Ao76 t722.length co76 : Value).ownBlock)) (n := t735.length) (c := co87) ?_).2.2; exact ((Rm (Rf (p := ⟨gb738, 1, none⟩) (Rf (p := ⟨gb738, 0, none⟩) (Rt HO737.out BK738.out (by decide)) (fun _ hk => hk.2) (.bool t734)) (fun _ hk => hk.2) (.slice Ao87 t735.length co87)) (fun _ h_ => h_.1)))) (by exact (Kd.R_reads' HO737.out).2.1) (by refine (Kd.R_reads' (e := 87) (base := w.heap.size) (ok := fun k_ => (True ∧ some k_ ≠ (.slice Ao87 t735.length co87 : Value).ownBlock)) (n := t722.length) (c := co76) ?_).2.2; exact ((Rm (Rf (p := ⟨gb738, 1, none⟩) (Rf (p := ⟨gb738, 0, none⟩) (Rt HO724.out BK738.out (by decide)) (fun _ hk => hk.2) (.bool t734)) (fun _ hk => hk.2) (.slice Ao87 t735.length co87)) (fun _ h_ => h_.1)))) (by exact (Kd.R_reads' HO724.out).2.1) A63.out).mono ?_); rintro e w89 ⟨v752, v755, rfl, ho0, ho1, hb⟩; refine ⟨_, rfl, ?_⟩; have HO753 := mk0 (Rl (Rn (Rn ho0 (Rq ((Rm (Rf (p := ⟨gb738, 1, none⟩) (Rf (p := ⟨gb738, 0, none⟩) (Rt HO724.out BK738.out (by decide)) (fun _ hk => hk.2) (.bool t734)) (fun _ hk => hk.2) (.slice Ao87 t735.length co87)) (fun _ h_ => h_.1))))) (Rq ((Rm (Rf (p := ⟨gb738, 1, none⟩) (Rf (p := ⟨gb738, 0, none⟩) (Rt HO737.out BK738.out (by decide)) (fun _ hk => hk.2) (.bool t734)) (fun _ hk => hk.2) (.slice Ao87 t735.length co87)) (fun _ h_ => h_.1))))) (bZ (by repeat (first | exact HB.out | refine bS ?_ GE720.out | refine bS ?_ GE725.out | refine bS ?_ GE738.out)))); have HO756 := mk0 (Rl (Rn (Rn ho1 (Rq ((Rm (Rf (p := ⟨gb738, 1, none⟩) (Rf (p := ⟨gb738, 0, none⟩) (Rt HO724.out BK738.out (by decide)) (fun _ hk => hk.2) (.bool t734)) (fun _ hk => hk.2) (.slice Ao87 t735.length co87)) (fun _ h_ => h_.1))))) (Rq ((Rm (Rf (p := ⟨gb738, 1, none⟩) (Rf (p := ⟨gb738, 0, none⟩) (Rt HO737.out BK738.out (by decide)) (fun _ hk => hk.2) (.bool t734)) (fun _ hk => hk.2) (.slice Ao87 t735.length co87)) (fun _ h_ => h_.1))))) (bZ (by repeat (first | exact HB.out | refine bS ?_ GE720.out | refine bS ?_ GE725.out | refine bS ?_ GE738.out)))); replace HO724 := mk0 (Rm (Kd.R_told (Kd.R_told (Kd.R_old ((Rm (Rf (p := ⟨gb738, 1, none⟩) (Rf (p := ⟨gb738, 0, none⟩) (Rt HO724.out BK738.out (by decide)) (fun _ hk => hk.2) (.bool t734)) (fun _ hk => hk.2) (.slice Ao87 t735.length co87)) (fun _ h_ => h_.1))) hb) (Rs ho0)) (Rs ho1)) (fun _ h_ => h_.1)); replace HO737 := mk0 (Rm (Kd.R_told (Kd.R_told (Kd.R_old ((Rm (Rf (p := ⟨gb738, 1, none⟩) (Rf (p := ⟨gb738, 0, none⟩) (Rt HO737.out BK738.out (by decide)) (fun _ hk => hk.2) (.bool t734)) (fun _ hk => hk.2) (.slice Ao87 t735.length co87)) (fun _ h_ => h_.1))) hb) (Rs ho0)) (Rs ho1)) (fun _ h_ => h_.1)); replace BK718 := mk0 (blk_below (g := gb718) (o := .cells #[.bool a0_0, .slice A0_1 l0_1.length c0_1] 27 (0, 0)) (by refine blk_far ?_ NB718_738.out _; refine blk_far ?_ NB718_738.out _; exact BK718.out) hb); replace BK719 := mk0 (blk_below (g := gb719) (o := .cells #[.bool a1_0, .slice A1_1 l1_1.length c1_1] 27 (0, 0)) (by refine blk_far ?_ NB719_738.out _; refine blk_far ?_ NB719_738.out _; exact BK719.out) hb); replace BK720 := mk0 (blk_below (g := gb720) (o := .cells #[.bool false, .slice none 0 0, .slice none 0 0] 29 (0, 0)) (by refine blk_far ?_ NB720_738.out _; refine blk_far ?_ NB720_738.out _; exact BK720.out) hb); replace BK725 := mk0 (blk_below (g := gb725) (o := .cells #[.bool false, .slice Ao76 t722.length co76] 27 (0, 0)) (by refine blk_far ?_ NB725_738.out _; refine blk_far ?_ NB725_738.out _; exact BK725.out) hb); replace BK738 := mk0 (blk_below (g := gb738) (o := .cells #[.bool t734, .slice Ao87 t735.length co87] 27 (0, 0)) (by refine blk_put (cs := #[.bool t734, .slice none 0 0]) ?_ 1 _ rfl; refine blk_put (cs := #[.bool false, .slice none 0 0]) ?_ 0 _ rfl; exact BK738.out) hb); replace HB := mk0 (below_step (by repeat (first | exact HB.out | refine bS ?_ GE720.out | refine bS ?_ GE725.out | refine bS ?_ GE738.out)) hb); obtain ⟨hcz90_0, hcz90_1, hcz90_2, hfz90_0, hfz90_1, hfz90_2⟩ := cz3 BK720; obtain ⟨Ao91, co91, eo91⟩ := Kd.R_slice HO753.out; subst eo91; obtain ⟨Ao92, co92, eo92⟩ := Kd.R_slice HO756.out; subst eo92))
   refine bodyPost_ret (results_ct rfl _ _ gb720 29 #[.bool t750, .slice Ao91 t751.length co91, .slice Ao92 t754.length co92] (0, 0) _ rfl (by refine blk_put (cs := #[.bool t750, .slice Ao91 t751.length co91, .slice none 0 0]) ?_ 2 _ rfl; refine blk_put (cs := #[.bool t750, .slice none 0 0, .slice none 0 0]) ?_ 1 _ rfl; refine blk_put (cs := #[.bool false, .slice none 0 0, .slice none 0 0]) ?_ 0 _ rfl; exact BK720.out) Try.underlying29 rfl (by kernel_rfl)) rfl ?_
   exact ⟨_, _, by first | rfl | (simp [errW_none, errW_some] <;> rfl) | (simp [*, errW_none, errW_some] <;> rfl), Rm (Rf (p := ⟨gb720, 2, none⟩) (Rf (p := ⟨gb720, 1, none⟩) (Rf (p := ⟨gb720, 0, none⟩) (Rt HO753.out BK720.out (by decide)) (fun _ hk => hk.2) (.bool t750)) (fun _ hk => hk.2) (.slice Ao91 t751.length co91)) (fun _ hk => hk.2) (.slice Ao92 t754.length co92)) (fun _ hk => hk.1.1.1), Rm (Rf (p := ⟨gb720, 2, none⟩) (Rf (p := ⟨gb720, 1, none⟩) (Rf (p := ⟨gb720, 0, none⟩) (Rt HO756.out BK720.out (by decide)) (fun _ hk => hk.2) (.bool t750)) (fun _ hk => hk.2) (.slice Ao91 t751.length co91)) (fun _ hk => hk.2) (.slice Ao92 t754.length co92)) (fun _ hk => hk.1.1.1), by repeat (first | exact HB.out | apply bN | apply b1 | apply bA | refine bS ?_ GE718.out | refine bS ?_ GE719.out | refine bS ?_ GE720.out | refine bS ?_ GE725.out | refine bS ?_ GE738.out)⟩
set_option maxHeartbeats 8000000 in
set_option maxRecDepth 100000 in
theorem examboardref03_Of.calls (k : Nat) (a0 : Int) (a1 : Int) (r1 : Bool) (r2 : List Int) (r3 : List Int) (r4 : Bool) (w : World) (h : examboardref03_Of.f k a0 a1 = some (r1, r2, r3, r4)) :
  Calls Try.prog 40 #[.int .i64 a0, .int .i64 a1] w fun e w' => ∃ v1_ v2_ : Value, e = .returned (.tuple #[.agg #[.bool r1, v1_, v2_], .bool r4]) ∧ Kd.R (Kd.int .u32) 87 w' w.heap.size (fun k_ => some k_ ≠ (v2_ : Value).ownBlock) v1_ r2 ∧ Kd.R (Kd.int .u32) 87 w' w.heap.size (fun k_ => some k_ ≠ (v1_ : Value).ownBlock) v2_ r3 ∧ Below w.heap.size w w' := by
 have hu29 := Try.underlying29
 have HB := mk0 (Below.refl w.heap.size w)
 have H : ((examboardref02_Of.f k a0).bind fun bt758 => ((examboardref02_Of.f k a1).bind fun bt762 => ((examboardref03_Make.f k bt758.1 bt758.2 bt762.1 bt762.2).bind fun bt766 => (some (bt766.1, bt766.2.1, bt766.2.2.1, bt766.2.2.2))))) = some (r1, r2, r3, r4) := h
 clear h
 obtain ⟨⟨t758, t759⟩, A3, H⟩ := bindA H
 obtain ⟨⟨t762, t763⟩, A4, H⟩ := bindA H
 obtain ⟨⟨t766, t767, t770, t773⟩, A5, H⟩ := bindA H
 simp only [Option.some.injEq, Prod.mk.injEq] at H
 obtain ⟨rfl, rfl, rfl, rfl⟩ := H
 go_enter Try.func40, Try.ntmps40
 go_wp2_with (first | ((with_reducible refine gate_dst (N := 4) rfl ?_); refine box_event rfl (N := 4) rfl (cs := #[.bool false, .slice none 0 0, .slice none 0 0]) (t := 29) (by go_simp <;> rfl) ?_; intro gb757 hg w6 hbox hb; have BK757 := mk0 (hbox); have GE757 := geB hg HB; replace HB := hbS HB hb; clear hb hbox hg) | ((with_reducible refine gate_callee (f := 69) rfl ?_); refine goA 7 Try.func69 #[.int .i64 a0] ?_; (with_reducible refine (examboardref02_Of.calls k a0 t758 t759 _ A3.out).mono ?_); rintro e w7 ⟨v760, rfl, ho0, hb⟩; refine ⟨_, rfl, ?_⟩; have HO761 := mk0 (Rl ho0 (bZ HB.out)); replace BK757 := bkB BK757 hb; replace HB := hbS HB hb) | ((with_reducible refine gate_callee (f := 69) rfl ?_); refine goA 9 Try.func69 #[.int .i64 a1] ?_; (with_reducible refine (examboardref02_Of.calls k a1 t762 t763 _ A4.out).mono ?_); rintro e w8 ⟨v764, rfl, ho0, hb⟩; refine ⟨_, rfl, ?_⟩; have HO765 := mk0 (Rl (Rn ho0 (Rq HO761.out)) (bZ HB.out)); replace HO761 := mk0 (Re HO761.out (Rs ho0) hb); replace BK757 := bkB BK757 hb; replace HB := hbS HB hb; obtain ⟨Ao9, co9, eo9⟩ := Kd.R_slice HO761.out; subst eo9; obtain ⟨Ao10, co10, eo10⟩ := Kd.R_slice HO765.out; subst eo10) | ((with_reducible refine gate_callee (f := 68) rfl ?_); refine goA 10 Try.func68 #[.agg #[.bool t758, .slice Ao9 t759.length co9], .agg #[.bool t762, .slice Ao10 t763.length co10]] ?_; (with_reducible refine (examboardref03_Make.calls k t758 _ _ t759 t762 _ _ t763 t766 t767 t770 t773 _ (by exact (Kd.R_reads' HO761.out).2.2) (by exact (Kd.R_reads' HO761.out).2.1) (by exact (Kd.R_reads' HO765.out).2.2) (by exact (Kd.R_reads' HO765.out).2.1) A5.out).mono ?_); rintro e w11 ⟨v768, v771, rfl, ho0, ho1, hb⟩; refine ⟨_, rfl, ?_⟩; have HO769 := mk0 (Rl (Rn (Rn ho0 (Rq HO761.out)) (Rq HO765.out)) (bZ HB.out)); have HO772 := mk0 (Rl (Rn (Rn ho1 (Rq HO761.out)) (Rq HO765.out)) (bZ HB.out)); replace HO761 := mk0 (Rm (Kd.R_told (Kd.R_told (Kd.R_old HO761.out hb) (Rs ho0)) (Rs ho1)) (fun _ h_ => h_.1)); replace HO765 := mk0 (Rm (Kd.R_told (Kd.R_told (Kd.R_old HO765.out hb) (Rs ho0)) (Rs ho1)) (fun _ h_ => h_.1)); replace BK757 := bkB BK757 hb; replace HB := hbS HB hb; obtain ⟨hcz12_0, hcz12_1, hcz12_2, hfz12_0, hfz12_1, hfz12_2⟩ := cz3 BK757; obtain ⟨Ao13, co13, eo13⟩ := Kd.R_slice HO769.out; subst eo13; obtain ⟨Ao14, co14, eo14⟩ := Kd.R_slice HO772.out; subst eo14))
 refine bodyPost_ret (results_ct rfl _ _ gb757 29 #[.bool t766, .slice Ao13 t767.length co13, .slice Ao14 t770.length co14] (0, 0) _ rfl (by refine blk_put (cs := #[.bool t766, .slice Ao13 t767.length co13, .slice none 0 0]) ?_ 2 _ rfl; refine blk_put (cs := #[.bool t766, .slice none 0 0, .slice none 0 0]) ?_ 1 _ rfl; refine blk_put (cs := #[.bool false, .slice none 0 0, .slice none 0 0]) ?_ 0 _ rfl; exact BK757.out) Try.underlying29 rfl (by kernel_rfl)) rfl ?_
 exact ⟨_, _, by first | rfl | (simp [errW_none, errW_some] <;> rfl) | (simp [*, errW_none, errW_some] <;> rfl), Rm (Rf (p := ⟨gb757, 2, none⟩) (Rf (p := ⟨gb757, 1, none⟩) (Rf (p := ⟨gb757, 0, none⟩) (Rt HO769.out BK757.out (by decide)) (fun _ hk => hk.2) (.bool t766)) (fun _ hk => hk.2) (.slice Ao13 t767.length co13)) (fun _ hk => hk.2) (.slice Ao14 t770.length co14)) (fun _ hk => hk.1.1.1), Rm (Rf (p := ⟨gb757, 2, none⟩) (Rf (p := ⟨gb757, 1, none⟩) (Rf (p := ⟨gb757, 0, none⟩) (Rt HO772.out BK757.out (by decide)) (fun _ hk => hk.2) (.bool t766)) (fun _ hk => hk.2) (.slice Ao13 t767.length co13)) (fun _ hk => hk.2) (.slice Ao14 t770.length co14)) (fun _ hk => hk.1.1.1), by repeat (first | exact HB.out | apply bN | apply b1 | apply bA | refine bS ?_ GE757.out)⟩
set_option maxHeartbeats 8000000 in
set_option maxRecDepth 100000 in
theorem examboardref37_whole.calls (k : Nat) (a0 : Int) (r1 : Bool) (r2 : List Int) (r3 : List Int) (w : World) (h : examboardref37_whole.f k a0 = some (r1, r2, r3)) :
  Calls Try.prog 33 #[.int .i64 a0] w fun e w' => ∃ v1_ v2_ : Value, e = .returned (.agg #[.bool r1, v1_, v2_]) ∧ Kd.R (Kd.int .u32) 87 w' w.heap.size (fun k_ => some k_ ≠ (v2_ : Value).ownBlock) v1_ r2 ∧ Kd.R (Kd.int .u32) 87 w' w.heap.size (fun k_ => some k_ ≠ (v1_ : Value).ownBlock) v2_ r3 ∧ Below w.heap.size w w' := by
 have hu29 := Try.underlying29
 have HB := mk0 (Below.refl w.heap.size w)
 have H : ((examboardref03_Of.f k a0 1).bind fun bt888 => (some (bt888.1, bt888.2.1, bt888.2.2.1))) = some (r1, r2, r3) := h
 clear h
 obtain ⟨⟨t888, t889, t892, t895⟩, A2, H⟩ := bindA H
 simp only [Option.some.injEq, Prod.mk.injEq] at H
 obtain ⟨rfl, rfl, rfl⟩ := H
 go_enter Try.func33, Try.ntmps33
 go_wp2_with (first | ((with_reducible refine gate_dst (N := 2) rfl ?_); refine box_event rfl (N := 2) rfl (cs := #[.bool false, .slice none 0 0, .slice none 0 0]) (t := 29) (by go_simp <;> rfl) ?_; intro gb887 hg w3 hbox hb; have BK887 := mk0 (hbox); have GE887 := geB hg HB; replace HB := hbS HB hb; clear hb hbox hg) | ((with_reducible refine gate_callee (f := 40) rfl ?_); refine goesL_ (some 7) rfl rfl Try.func40 (by kernel_rfl) rfl #[.int .i64 a0, .int .i64 1] rfl (by (try simp only [mA, mC, mN]); first | done | rfl | (simp only [lD, lT]; rfl)) ?_; (with_reducible refine (examboardref03_Of.calls k a0 1 t888 t889 t892 t895 _ A2.out).mono ?_); rintro e w4 ⟨v890, v893, rfl, ho0, ho1, hb⟩; refine ⟨_, rfl, ?_⟩; have HO891 := mk0 (Kd.R_lower ho0 (below_size HB.out)); have HO894 := mk0 (Kd.R_lower ho1 (below_size HB.out)); replace BK887 := bkB BK887 hb; replace HB := hbS HB hb) | ((with_reducible refine gate_dst (N := 3) rfl ?_); refine box_event rfl (N := 3) rfl (cs := #[.bool false, .slice none 0 0, .slice none 0 0]) (t := 29) (by go_simp <;> rfl) ?_; intro gb896 hg w5 hbox hb; replace HO891 := rB HO891 hb; replace HO894 := rB HO894 hb; have BK896 := mk0 (hbox); have GE896 := geB hg HB; replace HB := hbS HB hb; have NB887_896 := nbA hg BK887; have NB896_887 := nbB hg BK887; replace BK887 := bkB BK887 hb; clear hb hbox hg; have hnb6 := NB896_887.out; have hnc6 := NB887_896.out; obtain ⟨hcz7_0, hcz7_1, hcz7_2, hfz7_0, hfz7_1, hfz7_2⟩ := cz3 BK896; obtain ⟨Ao8, co8, eo8⟩ := Kd.R_slice HO891.out; subst eo8; obtain ⟨Ao9, co9, eo9⟩ := Kd.R_slice HO894.out; subst eo9; obtain ⟨hcz10_0, hcz10_1, hcz10_2, hfz10_0, hfz10_1, hfz10_2⟩ := cz3 BK887))
 refine bodyPost_ret (results_cell_row rfl _ _ gb887 29 #[.bool t888, .slice Ao8 t889.length co8, .slice Ao9 t892.length co9] (0, 0) _ rfl (by refine blk_put (cs := #[.bool t888, .slice Ao8 t889.length co8, .slice none 0 0]) ?_ 2 _ rfl; refine blk_put (cs := #[.bool t888, .slice none 0 0, .slice none 0 0]) ?_ 1 _ rfl; refine blk_put (cs := #[.bool false, .slice none 0 0, .slice none 0 0]) ?_ 0 _ rfl; refine blk_far ?_ NB887_896.out _; refine blk_far ?_ NB887_896.out _; refine blk_far ?_ NB887_896.out _; exact BK887.out) Try.underlying29 rfl (by kernel_rfl)) rfl ?_
 exact ⟨_, _, by first | rfl | (simp [errW_none, errW_some] <;> rfl) | (simp [*, errW_none, errW_some] <;> rfl), Kd.R_mono (Kd.R_far (p := ⟨gb887, 2, none⟩) (Kd.R_far (p := ⟨gb887, 1, none⟩) (Kd.R_far (p := ⟨gb887, 0, none⟩) (Kd.R_far (p := ⟨gb896, 2, none⟩) (Kd.R_far (p := ⟨gb896, 1, none⟩) (Kd.R_far (p := ⟨gb896, 0, none⟩) (Kd.R_types (Kd.R_types HO891.out BK896.out (by decide)) BK887.out (by decide)) (fun _ hk => hk.1.2) (.bool t888)) (fun _ hk => hk.1.2) (.slice Ao8 t889.length co8)) (fun _ hk => hk.1.2) (.slice Ao9 t892.length co9)) (fun _ hk => hk.2) (.bool t888)) (fun _ hk => hk.2) (.slice Ao8 t889.length co8)) (fun _ hk => hk.2) (.slice Ao9 t892.length co9)) (fun _ hk => hk.1.1), Kd.R_mono (Kd.R_far (p := ⟨gb887, 2, none⟩) (Kd.R_far (p := ⟨gb887, 1, none⟩) (Kd.R_far (p := ⟨gb887, 0, none⟩) (Kd.R_far (p := ⟨gb896, 2, none⟩) (Kd.R_far (p := ⟨gb896, 1, none⟩) (Kd.R_far (p := ⟨gb896, 0, none⟩) (Kd.R_types (Kd.R_types HO894.out BK896.out (by decide)) BK887.out (by decide)) (fun _ hk => hk.1.2) (.bool t888)) (fun _ hk => hk.1.2) (.slice Ao8 t889.length co8)) (fun _ hk => hk.1.2) (.slice Ao9 t892.length co9)) (fun _ hk => hk.2) (.bool t888)) (fun _ hk => hk.2) (.slice Ao8 t889.length co8)) (fun _ hk => hk.2) (.slice Ao9 t892.length co9)) (fun _ hk => hk.1.1), by repeat (first | exact HB.out | apply pw_below_drewN | apply below_drew1 | apply below_alloc | refine below_set ?_ GE887.out | refine below_set ?_ GE896.out)⟩
set_option maxHeartbeats 8000000 in
set_option maxRecDepth 100000 in
theorem examboardref37_limited.calls (a0 : Int) (r : Int) (w : World) (h : examboardref37_limited.f a0 = some r) :
  Calls Try.prog 34 #[.int .i64 a0] w fun e w' => e = .returned (.int .i64 r) ∧ Drawn0 w w' := by
 have H : (if a0 < 0 then (some 0) else (if a0 > 1000000 then (some 1000000) else (some a0))) = some r := h
 clear h
 by_cases c2 : a0 < 0
 ·rw [if_pos c2] at H
  have c2b0 : decide (a0 < 0) = true := decide_eq_true c2
  clear c2
  obtain rfl := Option.some.inj H
  go_enter Try.func34, Try.ntmps34
  go_wp2
  go_ret
  exact ⟨by first | rfl | (simp; done) | (simp [*]; done), by repeat (first | exact Drawn0.refl _ | apply Drawn0.step)⟩
 ·rw [if_neg c2] at H
  have c2b0 : decide (a0 < 0) = false := decide_eq_false c2
  clear c2
  by_cases c3 : a0 > 1000000
  ·rw [if_pos c3] at H
   have c3b0 : decide (1000000 < a0) = true := decide_eq_true c3
   clear c3
   obtain rfl := Option.some.inj H
   go_enter Try.func34, Try.ntmps34
   go_wp2
   go_ret
   exact ⟨by first | rfl | (simp; done) | (simp [*]; done), by repeat (first | exact Drawn0.refl _ | apply Drawn0.step)⟩
  ·rw [if_neg c3] at H
   have c3b0 : decide (1000000 < a0) = false := decide_eq_false c3
   clear c3
   obtain rfl := Option.some.inj H
   go_enter Try.func34, Try.ntmps34
   go_wp2
   go_ret
   exact ⟨by first | rfl | (simp; done) | (simp [*]; done), by repeat (first | exact Drawn0.refl _ | apply Drawn0.step)⟩
set_option maxHeartbeats 8000000 in
set_option maxRecDepth 100000 in
theorem examboardref02_Sign.calls (k : Nat) (a0_0 : Bool) (A0_1 : Option Addr) (c0_1 : Nat) (l0_1 : List Int) (r : Int) (w : World) (hr0_1 : Kd.C (Kd.int .u32) w A0_1 l0_1.length l0_1) (hc0_1 : l0_1.length ≤ c0_1) (h : examboardref02_Sign.f k a0_0 l0_1 = some r) :
  Calls Try.prog 91 #[.agg #[.bool a0_0, .slice A0_1 l0_1.length c0_1]] w fun e w' => e = .returned (.int .i64 r) ∧ Below w.heap.size w w' := by
 have hu27 := Try.underlying27
 have HR0_1 := mk0 hr0_1
 have HC0_1 := mk0 hc0_1
 clear hr0_1 hc0_1
 have HB := mk0 (Below.refl w.heap.size w)
 have H : ((examboardref02_Norm.f k a0_0 l0_1).bind fun bt666 => (if (bt666.2.length : Int) = 0 then (some 0) else (if bt666.1 = true then (some (-1)) else (some 1)))) = some r := h
 clear h
 obtain ⟨⟨t666, t667⟩, A2, H⟩ := bindA H
 by_cases c3 : (t667.length : Int) = 0
 ·rw [if_pos c3] at H
  have c3b0 : ((t667.length : Int) == 0) = true := beq_iff_eq.mpr c3
  have c3b1 : ((t667.length : Int) != 0) = false := bne_eq_false_iff_eq.mpr c3
  clear c3
  obtain rfl := Option.some.inj H
  go_enter Try.func91, Try.ntmps91
  go_wp2_with (first | ((with_reducible refine gate_dst (N := 1) rfl ?_); refine box_event rfl (N := 1) rfl (cs := #[.bool a0_0, .slice A0_1 l0_1.length c0_1]) (t := 27) (by go_simp <;> rfl) ?_; intro gb665 hg w4 hbox hb; have BK665 := mk0 (hbox); have GE665 := geB hg HB; replace HB := hbS HB hb; clear hb hbox hg; obtain ⟨hcz5_0, hcz5_1, hfz5_0, hfz5_1⟩ := cz2 BK665) | ((with_reducible refine gate_callee (f := 84) rfl ?_); refine goA 5 Try.func84 #[.agg #[.bool a0_0, .slice A0_1 l0_1.length c0_1]] ?_; (with_reducible refine (examboardref02_Norm.calls k a0_0 _ _ l0_1 t666 t667 _ (by exact Cb HR0_1.out HB.out) HC0_1.out A2.out).mono ?_); rintro e w6 ⟨v668, rfl, ho0, hb⟩; refine ⟨_, rfl, ?_⟩; have HO669 := mk0 (Rl ho0 (bZ HB.out)); replace BK665 := bkB BK665 hb; replace HB := hbS HB hb) | ((with_reducible refine gate_dst (N := 3) rfl ?_); refine box_event rfl (N := 3) rfl (cs := #[.bool false, .slice none 0 0]) (t := 27) (by go_simp <;> rfl) ?_; intro gb670 hg w7 hbox hb; replace HO669 := rB HO669 hb; have BK670 := mk0 (hbox); have GE670 := geB hg HB; replace HB := hbS HB hb; have NB665_670 := nbA hg BK665; have NB670_665 := nbB hg BK665; replace BK665 := bkB BK665 hb; clear hb hbox hg; have hnb8 := NB670_665.out; have hnc8 := NB665_670.out; obtain ⟨hcz9_0, hcz9_1, hfz9_0, hfz9_1⟩ := cz2 BK670; obtain ⟨Ao10, co10, eo10⟩ := Kd.R_slice HO669.out; subst eo10))
  go_ret
  exact ⟨by first | rfl | (simp [errW_none, errW_some] <;> rfl) | (simp [*, errW_none, errW_some] <;> rfl), by repeat (first | exact HB.out | apply bN | apply b1 | apply bA | refine bS ?_ GE665.out | refine bS ?_ GE670.out)⟩
 ·rw [if_neg c3] at H
  have c3b0 : ((t667.length : Int) == 0) = false := beq_eq_false_iff_ne.mpr c3
  have c3b1 : ((t667.length : Int) != 0) = true := bne_iff_ne.mpr c3
  have c3b2 : ¬ (t667 = []) := fun h_ => c3 (by rw [h_]; rfl)
  by_cases c11 : t666 = true
  ·subst c11
   have H1 : (some (-1)) = some r := by rw [if_pos rfl] at H; exact H
   clear H
   have H := H1
   clear H1
   obtain rfl := Option.some.inj H
   go_enter Try.func91, Try.ntmps91
   go_wp2_with (first | ((with_reducible refine gate_dst (N := 1) rfl ?_); refine box_event rfl (N := 1) rfl (cs := #[.bool a0_0, .slice A0_1 l0_1.length c0_1]) (t := 27) (by go_simp <;> rfl) ?_; intro gb665 hg w12 hbox hb; have BK665 := mk0 (hbox); have GE665 := geB hg HB; replace HB := hbS HB hb; clear hb hbox hg; obtain ⟨hcz13_0, hcz13_1, hfz13_0, hfz13_1⟩ := cz2 BK665) | ((with_reducible refine gate_callee (f := 84) rfl ?_); refine goA 5 Try.func84 #[.agg #[.bool a0_0, .slice A0_1 l0_1.length c0_1]] ?_; (with_reducible refine (examboardref02_Norm.calls k a0_0 _ _ l0_1 true t667 _ (by exact Cb HR0_1.out HB.out) HC0_1.out A2.out).mono ?_); rintro e w14 ⟨v668, rfl, ho0, hb⟩; refine ⟨_, rfl, ?_⟩; have HO669 := mk0 (Rl ho0 (bZ HB.out)); replace BK665 := bkB BK665 hb; replace HB := hbS HB hb) | ((with_reducible refine gate_dst (N := 3) rfl ?_); refine box_event rfl (N := 3) rfl (cs := #[.bool false, .slice none 0 0]) (t := 27) (by go_simp <;> rfl) ?_; intro gb670 hg w15 hbox hb; replace HO669 := rB HO669 hb; have BK670 := mk0 (hbox); have GE670 := geB hg HB; replace HB := hbS HB hb; have NB665_670 := nbA hg BK665; have NB670_665 := nbB hg BK665; replace BK665 := bkB BK665 hb; clear hb hbox hg; have hnb16 := NB670_665.out; have hnc16 := NB665_670.out; obtain ⟨hcz17_0, hcz17_1, hfz17_0, hfz17_1⟩ := cz2 BK670; obtain ⟨Ao18, co18, eo18⟩ := Kd.R_slice HO669.out; subst eo18))
   go_ret
   exact ⟨by first | rfl | (simp [errW_none, errW_some] <;> rfl) | (simp [*, errW_none, errW_some] <;> rfl), by repeat (first | exact HB.out | apply bN | apply b1 | apply bA | refine bS ?_ GE665.out | refine bS ?_ GE670.out)⟩
  ·replace c11 := Bool.eq_false_iff.mpr c11
   subst c11
   have H1 : (some 1) = some r := by rw [if_neg (show ¬ (false = true) by decide)] at H; exact H
   clear H
   have H := H1
   clear H1
   obtain rfl := Option.some.inj H
   go_enter Try.func91, Try.ntmps91
   go_wp2_with (first | ((with_reducible refine gate_dst (N := 1) rfl ?_); refine box_event rfl (N := 1) rfl (cs := #[.bool a0_0, .slice A0_1 l0_1.length c0_1]) (t := 27) (by go_simp <;> rfl) ?_; intro gb665 hg w19 hbox hb; have BK665 := mk0 (hbox); have GE665 := geB hg HB; replace HB := hbS HB hb; clear hb hbox hg; obtain ⟨hcz20_0, hcz20_1, hfz20_0, hfz20_1⟩ := cz2 BK665) | ((with_reducible refine gate_callee (f := 84) rfl ?_); refine goA 5 Try.func84 #[.agg #[.bool a0_0, .slice A0_1 l0_1.length c0_1]] ?_; (with_reducible refine (examboardref02_Norm.calls k a0_0 _ _ l0_1 false t667 _ (by exact Cb HR0_1.out HB.out) HC0_1.out A2.out).mono ?_); rintro e w21 ⟨v668, rfl, ho0, hb⟩; refine ⟨_, rfl, ?_⟩; have HO669 := mk0 (Rl ho0 (bZ HB.out)); replace BK665 := bkB BK665 hb; replace HB := hbS HB hb) | ((with_reducible refine gate_dst (N := 3) rfl ?_); refine box_event rfl (N := 3) rfl (cs := #[.bool false, .slice none 0 0]) (t := 27) (by go_simp <;> rfl) ?_; intro gb670 hg w22 hbox hb; replace HO669 := rB HO669 hb; have BK670 := mk0 (hbox); have GE670 := geB hg HB; replace HB := hbS HB hb; have NB665_670 := nbA hg BK665; have NB670_665 := nbB hg BK665; replace BK665 := bkB BK665 hb; clear hb hbox hg; have hnb23 := NB670_665.out; have hnc23 := NB665_670.out; obtain ⟨hcz24_0, hcz24_1, hfz24_0, hfz24_1⟩ := cz2 BK670; obtain ⟨Ao25, co25, eo25⟩ := Kd.R_slice HO669.out; subst eo25))
   go_ret
   exact ⟨by first | rfl | (simp [errW_none, errW_some] <;> rfl) | (simp [*, errW_none, errW_some] <;> rfl), by repeat (first | exact HB.out | apply bN | apply b1 | apply bA | refine bS ?_ GE665.out | refine bS ?_ GE670.out)⟩
set_option maxHeartbeats 8000000 in
set_option maxRecDepth 100000 in
theorem examboardref02_Cmp.calls (k : Nat) (a0_0 : Bool) (A0_1 : Option Addr) (c0_1 : Nat) (l0_1 : List Int) (a1_0 : Bool) (A1_1 : Option Addr) (c1_1 : Nat) (l1_1 : List Int) (r : Int) (w : World) (hr0_1 : Kd.C (Kd.int .u32) w A0_1 l0_1.length l0_1) (hc0_1 : l0_1.length ≤ c0_1) (hr1_1 : Kd.C (Kd.int .u32) w A1_1 l1_1.length l1_1) (hc1_1 : l1_1.length ≤ c1_1) (h : examboardref02_Cmp.f k a0_0 l0_1 a1_0 l1_1 = some r) :
  Calls Try.prog 63 #[.agg #[.bool a0_0, .slice A0_1 l0_1.length c0_1], .agg #[.bool a1_0, .slice A1_1 l1_1.length c1_1]] w fun e w' => e = .returned (.int .i64 r) ∧ Below w.heap.size w w' := by
 have hu27 := Try.underlying27
 have HR0_1 := mk0 hr0_1
 have HC0_1 := mk0 hc0_1
 clear hr0_1 hc0_1
 have HR1_1 := mk0 hr1_1
 have HC1_1 := mk0 hc1_1
 clear hr1_1 hc1_1
 have HB := mk0 (Below.refl w.heap.size w)
 have H : ((examboardref02_Sign.f k a0_0 l0_1).bind fun t673 => ((examboardref02_Sign.f k a1_0 l1_1).bind fun t674 => (if t673 < t674 then (some (-1)) else (if t673 > t674 then (some 1) else (if t673 < 0 then ((examboardref01_Cmp.f k l1_1 l0_1).bind fun t675 => (some t675)) else ((examboardref01_Cmp.f k l0_1 l1_1).bind fun t676 => (some t676))))))) = some r := h
 clear h
 obtain ⟨t673, A3, H⟩ := bindA H
 obtain ⟨t674, A4, H⟩ := bindA H
 by_cases c5 : t673 < t674
 ·rw [if_pos c5] at H
  have c5b0 : decide (t673 < t674) = true := decide_eq_true c5
  clear c5
  obtain rfl := Option.some.inj H
  go_enter Try.func63, Try.ntmps63
  go_wp2_with (first | ((with_reducible refine gate_dst (N := 2) rfl ?_); refine box_event rfl (N := 2) rfl (cs := #[.bool a0_0, .slice A0_1 l0_1.length c0_1]) (t := 27) (by go_simp <;> rfl) ?_; intro gb671 hg w6 hbox hb; have BK671 := mk0 (hbox); have GE671 := geB hg HB; replace HB := hbS HB hb; clear hb hbox hg) | ((with_reducible refine gate_dst (N := 3) rfl ?_); refine box_event rfl (N := 3) rfl (cs := #[.bool a1_0, .slice A1_1 l1_1.length c1_1]) (t := 27) (by go_simp <;> rfl) ?_; intro gb672 hg w7 hbox hb; have BK672 := mk0 (hbox); have GE672 := geB hg HB; replace HB := hbS HB hb; have NB671_672 := nbA hg BK671; have NB672_671 := nbB hg BK671; replace BK671 := bkB BK671 hb; clear hb hbox hg; have hnb8 := NB671_672.out; have hnc8 := NB672_671.out; obtain ⟨hcz9_0, hcz9_1, hfz9_0, hfz9_1⟩ := cz2 BK671) | ((with_reducible refine gate_callee (f := 91) rfl ?_); refine goA 8 Try.func91 #[.agg #[.bool a0_0, .slice A0_1 l0_1.length c0_1]] ?_; (with_reducible refine (examboardref02_Sign.calls k a0_0 _ _ l0_1 t673 _ (by exact Cb HR0_1.out HB.out) HC0_1.out A3.out).mono ?_); rintro e w10 ⟨rfl, hb⟩; refine ⟨_, rfl, ?_⟩; replace BK671 := bkB BK671 hb; replace BK672 := bkB BK672 hb; replace HB := hbS HB hb; obtain ⟨hcz11_0, hcz11_1, hfz11_0, hfz11_1⟩ := cz2 BK672) | ((with_reducible refine gate_callee (f := 91) rfl ?_); refine goA 10 Try.func91 #[.agg #[.bool a1_0, .slice A1_1 l1_1.length c1_1]] ?_; (with_reducible refine (examboardref02_Sign.calls k a1_0 _ _ l1_1 t674 _ (by exact Cb HR1_1.out HB.out) HC1_1.out A4.out).mono ?_); rintro e w12 ⟨rfl, hb⟩; refine ⟨_, rfl, ?_⟩; replace BK671 := bkB BK671 hb; replace BK672 := bkB BK672 hb; replace HB := hbS HB hb))
  go_ret
  exact ⟨by first | rfl | (simp [errW_none, errW_some] <;> rfl) | (simp [*, errW_none, errW_some] <;> rfl), by repeat (first | exact HB.out | apply bN | apply b1 | apply bA | refine bS ?_ GE671.out | refine bS ?_ GE672.out)⟩
 ·rw [if_neg c5] at H
  have c5b0 : decide (t673 < t674) = false := decide_eq_false c5
  clear c5
  by_cases c13 : t673 > t674
  ·rw [if_pos c13] at H
   have c13b0 : decide (t674 < t673) = true := decide_eq_true c13
   clear c13
   obtain rfl := Option.some.inj H
   go_enter Try.func63, Try.ntmps63
   go_wp2_with (first | ((with_reducible refine gate_dst (N := 2) rfl ?_); refine box_event rfl (N := 2) rfl (cs := #[.bool a0_0, .slice A0_1 l0_1.length c0_1]) (t := 27) (by go_simp <;> rfl) ?_; intro gb671 hg w14 hbox hb; have BK671 := mk0 (hbox); have GE671 := geB hg HB; replace HB := hbS HB hb; clear hb hbox hg) | ((with_reducible refine gate_dst (N := 3) rfl ?_); refine box_event rfl (N := 3) rfl (cs := #[.bool a1_0, .slice A1_1 l1_1.length c1_1]) (t := 27) (by go_simp <;> rfl) ?_; intro gb672 hg w15 hbox hb; have BK672 := mk0 (hbox); have GE672 := geB hg HB; replace HB := hbS HB hb; have NB671_672 := nbA hg BK671; have NB672_671 := nbB hg BK671; replace BK671 := bkB BK671 hb; clear hb hbox hg; have hnb16 := NB671_672.out; have hnc16 := NB672_671.out; obtain ⟨hcz17_0, hcz17_1, hfz17_0, hfz17_1⟩ := cz2 BK671) | ((with_reducible refine gate_callee (f := 91) rfl ?_); refine goA 8 Try.func91 #[.agg #[.bool a0_0, .slice A0_1 l0_1.length c0_1]] ?_; (with_reducible refine (examboardref02_Sign.calls k a0_0 _ _ l0_1 t673 _ (by exact Cb HR0_1.out HB.out) HC0_1.out A3.out).mono ?_); rintro e w18 ⟨rfl, hb⟩; refine ⟨_, rfl, ?_⟩; replace BK671 := bkB BK671 hb; replace BK672 := bkB BK672 hb; replace HB := hbS HB hb; obtain ⟨hcz19_0, hcz19_1, hfz19_0, hfz19_1⟩ := cz2 BK672) | ((with_reducible refine gate_callee (f := 91) rfl ?_); refine goA 10 Try.func91 #[.agg #[.bool a1_0, .slice A1_1 l1_1.length c1_1]] ?_; (with_reducible refine (examboardref02_Sign.calls k a1_0 _ _ l1_1 t674 _ (by exact Cb HR1_1.out HB.out) HC1_1.out A4.out).mono ?_); rintro e w20 ⟨rfl, hb⟩; refine ⟨_, rfl, ?_⟩; replace BK671 := bkB BK671 hb; replace BK672 := bkB BK672 hb; replace HB := hbS HB hb))
   go_ret
   exact ⟨by first | rfl | (simp [errW_none, errW_some] <;> rfl) | (simp [*, errW_none, errW_some] <;> rfl), by repeat (first | exact HB.out | apply bN | apply b1 | apply bA | refine bS ?_ GE671.out | refine bS ?_ GE672.out)⟩
  ·rw [if_neg c13] at H
   have c13b0 : decide (t674 < t673) = false := decide_eq_false c13
   clear c13
   by_cases c21 : t673 < 0
   ·rw [if_pos c21] at H
    have c21b0 : decide (t673 < 0) = true := decide_eq_true c21
    clear c21
    obtain ⟨t675, A22, H⟩ := bindA H
    obtain rfl := Option.some.inj H
    go_enter Try.func63, Try.ntmps63
    go_wp2_with (first | ((with_reducible refine gate_dst (N := 2) rfl ?_); refine box_event rfl (N := 2) rfl (cs := #[.bool a0_0, .slice A0_1 l0_1.length c0_1]) (t := 27) (by go_simp <;> rfl) ?_; intro gb671 hg w23 hbox hb; have BK671 := mk0 (hbox); have GE671 := geB hg HB; replace HB := hbS HB hb; clear hb hbox hg) | ((with_reducible refine gate_dst (N := 3) rfl ?_); refine box_event rfl (N := 3) rfl (cs := #[.bool a1_0, .slice A1_1 l1_1.length c1_1]) (t := 27) (by go_simp <;> rfl) ?_; intro gb672 hg w24 hbox hb; have BK672 := mk0 (hbox); have GE672 := geB hg HB; replace HB := hbS HB hb; have NB671_672 := nbA hg BK671; have NB672_671 := nbB hg BK671; replace BK671 := bkB BK671 hb; clear hb hbox hg; have hnb25 := NB671_672.out; have hnc25 := NB672_671.out; obtain ⟨hcz26_0, hcz26_1, hfz26_0, hfz26_1⟩ := cz2 BK671) | ((with_reducible refine gate_callee (f := 91) rfl ?_); refine goA 8 Try.func91 #[.agg #[.bool a0_0, .slice A0_1 l0_1.length c0_1]] ?_; (with_reducible refine (examboardref02_Sign.calls k a0_0 _ _ l0_1 t673 _ (by exact Cb HR0_1.out HB.out) HC0_1.out A3.out).mono ?_); rintro e w27 ⟨rfl, hb⟩; refine ⟨_, rfl, ?_⟩; replace BK671 := bkB BK671 hb; replace BK672 := bkB BK672 hb; replace HB := hbS HB hb; obtain ⟨hcz28_0, hcz28_1, hfz28_0, hfz28_1⟩ := cz2 BK672) | ((with_reducible refine gate_callee (f := 91) rfl ?_); refine goA 10 Try.func91 #[.agg #[.bool a1_0, .slice A1_1 l1_1.length c1_1]] ?_; (with_reducible refine (examboardref02_Sign.calls k a1_0 _ _ l1_1 t674 _ (by exact Cb HR1_1.out HB.out) HC1_1.out A4.out).mono ?_); rintro e w29 ⟨rfl, hb⟩; refine ⟨_, rfl, ?_⟩; replace BK671 := bkB BK671 hb; replace BK672 := bkB BK672 hb; replace HB := hbS HB hb; obtain ⟨hcz30_0, hcz30_1, hfz30_0, hfz30_1⟩ := cz2 BK672; obtain ⟨hcz31_0, hcz31_1, hfz31_0, hfz31_1⟩ := cz2 BK671) | ((with_reducible refine gate_callee (f := 92) rfl ?_); refine goA 23 Try.func92 #[.slice A1_1 l1_1.length c1_1, .slice A0_1 l0_1.length c0_1] ?_; (with_reducible refine (examboardref01_Cmp.calls k _ _ l1_1 _ _ l0_1 t675 _ (by exact Cb HR1_1.out HB.out) HC1_1.out (by exact Cb HR0_1.out HB.out) HC0_1.out A22.out).mono ?_); rintro e w32 ⟨rfl, hb⟩; refine ⟨_, rfl, ?_⟩; replace BK671 := bkB BK671 hb; replace BK672 := bkB BK672 hb; replace HB := hbS HB hb))
    go_ret
    exact ⟨by first | rfl | (simp [errW_none, errW_some] <;> rfl) | (simp [*, errW_none, errW_some] <;> rfl), by repeat (first | exact HB.out | apply bN | apply b1 | apply bA | refine bS ?_ GE671.out | refine bS ?_ GE672.out)⟩
   ·rw [if_neg c21] at H
    have c21b0 : decide (t673 < 0) = false := decide_eq_false c21
    clear c21
    obtain ⟨t676, A33, H⟩ := bindA H
    obtain rfl := Option.some.inj H
    go_enter Try.func63, Try.ntmps63
    go_wp2_with (first | ((with_reducible refine gate_dst (N := 2) rfl ?_); refine box_event rfl (N := 2) rfl (cs := #[.bool a0_0, .slice A0_1 l0_1.length c0_1]) (t := 27) (by go_simp <;> rfl) ?_; intro gb671 hg w34 hbox hb; have BK671 := mk0 (hbox); have GE671 := geB hg HB; replace HB := hbS HB hb; clear hb hbox hg) | ((with_reducible refine gate_dst (N := 3) rfl ?_); refine box_event rfl (N := 3) rfl (cs := #[.bool a1_0, .slice A1_1 l1_1.length c1_1]) (t := 27) (by go_simp <;> rfl) ?_; intro gb672 hg w35 hbox hb; have BK672 := mk0 (hbox); have GE672 := geB hg HB; replace HB := hbS HB hb; have NB671_672 := nbA hg BK671; have NB672_671 := nbB hg BK671; replace BK671 := bkB BK671 hb; clear hb hbox hg; have hnb36 := NB671_672.out; have hnc36 := NB672_671.out; obtain ⟨hcz37_0, hcz37_1, hfz37_0, hfz37_1⟩ := cz2 BK671) | ((with_reducible refine gate_callee (f := 91) rfl ?_); refine goA 8 Try.func91 #[.agg #[.bool a0_0, .slice A0_1 l0_1.length c0_1]] ?_; (with_reducible refine (examboardref02_Sign.calls k a0_0 _ _ l0_1 t673 _ (by exact Cb HR0_1.out HB.out) HC0_1.out A3.out).mono ?_); rintro e w38 ⟨rfl, hb⟩; refine ⟨_, rfl, ?_⟩; replace BK671 := bkB BK671 hb; replace BK672 := bkB BK672 hb; replace HB := hbS HB hb; obtain ⟨hcz39_0, hcz39_1, hfz39_0, hfz39_1⟩ := cz2 BK672) | ((with_reducible refine gate_callee (f := 91) rfl ?_); refine goA 10 Try.func91 #[.agg #[.bool a1_0, .slice A1_1 l1_1.length c1_1]] ?_; (with_reducible refine (examboardref02_Sign.calls k a1_0 _ _ l1_1 t674 _ (by exact Cb HR1_1.out HB.out) HC1_1.out A4.out).mono ?_); rintro e w40 ⟨rfl, hb⟩; refine ⟨_, rfl, ?_⟩; replace BK671 := bkB BK671 hb; replace BK672 := bkB BK672 hb; replace HB := hbS HB hb; obtain ⟨hcz41_0, hcz41_1, hfz41_0, hfz41_1⟩ := cz2 BK671; obtain ⟨hcz42_0, hcz42_1, hfz42_0, hfz42_1⟩ := cz2 BK672) | ((with_reducible refine gate_callee (f := 92) rfl ?_); refine goA 28 Try.func92 #[.slice A0_1 l0_1.length c0_1, .slice A1_1 l1_1.length c1_1] ?_; (with_reducible refine (examboardref01_Cmp.calls k _ _ l0_1 _ _ l1_1 t676 _ (by exact Cb HR0_1.out HB.out) HC0_1.out (by exact Cb HR1_1.out HB.out) HC1_1.out A33.out).mono ?_); rintro e w43 ⟨rfl, hb⟩; refine ⟨_, rfl, ?_⟩; replace BK671 := bkB BK671 hb; replace BK672 := bkB BK672 hb; replace HB := hbS HB hb))
    go_ret
    exact ⟨by first | rfl | (simp [errW_none, errW_some] <;> rfl) | (simp [*, errW_none, errW_some] <;> rfl), by repeat (first | exact HB.out | apply bN | apply b1 | apply bA | refine bS ?_ GE671.out | refine bS ?_ GE672.out)⟩
end Go.Proofs.Ythamhjmhgcpdgaa.Q
end
