/- Lemmas and contracts for the law ExposureCounts: words of the print, contracts of the functions that the law reaches, and what these compute, as far as the law needs them; packed by a program of this session. -/
import Derived.Test.YthamhjmhgcpdgaaZExposureCounts0
section
namespace Go.Proofs.Ythamhjmhgcpdgaa.Q
open Go.RowKit Go.Proofs.YthamhjmhgcpdgaaW.PrintWords Go.Proofs.YthamhjmhgcpdgaaW.PrintLast Go.Proofs.YthamhjmhgcpdgaaW.PrintMore Go.Proofs.Ythamhjmhgcpdgaa.MyWords
attribute [local go_sem] max2_int min2_int max_two min_two
set_option linter.unusedVariables false
set_option linter.unusedSimpArgs false
set_option maxHeartbeats 8000000 in
set_option maxRecDepth 100000 in
theorem nat_Cmp.calls (k : Nat) (A0 : Option Addr) (c0 : Nat) (l0 : List Int) (A1 : Option Addr) (c1 : Nat) (l1 : List Int) (r : Int) (w : World) (hr0 : Kd.C (Kd.int .u32) w A0 l0.length l0) (hc0 : l0.length ≤ c0) (hr1 : Kd.C (Kd.int .u32) w A1 l1.length l1) (hc1 : l1.length ≤ c1) (h : nat_Cmp.f k l0 l1 = some r) :
  Calls Try.prog 77 #[.slice A0 l0.length c0, .slice A1 l1.length c1] w fun e w' => e = .returned (.int .i64 r) ∧ Below w.heap.size w w' := by
 have HR0 := mk0 hr0
 have HC0 := mk0 hc0
 clear hr0 hc0
 have HR1 := mk0 hr1
 have HC1 := mk0 hc1
 clear hr1 hc1
 have HB := mk0 (Below.refl w.heap.size w)
 have H : ((nat_trim.f k l0).bind fun t141 => ((nat_trim.f k l1).bind fun t144 => (if (t141.length : Int) = (t144.length : Int) then (nat_Cmp.l0 k t141 t144 (wrap64 ((t141.length : Int) - 1))) else (if (t141.length : Int) < (t144.length : Int) then (some (-1)) else (some 1))))) = some r := h
 clear h
 obtain ⟨t141, A3, H⟩ := bindA H
 obtain ⟨t144, A4, H⟩ := bindA H
 by_cases c5 : (t141.length : Int) = (t144.length : Int)
 ·rw [if_pos c5] at H
  have c5b0 : ((t141.length : Int) == (t144.length : Int)) = true := beq_iff_eq.mpr c5
  have c5b1 : ((t141.length : Int) != (t144.length : Int)) = false := bne_eq_false_iff_eq.mpr c5
  have c5b2 : (t141.length == t144.length) = true := by first | simpa using c5 | (simp at c5 ⊢; omega)
  clear c5
  have H' := mk0 H
  clear H
  go_enter Try.func77, Try.ntmps77
  go_wp2_with (first | (go_at_call 81; (with_reducible refine (nat_trim.calls k (fun k_ => k_ < w.heap.size) _ _ l0 t141 _ (by exact Kd.V_mk HC0.out (Kd.F_below (Kd.C_F (Kd.heap_int .u32) HR0.out) (by repeat (first | exact HB.out | apply bN | apply b1 | apply bA)))) A3.out).mono ?_); rintro e w6 ⟨v142, rfl, ho0, hb⟩; have HO143 := mk0 (Vl (Vm (ok' := fun k_ => True) ho0 tv) (bZ (by repeat (first | exact HB.out | apply bN | apply b1 | apply bA)))); replace HB := (by first | exact hbS HB hb | exact hbD HB hb)) | (go_at_call 81; (with_reducible refine (nat_trim.calls k (fun k_ => k_ < w.heap.size) _ _ l1 t144 _ (by exact Kd.V_mk HC1.out (Kd.F_below (Kd.C_F (Kd.heap_int .u32) HR1.out) (by repeat (first | exact HB.out | apply bN | apply b1 | apply bA)))) A4.out).mono ?_); rintro e w7 ⟨v145, rfl, ho0, hb⟩; replace HO143 := mk0 (Kd.V_below HO143.out hb); have HO146 := mk0 (Vl (Vm (ok' := fun k_ => True) ho0 tv) (bZ (by repeat (first | exact HB.out | apply bN | apply b1 | apply bA)))); replace HB := (by first | exact hbS HB hb | exact hbD HB hb); obtain ⟨Ao8, co8, eo8⟩ := Kd.V_slice HO143.out; subst eo8; obtain ⟨Ao9, co9, eo9⟩ := Kd.V_slice HO146.out; subst eo9))
  repeat (go_quiet (first | (go_at_call 81; (with_reducible refine (nat_trim.calls k (fun k_ => k_ < w.heap.size) _ _ l0 t141 _ (by exact Kd.V_mk HC0.out (Kd.F_below (Kd.C_F (Kd.heap_int .u32) HR0.out) (by repeat (first | exact HB.out | apply bN | apply b1 | apply bA)))) A3.out).mono ?_); rintro e w6 ⟨v142, rfl, ho0, hb⟩; have HO143 := mk0 (Vl (Vm (ok' := fun k_ => True) ho0 tv) (bZ (by repeat (first | exact HB.out | apply bN | apply b1 | apply bA)))); replace HB := (by first | exact hbS HB hb | exact hbD HB hb)) | (go_at_call 81; (with_reducible refine (nat_trim.calls k (fun k_ => k_ < w.heap.size) _ _ l1 t144 _ (by exact Kd.V_mk HC1.out (Kd.F_below (Kd.C_F (Kd.heap_int .u32) HR1.out) (by repeat (first | exact HB.out | apply bN | apply b1 | apply bA)))) A4.out).mono ?_); rintro e w7 ⟨v145, rfl, ho0, hb⟩; replace HO143 := mk0 (Kd.V_below HO143.out hb); have HO146 := mk0 (Vl (Vm (ok' := fun k_ => True) ho0 tv) (bZ (by repeat (first | exact HB.out | apply bN | apply b1 | apply bA)))); replace HB := (by first | exact hbS HB hb | exact hbD HB hb); obtain ⟨Ao8, co8, eo8⟩ := Kd.V_slice HO143.out; subst eo8; obtain ⟨Ao9, co9, eo9⟩ := Kd.V_slice HO146.out; subst eo9)); try go_wp2_with (first | (go_at_call 81; (with_reducible refine (nat_trim.calls k (fun k_ => k_ < w.heap.size) _ _ l0 t141 _ (by exact Kd.V_mk HC0.out (Kd.F_below (Kd.C_F (Kd.heap_int .u32) HR0.out) (by repeat (first | exact HB.out | apply bN | apply b1 | apply bA)))) A3.out).mono ?_); rintro e w6 ⟨v142, rfl, ho0, hb⟩; have HO143 := mk0 (Vl (Vm (ok' := fun k_ => True) ho0 tv) (bZ (by repeat (first | exact HB.out | apply bN | apply b1 | apply bA)))); replace HB := (by first | exact hbS HB hb | exact hbD HB hb)) | (go_at_call 81; (with_reducible refine (nat_trim.calls k (fun k_ => k_ < w.heap.size) _ _ l1 t144 _ (by exact Kd.V_mk HC1.out (Kd.F_below (Kd.C_F (Kd.heap_int .u32) HR1.out) (by repeat (first | exact HB.out | apply bN | apply b1 | apply bA)))) A4.out).mono ?_); rintro e w7 ⟨v145, rfl, ho0, hb⟩; replace HO143 := mk0 (Kd.V_below HO143.out hb); have HO146 := mk0 (Vl (Vm (ok' := fun k_ => True) ho0 tv) (bZ (by repeat (first | exact HB.out | apply bN | apply b1 | apply bA)))); replace HB := (by first | exact hbS HB hb | exact hbD HB hb); obtain ⟨Ao8, co8, eo8⟩ := Kd.V_slice HO143.out; subst eo8; obtain ⟨Ao9, co9, eo9⟩ := Kd.V_slice HO146.out; subst eo9)))
  go_loopg [7] k (fun kq v7 w' => ∃ (x7_1 : Int), v7 = .int .i64 x7_1 ∧ Aside0 (nat_Cmp.l0 kq t141 t144 x7_1 = some r) ∧ Aside0 (kq ≤ k) ∧ Aside0 (Kd.V (Kd.int .u32) 87 w' w.heap.size (fun _ => True) (.slice Ao8 t141.length co8) t141) ∧ Aside0 (Kd.V (Kd.int .u32) 87 w' w.heap.size (fun _ => True) (.slice Ao9 t144.length co9) t144) ∧ Aside0 (Below w.heap.size w w'))
  case atStart => exact ⟨(wrap64 ((t141.length : Int) - 1)), (by first | rfl | (simp; done) | (simp [*]; done)), H', ⟨Nat.le_refl _⟩, ⟨HO143.out⟩, ⟨HO146.out⟩, ⟨by repeat (first | exact HB.out | apply bN | apply b1 | apply bA)⟩⟩
  case round =>
   clear H'
   try clear c1
   try clear p2
   try clear c5
   try clear c5b0
   try clear c5b1
   try clear c5b2
   try clear p6
   try clear c7
   obtain ⟨x7_1, rfl, HA, HK1, HO_5, HO_6, HB⟩ := hrel
   cases gk with
   | zero => exact absurd HA.out (by simp [nat_Cmp.l0])
   | succ k1 =>
    have H := HA.out
    clear HA
    simp only [nat_Cmp.l0] at H
    by_cases c10 : x7_1 ≥ 0
    ·rw [if_pos c10] at H
     have c10b0 : decide (0 ≤ x7_1) = true := decide_eq_true c10
     clear c10
     by_cases c11 : 0 ≤ x7_1
     ·rw [if_pos c11] at H
      have c11b0 : decide (0 ≤ x7_1) = true := decide_eq_true c11
      clear c11
      by_cases c12 : x7_1 < (t141.length : Int)
      ·rw [if_pos c12] at H
       have c12b0 : decide (x7_1 < (t141.length : Int)) = true := decide_eq_true c12
       clear c12
       by_cases c13 : x7_1 < (t144.length : Int)
       ·rw [if_pos c13] at H
        have c13b0 : decide (x7_1 < (t144.length : Int)) = true := decide_eq_true c13
        clear c13
        by_cases c14 : (rd t141 x7_1) < (rd t144 x7_1)
        ·rw [if_pos c14] at H
         have c14b0 : decide ((rd t141 x7_1) < (rd t144 x7_1)) = true := decide_eq_true c14
         clear c14
         obtain rfl := Option.some.inj H
         have p147 : 0 ≤ (x7_1 : Int) := of_decide_eq_true (by assumption)
         have q147 : x7_1 < (t141.length : Int) := of_decide_eq_true (by assumption)
         obtain ⟨ad147, e147, hx147_0⟩ := Kd.at_int (Kd.V_reads' HO_5.out).2.2 x7_1 p147 q147
         cases e147
         replace p147 := eq_true p147
         replace q147 := eq_true q147
         have p148 : 0 ≤ (x7_1 : Int) := of_decide_eq_true (by assumption)
         have q148 : x7_1 < (t144.length : Int) := of_decide_eq_true (by assumption)
         obtain ⟨ad148, e148, hx148_0⟩ := Kd.at_int (Kd.V_reads' HO_6.out).2.2 x7_1 p148 q148
         cases e148
         replace p148 := eq_true p148
         replace q148 := eq_true q148
         go_wp2
         repeat (go_quiet (fail); try go_wp2)
         go_ret
         exact ⟨by first | rfl | (simp [errW_none, errW_some] <;> rfl) | (simp [*, errW_none, errW_some] <;> rfl), by repeat (first | exact HB.out | apply bN | apply b1 | apply bA)⟩
        ·rw [if_neg c14] at H
         have c14b0 : decide ((rd t141 x7_1) < (rd t144 x7_1)) = false := decide_eq_false c14
         clear c14
         by_cases c15 : (rd t141 x7_1) > (rd t144 x7_1)
         ·rw [if_pos c15] at H
          have c15b0 : decide ((rd t144 x7_1) < (rd t141 x7_1)) = true := decide_eq_true c15
          clear c15
          obtain rfl := Option.some.inj H
          have p147 : 0 ≤ (x7_1 : Int) := of_decide_eq_true (by assumption)
          have q147 : x7_1 < (t141.length : Int) := of_decide_eq_true (by assumption)
          obtain ⟨ad147, e147, hx147_0⟩ := Kd.at_int (Kd.V_reads' HO_5.out).2.2 x7_1 p147 q147
          cases e147
          replace p147 := eq_true p147
          replace q147 := eq_true q147
          have p148 : 0 ≤ (x7_1 : Int) := of_decide_eq_true (by assumption)
          have q148 : x7_1 < (t144.length : Int) := of_decide_eq_true (by assumption)
          obtain ⟨ad148, e148, hx148_0⟩ := Kd.at_int (Kd.V_reads' HO_6.out).2.2 x7_1 p148 q148
          cases e148
          replace p148 := eq_true p148
          replace q148 := eq_true q148
          have p149 : 0 ≤ (x7_1 : Int) := of_decide_eq_true (by assumption)
          have q149 : x7_1 < (t141.length : Int) := of_decide_eq_true (by assumption)
          obtain ⟨ad149, e149, hx149_0⟩ := Kd.at_int (Kd.V_reads' HO_5.out).2.2 x7_1 p149 q149
          obtain rfl : ad147 = ad149 := (by injection e149)
          replace p149 := eq_true p149
          replace q149 := eq_true q149
          have p150 : 0 ≤ (x7_1 : Int) := of_decide_eq_true (by assumption)
          have q150 : x7_1 < (t144.length : Int) := of_decide_eq_true (by assumption)
          obtain ⟨ad150, e150, hx150_0⟩ := Kd.at_int (Kd.V_reads' HO_6.out).2.2 x7_1 p150 q150
          obtain rfl : ad148 = ad150 := (by injection e150)
          replace p150 := eq_true p150
          replace q150 := eq_true q150
          go_wp2
          repeat (go_quiet (fail); try go_wp2)
          go_ret
          exact ⟨by first | rfl | (simp [errW_none, errW_some] <;> rfl) | (simp [*, errW_none, errW_some] <;> rfl), by repeat (first | exact HB.out | apply bN | apply b1 | apply bA)⟩
         ·rw [if_neg c15] at H
          have c15b0 : decide ((rd t144 x7_1) < (rd t141 x7_1)) = false := decide_eq_false c15
          clear c15
          have H' := mk0 H
          clear H
          have p147 : 0 ≤ (x7_1 : Int) := of_decide_eq_true (by assumption)
          have q147 : x7_1 < (t141.length : Int) := of_decide_eq_true (by assumption)
          obtain ⟨ad147, e147, hx147_0⟩ := Kd.at_int (Kd.V_reads' HO_5.out).2.2 x7_1 p147 q147
          cases e147
          replace p147 := eq_true p147
          replace q147 := eq_true q147
          have p148 : 0 ≤ (x7_1 : Int) := of_decide_eq_true (by assumption)
          have q148 : x7_1 < (t144.length : Int) := of_decide_eq_true (by assumption)
          obtain ⟨ad148, e148, hx148_0⟩ := Kd.at_int (Kd.V_reads' HO_6.out).2.2 x7_1 p148 q148
          cases e148
          replace p148 := eq_true p148
          replace q148 := eq_true q148
          have p149 : 0 ≤ (x7_1 : Int) := of_decide_eq_true (by assumption)
          have q149 : x7_1 < (t141.length : Int) := of_decide_eq_true (by assumption)
          obtain ⟨ad149, e149, hx149_0⟩ := Kd.at_int (Kd.V_reads' HO_5.out).2.2 x7_1 p149 q149
          obtain rfl : ad147 = ad149 := (by injection e149)
          replace p149 := eq_true p149
          replace q149 := eq_true q149
          have p150 : 0 ≤ (x7_1 : Int) := of_decide_eq_true (by assumption)
          have q150 : x7_1 < (t144.length : Int) := of_decide_eq_true (by assumption)
          obtain ⟨ad150, e150, hx150_0⟩ := Kd.at_int (Kd.V_reads' HO_6.out).2.2 x7_1 p150 q150
          obtain rfl : ad148 = ad150 := (by injection e150)
          replace p150 := eq_true p150
          replace q150 := eq_true q150
          go_wp2
          repeat (go_quiet (fail); try go_wp2)
          go_roundg k1
          case measure => have := HK1.out; omega
          case rel => exact ⟨(wrap64 (x7_1 - 1)), (by first | rfl | (simp; done) | (simp [*]; done)), H', ⟨by have := HK1.out; omega⟩, ⟨HO_5.out⟩, ⟨HO_6.out⟩, ⟨by repeat (first | exact HB.out | apply bN | apply b1 | apply bA)⟩⟩
       ·rw [if_neg c13] at H
        exact absurd H (by simp)
      ·rw [if_neg c12] at H
       exact absurd H (by simp)
     ·rw [if_neg c11] at H
      exact absurd H (by simp)
    ·rw [if_neg c10] at H
     have c10b0 : decide (0 ≤ x7_1) = false := decide_eq_false c10
     clear c10
     obtain rfl := Option.some.inj H
     go_wp2
     repeat (go_quiet (fail); try go_wp2)
     go_ret
     exact ⟨by first | rfl | (simp [errW_none, errW_some] <;> rfl) | (simp [*, errW_none, errW_some] <;> rfl), by repeat (first | exact HB.out | apply bN | apply b1 | apply bA)⟩
 ·rw [if_neg c5] at H
  have c5b0 : ((t141.length : Int) == (t144.length : Int)) = false := beq_eq_false_iff_ne.mpr c5
  have c5b1 : ((t141.length : Int) != (t144.length : Int)) = true := bne_iff_ne.mpr c5
  have c5b2 : (t141.length == t144.length) = false := by first | simpa using c5 | (simp at c5 ⊢; omega)
  by_cases c16 : (t141.length : Int) < (t144.length : Int)
  ·rw [if_pos c16] at H
   have c16b0 : decide ((t141.length : Int) < (t144.length : Int)) = true := decide_eq_true c16
   have c16b1 : decide (t141.length < t144.length) = true := decide_eq_true (Int.ofNat_lt.mp c16)
   clear c16
   obtain rfl := Option.some.inj H
   go_enter Try.func77, Try.ntmps77
   go_wp2_with (first | (go_at_call 81; (with_reducible refine (nat_trim.calls k (fun k_ => k_ < w.heap.size) _ _ l0 t141 _ (by exact Kd.V_mk HC0.out (Kd.F_below (Kd.C_F (Kd.heap_int .u32) HR0.out) (by repeat (first | exact HB.out | apply bN | apply b1 | apply bA)))) A3.out).mono ?_); rintro e w17 ⟨v142, rfl, ho0, hb⟩; have HO143 := mk0 (Vl (Vm (ok' := fun k_ => True) ho0 tv) (bZ (by repeat (first | exact HB.out | apply bN | apply b1 | apply bA)))); replace HB := (by first | exact hbS HB hb | exact hbD HB hb)) | (go_at_call 81; (with_reducible refine (nat_trim.calls k (fun k_ => k_ < w.heap.size) _ _ l1 t144 _ (by exact Kd.V_mk HC1.out (Kd.F_below (Kd.C_F (Kd.heap_int .u32) HR1.out) (by repeat (first | exact HB.out | apply bN | apply b1 | apply bA)))) A4.out).mono ?_); rintro e w18 ⟨v145, rfl, ho0, hb⟩; replace HO143 := mk0 (Kd.V_below HO143.out hb); have HO146 := mk0 (Vl (Vm (ok' := fun k_ => True) ho0 tv) (bZ (by repeat (first | exact HB.out | apply bN | apply b1 | apply bA)))); replace HB := (by first | exact hbS HB hb | exact hbD HB hb); obtain ⟨Ao19, co19, eo19⟩ := Kd.V_slice HO143.out; subst eo19; obtain ⟨Ao20, co20, eo20⟩ := Kd.V_slice HO146.out; subst eo20))
   repeat (go_quiet (first | (go_at_call 81; (with_reducible refine (nat_trim.calls k (fun k_ => k_ < w.heap.size) _ _ l0 t141 _ (by exact Kd.V_mk HC0.out (Kd.F_below (Kd.C_F (Kd.heap_int .u32) HR0.out) (by repeat (first | exact HB.out | apply bN | apply b1 | apply bA)))) A3.out).mono ?_); rintro e w17 ⟨v142, rfl, ho0, hb⟩; have HO143 := mk0 (Vl (Vm (ok' := fun k_ => True) ho0 tv) (bZ (by repeat (first | exact HB.out | apply bN | apply b1 | apply bA)))); replace HB := (by first | exact hbS HB hb | exact hbD HB hb)) | (go_at_call 81; (with_reducible refine (nat_trim.calls k (fun k_ => k_ < w.heap.size) _ _ l1 t144 _ (by exact Kd.V_mk HC1.out (Kd.F_below (Kd.C_F (Kd.heap_int .u32) HR1.out) (by repeat (first | exact HB.out | apply bN | apply b1 | apply bA)))) A4.out).mono ?_); rintro e w18 ⟨v145, rfl, ho0, hb⟩; replace HO143 := mk0 (Kd.V_below HO143.out hb); have HO146 := mk0 (Vl (Vm (ok' := fun k_ => True) ho0 tv) (bZ (by repeat (first | exact HB.out | apply bN | apply b1 | apply bA)))); replace HB := (by first | exact hbS HB hb | exact hbD HB hb); obtain ⟨Ao19, co19, eo19⟩ := Kd.V_slice HO143.out; subst eo19; obtain ⟨Ao20, co20, eo20⟩ := Kd.V_slice HO146.out; subst eo20)); try go_wp2_with (first | (go_at_call 81; (with_reducible refine (nat_trim.calls k (fun k_ => k_ < w.heap.size) _ _ l0 t141 _ (by exact Kd.V_mk HC0.out (Kd.F_below (Kd.C_F (Kd.heap_int .u32) HR0.out) (by repeat (first | exact HB.out | apply bN | apply b1 | apply bA)))) A3.out).mono ?_); rintro e w17 ⟨v142, rfl, ho0, hb⟩; have HO143 := mk0 (Vl (Vm (ok' := fun k_ => True) ho0 tv) (bZ (by repeat (first | exact HB.out | apply bN | apply b1 | apply bA)))); replace HB := (by first | exact hbS HB hb | exact hbD HB hb)) | (go_at_call 81; (with_reducible refine (nat_trim.calls k (fun k_ => k_ < w.heap.size) _ _ l1 t144 _ (by exact Kd.V_mk HC1.out (Kd.F_below (Kd.C_F (Kd.heap_int .u32) HR1.out) (by repeat (first | exact HB.out | apply bN | apply b1 | apply bA)))) A4.out).mono ?_); rintro e w18 ⟨v145, rfl, ho0, hb⟩; replace HO143 := mk0 (Kd.V_below HO143.out hb); have HO146 := mk0 (Vl (Vm (ok' := fun k_ => True) ho0 tv) (bZ (by repeat (first | exact HB.out | apply bN | apply b1 | apply bA)))); replace HB := (by first | exact hbS HB hb | exact hbD HB hb); obtain ⟨Ao19, co19, eo19⟩ := Kd.V_slice HO143.out; subst eo19; obtain ⟨Ao20, co20, eo20⟩ := Kd.V_slice HO146.out; subst eo20)))
   go_ret
   exact ⟨by first | rfl | (simp [errW_none, errW_some] <;> rfl) | (simp [*, errW_none, errW_some] <;> rfl), by repeat (first | exact HB.out | apply bN | apply b1 | apply bA)⟩
  ·rw [if_neg c16] at H
   have c16b0 : decide ((t141.length : Int) < (t144.length : Int)) = false := decide_eq_false c16
   have c16b1 : decide (t141.length < t144.length) = false := decide_eq_false (fun h => c16 (Int.ofNat_lt.mpr h))
   clear c16
   obtain rfl := Option.some.inj H
   go_enter Try.func77, Try.ntmps77
   go_wp2_with (first | (go_at_call 81; (with_reducible refine (nat_trim.calls k (fun k_ => k_ < w.heap.size) _ _ l0 t141 _ (by exact Kd.V_mk HC0.out (Kd.F_below (Kd.C_F (Kd.heap_int .u32) HR0.out) (by repeat (first | exact HB.out | apply bN | apply b1 | apply bA)))) A3.out).mono ?_); rintro e w21 ⟨v142, rfl, ho0, hb⟩; have HO143 := mk0 (Vl (Vm (ok' := fun k_ => True) ho0 tv) (bZ (by repeat (first | exact HB.out | apply bN | apply b1 | apply bA)))); replace HB := (by first | exact hbS HB hb | exact hbD HB hb)) | (go_at_call 81; (with_reducible refine (nat_trim.calls k (fun k_ => k_ < w.heap.size) _ _ l1 t144 _ (by exact Kd.V_mk HC1.out (Kd.F_below (Kd.C_F (Kd.heap_int .u32) HR1.out) (by repeat (first | exact HB.out | apply bN | apply b1 | apply bA)))) A4.out).mono ?_); rintro e w22 ⟨v145, rfl, ho0, hb⟩; replace HO143 := mk0 (Kd.V_below HO143.out hb); have HO146 := mk0 (Vl (Vm (ok' := fun k_ => True) ho0 tv) (bZ (by repeat (first | exact HB.out | apply bN | apply b1 | apply bA)))); replace HB := (by first | exact hbS HB hb | exact hbD HB hb); obtain ⟨Ao23, co23, eo23⟩ := Kd.V_slice HO143.out; subst eo23; obtain ⟨Ao24, co24, eo24⟩ := Kd.V_slice HO146.out; subst eo24))
   repeat (go_quiet (first | (go_at_call 81; (with_reducible refine (nat_trim.calls k (fun k_ => k_ < w.heap.size) _ _ l0 t141 _ (by exact Kd.V_mk HC0.out (Kd.F_below (Kd.C_F (Kd.heap_int .u32) HR0.out) (by repeat (first | exact HB.out | apply bN | apply b1 | apply bA)))) A3.out).mono ?_); rintro e w21 ⟨v142, rfl, ho0, hb⟩; have HO143 := mk0 (Vl (Vm (ok' := fun k_ => True) ho0 tv) (bZ (by repeat (first | exact HB.out | apply bN | apply b1 | apply bA)))); replace HB := (by first | exact hbS HB hb | exact hbD HB hb)) | (go_at_call 81; (with_reducible refine (nat_trim.calls k (fun k_ => k_ < w.heap.size) _ _ l1 t144 _ (by exact Kd.V_mk HC1.out (Kd.F_below (Kd.C_F (Kd.heap_int .u32) HR1.out) (by repeat (first | exact HB.out | apply bN | apply b1 | apply bA)))) A4.out).mono ?_); rintro e w22 ⟨v145, rfl, ho0, hb⟩; replace HO143 := mk0 (Kd.V_below HO143.out hb); have HO146 := mk0 (Vl (Vm (ok' := fun k_ => True) ho0 tv) (bZ (by repeat (first | exact HB.out | apply bN | apply b1 | apply bA)))); replace HB := (by first | exact hbS HB hb | exact hbD HB hb); obtain ⟨Ao23, co23, eo23⟩ := Kd.V_slice HO143.out; subst eo23; obtain ⟨Ao24, co24, eo24⟩ := Kd.V_slice HO146.out; subst eo24)); try go_wp2_with (first | (go_at_call 81; (with_reducible refine (nat_trim.calls k (fun k_ => k_ < w.heap.size) _ _ l0 t141 _ (by exact Kd.V_mk HC0.out (Kd.F_below (Kd.C_F (Kd.heap_int .u32) HR0.out) (by repeat (first | exact HB.out | apply bN | apply b1 | apply bA)))) A3.out).mono ?_); rintro e w21 ⟨v142, rfl, ho0, hb⟩; have HO143 := mk0 (Vl (Vm (ok' := fun k_ => True) ho0 tv) (bZ (by repeat (first | exact HB.out | apply bN | apply b1 | apply bA)))); replace HB := (by first | exact hbS HB hb | exact hbD HB hb)) | (go_at_call 81; (with_reducible refine (nat_trim.calls k (fun k_ => k_ < w.heap.size) _ _ l1 t144 _ (by exact Kd.V_mk HC1.out (Kd.F_below (Kd.C_F (Kd.heap_int .u32) HR1.out) (by repeat (first | exact HB.out | apply bN | apply b1 | apply bA)))) A4.out).mono ?_); rintro e w22 ⟨v145, rfl, ho0, hb⟩; replace HO143 := mk0 (Kd.V_below HO143.out hb); have HO146 := mk0 (Vl (Vm (ok' := fun k_ => True) ho0 tv) (bZ (by repeat (first | exact HB.out | apply bN | apply b1 | apply bA)))); replace HB := (by first | exact hbS HB hb | exact hbD HB hb); obtain ⟨Ao23, co23, eo23⟩ := Kd.V_slice HO143.out; subst eo23; obtain ⟨Ao24, co24, eo24⟩ := Kd.V_slice HO146.out; subst eo24)))
   go_ret
   exact ⟨by first | rfl | (simp [errW_none, errW_some] <;> rfl) | (simp [*, errW_none, errW_some] <;> rfl), by repeat (first | exact HB.out | apply bN | apply b1 | apply bA)⟩
set_option maxHeartbeats 8000000 in
set_option maxRecDepth 100000 in
theorem integer_Cmp.calls (k : Nat) (a0_0 : Bool) (A0_1 : Option Addr) (c0_1 : Nat) (l0_1 : List Int) (a1_0 : Bool) (A1_1 : Option Addr) (c1_1 : Nat) (l1_1 : List Int) (r : Int) (w : World) (hr0_1 : Kd.C (Kd.int .u32) w A0_1 l0_1.length l0_1) (hc0_1 : l0_1.length ≤ c0_1) (hr1_1 : Kd.C (Kd.int .u32) w A1_1 l1_1.length l1_1) (hc1_1 : l1_1.length ≤ c1_1) (h : integer_Cmp.f k a0_0 l0_1 a1_0 l1_1 = some r) :
  Calls Try.prog 51 #[.agg #[.bool a0_0, .slice A0_1 l0_1.length c0_1], .agg #[.bool a1_0, .slice A1_1 l1_1.length c1_1]] w fun e w' => e = .returned (.int .i64 r) ∧ Below w.heap.size w w' := by
 have hu27 := Try.underlying27
 have HR0_1 := mk0 hr0_1
 have HC0_1 := mk0 hc0_1
 clear hr0_1 hc0_1
 have HR1_1 := mk0 hr1_1
 have HC1_1 := mk0 hc1_1
 clear hr1_1 hc1_1
 have HB := mk0 (Below.refl w.heap.size w)
 have H : ((integer_Sign.f k a0_0 l0_1).bind fun t348 => ((integer_Sign.f k a1_0 l1_1).bind fun t349 => (if t348 < t349 then (some (-1)) else (if t348 > t349 then (some 1) else (if t348 < 0 then ((nat_Cmp.f k l1_1 l0_1).bind fun t350 => (some t350)) else ((nat_Cmp.f k l0_1 l1_1).bind fun t351 => (some t351))))))) = some r := h
 clear h
 obtain ⟨t348, A3, H⟩ := bindA H
 obtain ⟨t349, A4, H⟩ := bindA H
 by_cases c5 : t348 < t349
 ·rw [if_pos c5] at H
  have c5b0 : decide (t348 < t349) = true := decide_eq_true c5
  clear c5
  obtain rfl := Option.some.inj H
  go_enter Try.func51, Try.ntmps51
  try go_wp2_with (first | ((with_reducible refine gate_dst (N := 2) rfl ?_); refine box_event rfl (N := 2) rfl (cs := #[.bool a0_0, .slice A0_1 l0_1.length c0_1]) (t := 27) (by go_simp <;> rfl) ?_; intro gb346 hg w6 hbox hb; have BK346 := mk0 (hbox); have GE346 := geB hg HB; replace HB := hbS HB hb; clear hb hbox hg) | ((with_reducible refine gate_dst (N := 3) rfl ?_); refine box_event rfl (N := 3) rfl (cs := #[.bool a1_0, .slice A1_1 l1_1.length c1_1]) (t := 27) (by go_simp <;> rfl) ?_; intro gb347 hg w7 hbox hb; have BK347 := mk0 (hbox); have GE347 := geB hg HB; replace HB := hbS HB hb; have NB346_347 := nbA hg BK346; have NB347_346 := nbB hg BK346; replace BK346 := bkB BK346 hb; clear hb hbox hg))
  replace BK346 := mk0 (blk_drew BK346.out)
  replace BK347 := mk0 (blk_drew BK347.out)
  replace HB := mk0 (b1 HB.out)
  refine start_ (n := 6) (S := fun w' => w'.cell? ⟨gb346, 0, none⟩ = some (.bool a0_0) ∧ w'.cell? ⟨gb346, 1, none⟩ = some (.slice A0_1 l0_1.length c0_1) ∧ w'.cell? ⟨gb347, 0, none⟩ = some (.bool a1_0) ∧ w'.cell? ⟨gb347, 1, none⟩ = some (.slice A1_1 l1_1.length c1_1)) (ds := []) (bv 6 0) (by kernel_rfl) rfl rfl ⟨(blk_cell BK346.out 0).trans rfl, (blk_cell BK346.out 1).trans rfl, (blk_cell BK347.out 0).trans rfl, (blk_cell BK347.out 1).trans rfl⟩ (fun hHeld => ?_)
  generalize w7.drew = w8 at BK346 BK347 HB hHeld ⊢
  refine take_ (i := 0) (N := some 7) (v := ?_) (a' := ?_) (bv 6 1) rfl rfl (by kernel_rfl) (fun _ _ _ h => h) (Or.inl ⟨by rfl, ?_⟩) hHeld ?_ ?_; rotate_left; (rintro w' ⟨s0, s1, s2, s3⟩; go_simp; with_reducible rfl); rotate_left; (simp only [Act.put, sA, sZ, sS, i64_w, i32_w]; rfl)
  refine take_ (i := 2) (N := some 9) (v := ?_) (a' := ?_) (bv 6 5) rfl rfl (by kernel_rfl) (fun _ _ _ h => h) (Or.inl ⟨by rfl, ?_⟩) hHeld ?_ ?_; rotate_left; (rintro w' ⟨s0, s1, s2, s3⟩; go_simp; with_reducible rfl); rotate_left; (simp only [Act.put, sA, sZ, sS, i64_w, i32_w]; rfl)
  refine one_ (i := 1) (N := some 8) (bv 6 7) rfl rfl (by kernel_rfl) (by decide) (fun K hK => ?_)
  refine goes_ Try.func37 (by kernel_rfl) rfl #[.agg #[.bool a0_0, .slice A0_1 l0_1.length c0_1]] (by rfl) rfl rfl (by go_simp <;> rfl) ?_
  with_reducible refine (integer_Sign.calls k a0_0 _ _ l0_1 t348 _ ?side1 ?side2 A3.out).mono ?_
  (case side1 => repeat (first | exact (Cb HR0_1.out HB.out) | (with_reducible refine Kd.C_alloc ?_ _) | (with_reducible refine Kd.C_drewN ?_ _) | (with_reducible refine Kd.C_drew ?_)))
  (case side2 => exact HC0_1.out)
  rintro e w9 ⟨rfl, hb⟩
  refine ⟨_, rfl, ?_⟩
  replace BK346 := bkB BK346 hb
  replace BK347 := bkB BK347 hb
  replace HB := mk0 (below_step (by repeat (first | exact HB.out | apply bN | apply b1 | apply bA | refine bS ?_ GE346.out | refine bS ?_ GE347.out)) hb)
  refine hK.out _ _ ⟨(blk_cell BK346.out 0).trans rfl, (blk_cell BK346.out 1).trans rfl, (blk_cell BK347.out 0).trans rfl, (blk_cell BK347.out 1).trans rfl⟩ (fun hHeld => ?_)
  clear hK K
  refine norm_ (a' := ?_) ?_ ?_
  rotate_left
  ·show Act.put _ (some 8) _ = _
   simp only [Act.put, sA, sZ, sS, i64_w, i32_w]
   rfl
  refine one_ (i := 3) (N := some 10) (bv 6 15) rfl rfl (by kernel_rfl) (by decide) (fun K hK => ?_)
  refine goes_ Try.func37 (by kernel_rfl) rfl #[.agg #[.bool a1_0, .slice A1_1 l1_1.length c1_1]] (by rfl) rfl rfl (by go_simp <;> rfl) ?_
  with_reducible refine (integer_Sign.calls k a1_0 _ _ l1_1 t349 _ ?side1 ?side2 A4.out).mono ?_
  (case side1 => repeat (first | exact (Cb HR1_1.out HB.out) | (with_reducible refine Kd.C_alloc ?_ _) | (with_reducible refine Kd.C_drewN ?_ _) | (with_reducible refine Kd.C_drew ?_)))
  (case side2 => exact HC1_1.out)
  rintro e w10 ⟨rfl, hb⟩
  refine ⟨_, rfl, ?_⟩
  replace BK346 := bkB BK346 hb
  replace BK347 := bkB BK347 hb
  replace HB := mk0 (below_step (by repeat (first | exact HB.out | apply bN | apply b1 | apply bA | refine bS ?_ GE346.out | refine bS ?_ GE347.out)) hb)
  refine hK.out _ _ ⟨(blk_cell BK346.out 0).trans rfl, (blk_cell BK346.out 1).trans rfl, (blk_cell BK347.out 0).trans rfl, (blk_cell BK347.out 1).trans rfl⟩ (fun hHeld => ?_)
  clear hK K
  refine norm_ (a' := ?_) ?_ ?_
  rotate_left
  ·show Act.put _ (some 10) _ = _
   simp only [Act.put, sA, sZ, sS, i64_w, i32_w]
   rfl
  refine pure_ (i := 4) (N := some 5) (v := ?_) (a' := ?_) (bv 6 31) rfl rfl (by kernel_rfl) (fun _ _ _ h => h) (Or.inl ⟨by rfl, ?_⟩) ?_ ?_; rotate_left; (intro w'; go_simp; with_reducible rfl); rotate_left; (simp only [Act.put, sA, sZ, sS, i64_w, i32_w]; rfl)
  refine pure_ (i := 5) (N := some 6) (v := ?_) (a' := ?_) (bv 6 63) rfl rfl (by kernel_rfl) (fun _ _ _ h => h) (Or.inl ⟨by rfl, ?_⟩) ?_ ?_; rotate_left; (intro w'; go_simp; with_reducible rfl); rotate_left; (simp only [Act.put, sA, sZ, sS, i64_w, i32_w]; rfl)
  refine done_ (by kernel_rfl) ?_
  try go_wp2
  go_ret
  exact ⟨by first | rfl | (simp [errW_none, errW_some] <;> rfl) | (simp [*, errW_none, errW_some] <;> rfl), by repeat (first | exact HB.out | apply bN | apply b1 | apply bA | refine bS ?_ GE346.out | refine bS ?_ GE347.out)⟩
 ·rw [if_neg c5] at H
  have c5b0 : decide (t348 < t349) = false := decide_eq_false c5
  clear c5
  by_cases c11 : t348 > t349
  ·rw [if_pos c11] at H
   have c11b0 : decide (t349 < t348) = true := decide_eq_true c11
   clear c11
   obtain rfl := Option.some.inj H
   go_enter Try.func51, Try.ntmps51
   try go_wp2_with (first | ((with_reducible refine gate_dst (N := 2) rfl ?_); refine box_event rfl (N := 2) rfl (cs := #[.bool a0_0, .slice A0_1 l0_1.length c0_1]) (t := 27) (by go_simp <;> rfl) ?_; intro gb346 hg w12 hbox hb; have BK346 := mk0 (hbox); have GE346 := geB hg HB; replace HB := hbS HB hb; clear hb hbox hg) | ((with_reducible refine gate_dst (N := 3) rfl ?_); refine box_event rfl (N := 3) rfl (cs := #[.bool a1_0, .slice A1_1 l1_1.length c1_1]) (t := 27) (by go_simp <;> rfl) ?_; intro gb347 hg w13 hbox hb; have BK347 := mk0 (hbox); have GE347 := geB hg HB; replace HB := hbS HB hb; have NB346_347 := nbA hg BK346; have NB347_346 := nbB hg BK346; replace BK346 := bkB BK346 hb; clear hb hbox hg))
   replace BK346 := mk0 (blk_drew BK346.out)
   replace BK347 := mk0 (blk_drew BK347.out)
   replace HB := mk0 (b1 HB.out)
   refine start_ (n := 6) (S := fun w' => w'.cell? ⟨gb346, 0, none⟩ = some (.bool a0_0) ∧ w'.cell? ⟨gb346, 1, none⟩ = some (.slice A0_1 l0_1.length c0_1) ∧ w'.cell? ⟨gb347, 0, none⟩ = some (.bool a1_0) ∧ w'.cell? ⟨gb347, 1, none⟩ = some (.slice A1_1 l1_1.length c1_1)) (ds := []) (bv 6 0) (by kernel_rfl) rfl rfl ⟨(blk_cell BK346.out 0).trans rfl, (blk_cell BK346.out 1).trans rfl, (blk_cell BK347.out 0).trans rfl, (blk_cell BK347.out 1).trans rfl⟩ (fun hHeld => ?_)
   generalize w13.drew = w14 at BK346 BK347 HB hHeld ⊢
   refine take_ (i := 0) (N := some 7) (v := ?_) (a' := ?_) (bv 6 1) rfl rfl (by kernel_rfl) (fun _ _ _ h => h) (Or.inl ⟨by rfl, ?_⟩) hHeld ?_ ?_; rotate_left; (rintro w' ⟨s0, s1, s2, s3⟩; go_simp; with_reducible rfl); rotate_left; (simp only [Act.put, sA, sZ, sS, i64_w, i32_w]; rfl)
   refine take_ (i := 2) (N := some 9) (v := ?_) (a' := ?_) (bv 6 5) rfl rfl (by kernel_rfl) (fun _ _ _ h => h) (Or.inl ⟨by rfl, ?_⟩) hHeld ?_ ?_; rotate_left; (rintro w' ⟨s0, s1, s2, s3⟩; go_simp; with_reducible rfl); rotate_left; (simp only [Act.put, sA, sZ, sS, i64_w, i32_w]; rfl)
   refine one_ (i := 1) (N := some 8) (bv 6 7) rfl rfl (by kernel_rfl) (by decide) (fun K hK => ?_)
   refine goes_ Try.func37 (by kernel_rfl) rfl #[.agg #[.bool a0_0, .slice A0_1 l0_1.length c0_1]] (by rfl) rfl rfl (by go_simp <;> rfl) ?_
   with_reducible refine (integer_Sign.calls k a0_0 _ _ l0_1 t348 _ ?side1 ?side2 A3.out).mono ?_
   (case side1 => repeat (first | exact (Cb HR0_1.out HB.out) | (with_reducible refine Kd.C_alloc ?_ _) | (with_reducible refine Kd.C_drewN ?_ _) | (with_reducible refine Kd.C_drew ?_)))
   (case side2 => exact HC0_1.out)
   rintro e w15 ⟨rfl, hb⟩
   refine ⟨_, rfl, ?_⟩
   replace BK346 := bkB BK346 hb
   replace BK347 := bkB BK347 hb
   replace HB := mk0 (below_step (by repeat (first | exact HB.out | apply bN | apply b1 | apply bA | refine bS ?_ GE346.out | refine bS ?_ GE347.out)) hb)
   refine hK.out _ _ ⟨(blk_cell BK346.out 0).trans rfl, (blk_cell BK346.out 1).trans rfl, (blk_cell BK347.out 0).trans rfl, (blk_cell BK347.out 1).trans rfl⟩ (fun hHeld => ?_)
   clear hK K
   refine norm_ (a' := ?_) ?_ ?_
   rotate_left
   ·show Act.put _ (some 8) _ = _
    simp only [Act.put, sA, sZ, sS, i64_w, i32_w]
    rfl
   refine one_ (i := 3) (N := some 10) (bv 6 15) rfl rfl (by kernel_rfl) (by decide) (fun K hK => ?_)
   refine goes_ Try.func37 (by kernel_rfl) rfl #[.agg #[.bool a1_0, .slice A1_1 l1_1.length c1_1]] (by rfl) rfl rfl (by go_simp <;> rfl) ?_
   with_reducible refine (integer_Sign.calls k a1_0 _ _ l1_1 t349 _ ?side1 ?side2 A4.out).mono ?_
   (case side1 => repeat (first | exact (Cb HR1_1.out HB.out) | (with_reducible refine Kd.C_alloc ?_ _) | (with_reducible refine Kd.C_drewN ?_ _) | (with_reducible refine Kd.C_drew ?_)))
   (case side2 => exact HC1_1.out)
   rintro e w16 ⟨rfl, hb⟩
   refine ⟨_, rfl, ?_⟩
   replace BK346 := bkB BK346 hb
   replace BK347 := bkB BK347 hb
   replace HB := mk0 (below_step (by repeat (first | exact HB.out | apply bN | apply b1 | apply bA | refine bS ?_ GE346.out | refine bS ?_ GE347.out)) hb)
   refine hK.out _ _ ⟨(blk_cell BK346.out 0).trans rfl, (blk_cell BK346.out 1).trans rfl, (blk_cell BK347.out 0).trans rfl, (blk_cell BK347.out 1).trans rfl⟩ (fun hHeld => ?_)
   clear hK K
   refine norm_ (a' := ?_) ?_ ?_
   rotate_left
   ·show Act.put _ (some 10) _ = _
    simp only [Act.put, sA, sZ, sS, i64_w, i32_w]
    rfl
   refine pure_ (i := 4) (N := some 5) (v := ?_) (a' := ?_) (bv 6 31) rfl rfl (by kernel_rfl) (fun _ _ _ h => h) (Or.inl ⟨by rfl, ?_⟩) ?_ ?_; rotate_left; (intro w'; go_simp; with_reducible rfl); rotate_left; (simp only [Act.put, sA, sZ, sS, i64_w, i32_w]; rfl)
   refine pure_ (i := 5) (N := some 6) (v := ?_) (a' := ?_) (bv 6 63) rfl rfl (by kernel_rfl) (fun _ _ _ h => h) (Or.inl ⟨by rfl, ?_⟩) ?_ ?_; rotate_left; (intro w'; go_simp; with_reducible rfl); rotate_left; (simp only [Act.put, sA, sZ, sS, i64_w, i32_w]; rfl)
   refine done_ (by kernel_rfl) ?_
   try go_wp2
   go_ret
   exact ⟨by first | rfl | (simp [errW_none, errW_some] <;> rfl) | (simp [*, errW_none, errW_some] <;> rfl), by repeat (first | exact HB.out | apply bN | apply b1 | apply bA | refine bS ?_ GE346.out | refine bS ?_ GE347.out)⟩
  ·rw [if_neg c11] at H
   have c11b0 : decide (t349 < t348) = false := decide_eq_false c11
   clear c11
   by_cases c17 : t348 < 0
   ·rw [if_pos c17] at H
    have c17b0 : decide (t348 < 0) = true := decide_eq_true c17
    clear c17
    obtain ⟨t350, A18, H⟩ := bindA H
    obtain rfl := Option.some.inj H
    go_enter Try.func51, Try.ntmps51
    try go_wp2_with (first | ((with_reducible refine gate_dst (N := 2) rfl ?_); refine box_event rfl (N := 2) rfl (cs := #[.bool a0_0, .slice A0_1 l0_1.length c0_1]) (t := 27) (by go_simp <;> rfl) ?_; intro gb346 hg w19 hbox hb; have BK346 := mk0 (hbox); have GE346 := geB hg HB; replace HB := hbS HB hb; clear hb hbox hg) | ((with_reducible refine gate_dst (N := 3) rfl ?_); refine box_event rfl (N := 3) rfl (cs := #[.bool a1_0, .slice A1_1 l1_1.length c1_1]) (t := 27) (by go_simp <;> rfl) ?_; intro gb347 hg w20 hbox hb; have BK347 := mk0 (hbox); have GE347 := geB hg HB; replace HB := hbS HB hb; have NB346_347 := nbA hg BK346; have NB347_346 := nbB hg BK346; replace BK346 := bkB BK346 hb; clear hb hbox hg))
    replace BK346 := mk0 (blk_drew BK346.out)
    replace BK347 := mk0 (blk_drew BK347.out)
    replace HB := mk0 (b1 HB.out)
    refine start_ (n := 6) (S := fun w' => w'.cell? ⟨gb346, 0, none⟩ = some (.bool a0_0) ∧ w'.cell? ⟨gb346, 1, none⟩ = some (.slice A0_1 l0_1.length c0_1) ∧ w'.cell? ⟨gb347, 0, none⟩ = some (.bool a1_0) ∧ w'.cell? ⟨gb347, 1, none⟩ = some (.slice A1_1 l1_1.length c1_1)) (ds := []) (bv 6 0) (by kernel_rfl) rfl rfl ⟨(blk_cell BK346.out 0).trans rfl, (blk_cell BK346.out 1).trans rfl, (blk_cell BK347.out 0).trans rfl, (blk_cell BK347.out 1).trans rfl⟩ (fun hHeld => ?_)
    generalize w20.drew = w21 at BK346 BK347 HB hHeld ⊢
    refine take_ (i := 0) (N := some 7) (v := ?_) (a' := ?_) (bv 6 1) rfl rfl (by kernel_rfl) (fun _ _ _ h => h) (Or.inl ⟨by rfl, ?_⟩) hHeld ?_ ?_; rotate_left; (rintro w' ⟨s0, s1, s2, s3⟩; go_simp; with_reducible rfl); rotate_left; (simp only [Act.put, sA, sZ, sS, i64_w, i32_w]; rfl)
    refine take_ (i := 2) (N := some 9) (v := ?_) (a' := ?_) (bv 6 5) rfl rfl (by kernel_rfl) (fun _ _ _ h => h) (Or.inl ⟨by rfl, ?_⟩) hHeld ?_ ?_; rotate_left; (rintro w' ⟨s0, s1, s2, s3⟩; go_simp; with_reducible rfl); rotate_left; (simp only [Act.put, sA, sZ, sS, i64_w, i32_w]; rfl)
    refine one_ (i := 1) (N := some 8) (bv 6 7) rfl rfl (by kernel_rfl) (by decide) (fun K hK => ?_)
    refine goes_ Try.func37 (by kernel_rfl) rfl #[.agg #[.bool a0_0, .slice A0_1 l0_1.length c0_1]] (by rfl) rfl rfl (by go_simp <;> rfl) ?_
    with_reducible refine (integer_Sign.calls k a0_0 _ _ l0_1 t348 _ ?side1 ?side2 A3.out).mono ?_
    (case side1 => repeat (first | exact (Cb HR0_1.out HB.out) | (with_reducible refine Kd.C_alloc ?_ _) | (with_reducible refine Kd.C_drewN ?_ _) | (with_reducible refine Kd.C_drew ?_)))
    (case side2 => exact HC0_1.out)
    rintro e w22 ⟨rfl, hb⟩
    refine ⟨_, rfl, ?_⟩
    replace BK346 := bkB BK346 hb
    replace BK347 := bkB BK347 hb
    replace HB := mk0 (below_step (by repeat (first | exact HB.out | apply bN | apply b1 | apply bA | refine bS ?_ GE346.out | refine bS ?_ GE347.out)) hb)
    refine hK.out _ _ ⟨(blk_cell BK346.out 0).trans rfl, (blk_cell BK346.out 1).trans rfl, (blk_cell BK347.out 0).trans rfl, (blk_cell BK347.out 1).trans rfl⟩ (fun hHeld => ?_)
    clear hK K
    refine norm_ (a' := ?_) ?_ ?_
    rotate_left
    ·show Act.put _ (some 8) _ = _
     simp only [Act.put, sA, sZ, sS, i64_w, i32_w]
     rfl
    refine one_ (i := 3) (N := some 10) (bv 6 15) rfl rfl (by kernel_rfl) (by decide) (fun K hK => ?_)
    refine goes_ Try.func37 (by kernel_rfl) rfl #[.agg #[.bool a1_0, .slice A1_1 l1_1.length c1_1]] (by rfl) rfl rfl (by go_simp <;> rfl) ?_
    with_reducible refine (integer_Sign.calls k a1_0 _ _ l1_1 t349 _ ?side1 ?side2 A4.out).mono ?_
    (case side1 => repeat (first | exact (Cb HR1_1.out HB.out) | (with_reducible refine Kd.C_alloc ?_ _) | (with_reducible refine Kd.C_drewN ?_ _) | (with_reducible refine Kd.C_drew ?_)))
    (case side2 => exact HC1_1.out)
    rintro e w23 ⟨rfl, hb⟩
    refine ⟨_, rfl, ?_⟩
    replace BK346 := bkB BK346 hb
    replace BK347 := bkB BK347 hb
    replace HB := mk0 (below_step (by repeat (first | exact HB.out | apply bN | apply b1 | apply bA | refine bS ?_ GE346.out | refine bS ?_ GE347.out)) hb)
    refine hK.out _ _ ⟨(blk_cell BK346.out 0).trans rfl, (blk_cell BK346.out 1).trans rfl, (blk_cell BK347.out 0).trans rfl, (blk_cell BK347.out 1).trans rfl⟩ (fun hHeld => ?_)
    clear hK K
    refine norm_ (a' := ?_) ?_ ?_
    rotate_left
    ·show Act.put _ (some 10) _ = _
     simp only [Act.put, sA, sZ, sS, i64_w, i32_w]
     rfl
    refine pure_ (i := 4) (N := some 5) (v := ?_) (a' := ?_) (bv 6 31) rfl rfl (by kernel_rfl) (fun _ _ _ h => h) (Or.inl ⟨by rfl, ?_⟩) ?_ ?_; rotate_left; (intro w'; go_simp; with_reducible rfl); rotate_left; (simp only [Act.put, sA, sZ, sS, i64_w, i32_w]; rfl)
    refine pure_ (i := 5) (N := some 6) (v := ?_) (a' := ?_) (bv 6 63) rfl rfl (by kernel_rfl) (fun _ _ _ h => h) (Or.inl ⟨by rfl, ?_⟩) ?_ ?_; rotate_left; (intro w'; go_simp; with_reducible rfl); rotate_left; (simp only [Act.put, sA, sZ, sS, i64_w, i32_w]; rfl)
    refine done_ (by kernel_rfl) ?_
    have hnb24 := NB347_346.out
    have hnc24 := NB346_347.out
    obtain ⟨hcz25_0, hcz25_1, hfz25_0, hfz25_1⟩ := cz2 BK347
    obtain ⟨hcz26_0, hcz26_1, hfz26_0, hfz26_1⟩ := cz2 BK346
    try go_wp2_with (first | ((with_reducible refine gate_callee (f := 77) rfl ?_); refine goA 26 Try.func77 #[.slice A1_1 l1_1.length c1_1, .slice A0_1 l0_1.length c0_1] ?_; (with_reducible refine (nat_Cmp.calls k _ _ l1_1 _ _ l0_1 t350 _ (by exact Cb HR1_1.out HB.out) HC1_1.out (by exact Cb HR0_1.out HB.out) HC0_1.out A18.out).mono ?_); rintro e w27 ⟨rfl, hb⟩; refine ⟨_, rfl, ?_⟩; replace BK346 := bkB BK346 hb; replace BK347 := bkB BK347 hb; replace HB := hbS HB hb))
    go_ret
    exact ⟨by first | rfl | (simp [errW_none, errW_some] <;> rfl) | (simp [*, errW_none, errW_some] <;> rfl), by repeat (first | exact HB.out | apply bN | apply b1 | apply bA | refine bS ?_ GE346.out | refine bS ?_ GE347.out)⟩
   ·rw [if_neg c17] at H
    have c17b0 : decide (t348 < 0) = false := decide_eq_false c17
    clear c17
    obtain ⟨t351, A28, H⟩ := bindA H
    obtain rfl := Option.some.inj H
    go_enter Try.func51, Try.ntmps51
    try go_wp2_with (first | ((with_reducible refine gate_dst (N := 2) rfl ?_); refine box_event rfl (N := 2) rfl (cs := #[.bool a0_0, .slice A0_1 l0_1.length c0_1]) (t := 27) (by go_simp <;> rfl) ?_; intro gb346 hg w29 hbox hb; have BK346 := mk0 (hbox); have GE346 := geB hg HB; replace HB := hbS HB hb; clear hb hbox hg) | ((with_reducible refine gate_dst (N := 3) rfl ?_); refine box_event rfl (N := 3) rfl (cs := #[.bool a1_0, .slice A1_1 l1_1.length c1_1]) (t := 27) (by go_simp <;> rfl) ?_; intro gb347 hg w30 hbox hb; have BK347 := mk0 (hbox); have GE347 := geB hg HB; replace HB := hbS HB hb; have NB346_347 := nbA hg BK346; have NB347_346 := nbB hg BK346; replace BK346 := bkB BK346 hb; clear hb hbox hg))
    replace BK346 := mk0 (blk_drew BK346.out)
    replace BK347 := mk0 (blk_drew BK347.out)
    replace HB := mk0 (b1 HB.out)
    refine start_ (n := 6) (S := fun w' => w'.cell? ⟨gb346, 0, none⟩ = some (.bool a0_0) ∧ w'.cell? ⟨gb346, 1, none⟩ = some (.slice A0_1 l0_1.length c0_1) ∧ w'.cell? ⟨gb347, 0, none⟩ = some (.bool a1_0) ∧ w'.cell? ⟨gb347, 1, none⟩ = some (.slice A1_1 l1_1.length c1_1)) (ds := []) (bv 6 0) (by kernel_rfl) rfl rfl ⟨(blk_cell BK346.out 0).trans rfl, (blk_cell BK346.out 1).trans rfl, (blk_cell BK347.out 0).trans rfl, (blk_cell BK347.out 1).trans rfl⟩ (fun hHeld => ?_)
    generalize w30.drew = w31 at BK346 BK347 HB hHeld ⊢
    refine take_ (i := 0) (N := some 7) (v := ?_) (a' := ?_) (bv 6 1) rfl rfl (by kernel_rfl) (fun _ _ _ h => h) (Or.inl ⟨by rfl, ?_⟩) hHeld ?_ ?_; rotate_left; (rintro w' ⟨s0, s1, s2, s3⟩; go_simp; with_reducible rfl); rotate_left; (simp only [Act.put, sA, sZ, sS, i64_w, i32_w]; rfl)
    refine take_ (i := 2) (N := some 9) (v := ?_) (a' := ?_) (bv 6 5) rfl rfl (by kernel_rfl) (fun _ _ _ h => h) (Or.inl ⟨by rfl, ?_⟩) hHeld ?_ ?_; rotate_left; (rintro w' ⟨s0, s1, s2, s3⟩; go_simp; with_reducible rfl); rotate_left; (simp only [Act.put, sA, sZ, sS, i64_w, i32_w]; rfl)
    refine one_ (i := 1) (N := some 8) (bv 6 7) rfl rfl (by kernel_rfl) (by decide) (fun K hK => ?_)
    refine goes_ Try.func37 (by kernel_rfl) rfl #[.agg #[.bool a0_0, .slice A0_1 l0_1.length c0_1]] (by rfl) rfl rfl (by go_simp <;> rfl) ?_
    with_reducible refine (integer_Sign.calls k a0_0 _ _ l0_1 t348 _ ?side1 ?side2 A3.out).mono ?_
    (case side1 => repeat (first | exact (Cb HR0_1.out HB.out) | (with_reducible refine Kd.C_alloc ?_ _) | (with_reducible refine Kd.C_drewN ?_ _) | (with_reducible refine Kd.C_drew ?_)))
    (case side2 => exact HC0_1.out)
    rintro e w32 ⟨rfl, hb⟩
    refine ⟨_, rfl, ?_⟩
    replace BK346 := bkB BK346 hb
    replace BK347 := bkB BK347 hb
    replace HB := mk0 (below_step (by repeat (first | exact HB.out | apply bN | apply b1 | apply bA | refine bS ?_ GE346.out | refine bS ?_ GE347.out)) hb)
    refine hK.out _ _ ⟨(blk_cell BK346.out 0).trans rfl, (blk_cell BK346.out 1).trans rfl, (blk_cell BK347.out 0).trans rfl, (blk_cell BK347.out 1).trans rfl⟩ (fun hHeld => ?_)
    clear hK K
    refine norm_ (a' := ?_) ?_ ?_
    rotate_left
    ·show Act.put _ (some 8) _ = _
     simp only [Act.put, sA, sZ, sS, i64_w, i32_w]
     rfl
    refine one_ (i := 3) (N := some 10) (bv 6 15) rfl rfl (by kernel_rfl) (by decide) (fun K hK => ?_)
    refine goes_ Try.func37 (by kernel_rfl) rfl #[.agg #[.bool a1_0, .slice A1_1 l1_1.length c1_1]] (by rfl) rfl rfl (by go_simp <;> rfl) ?_
    with_reducible refine (integer_Sign.calls k a1_0 _ _ l1_1 t349 _ ?side1 ?side2 A4.out).mono ?_
    (case side1 => repeat (first | exact (Cb HR1_1.out HB.out) | (with_reducible refine Kd.C_alloc ?_ _) | (with_reducible refine Kd.C_drewN ?_ _) | (with_reducible refine Kd.C_drew ?_)))
    (case side2 => exact HC1_1.out)
    rintro e w33 ⟨rfl, hb⟩
    refine ⟨_, rfl, ?_⟩
    replace BK346 := bkB BK346 hb
    replace BK347 := bkB BK347 hb
    replace HB := mk0 (below_step (by repeat (first | exact HB.out | apply bN | apply b1 | apply bA | refine bS ?_ GE346.out | refine bS ?_ GE347.out)) hb)
    refine hK.out _ _ ⟨(blk_cell BK346.out 0).trans rfl, (blk_cell BK346.out 1).trans rfl, (blk_cell BK347.out 0).trans rfl, (blk_cell BK347.out 1).trans rfl⟩ (fun hHeld => ?_)
    clear hK K
    refine norm_ (a' := ?_) ?_ ?_
    rotate_left
    ·show Act.put _ (some 10) _ = _
     simp only [Act.put, sA, sZ, sS, i64_w, i32_w]
     rfl
    refine pure_ (i := 4) (N := some 5) (v := ?_) (a' := ?_) (bv 6 31) rfl rfl (by kernel_rfl) (fun _ _ _ h => h) (Or.inl ⟨by rfl, ?_⟩) ?_ ?_; rotate_left; (intro w'; go_simp; with_reducible rfl); rotate_left; (simp only [Act.put, sA, sZ, sS, i64_w, i32_w]; rfl)
    refine pure_ (i := 5) (N := some 6) (v := ?_) (a' := ?_) (bv 6 63) rfl rfl (by kernel_rfl) (fun _ _ _ h => h) (Or.inl ⟨by rfl, ?_⟩) ?_ ?_; rotate_left; (intro w'; go_simp; with_reducible rfl); rotate_left; (simp only [Act.put, sA, sZ, sS, i64_w, i32_w]; rfl)
    refine done_ (by kernel_rfl) ?_
    have hnb34 := NB346_347.out
    have hnc34 := NB347_346.out
    obtain ⟨hcz35_0, hcz35_1, hfz35_0, hfz35_1⟩ := cz2 BK346
    obtain ⟨hcz36_0, hcz36_1, hfz36_0, hfz36_1⟩ := cz2 BK347
    try go_wp2_with (first | ((with_reducible refine gate_callee (f := 77) rfl ?_); refine goA 31 Try.func77 #[.slice A0_1 l0_1.length c0_1, .slice A1_1 l1_1.length c1_1] ?_; (with_reducible refine (nat_Cmp.calls k _ _ l0_1 _ _ l1_1 t351 _ (by exact Cb HR0_1.out HB.out) HC0_1.out (by exact Cb HR1_1.out HB.out) HC1_1.out A28.out).mono ?_); rintro e w37 ⟨rfl, hb⟩; refine ⟨_, rfl, ?_⟩; replace BK346 := bkB BK346 hb; replace BK347 := bkB BK347 hb; replace HB := hbS HB hb))
    go_ret
    exact ⟨by first | rfl | (simp [errW_none, errW_some] <;> rfl) | (simp [*, errW_none, errW_some] <;> rfl), by repeat (first | exact HB.out | apply bN | apply b1 | apply bA | refine bS ?_ GE346.out | refine bS ?_ GE347.out)⟩
set_option maxHeartbeats 8000000 in
set_option maxRecDepth 100000 in
theorem nat_Mul.calls (k : Nat) (P0_ : Nat → Prop) (A0 : Option Addr) (c0 : Nat) (l0 : List Int) (P1_ : Nat → Prop) (A1 : Option Addr) (c1 : Nat) (l1 : List Int) (r : List Int) (w : World) (hs0 : Kd.V (Kd.int .u32) 87 w w.heap.size (fun k_ => P0_ k_) (.slice A0 l0.length c0) l0) (hs1 : Kd.V (Kd.int .u32) 87 w w.heap.size (fun k_ => P1_ k_) (.slice A1 l1.length c1) l1) (h : nat_Mul.f k l0 l1 = some r) :
  Calls Try.prog 54 #[.slice A0 l0.length c0, .slice A1 l1.length c1] w fun e w' => ∃ v0_ : Value, e = .returned (v0_) ∧ Kd.V (Kd.int .u32) 87 w' w.heap.size (fun k_ => ((P0_ k_ ∨ P1_ k_) ∨ w.heap.size ≤ k_)) v0_ r ∧ Below w.heap.size w w' := by
 have HO0 := mk0 (show Kd.V (Kd.int .u32) 87 w w.heap.size (fun k_ => ((P0_ k_ ∨ P1_ k_) ∨ w.heap.size ≤ k_)) (.slice A0 l0.length c0) l0 from Vm hs0 (fun k_ hk => .inl (.inl hk)))
 have HO1 := mk0 (show Kd.V (Kd.int .u32) 87 w w.heap.size (fun k_ => ((P0_ k_ ∨ P1_ k_) ∨ w.heap.size ≤ k_)) (.slice A1 l1.length c1) l1 from Vm hs1 (fun k_ hk => .inl (.inr hk)))
 have HB := mk0 (Below.refl w.heap.size w)
 have H : ((nat_trim.f k l0).bind fun t352 => ((nat_trim.f k l1).bind fun t355 => (if (t352.length : Int) = 0 then (nat_Mul.j0 k t352 t355 true) else (nat_Mul.j0 k t352 t355 ((t355.length : Int) == 0))))) = some r := h
 clear h
 obtain ⟨t352, A3, H⟩ := bindA H
 obtain ⟨t355, A4, H⟩ := bindA H
 have HC5 := mk0 H
 clear H
 go_enter Try.func54, Try.ntmps54
 go_upto_region 2 with (first | ((with_reducible refine gate_callee (f := 81) rfl ?_); refine goA 14 Try.func81 #[.slice A0 l0.length c0] ?_; (with_reducible refine (nat_trim.calls k (fun k_ => ((P0_ k_ ∨ P1_ k_) ∨ w.heap.size ≤ k_)) _ _ l0 t352 _ HO0.out A3.out).mono ?_); rintro e w6 ⟨v353, rfl, ho0, hb⟩; refine ⟨_, rfl, ?_⟩; replace HO0 := mk0 (Kd.V_below HO0.out hb); replace HO1 := mk0 (Kd.V_below HO1.out hb); have HO354 := mk0 (Vl (Vm (ok' := fun k_ => ((P0_ k_ ∨ P1_ k_) ∨ w.heap.size ≤ k_)) ho0 (fun k_ hk_ => Or.elim hk_ (fun hs_ => hs_) (fun hn_ => (.inr (Nat.le_trans (bZ HB.out) hn_))))) (bZ HB.out)); replace HB := hbS HB hb) | ((with_reducible refine gate_callee (f := 81) rfl ?_); refine goA 16 Try.func81 #[.slice A1 l1.length c1] ?_; (with_reducible refine (nat_trim.calls k (fun k_ => ((P0_ k_ ∨ P1_ k_) ∨ w.heap.size ≤ k_)) _ _ l1 t355 _ HO1.out A4.out).mono ?_); rintro e w7 ⟨v356, rfl, ho0, hb⟩; refine ⟨_, rfl, ?_⟩; replace HO0 := mk0 (Kd.V_below HO0.out hb); replace HO1 := mk0 (Kd.V_below HO1.out hb); replace HO354 := mk0 (Kd.V_below HO354.out hb); have HO357 := mk0 (Vl (Vm (ok' := fun k_ => ((P0_ k_ ∨ P1_ k_) ∨ w.heap.size ≤ k_)) ho0 (fun k_ hk_ => Or.elim hk_ (fun hs_ => hs_) (fun hn_ => (.inr (Nat.le_trans (bZ HB.out) hn_))))) (bZ HB.out)); replace HB := hbS HB hb))
 (try simp only [Act.put, sA, sZ, sS])
 go_cut [24] (fun v24 wc => ∃ (kq : Nat) (x24_4 : Bool), v24 = .bool x24_4 ∧ Aside0 (nat_Mul.j0 kq t352 t355 x24_4 = some r) ∧ Aside0 (kq ≤ k) ∧ Aside0 (Kd.V (Kd.int .u32) 87 wc w.heap.size (fun k_ => ((P0_ k_ ∨ P1_ k_) ∨ w.heap.size ≤ k_)) v353 t352) ∧ Aside0 (Kd.V (Kd.int .u32) 87 wc w.heap.size (fun k_ => ((P0_ k_ ∨ P1_ k_) ∨ w.heap.size ≤ k_)) v356 t355) ∧ Aside0 (Below w.heap.size w wc))
 case first =>
  have H := HC5.out
  clear HC5
  by_cases c8 : (t352.length : Int) = 0
  ·rw [if_pos c8] at H
   have c8b0 : ((t352.length : Int) == 0) = true := beq_iff_eq.mpr c8
   have c8b1 : ((t352.length : Int) != 0) = false := bne_eq_false_iff_eq.mpr c8
   clear c8
   (first | rw [c8b0] | (simp only [i64_w, i32_w]; rw [c8b0]) | skip)
   have H' := mk0 H
   clear H
   obtain ⟨Ao9, co9, eo9⟩ := Kd.V_slice HO354.out
   subst eo9
   go_wp2
   go_meet
   case rel => exact ⟨_, (true), (by first | rfl | (simp; done) | (simp [*]; done)), H', ⟨by first | omega | exact Nat.le_refl _⟩, ⟨HO354.out⟩, ⟨HO357.out⟩, ⟨by repeat (first | exact HB.out | apply bN | apply b1 | apply bA)⟩⟩
  ·rw [if_neg c8] at H
   have c8b0 : ((t352.length : Int) == 0) = false := beq_eq_false_iff_ne.mpr c8
   have c8b1 : ((t352.length : Int) != 0) = true := bne_iff_ne.mpr c8
   have c8b2 : ¬ (t352 = []) := fun h_ => c8 (by rw [h_]; rfl)
   (first | rw [c8b0] | (simp only [i64_w, i32_w]; rw [c8b0]) | skip)
   have H' := mk0 H
   clear H
   obtain ⟨Ao10, co10, eo10⟩ := Kd.V_slice HO354.out
   subst eo10
   obtain ⟨Ao11, co11, eo11⟩ := Kd.V_slice HO357.out
   subst eo11
   go_wp2
   go_meet
   case rel => exact ⟨_, (((t355.length : Int) == 0)), (by first | rfl | (simp; done) | (simp [*]; done)), H', ⟨by first | omega | exact Nat.le_refl _⟩, ⟨HO354.out⟩, ⟨HO357.out⟩, ⟨by repeat (first | exact HB.out | apply bN | apply b1 | apply bA)⟩⟩
 case rest =>
  clear HC5
  try clear c1
  try clear p2
  try clear c5
  try clear c8
  try clear c8b0
  try clear c8b1
  try clear c8b2
  obtain ⟨kq, x24_4, rfl, HA, HJ4, HO_5, HO_6, HB⟩ := hcut
  cases kq with
  | zero => exact absurd HA.out (by simp [nat_Mul.j0])
  | succ kj4 =>
   have H := HA.out
   clear HA
   simp only [nat_Mul.j0] at H
   by_cases c12 : x24_4 = true
   ·subst c12
    have H1 : (some ([] : List Int)) = some r := by rw [if_pos rfl] at H; exact H
    clear H
    have H := H1
    clear H1
    obtain rfl := Option.some.inj H
    go_wp2
    go_ret
    exact ⟨_, by first | rfl | (simp [errW_none, errW_some] <;> rfl) | (simp [*, errW_none, errW_some] <;> rfl), (Kd.V_nil _ _ _ _ _), by repeat (first | exact HB.out | apply bN | apply b1 | apply bA)⟩
   ·replace c12 := Bool.eq_false_iff.mpr c12
    subst c12
    have H1 : (if 0 ≤ (wrap64 ((t352.length : Int) + (t355.length : Int))) then (if (wrap64 ((t352.length : Int) + (t355.length : Int)) : Int).toNat ≤ 70368744177664 then (nat_Mul.l0 kj4 t355 (List.replicate (wrap64 ((t352.length : Int) + (t355.length : Int)) : Int).toNat 0) t352 (t352.length : Int) 0) else (none)) else (none)) = some r := by rw [if_neg (show ¬ (false = true) by decide)] at H; exact H
    clear H
    have H := H1
    clear H1
    obtain ⟨ji13, hji13⟩ : ∃ j_ : Int, (wrap64 ((t352.length : Int) + (t355.length : Int))) = j_ := ⟨_, rfl⟩
    replace H : (if 0 ≤ (ji13) then (if (ji13 : Int).toNat ≤ 70368744177664 then (nat_Mul.l0 kj4 t355 (List.replicate (ji13 : Int).toNat 0) t352 (t352.length : Int) 0) else (none)) else (none)) = some r := by first | (rw [hji13] at H; exact H) | (simp only [hji13] at H ⊢; exact H)
    have hji13w : (IntKind.i64.wrap ((t352.length : Int) + (t355.length : Int))) = ji13 := (i64_w _).trans hji13
    by_cases c14 : 0 ≤ (ji13)
    ·rw [if_pos c14] at H
     have c14b0 := eq_true c14
     have c14b1 : decide (0 ≤ (ji13)) = true := decide_eq_true c14
     clear c14
     by_cases c15 : (ji13 : Int).toNat ≤ 70368744177664
     ·rw [if_pos c15] at H
      have c15b0 := eq_true c15
      have c15b1 : decide ((ji13 : Int).toNat ≤ 70368744177664) = true := decide_eq_true c15
      clear c15
      obtain ⟨y358, hy358⟩ : ∃ y_ : List Int, y_ = (List.replicate (ji13 : Int).toNat 0) := ⟨_, rfl⟩
      replace H : (nat_Mul.l0 kj4 t355 y358 t352 (t352.length : Int) 0) = some r := by first | (rw [hy358]; with_reducible exact H) | (have H2_ := (Option.bind_some _ _).symm.trans H; rw [hy358]; with_reducible exact H2_) | (have H2_ := (Option.bind_some _ _).symm.trans H; with_reducible exact H2_) | with_reducible exact H | (rw [hy358]; exact H) | exact H
      have Ny358 := mk0 hy358
      clear hy358
      have H' := mk0 H
      clear H
      obtain ⟨Ao16, co16, eo16⟩ := Kd.V_slice HO_5.out
      subst eo16
      obtain ⟨Ao17, co17, eo17⟩ := Kd.V_slice HO_6.out
      subst eo17
      go_wp2_with (first | ((with_reducible refine gate_dst (N := 30) rfl ?_); (try (refine gate_guard (by rfl) ?_; dsimp only)); refine Kd.R_make (Kd.int .u32) _ 87 rfl (N := 30) rfl 25 _ _ rfl ji13 rfl rfl Try.underlying25 (.int .u32 0) 4 info87 rfl (by decide) (by omega) 0 (ok := fun _ => True) (okp := fun _ => True) rfl (fun _ hk => hk) trivial (of_decide_eq_true (by assumption)) (Nat.le_trans (Nat.mul_le_mul_right _ (of_decide_eq_true (by assumption) : ji13.toNat ≤ 70368744177664)) (by omega)) (Below.refl _ _) (Nat.le_refl _) ?_; intro v359 w18 ho19 hb hg_ hnew_; clear hg_ hnew_; (first | rw [← Ny358.out] at ho19 | (simp only [Int.reduceToNat] at ho19; rw [← Ny358.out] at ho19)); replace HO_5 := mk0 (Kd.V_elder' HO_5.out (Rs ho19) hb); replace HO_6 := mk0 (Kd.V_elder' HO_6.out (Rs ho19) hb); have HO360 := mk0 (Rl (Kd.R_newM (M := fun k_ => (w.heap.size ≤ k_)) ho19 (bZ HB.out) (fun k_ h_ => h_)) (bZ HB.out)); replace HB := hbS HB hb; clear hb ho19))
      go_loopg [33] kj4 (fun kq v33 w' => ∃ (x7_2 : List Int) (x33_2 : Int), v33 = .int .i64 x33_2 ∧ Aside0 (nat_Mul.l0 kq t355 x7_2 t352 (t352.length : Int) x33_2 = some r) ∧ Aside0 (kq ≤ kj4) ∧ Aside0 (Kd.V (Kd.int .u32) 87 w' w.heap.size (fun k_ => ((P0_ k_ ∨ P1_ k_) ∨ w.heap.size ≤ k_) ∧ some k_ ≠ (v359 : Value).ownBlock) (.slice Ao17 t355.length co17) t355) ∧ Aside0 (Kd.R (Kd.int .u32) 87 w' w.heap.size (fun k_ => (w.heap.size ≤ k_)) v359 x7_2) ∧ Aside0 (Kd.V (Kd.int .u32) 87 w' w.heap.size (fun k_ => ((P0_ k_ ∨ P1_ k_) ∨ w.heap.size ≤ k_) ∧ some k_ ≠ (v359 : Value).ownBlock) (.slice Ao16 t352.length co16) t352) ∧ Aside0 (Below w.heap.size w w'))
      case atStart => exact ⟨(y358), (0), (by first | rfl | (simp; done) | (simp [*]; done)), H', ⟨Nat.le_refl _⟩, ⟨HO_6.out⟩, ⟨Rm HO360.out (fun _ hk => hk.1)⟩, ⟨HO_5.out⟩, ⟨by repeat (first | exact HB.out | apply bN | apply b1 | apply bA)⟩⟩
      case round =>
       clear H'
       try clear c1
       try clear p2
       try clear c5
       try clear p6
       try clear c8
       try clear c8b0
       try clear c8b1
       try clear c8b2
       try clear c12
       try clear c14
       try clear c14b0
       try clear c14b1
       try clear c15
       try clear c15b0
       try clear c15b1
       try clear p2
       obtain ⟨x7_2, x33_2, rfl, HA, HK2, HO_6, HO_7, HO_31, HB⟩ := hrel
       cases gk with
       | zero => exact absurd HA.out (by simp [nat_Mul.l0])
       | succ k2 =>
        have H := HA.out
        clear HA
        simp only [nat_Mul.l0] at H
        by_cases c20 : x33_2 < (t352.length : Int)
        ·rw [if_pos c20] at H
         have c20b0 : decide (x33_2 < (t352.length : Int)) = true := decide_eq_true c20
         clear c20
         by_cases c21 : 0 ≤ x33_2
         ·rw [if_pos c21] at H
          have c21b0 : decide (0 ≤ x33_2) = true := decide_eq_true c21
          clear c21
          by_cases c22 : x33_2 < (t352.length : Int)
          ·rw [if_pos c22] at H
           have c22b0 : decide (x33_2 < (t352.length : Int)) = true := decide_eq_true c22
           clear c22
           have H' := mk0 H
           clear H
           have p364 : 0 ≤ (x33_2 : Int) := of_decide_eq_true (by assumption)
           have q364 : x33_2 < (t352.length : Int) := of_decide_eq_true (by assumption)
           obtain ⟨ad364, e364, hx364_0⟩ := Kd.at_int (Kd.V_reads' HO_31.out).2.2 x33_2 p364 q364
           cases e364
           replace p364 := eq_true p364
           replace q364 := eq_true q364
           go_wp2
           go_loopg [10, 40] k2 (fun kq v10 v40 w' => ∃ (x7_3 : List Int) (x10_3 : Int) (x40_3 : Int), v10 = .int .u64 x10_3 ∧ v40 = .int .i64 x40_3 ∧ Aside0 (nat_Mul.l1 kq t355 x7_3 x33_2 (rd t352 x33_2) x10_3 t352 (t352.length : Int) x33_2 t355 (t355.length : Int) x40_3 = some r) ∧ Aside0 (kq ≤ k2) ∧ Aside0 (Kd.V (Kd.int .u32) 87 w' w.heap.size (fun k_ => ((P0_ k_ ∨ P1_ k_) ∨ w.heap.size ≤ k_) ∧ some k_ ≠ (v359 : Value).ownBlock) (.slice Ao17 t355.length co17) t355) ∧ Aside0 (Kd.R (Kd.int .u32) 87 w' w.heap.size (fun k_ => (w.heap.size ≤ k_)) v359 x7_3) ∧ Aside0 (Kd.V (Kd.int .u32) 87 w' w.heap.size (fun k_ => ((P0_ k_ ∨ P1_ k_) ∨ w.heap.size ≤ k_) ∧ some k_ ≠ (v359 : Value).ownBlock) (.slice (some ad364) t352.length co16) t352) ∧ Aside0 (Kd.V (Kd.int .u32) 87 w' w.heap.size (fun k_ => ((P0_ k_ ∨ P1_ k_) ∨ w.heap.size ≤ k_) ∧ some k_ ≠ (v359 : Value).ownBlock) (.slice Ao17 t355.length co17) t355) ∧ Aside0 (Below w.heap.size w w'))
           case atStart => exact ⟨(x7_2), (0), (0), (by first | rfl | (simp; done) | (simp [*]; done)), (by first | rfl | (simp; done) | (simp [*]; done)), H', ⟨Nat.le_refl _⟩, ⟨HO_6.out⟩, ⟨HO_7.out⟩, ⟨HO_31.out⟩, ⟨HO_6.out⟩, ⟨by repeat (first | exact HB.out | apply bN | apply b1 | apply bA)⟩⟩
           case round =>
            clear H'
            try clear c1
            try clear c2
            try clear p2
            try clear p3
            try clear q3
            try clear hx3
            try clear c5
            try clear p6
            try clear c8
            try clear c8b0
            try clear c8b1
            try clear c8b2
            try clear c12
            try clear c14
            try clear c14b0
            try clear c14b1
            try clear c15
            try clear c15b0
            try clear c15b1
            try clear c20
            try clear c20b0
            try clear c21
            try clear c21b0
            try clear c22
            try clear c22b0
            try clear hx364_0
            try clear p2
            try clear p364
            try clear p6
            try clear q364
            obtain ⟨x7_3, x10_3, x40_3, rfl, rfl, HA, HK3, HO_6, HO_7, HO_31, HO_38, HB⟩ := hrel
            cases gk with
            | zero => exact absurd HA.out (by simp [nat_Mul.l1])
            | succ k3 =>
             have H := HA.out
             clear HA
             simp only [nat_Mul.l1] at H
             by_cases c23 : x40_3 < (t355.length : Int)
             ·rw [if_pos c23] at H
              have c23b0 : decide (x40_3 < (t355.length : Int)) = true := decide_eq_true c23
              clear c23
              by_cases c24 : 0 ≤ x40_3
              ·rw [if_pos c24] at H
               have c24b0 : decide (0 ≤ x40_3) = true := decide_eq_true c24
               clear c24
               by_cases c25 : x40_3 < (t355.length : Int)
               ·rw [if_pos c25] at H
                have c25b0 : decide (x40_3 < (t355.length : Int)) = true := decide_eq_true c25
                clear c25
                obtain ⟨ji26, hji26⟩ : ∃ j_ : Int, (wrap64 (x33_2 + x40_3)) = j_ := ⟨_, rfl⟩
                replace H : (if 0 ≤ (ji26) then (if (ji26) < (x7_3.length : Int) then (nat_Mul.l1 k3 t355 (x7_3.set ((ji26) : Int).toNat ((Go.bits .and .u64 (IntKind.u64.wrap (x10_3 + (IntKind.u64.wrap ((IntKind.u64.wrap ((IntKind.u64.wrap ((rd t352 x33_2))) * (IntKind.u64.wrap (rd t355 x40_3)))) + (IntKind.u64.wrap (rd x7_3 (ji26))))))) 4294967295) % 4294967296)) x33_2 (rd t352 x33_2) ((IntKind.u64.wrap (x10_3 + (IntKind.u64.wrap ((IntKind.u64.wrap ((IntKind.u64.wrap ((rd t352 x33_2))) * (IntKind.u64.wrap (rd t355 x40_3)))) + (IntKind.u64.wrap (rd x7_3 (ji26))))))) / 4294967296) t352 (t352.length : Int) x33_2 t355 (t355.length : Int) (wrap64 (x40_3 + 1))) else (none)) else (none)) = some r := by first | (rw [hji26] at H; exact H) | (simp only [hji26] at H ⊢; exact H)
                have hji26w : (IntKind.i64.wrap (x33_2 + x40_3)) = ji26 := (i64_w _).trans hji26
                by_cases c27 : 0 ≤ (ji26)
                ·rw [if_pos c27] at H
                 have c27b0 : decide (0 ≤ (ji26)) = true := decide_eq_true c27
                 clear c27
                 by_cases c28 : (ji26) < (x7_3.length : Int)
                 ·rw [if_pos c28] at H
                  have c28b0 : decide ((ji26) < (x7_3.length : Int)) = true := decide_eq_true c28
                  clear c28
                  obtain ⟨y367, hy367⟩ : ∃ y_ : List Int, y_ = (x7_3.set ((ji26) : Int).toNat ((Go.bits .and .u64 (IntKind.u64.wrap (x10_3 + (IntKind.u64.wrap ((IntKind.u64.wrap ((IntKind.u64.wrap ((rd t352 x33_2))) * (IntKind.u64.wrap (rd t355 x40_3)))) + (IntKind.u64.wrap (rd x7_3 (ji26))))))) 4294967295) % 4294967296)) := ⟨_, rfl⟩
                  replace H : (nat_Mul.l1 k3 t355 y367 x33_2 (rd t352 x33_2) ((IntKind.u64.wrap (x10_3 + (IntKind.u64.wrap ((IntKind.u64.wrap ((IntKind.u64.wrap ((rd t352 x33_2))) * (IntKind.u64.wrap (rd t355 x40_3)))) + (IntKind.u64.wrap (rd x7_3 (ji26))))))) / 4294967296) t352 (t352.length : Int) x33_2 t355 (t355.length : Int) (wrap64 (x40_3 + 1))) = some r := by first | (rw [hy367]; with_reducible exact H) | (have H2_ := (Option.bind_some _ _).symm.trans H; rw [hy367]; with_reducible exact H2_) | (have H2_ := (Option.bind_some _ _).symm.trans H; with_reducible exact H2_) | with_reducible exact H | (rw [hy367]; exact H) | exact H
                  have Ny367 := mk0 hy367
                  clear hy367
                  have H' := mk0 H
                  clear H
                  have p365 : 0 ≤ (x40_3 : Int) := of_decide_eq_true (by assumption)
                  have q365 : x40_3 < (t355.length : Int) := of_decide_eq_true (by assumption)
                  obtain ⟨ad365, e365, hx365_0⟩ := Kd.at_int (Kd.V_reads' HO_38.out).2.2 x40_3 p365 q365
                  cases e365
                  replace p365 := eq_true p365
                  replace q365 := eq_true q365
                  obtain ⟨Ao30, co30, eo30⟩ := Kd.R_slice HO_7.out
                  subst eo30
                  have p366 : 0 ≤ ((ji26) : Int) := of_decide_eq_true (by assumption)
                  have q366 : (ji26) < (x7_3.length : Int) := of_decide_eq_true (by assumption)
                  obtain ⟨ad366, e366, hx366_0⟩ := Kd.at_int (Kd.R_reads' HO_7.out).2.2 (ji26) p366 q366
                  cases e366
                  replace p366 := eq_true p366
                  replace q366 := eq_true q366
                  have p29 : 0 ≤ ((ji26) : Int) := of_decide_eq_true (by assumption)
                  have q29 : ((ji26) : Int) < ((x7_3.length : Int) : Int) := of_decide_eq_true (by assumption)
                  obtain ⟨go29, co29, eo29, gb29, gl29, cl29, HG29⟩ := Kd.R_form HO_7.out (by omega)
                  (first | cases eo29 | (injection eo29 with ea_ en_ ec_; (first | subst ea_ | (injection ea_ with ea_; subst ea_)); subst ec_; clear en_))
                  have GB29 := mk0 gb29
                  have GG29 := mk0 HG29
                  clear gb29 gl29 HG29
                  (first | simp only [add_plain] at hx366_0 | skip)
                  obtain ⟨hx29_0, hf29_0⟩ := Kd.R_celln 0 HO_7.out ((ji26) : Int) p29 q29
                  replace p29 := eq_true p29
                  replace q29 := eq_true q29
                  have HP31 := Kd.R_putg HO_7.out ((ji26) : Int) ((Go.bits .and .u64 (IntKind.u64.wrap (x10_3 + (IntKind.u64.wrap ((IntKind.u64.wrap ((IntKind.u64.wrap ((rd t352 x33_2))) * (IntKind.u64.wrap (rd t355 x40_3)))) + (IntKind.u64.wrap (rd x7_3 (ji26))))))) 4294967295) % 4294967296)
                  go_wp2_with (first | ((with_reducible refine gate_store (t := 87) (p := 67) rfl ?_); refine store_event (t := 87) (p := 67) (v := ?vo_w32) (w1 := (wr.setCell ⟨go29, ((ji26) : Int).toNat, none⟩ (.int .u32 ((Go.bits .and .u64 (IntKind.u64.wrap (x10_3 + (IntKind.u64.wrap ((IntKind.u64.wrap ((IntKind.u64.wrap ((rd t352 x33_2))) * (IntKind.u64.wrap (rd t355 x40_3)))) + (IntKind.u64.wrap (rd x7_3 (ji26))))))) 4294967295) % 4294967296)))) ?hg ?ho ?hn ?hr ?_; (case ho => rfl); (case hg => rfl); (case hn => rfl); (case hr => go_simp <;> rfl); intro w32 hw; have hg : wr.grownBy w32 (some go29) := (by rw [hw]; exact HP31.2); have hp_ : Kd.R (Kd.int .u32) 87 w32 w.heap.size (fun k_ => (w.heap.size ≤ k_)) (.slice (some ⟨go29, 0, none⟩) x7_3.length co30) y367 := (by rw [hw, Ny367.out]; exact HP31.1); clear HP31; replace HO_6 := mk0 (Kd.V_afterv (v := (.slice (some ⟨go29, 0, none⟩) x7_3.length co30)) (v1 := (.slice (some ⟨go29, 0, none⟩) x7_3.length co30)) (ok := (fun k_ => ((P0_ k_ ∨ P1_ k_) ∨ w.heap.size ≤ k_))) HO_6.out hg (.inl rfl)); replace HO_7 := mk0 (hp_); replace HO_31 := mk0 (Kd.V_afterv (v := (.slice (some ⟨go29, 0, none⟩) x7_3.length co30)) (v1 := (.slice (some ⟨go29, 0, none⟩) x7_3.length co30)) (ok := (fun k_ => ((P0_ k_ ∨ P1_ k_) ∨ w.heap.size ≤ k_))) HO_31.out hg (.inl rfl)); replace HO_38 := mk0 (Kd.V_afterv (v := (.slice (some ⟨go29, 0, none⟩) x7_3.length co30)) (v1 := (.slice (some ⟨go29, 0, none⟩) x7_3.length co30)) (ok := (fun k_ => ((P0_ k_ ∨ P1_ k_) ∨ w.heap.size ≤ k_))) HO_38.out hg (.inl rfl)); replace HB := mk0 ((by rw [hw]; exact bS (HB.out) GB29.out : Below w.heap.size w w32)); clear hg hw hp_))
                  go_roundg k3
                  case measure => have := HJ4.out; have := HK2.out; have := HK3.out; omega
                  case rel => exact ⟨(y367), ((IntKind.u64.wrap (x10_3 + (IntKind.u64.wrap ((IntKind.u64.wrap ((IntKind.u64.wrap ((rd t352 x33_2))) * (IntKind.u64.wrap (rd t355 x40_3)))) + (IntKind.u64.wrap (rd x7_3 (ji26))))))) / 4294967296), (wrap64 (x40_3 + 1)), (by first | rfl | (simp; done) | (simp only [← hji26] <;> (first | rfl | simp)) | (simp [*]; done)), (by first | rfl | (simp; done) | (simp [*]; done)), H', ⟨by have := HJ4.out; have := HK2.out; have := HK3.out; omega⟩, ⟨HO_6.out⟩, ⟨HO_7.out⟩, ⟨HO_31.out⟩, ⟨HO_38.out⟩, ⟨by repeat (first | exact HB.out | apply bN | apply b1 | apply bA)⟩⟩
                 ·rw [if_neg c28] at H
                  exact absurd H (by simp)
                ·rw [if_neg c27] at H
                 exact absurd H (by simp)
               ·rw [if_neg c25] at H
                exact absurd H (by simp)
              ·rw [if_neg c24] at H
               exact absurd H (by simp)
             ·rw [if_neg c23] at H
              have c23b0 : decide (x40_3 < (t355.length : Int)) = false := decide_eq_false c23
              clear c23
              obtain ⟨ji33, hji33⟩ : ∃ j_ : Int, (wrap64 (x33_2 + (t355.length : Int))) = j_ := ⟨_, rfl⟩
              replace H : (if 0 ≤ (ji33) then (if (ji33) < (x7_3.length : Int) then (nat_Mul.l0 k3 t355 (x7_3.set ((ji33) : Int).toNat ((x10_3) % 4294967296)) t352 (t352.length : Int) (wrap64 (x33_2 + 1))) else (none)) else (none)) = some r := by first | (rw [hji33] at H; exact H) | (simp only [hji33] at H ⊢; exact H)
              have hji33w : (IntKind.i64.wrap (x33_2 + (t355.length : Int))) = ji33 := (i64_w _).trans hji33
              by_cases c34 : 0 ≤ (ji33)
              ·rw [if_pos c34] at H
               have c34b0 : decide (0 ≤ (ji33)) = true := decide_eq_true c34
               clear c34
               by_cases c35 : (ji33) < (x7_3.length : Int)
               ·rw [if_pos c35] at H
                have c35b0 : decide ((ji33) < (x7_3.length : Int)) = true := decide_eq_true c35
                clear c35
                obtain ⟨y368, hy368⟩ : ∃ y_ : List Int, y_ = (x7_3.set ((ji33) : Int).toNat ((x10_3) % 4294967296)) := ⟨_, rfl⟩
                replace H : (nat_Mul.l0 k3 t355 y368 t352 (t352.length : Int) (wrap64 (x33_2 + 1))) = some r := by first | (rw [hy368]; with_reducible exact H) | (have H2_ := (Option.bind_some _ _).symm.trans H; rw [hy368]; with_reducible exact H2_) | (have H2_ := (Option.bind_some _ _).symm.trans H; with_reducible exact H2_) | with_reducible exact H | (rw [hy368]; exact H) | exact H
                have Ny368 := mk0 hy368
                clear hy368
                have H' := mk0 H
                clear H
                have p36 : 0 ≤ ((ji33) : Int) := of_decide_eq_true (by assumption)
                have q36 : ((ji33) : Int) < ((x7_3.length : Int) : Int) := of_decide_eq_true (by assumption)
                obtain ⟨go36, co36, eo36, gb36, gl36, cl36, HG36⟩ := Kd.R_form HO_7.out (by omega)
                (first | cases eo36 | (injection eo36 with ea_ en_ ec_; (first | subst ea_ | (injection ea_ with ea_; subst ea_)); subst ec_; clear en_))
                have GB36 := mk0 gb36
                have GG36 := mk0 HG36
                clear gb36 gl36 HG36
                obtain ⟨hx36_0, hf36_0⟩ := Kd.R_celln 0 HO_7.out ((ji33) : Int) p36 q36
                replace p36 := eq_true p36
                replace q36 := eq_true q36
                have HP37 := Kd.R_putg HO_7.out ((ji33) : Int) ((x10_3) % 4294967296)
                go_wp2_with (first | ((with_reducible refine gate_store (t := 87) (p := 78) rfl ?_); refine store_event (t := 87) (p := 78) (v := ?vo_w38) (w1 := (wr.setCell ⟨go36, ((ji33) : Int).toNat, none⟩ (.int .u32 ((x10_3) % 4294967296)))) ?hg ?ho ?hn ?hr ?_; (case ho => rfl); (case hg => rfl); (case hn => rfl); (case hr => go_simp <;> rfl); intro w38 hw; have hg : wr.grownBy w38 (some go36) := (by rw [hw]; exact HP37.2); have hp_ : Kd.R (Kd.int .u32) 87 w38 w.heap.size (fun k_ => (w.heap.size ≤ k_)) (.slice (some ⟨go36, 0, none⟩) x7_3.length co36) y368 := (by rw [hw, Ny368.out]; exact HP37.1); clear HP37; replace HO_6 := mk0 (Kd.V_afterv (v := (.slice (some ⟨go36, 0, none⟩) x7_3.length co36)) (v1 := (.slice (some ⟨go36, 0, none⟩) x7_3.length co36)) (ok := (fun k_ => ((P0_ k_ ∨ P1_ k_) ∨ w.heap.size ≤ k_))) HO_6.out hg (.inl rfl)); replace HO_7 := mk0 (hp_); replace HO_31 := mk0 (Kd.V_afterv (v := (.slice (some ⟨go36, 0, none⟩) x7_3.length co36)) (v1 := (.slice (some ⟨go36, 0, none⟩) x7_3.length co36)) (ok := (fun k_ => ((P0_ k_ ∨ P1_ k_) ∨ w.heap.size ≤ k_))) HO_31.out hg (.inl rfl)); replace HO_38 := mk0 (Kd.V_afterv (v := (.slice (some ⟨go36, 0, none⟩) x7_3.length co36)) (v1 := (.slice (some ⟨go36, 0, none⟩) x7_3.length co36)) (ok := (fun k_ => ((P0_ k_ ∨ P1_ k_) ∨ w.heap.size ≤ k_))) HO_38.out hg (.inl rfl)); replace HB := mk0 ((by rw [hw]; exact bS (HB.out) GB36.out : Below w.heap.size w w38)); clear hg hw hp_))
                go_roundg k3
                case measure => have := HJ4.out; have := HK2.out; have := HK3.out; omega
                case rel => exact ⟨(y368), (wrap64 (x33_2 + 1)), (by first | rfl | (simp; done) | (simp [*]; done)), H', ⟨by have := HJ4.out; have := HK2.out; have := HK3.out; omega⟩, ⟨HO_6.out⟩, ⟨HO_7.out⟩, ⟨HO_31.out⟩, ⟨by repeat (first | exact HB.out | apply bN | apply b1 | apply bA)⟩⟩
               ·rw [if_neg c35] at H
                exact absurd H (by simp)
              ·rw [if_neg c34] at H
               exact absurd H (by simp)
          ·rw [if_neg c22] at H
           exact absurd H (by simp)
         ·rw [if_neg c21] at H
          exact absurd H (by simp)
        ·rw [if_neg c20] at H
         have c20b0 : decide (x33_2 < (t352.length : Int)) = false := decide_eq_false c20
         clear c20
         obtain ⟨t361, A39, H⟩ := bindA H
         obtain rfl := Option.some.inj H
         obtain ⟨Ao40, co40, eo40⟩ := Kd.R_slice HO_7.out
         subst eo40
         go_wp2_with (first | ((with_reducible refine gate_callee (f := 81) rfl ?_); refine goA 81 Try.func81 #[.slice Ao40 x7_2.length co40] ?_; (with_reducible refine (nat_trim.calls k2 (fun k_ => some k_ = (.slice Ao40 x7_2.length co40 : Value).ownBlock) _ _ x7_2 t361 _ (by exact Kd.R_V (Kd.R_tight rfl (HO_7.out))) A39.out).mono ?_); rintro e w41 ⟨v362, rfl, ho0, hb⟩; refine ⟨_, rfl, ?_⟩; replace HO_6 := mk0 (Kd.V_below HO_6.out hb); replace HO_31 := mk0 (Kd.V_below HO_31.out hb); have HO363 := mk0 (Vl (Vm (ok' := fun k_ => ((P0_ k_ ∨ P1_ k_) ∨ w.heap.size ≤ k_)) ho0 (fun k_ hk_ => Or.elim hk_ (fun hs_ => (.inr (((HO_7.out).1 k_ hs_.symm)))) (fun hn_ => (.inr (Nat.le_trans (bZ HB.out) hn_))))) (bZ HB.out)); replace HO_7 := rB HO_7 hb; replace HB := hbS HB hb))
         go_ret
         exact ⟨_, by first | rfl | (simp [errW_none, errW_some] <;> rfl) | (simp only [← hji13]; first | rfl | (simp [errW_none, errW_some] <;> rfl)) | (simp [*, errW_none, errW_some] <;> rfl), HO363.out, by repeat (first | exact HB.out | apply bN | apply b1 | apply bA)⟩
     ·rw [if_neg c15] at H
      exact absurd H (by simp)
    ·rw [if_neg c14] at H
     exact absurd H (by simp)
def integer_Mul.T1 : Bool × List (List Nat × List Nat) := (true, [([], []), ([0], [0]), ([], []), ([2], [2]), ([1, 3], [1, 3]), ([], []), ([5], [5]), ([], []), ([7], [7]), ([6, 8], [6, 8]), ([4, 9, 9], [4, 9]), ([10, 10, 0, 1, 2, 3, 4, 5, 6, 7, 8, 9, 10], [10])])
def integer_Mul.B1 : List Nat := [0, 1, 0, 4, 15, 0, 32, 0, 128, 480, 1023, 2047]
theorem integer_Mul.tab1 : rtab .any (opsOf Try.f52 1) = integer_Mul.T1 := by kernel_rfl
theorem integer_Mul.bits1 : waitsOk integer_Mul.T1.2 integer_Mul.B1 = true := by kernel_rfl
set_option maxHeartbeats 8000000 in
set_option maxRecDepth 100000 in
theorem integer_Mul.calls (k : Nat) (a0_0 : Bool) (A0_1 : Option Addr) (c0_1 : Nat) (l0_1 : List Int) (a1_0 : Bool) (A1_1 : Option Addr) (c1_1 : Nat) (l1_1 : List Int) (r1 : Bool) (r2 : List Int) (w : World) (hr0_1 : Kd.C (Kd.int .u32) w A0_1 l0_1.length l0_1) (hc0_1 : l0_1.length ≤ c0_1) (hr1_1 : Kd.C (Kd.int .u32) w A1_1 l1_1.length l1_1) (hc1_1 : l1_1.length ≤ c1_1) (h : integer_Mul.f k a0_0 l0_1 a1_0 l1_1 = some (r1, r2)) :
  Calls Try.prog 52 #[.agg #[.bool a0_0, .slice A0_1 l0_1.length c0_1], .agg #[.bool a1_0, .slice A1_1 l1_1.length c1_1]] w fun e w' => ∃ v1_ : Value, e = .returned (.agg #[.bool r1, v1_]) ∧ Kd.R (Kd.int .u32) 87 w' w.heap.size (fun _ => True) v1_ r2 ∧ Below w.heap.size w w' := by
 have hu27 := Try.underlying27
 have HR0_1 := mk0 hr0_1
 have HC0_1 := mk0 hc0_1
 clear hr0_1 hc0_1
 have HR1_1 := mk0 hr1_1
 have HC1_1 := mk0 hc1_1
 clear hr1_1 hc1_1
 have HB := mk0 (Below.refl w.heap.size w)
 have H : ((nat_Mul.f k l0_1 l1_1).bind fun t372 => ((integer_Make.f k (a0_0 != a1_0) t372).bind fun bt375 => (some (bt375.1, bt375.2)))) = some (r1, r2) := h
 clear h
 obtain ⟨t372, A3, H⟩ := bindA H
 obtain ⟨⟨t375, t376⟩, A4, H⟩ := bindA H
 simp only [Option.some.injEq, Prod.mk.injEq] at H
 obtain ⟨rfl, rfl⟩ := H
 go_enter Try.func52, Try.ntmps52
 try go_wp2_with (first | ((with_reducible refine gate_dst (N := 2) rfl ?_); refine box_event rfl (N := 2) rfl (cs := #[.bool a0_0, .slice A0_1 l0_1.length c0_1]) (t := 27) (by go_simp <;> rfl) ?_; intro gb369 hg w5 hbox hb; have BK369 := mk0 (hbox); have GE369 := geB hg HB; replace HB := hbS HB hb; clear hb hbox hg) | ((with_reducible refine gate_dst (N := 3) rfl ?_); refine box_event rfl (N := 3) rfl (cs := #[.bool a1_0, .slice A1_1 l1_1.length c1_1]) (t := 27) (by go_simp <;> rfl) ?_; intro gb370 hg w6 hbox hb; have BK370 := mk0 (hbox); have GE370 := geB hg HB; replace HB := hbS HB hb; replace BK369 := bkB BK369 hb; clear hb hbox hg) | ((with_reducible refine gate_dst (N := 4) rfl ?_); refine box_event rfl (N := 4) rfl (cs := #[.bool false, .slice none 0 0]) (t := 27) (by go_simp <;> rfl) ?_; intro gb371 hg w7 hbox hb; have BK371 := mk0 (hbox); have GE371 := geB hg HB; replace HB := hbS HB hb; have NB369_371 := nbA hg BK369; have NB371_369 := nbB hg BK369; replace BK369 := bkB BK369 hb; have NB370_371 := nbA hg BK370; have NB371_370 := nbB hg BK370; replace BK370 := bkB BK370 hb; clear hb hbox hg))
 replace BK369 := mk0 (blk_drew BK369.out)
 replace BK370 := mk0 (blk_drew BK370.out)
 replace BK371 := mk0 (blk_drew BK371.out)
 replace HB := mk0 (b1 HB.out)
 refine start_ (n := 12) (S := fun w' => w'.cell? ⟨gb369, 0, none⟩ = some (.bool a0_0) ∧ w'.cell? ⟨gb369, 1, none⟩ = some (.slice A0_1 l0_1.length c0_1) ∧ w'.cell? ⟨gb370, 0, none⟩ = some (.bool a1_0) ∧ w'.cell? ⟨gb370, 1, none⟩ = some (.slice A1_1 l1_1.length c1_1)) (ds := []) (bv 12 0) (by kernel_rfl) rfl rfl ⟨(blk_cell BK369.out 0).trans rfl, (blk_cell BK369.out 1).trans rfl, (blk_cell BK370.out 0).trans rfl, (blk_cell BK370.out 1).trans rfl⟩ (fun hHeld => ?_); refine with_tabW integer_Mul.tab1 integer_Mul.bits1 (fun HT_ HW_ => ?_)
 generalize w7.drew = w8 at BK369 BK370 BK371 HB hHeld ⊢
 refine puA (i := 0) (N := 5) (v := ?_) (a' := ?_) (bv 12 1) HT_ ?_ ?_ ?_; rotate_left; (intro w'; go_simp; with_reducible rfl); rotate_left; (simp only [Act.put, sA, sZ, sS, i64_w, i32_w]; rfl)
 refine puA (i := 2) (N := 7) (v := ?_) (a' := ?_) (bv 12 5) HT_ ?_ ?_ ?_; rotate_left; (intro w'; go_simp; with_reducible rfl); rotate_left; (simp only [Act.put, sA, sZ, sS, i64_w, i32_w]; rfl)
 refine puA (i := 5) (N := 10) (v := ?_) (a' := ?_) (bv 12 37) HT_ ?_ ?_ ?_; rotate_left; (intro w'; go_simp; with_reducible rfl); rotate_left; (simp only [Act.put, sA, sZ, sS, i64_w, i32_w]; rfl)
 refine puA (i := 7) (N := 12) (v := ?_) (a' := ?_) (bv 12 165) HT_ ?_ ?_ ?_; rotate_left; (intro w'; go_simp; with_reducible rfl); rotate_left; (simp only [Act.put, sA, sZ, sS, i64_w, i32_w]; rfl)
 refine take_ (i := 1) (N := some 6) (v := ?_) (a' := ?_) (bv 12 167) rfl rfl (take_ofW HT_.out HW_.out (by kernel_rfl)) (fun _ _ _ h => h) (Or.inl ⟨by rfl, ?_⟩) hHeld ?_ ?_; rotate_left; (rintro w' ⟨s0, s1, s2, s3⟩; go_simp; with_reducible rfl); rotate_left; (simp only [Act.put, sA, sZ, sS, i64_w, i32_w]; rfl)
 refine take_ (i := 3) (N := some 8) (v := ?_) (a' := ?_) (bv 12 175) rfl rfl (take_ofW HT_.out HW_.out (by kernel_rfl)) (fun _ _ _ h => h) (Or.inl ⟨by rfl, ?_⟩) hHeld ?_ ?_; rotate_left; (rintro w' ⟨s0, s1, s2, s3⟩; go_simp; with_reducible rfl); rotate_left; (simp only [Act.put, sA, sZ, sS, i64_w, i32_w]; rfl)
 refine puA (i := 4) (N := 9) (v := ?_) (a' := ?_) (bv 12 191) HT_ ?_ ?_ ?_; rotate_left; (intro w'; go_simp; with_reducible rfl); rotate_left; (simp only [Act.put, sA, sZ, sS, i64_w, i32_w]; rfl)
 refine take_ (i := 6) (N := some 11) (v := ?_) (a' := ?_) (bv 12 255) rfl rfl (take_ofW HT_.out HW_.out (by kernel_rfl)) (fun _ _ _ h => h) (Or.inl ⟨by rfl, ?_⟩) hHeld ?_ ?_; rotate_left; (rintro w' ⟨s0, s1, s2, s3⟩; go_simp; with_reducible rfl); rotate_left; (simp only [Act.put, sA, sZ, sS, i64_w, i32_w]; rfl)
 refine take_ (i := 8) (N := some 13) (v := ?_) (a' := ?_) (bv 12 511) rfl rfl (take_ofW HT_.out HW_.out (by kernel_rfl)) (fun _ _ _ h => h) (Or.inl ⟨by rfl, ?_⟩) hHeld ?_ ?_; rotate_left; (rintro w' ⟨s0, s1, s2, s3⟩; go_simp; with_reducible rfl); rotate_left; (simp only [Act.put, sA, sZ, sS, i64_w, i32_w]; rfl)
 refine one_ (i := 9) (N := some 14) (bv 12 1023) rfl rfl (one_of HT_.out (by kernel_rfl)) (by decide) (fun K hK => ?_)
 refine goes_ Try.func54 (by kernel_rfl) rfl #[.slice A0_1 l0_1.length c0_1, .slice A1_1 l1_1.length c1_1] (by rfl) rfl rfl (by (try simp only [mA, mC, mN]); first | done | rfl | (simp only [lD, lT]; rfl)) ?_
 with_reducible refine (nat_Mul.calls k (fun k_ => k_ < w.heap.size) _ _ l0_1 (fun k_ => k_ < w.heap.size) _ _ l1_1 t372 _ ?side1 ?side2 A3.out).mono ?_
 (case side1 => exact Kd.V_mk HC0_1.out (Kd.F_below (Kd.C_F (Kd.heap_int .u32) HR0_1.out) (by repeat (first | exact HB.out | apply bN | apply b1 | apply bA | refine bS ?_ GE369.out | refine bS ?_ GE370.out | refine bS ?_ GE371.out))))
 (case side2 => exact Kd.V_mk HC1_1.out (Kd.F_below (Kd.C_F (Kd.heap_int .u32) HR1_1.out) (by repeat (first | exact HB.out | apply bN | apply b1 | apply bA | refine bS ?_ GE369.out | refine bS ?_ GE370.out | refine bS ?_ GE371.out))))
 rintro e w9 ⟨v373, rfl, ho0, hb⟩
 refine ⟨_, rfl, ?_⟩
 have HO374 := mk0 (Vl (Vm (ok' := fun k_ => k_ ≠ gb369 ∧ k_ ≠ gb370 ∧ k_ ≠ gb371) ho0 (fun k_ hk_ => ⟨Or.elim hk_ (fun hs_ => Or.elim hs_ (fun hs_ => fun e_ => Nat.not_le.2 hs_ (by rw [e_]; exact GE369.out)) (fun hs_ => fun e_ => Nat.not_le.2 hs_ (by rw [e_]; exact GE369.out))) (fun hn_ => (Kd.freshB BK369.out k_ hn_)), Or.elim hk_ (fun hs_ => Or.elim hs_ (fun hs_ => fun e_ => Nat.not_le.2 hs_ (by rw [e_]; exact GE370.out)) (fun hs_ => fun e_ => Nat.not_le.2 hs_ (by rw [e_]; exact GE370.out))) (fun hn_ => (Kd.freshB BK370.out k_ hn_)), Or.elim hk_ (fun hs_ => Or.elim hs_ (fun hs_ => fun e_ => Nat.not_le.2 hs_ (by rw [e_]; exact GE371.out)) (fun hs_ => fun e_ => Nat.not_le.2 hs_ (by rw [e_]; exact GE371.out))) (fun hn_ => (Kd.freshB BK371.out k_ hn_))⟩)) (bZ (by repeat (first | exact HB.out | apply bN | apply b1 | apply bA | refine bS ?_ GE369.out | refine bS ?_ GE370.out | refine bS ?_ GE371.out))))
 replace BK369 := bkB BK369 hb
 replace BK370 := bkB BK370 hb
 replace BK371 := bkB BK371 hb
 replace HB := mk0 (below_step (by repeat (first | exact HB.out | apply bN | apply b1 | apply bA | refine bS ?_ GE369.out | refine bS ?_ GE370.out | refine bS ?_ GE371.out)) hb)
 obtain ⟨Ao10, co10, eo10⟩ := Kd.V_slice HO374.out
 (first | subst eo10 | (injection eo10 with f1_ f2_ f3_; have f4_ := f1_.symm; have f5_ := f3_.symm; clear f1_ f2_ f3_; subst f4_; subst f5_))
 refine hK.out _ _ ⟨(blk_cell BK369.out 0).trans rfl, (blk_cell BK369.out 1).trans rfl, (blk_cell BK370.out 0).trans rfl, (blk_cell BK370.out 1).trans rfl⟩ (fun hHeld => ?_)
 clear hK K
 refine norm_ (a' := ?_) ?_ ?_
 rotate_left
 ·show Act.put _ (some 14) _ = _
  simp only [Act.put, sA, sZ, sS, i64_w, i32_w]
  rfl
 refine one_ (i := 10) (N := some 15) (bv 12 2047) rfl rfl (one_of HT_.out (by kernel_rfl)) (by decide) (fun K hK => ?_)
 refine goes_ Try.func78 (by kernel_rfl) rfl #[.bool (a0_0 != a1_0), .slice Ao10 t372.length co10] (by rfl) rfl rfl (by (try simp only [mA, mC, mN]); first | done | rfl | (simp only [lD, lT]; rfl)) ?_
 with_reducible refine (integer_Make.calls k (a0_0 != a1_0) _ _ t372 t375 t376 _ ?side1 ?side2 A4.out).mono ?_
 (case side1 => repeat (first | exact (Kd.V_reads' HO374.out).2.2 | (with_reducible refine Kd.C_alloc ?_ _) | (with_reducible refine Kd.C_drewN ?_ _) | (with_reducible refine Kd.C_drew ?_)))
 (case side2 => exact (Kd.V_reads' HO374.out).2.1)
 rintro e w11 ⟨v377, rfl, ho0, hb⟩
 refine ⟨_, rfl, ?_⟩
 replace HO374 := mk0 (Kd.V_elder' HO374.out (Rs ho0) hb)
 have HO378 := mk0 (Rl ho0 (bZ (by repeat (first | exact HB.out | apply bN | apply b1 | apply bA | refine bS ?_ GE369.out | refine bS ?_ GE370.out | refine bS ?_ GE371.out))))
 replace BK369 := bkB BK369 hb
 replace BK370 := bkB BK370 hb
 replace BK371 := bkB BK371 hb
 replace HB := mk0 (below_step (by repeat (first | exact HB.out | apply bN | apply b1 | apply bA | refine bS ?_ GE369.out | refine bS ?_ GE370.out | refine bS ?_ GE371.out)) hb)
 obtain ⟨Ao13, co13, eo13⟩ := Kd.R_slice HO378.out
 (first | subst eo13 | (injection eo13 with f1_ f2_ f3_; have f4_ := f1_.symm; have f5_ := f3_.symm; clear f1_ f2_ f3_; subst f4_; subst f5_))
 refine hK.out _ _ ⟨(blk_cell BK369.out 0).trans rfl, (blk_cell BK369.out 1).trans rfl, (blk_cell BK370.out 0).trans rfl, (blk_cell BK370.out 1).trans rfl⟩ (fun hHeld => ?_)
 clear hK K
 refine norm_ (a' := ?_) ?_ ?_
 rotate_left
 ·show Act.put _ (some 15) _ = _
  simp only [Act.put, sA, sZ, sS, i64_w, i32_w]
  rfl
 refine one_ (i := 11) (N := none) (bv 12 4095) rfl rfl (one_of HT_.out (by kernel_rfl)) (by decide) (fun K hK => ?_)
 have hs12 : w11.cell? ⟨gb371, 0, none⟩ = some (.bool false) := (blk_cell BK371.out 0).trans rfl
 have hfs12 := blk_frozen BK371.out 0
 have hns12_0 := NB369_371.out
 have hns12_1 := NB370_371.out
 have hms12_0 := NB371_369.out
 have hms12_1 := NB371_370.out
 have hs14 : w11.cell? ⟨gb371, 1, none⟩ = some (.slice none 0 0) := (blk_cell BK371.out 1).trans rfl
 have hfs14 := blk_frozen BK371.out 1
 have hns14_0 := NB369_371.out
 have hns14_1 := NB370_371.out
 have hms14_0 := NB371_369.out
 have hms14_1 := NB371_370.out
 refine skip_ (w1 := ?_) (by rfl) rfl ?_ ?_
 rotate_left
 ·go_simp
  rfl
 refine hK.out _ _ ⟨((cell_far (p := ⟨gb371, _, none⟩) NB369_371.out _).trans (((cell_far (p := ⟨gb371, _, none⟩) NB369_371.out _).trans (hHeld.1)))), ((cell_far (p := ⟨gb371, _, none⟩) NB369_371.out _).trans (((cell_far (p := ⟨gb371, _, none⟩) NB369_371.out _).trans (hHeld.2.1)))), ((cell_far (p := ⟨gb371, _, none⟩) NB370_371.out _).trans (((cell_far (p := ⟨gb371, _, none⟩) NB370_371.out _).trans (hHeld.2.2.1)))), ((cell_far (p := ⟨gb371, _, none⟩) NB370_371.out _).trans (((cell_far (p := ⟨gb371, _, none⟩) NB370_371.out _).trans (hHeld.2.2.2))))⟩ (fun hHeld => ?_)
 clear hK K
 refine done_ (done_of HT_.out (by kernel_rfl)) ?_
 try go_wp2
 refine bodyPost_ret (results_cell_row rfl _ _ gb371 27 #[.bool t375, .slice Ao13 t376.length co13] (0, 0) _ rfl (by refine blk_put (cs := #[.bool t375, .slice none 0 0]) ?_ 1 _ rfl; refine blk_put (cs := #[.bool false, .slice none 0 0]) ?_ 0 _ rfl; exact BK371.out) Try.underlying27 rfl (by kernel_rfl)) rfl ?_
 exact ⟨_, by first | rfl | (simp [errW_none, errW_some] <;> rfl) | (simp [*, errW_none, errW_some] <;> rfl), Rm (Rf (p := ⟨gb371, 1, none⟩) (Rf (p := ⟨gb371, 0, none⟩) (Rt HO378.out BK371.out (by decide)) (fun _ hk => hk.2) (.bool t375)) (fun _ hk => hk.2) (.slice Ao13 t376.length co13)) tv, by repeat (first | exact HB.out | apply bN | apply b1 | apply bA | refine bS ?_ GE369.out | refine bS ?_ GE370.out | refine bS ?_ GE371.out)⟩
def ratio_Cmp.T3 : Bool × List (List Nat × List Nat) := (true, [([], []), ([], []), ([0, 1], [0, 1]), ([], []), ([], []), ([3, 4, 2], [3, 4]), ([2, 5, 5], [2, 5]), ([6, 6, 0, 1, 2, 3, 4, 5, 6], [6])])
def ratio_Cmp.B3 : List Nat := [0, 0, 3, 0, 0, 31, 63, 127]
theorem ratio_Cmp.tab3 : rtab .any (opsOf Try.f26 3) = ratio_Cmp.T3 := by kernel_rfl
theorem ratio_Cmp.bits3 : waitsOk ratio_Cmp.T3.2 ratio_Cmp.B3 = true := by kernel_rfl
set_option maxHeartbeats 8000000 in
set_option maxRecDepth 100000 in
theorem ratio_Cmp.calls (k : Nat) (a0_0 : Bool) (A0_1 : Option Addr) (c0_1 : Nat) (l0_1 : List Int) (A0_2 : Option Addr) (c0_2 : Nat) (l0_2 : List Int) (a1_0 : Bool) (A1_1 : Option Addr) (c1_1 : Nat) (l1_1 : List Int) (A1_2 : Option Addr) (c1_2 : Nat) (l1_2 : List Int) (r : Int) (w : World) (hr0_1 : Kd.C (Kd.int .u32) w A0_1 l0_1.length l0_1) (hc0_1 : l0_1.length ≤ c0_1) (hr0_2 : Kd.C (Kd.int .u32) w A0_2 l0_2.length l0_2) (hc0_2 : l0_2.length ≤ c0_2) (hr1_1 : Kd.C (Kd.int .u32) w A1_1 l1_1.length l1_1) (hc1_1 : l1_1.length ≤ c1_1) (hr1_2 : Kd.C (Kd.int .u32) w A1_2 l1_2.length l1_2) (hc1_2 : l1_2.length ≤ c1_2) (h : ratio_Cmp.f k a0_0 l0_1 l0_2 a1_0 l1_1 l1_2 = some r) :
  Calls Try.prog 26 #[.agg #[.bool a0_0, .slice A0_1 l0_1.length c0_1, .slice A0_2 l0_2.length c0_2], .agg #[.bool a1_0, .slice A1_1 l1_1.length c1_1, .slice A1_2 l1_2.length c1_2]] w fun e w' => e = .returned (.int .i64 r) ∧ Below w.heap.size w w' := by
 have hu29 := Try.underlying29
 have hu27 := Try.underlying27
 have HR0_1 := mk0 hr0_1
 have HC0_1 := mk0 hc0_1
 clear hr0_1 hc0_1
 have HR0_2 := mk0 hr0_2
 have HC0_2 := mk0 hc0_2
 clear hr0_2 hc0_2
 have HR1_1 := mk0 hr1_1
 have HC1_1 := mk0 hc1_1
 clear hr1_1 hc1_1
 have HR1_2 := mk0 hr1_2
 have HC1_2 := mk0 hc1_2
 clear hr1_2 hc1_2
 have HB := mk0 (Below.refl w.heap.size w)
 have H : ((ratio_parts.f k a0_0 l0_1 l0_2).bind fun bt381 => ((ratio_parts.f k a1_0 l1_1 l1_2).bind fun bt391 => ((integer_Mul.f k bt381.1 bt381.2.1 bt391.2.2.1 bt391.2.2.2).bind fun bt401 => ((integer_Mul.f k bt391.1 bt391.2.1 bt381.2.2.1 bt381.2.2.2).bind fun bt405 => ((integer_Cmp.f k bt401.1 bt401.2 bt405.1 bt405.2).bind fun t409 => (some t409)))))) = some r := h
 clear h
 obtain ⟨⟨t381, t382, t385, t386⟩, A3, H⟩ := bindA H
 obtain ⟨⟨t391, t392, t395, t396⟩, A4, H⟩ := bindA H
 obtain ⟨⟨t401, t402⟩, A5, H⟩ := bindA H
 obtain ⟨⟨t405, t406⟩, A6, H⟩ := bindA H
 obtain ⟨t409, A7, H⟩ := bindA H
 obtain rfl := Option.some.inj H
 go_enter Try.func26, Try.ntmps26
 try go_wp2_with (first | ((with_reducible refine gate_dst (N := 2) rfl ?_); refine box_event rfl (N := 2) rfl (cs := #[.bool a0_0, .slice A0_1 l0_1.length c0_1, .slice A0_2 l0_2.length c0_2]) (t := 29) (by go_simp <;> rfl) ?_; intro gb379 hg w8 hbox hb; have BK379 := mk0 (hbox); have GE379 := geB hg HB; replace HB := hbS HB hb; clear hb hbox hg) | ((with_reducible refine gate_dst (N := 3) rfl ?_); refine box_event rfl (N := 3) rfl (cs := #[.bool a1_0, .slice A1_1 l1_1.length c1_1, .slice A1_2 l1_2.length c1_2]) (t := 29) (by go_simp <;> rfl) ?_; intro gb380 hg w9 hbox hb; have BK380 := mk0 (hbox); have GE380 := geB hg HB; replace HB := hbS HB hb; have NB379_380 := nbA hg BK379; have NB380_379 := nbB hg BK379; replace BK379 := bkB BK379 hb; clear hb hbox hg; have hnb10 := NB379_380.out; have hnc10 := NB380_379.out; obtain ⟨hcz11_0, hcz11_1, hcz11_2, hfz11_0, hfz11_1, hfz11_2⟩ := cz3 BK379) | ((with_reducible refine gate_callee (f := 36) rfl ?_); refine goA 11 Try.func36 #[.agg #[.bool a0_0, .slice A0_1 l0_1.length c0_1, .slice A0_2 l0_2.length c0_2]] ?_; (with_reducible refine (ratio_parts.calls k a0_0 (fun k_ => k_ < w.heap.size) _ _ l0_1 _ _ l0_2 t381 t382 t385 t386 _ (by exact Kd.V_mk HC0_1.out (Kd.F_below (Kd.C_F (Kd.heap_int .u32) HR0_1.out) HB.out)) (by exact Cb HR0_2.out HB.out) HC0_2.out A3.out).mono ?_); rintro e w12 ⟨v383, v387, rfl, ho0, ho1, hb⟩; refine ⟨_, rfl, ?_⟩; have HO384 := mk0 (Vl (Vm (ok' := fun k_ => some k_ ≠ (v387 : Value).ownBlock ∧ k_ ≠ gb379 ∧ k_ ≠ gb380) ho0 (fun k_ hk_ => ⟨hk_.2, Or.elim hk_.1 (fun hs_ => fun e_ => Nat.not_le.2 hs_ (by rw [e_]; exact GE379.out)) (fun hn_ => (Kd.freshB BK379.out k_ hn_)), Or.elim hk_.1 (fun hs_ => fun e_ => Nat.not_le.2 hs_ (by rw [e_]; exact GE380.out)) (fun hn_ => (Kd.freshB BK380.out k_ hn_))⟩)) (bZ HB.out)); have HO388 := mk0 (Rl (Rm (ok' := fun k_ => True) ho1 tv) (bZ HB.out)); replace BK379 := bkB BK379 hb; replace BK380 := bkB BK380 hb; replace HB := hbS HB hb) | ((with_reducible refine gate_dst (N := 5) rfl ?_); refine box_event rfl (N := 5) rfl (cs := #[.bool false, .slice none 0 0]) (t := 27) (by go_simp <;> rfl) ?_; intro gb389 hg w13 hbox hb; replace HO384 := vB HO384 hg hb; replace HO388 := rB HO388 hb; have BK389 := mk0 (hbox); have GE389 := geB hg HB; replace HB := hbS HB hb; have NB379_389 := nbA hg BK379; have NB389_379 := nbB hg BK379; replace BK379 := bkB BK379 hb; have NB380_389 := nbA hg BK380; have NB389_380 := nbB hg BK380; replace BK380 := bkB BK380 hb; clear hb hbox hg) | ((with_reducible refine gate_dst (N := 6) rfl ?_); refine box_event rfl (N := 6) rfl (cs := #[.bool false, .slice none 0 0]) (t := 27) (by go_simp <;> rfl) ?_; intro gb390 hg w14 hbox hb; replace HO384 := vB HO384 hg hb; replace HO388 := rB HO388 hb; have BK390 := mk0 (hbox); have GE390 := geB hg HB; replace HB := hbS HB hb; have NB379_390 := nbA hg BK379; have NB390_379 := nbB hg BK379; replace BK379 := bkB BK379 hb; have NB380_390 := nbA hg BK380; have NB390_380 := nbB hg BK380; replace BK380 := bkB BK380 hb; have NB389_390 := nbA hg BK389; have NB390_389 := nbB hg BK389; replace BK389 := bkB BK389 hb; clear hb hbox hg; have hnb15 := NB389_379.out; have hnc15 := NB379_389.out; have hnb16 := NB389_380.out; have hnc16 := NB380_389.out; have hnb17 := NB389_390.out; have hnc17 := NB390_389.out; obtain ⟨hcz18_0, hcz18_1, hfz18_0, hfz18_1⟩ := cz2 BK389; obtain ⟨Ao19, co19, eo19⟩ := Kd.V_slice HO384.out; subst eo19) | ((with_reducible refine gate_store (t := 27) (p := 5) rfl ?_); refine store_event (t := 27) (p := 5) (v := ?vo_w20) (w1 := ((w14.setCell ⟨gb389, 0, none⟩ (.bool t381)).setCell ⟨gb389, 1, none⟩ (.slice Ao19 t382.length co19))) ?hg ?ho ?hn ?hr ?_; (case ho => rfl); (case hg => rfl); (case hn => rfl); (case hr => go_simp <;> rfl); intro w20 hw; replace HO384 : Aside0 (Kd.V (Kd.int .u32) 87 w20 w.heap.size (fun k_ => some k_ ≠ (v387 : Value).ownBlock ∧ k_ ≠ gb379 ∧ k_ ≠ gb380 ∧ k_ ≠ gb389 ∧ k_ ≠ gb390) (.slice Ao19 t382.length co19) t382) := ⟨(by rw [hw]; exact (Vm (Vf (p := ⟨gb389, 1, none⟩) (Vf (p := ⟨gb389, 0, none⟩) (Vm HO384.out (fun k_ hk => (⟨hk, hk.1.2⟩ : _ ∧ k_ ≠ gb389))) (fun _ hk => hk.2) (.bool t381)) (fun _ hk => hk.2) (.slice Ao19 t382.length co19)) (fun _ hk => ⟨hk.1.1.1.1, ⟨hk.1.1.1.2.1, ⟨hk.1.1.1.2.2, ⟨hk.1.1.2, hk.1.2⟩⟩⟩⟩)))⟩; replace HO388 : Aside0 (Kd.R (Kd.int .u32) 87 w20 w.heap.size (fun _ => True) v387 t386) := ⟨(by rw [hw]; exact (Rm (Rf (p := ⟨gb389, 1, none⟩) (Rf (p := ⟨gb389, 0, none⟩) (Rt HO388.out BK389.out (by decide)) (fun _ hk => hk.2) (.bool t381)) (fun _ hk => hk.2) (.slice Ao19 t382.length co19)) tv))⟩; replace BK379 : Aside0 (w20.heap[gb379]? = some (.cells #[.bool a0_0, .slice A0_1 l0_1.length c0_1, .slice A0_2 l0_2.length c0_2] 29 (0, 0))) := ⟨(by rw [hw]; exact (by refine blk_far ?_ NB379_389.out _; refine blk_far ?_ NB379_389.out _; exact BK379.out))⟩; replace BK380 : Aside0 (w20.heap[gb380]? = some (.cells #[.bool a1_0, .slice A1_1 l1_1.length c1_1, .slice A1_2 l1_2.length c1_2] 29 (0, 0))) := ⟨(by rw [hw]; exact (by refine blk_far ?_ NB380_389.out _; refine blk_far ?_ NB380_389.out _; exact BK380.out))⟩; replace BK389 : Aside0 (w20.heap[gb389]? = some (.cells #[.bool t381, .slice Ao19 t382.length co19] 27 (0, 0))) := ⟨(by rw [hw]; exact (by refine blk_put (cs := #[.bool t381, .slice none 0 0]) ?_ 1 _ rfl; refine blk_put (cs := #[.bool false, .slice none 0 0]) ?_ 0 _ rfl; exact BK389.out))⟩; replace BK390 : Aside0 (w20.heap[gb390]? = some (.cells #[.bool false, .slice none 0 0] 27 (0, 0))) := ⟨(by rw [hw]; exact (by refine blk_far ?_ NB390_389.out _; refine blk_far ?_ NB390_389.out _; exact BK390.out))⟩; replace HB : Aside0 (Below w.heap.size w w20) := ⟨(by rw [hw]; exact (by repeat (first | exact HB.out | refine bS ?_ GE389.out | refine bS ?_ GE390.out)))⟩; clear hw; have hnb21 := NB390_379.out; have hnc21 := NB379_390.out; have hnb22 := NB390_380.out; have hnc22 := NB380_390.out; obtain ⟨hcz23_0, hcz23_1, hfz23_0, hfz23_1⟩ := cz2 BK390; obtain ⟨Ao24, co24, eo24⟩ := Kd.R_slice HO388.out; subst eo24) | ((with_reducible refine gate_store (t := 27) (p := 6) rfl ?_); refine store_event (t := 27) (p := 6) (v := ?vo_w25) (w1 := ((w20.setCell ⟨gb390, 0, none⟩ (.bool t385)).setCell ⟨gb390, 1, none⟩ (.slice Ao24 t386.length co24))) ?hg ?ho ?hn ?hr ?_; (case ho => rfl); (case hg => rfl); (case hn => rfl); (case hr => go_simp <;> rfl); intro w25 hw; replace HO384 : Aside0 (Kd.V (Kd.int .u32) 87 w25 w.heap.size (fun k_ => some k_ ≠ (.slice Ao24 t386.length co24 : Value).ownBlock ∧ k_ ≠ gb379 ∧ k_ ≠ gb380 ∧ k_ ≠ gb389 ∧ k_ ≠ gb390) (.slice Ao19 t382.length co19) t382) := ⟨(by rw [hw]; exact (Vm (Vf (p := ⟨gb390, 1, none⟩) (Vf (p := ⟨gb390, 0, none⟩) (Vm HO384.out (fun k_ hk => (⟨hk, hk.2.2.2.2⟩ : _ ∧ k_ ≠ gb390))) (fun _ hk => hk.2) (.bool t385)) (fun _ hk => hk.2) (.slice Ao24 t386.length co24)) (fun _ hk => ⟨hk.1.1, ⟨hk.1.2.1, ⟨hk.1.2.2.1, ⟨hk.1.2.2.2.1, hk.1.2.2.2.2⟩⟩⟩⟩)))⟩; replace HO388 : Aside0 (Kd.R (Kd.int .u32) 87 w25 w.heap.size (fun _ => True) (.slice Ao24 t386.length co24) t386) := ⟨(by rw [hw]; exact (Rm (Rf (p := ⟨gb390, 1, none⟩) (Rf (p := ⟨gb390, 0, none⟩) (Rt HO388.out BK390.out (by decide)) (fun _ hk => hk.2) (.bool t385)) (fun _ hk => hk.2) (.slice Ao24 t386.length co24)) tv))⟩; replace BK379 : Aside0 (w25.heap[gb379]? = some (.cells #[.bool a0_0, .slice A0_1 l0_1.length c0_1, .slice A0_2 l0_2.length c0_2] 29 (0, 0))) := ⟨(by rw [hw]; exact (by refine blk_far ?_ NB379_390.out _; refine blk_far ?_ NB379_390.out _; exact BK379.out))⟩; replace BK380 : Aside0 (w25.heap[gb380]? = some (.cells #[.bool a1_0, .slice A1_1 l1_1.length c1_1, .slice A1_2 l1_2.length c1_2] 29 (0, 0))) := ⟨(by rw [hw]; exact (by refine blk_far ?_ NB380_390.out _; refine blk_far ?_ NB380_390.out _; exact BK380.out))⟩; replace BK389 : Aside0 (w25.heap[gb389]? = some (.cells #[.bool t381, .slice Ao19 t382.length co19] 27 (0, 0))) := ⟨(by rw [hw]; exact (by refine blk_far ?_ NB389_390.out _; refine blk_far ?_ NB389_390.out _; exact BK389.out))⟩; replace BK390 : Aside0 (w25.heap[gb390]? = some (.cells #[.bool t385, .slice Ao24 t386.length co24] 27 (0, 0))) := ⟨(by rw [hw]; exact (by refine blk_put (cs := #[.bool t385, .slice none 0 0]) ?_ 1 _ rfl; refine blk_put (cs := #[.bool false, .slice none 0 0]) ?_ 0 _ rfl; exact BK390.out))⟩; replace HB : Aside0 (Below w.heap.size w w25) := ⟨(by rw [hw]; exact (by repeat (first | exact HB.out | refine bS ?_ GE389.out | refine bS ?_ GE390.out)))⟩; clear hw; obtain ⟨hcz26_0, hcz26_1, hcz26_2, hfz26_0, hfz26_1, hfz26_2⟩ := cz3 BK380) | ((with_reducible refine gate_callee (f := 36) rfl ?_); refine goA 16 Try.func36 #[.agg #[.bool a1_0, .slice A1_1 l1_1.length c1_1, .slice A1_2 l1_2.length c1_2]] ?_; (with_reducible refine (ratio_parts.calls k a1_0 (fun k_ => k_ < w.heap.size) _ _ l1_1 _ _ l1_2 t391 t392 t395 t396 _ (by exact Kd.V_mk HC1_1.out (Kd.F_below (Kd.C_F (Kd.heap_int .u32) HR1_1.out) HB.out)) (by exact Cb HR1_2.out HB.out) HC1_2.out A4.out).mono ?_); rintro e w27 ⟨v393, v397, rfl, ho0, ho1, hb⟩; refine ⟨_, rfl, ?_⟩; replace HO384 := mk0 (Kd.V_elder' HO384.out (Rs ho1) hb); have HO394 := mk0 (Vl (Vm (ok' := fun k_ => some k_ ≠ (v397 : Value).ownBlock ∧ some k_ ≠ (.slice Ao24 t386.length co24 : Value).ownBlock ∧ k_ ≠ gb379 ∧ k_ ≠ gb380 ∧ k_ ≠ gb389 ∧ k_ ≠ gb390) ho0 (fun k_ hk_ => ⟨hk_.2, Or.elim hk_.1 (fun hs_ => fun e_ => Nat.not_le.2 hs_ (Rs HO388.out k_ e_.symm)) (fun hn_ => (Kd.fresh' (Rq HO388.out) k_ hn_)), Or.elim hk_.1 (fun hs_ => fun e_ => Nat.not_le.2 hs_ (by rw [e_]; exact GE379.out)) (fun hn_ => (Kd.freshB BK379.out k_ hn_)), Or.elim hk_.1 (fun hs_ => fun e_ => Nat.not_le.2 hs_ (by rw [e_]; exact GE380.out)) (fun hn_ => (Kd.freshB BK380.out k_ hn_)), Or.elim hk_.1 (fun hs_ => fun e_ => Nat.not_le.2 hs_ (by rw [e_]; exact GE389.out)) (fun hn_ => (Kd.freshB BK389.out k_ hn_)), Or.elim hk_.1 (fun hs_ => fun e_ => Nat.not_le.2 hs_ (by rw [e_]; exact GE390.out)) (fun hn_ => (Kd.freshB BK390.out k_ hn_))⟩)) (bZ HB.out)); have HO398 := mk0 (Rl (Rn (Rm (ok' := fun k_ => True) ho1 tv) (Rq HO388.out)) (bZ HB.out)); replace HO388 := mk0 (Re HO388.out (Rs ho1) hb); replace BK379 := bkB BK379 hb; replace BK380 := bkB BK380 hb; replace BK389 := bkB BK389 hb; replace BK390 := bkB BK390 hb; replace HB := hbS HB hb) | ((with_reducible refine gate_dst (N := 7) rfl ?_); refine box_event rfl (N := 7) rfl (cs := #[.bool false, .slice none 0 0]) (t := 27) (by go_simp <;> rfl) ?_; intro gb399 hg w28 hbox hb; replace HO384 := vB HO384 hg hb; replace HO388 := rB HO388 hb; replace HO394 := vB HO394 hg hb; replace HO398 := rB HO398 hb; have BK399 := mk0 (hbox); have GE399 := geB hg HB; replace HB := hbS HB hb; have NB379_399 := nbA hg BK379; have NB399_379 := nbB hg BK379; replace BK379 := bkB BK379 hb; have NB380_399 := nbA hg BK380; have NB399_380 := nbB hg BK380; replace BK380 := bkB BK380 hb; have NB389_399 := nbA hg BK389; have NB399_389 := nbB hg BK389; replace BK389 := bkB BK389 hb; have NB390_399 := nbA hg BK390; have NB399_390 := nbB hg BK390; replace BK390 := bkB BK390 hb; clear hb hbox hg) | ((with_reducible refine gate_dst (N := 8) rfl ?_); refine box_event rfl (N := 8) rfl (cs := #[.bool false, .slice none 0 0]) (t := 27) (by go_simp <;> rfl) ?_; intro gb400 hg w29 hbox hb; replace HO384 := vB HO384 hg hb; replace HO388 := rB HO388 hb; replace HO394 := vB HO394 hg hb; replace HO398 := rB HO398 hb; have BK400 := mk0 (hbox); have GE400 := geB hg HB; replace HB := hbS HB hb; have NB379_400 := nbA hg BK379; have NB400_379 := nbB hg BK379; replace BK379 := bkB BK379 hb; have NB380_400 := nbA hg BK380; have NB400_380 := nbB hg BK380; replace BK380 := bkB BK380 hb; have NB389_400 := nbA hg BK389; have NB400_389 := nbB hg BK389; replace BK389 := bkB BK389 hb; have NB390_400 := nbA hg BK390; have NB400_390 := nbB hg BK390; replace BK390 := bkB BK390 hb; have NB399_400 := nbA hg BK399; have NB400_399 := nbB hg BK399; replace BK399 := bkB BK399 hb; clear hb hbox hg; have hnb30 := NB399_379.out; have hnc30 := NB379_399.out; have hnb31 := NB399_380.out; have hnc31 := NB380_399.out; have hnb32 := NB399_389.out; have hnc32 := NB389_399.out; have hnb33 := NB399_390.out; have hnc33 := NB390_399.out; have hnb34 := NB399_400.out; have hnc34 := NB400_399.out; obtain ⟨hcz35_0, hcz35_1, hfz35_0, hfz35_1⟩ := cz2 BK399; obtain ⟨Ao36, co36, eo36⟩ := Kd.V_slice HO394.out; subst eo36; have hnb37 := NB400_379.out; have hnc37 := NB379_400.out; have hnb38 := NB400_380.out; have hnc38 := NB380_400.out; have hnb39 := NB400_389.out; have hnc39 := NB389_400.out; have hnb40 := NB400_390.out; have hnc40 := NB390_400.out; obtain ⟨hcz41_0, hcz41_1, hfz41_0, hfz41_1⟩ := cz2 BK400; obtain ⟨Ao42, co42, eo42⟩ := Kd.R_slice HO398.out; subst eo42))
 have n0_ : Aside0 (Kd.V (Kd.int .u32) 87 ((((w29.setCell ⟨gb399, 0, none⟩ (.bool t391)).setCell ⟨gb399, 1, none⟩ (.slice Ao36 t392.length co36)).setCell ⟨gb400, 0, none⟩ (.bool t395)).setCell ⟨gb400, 1, none⟩ (.slice Ao42 t396.length co42)) w.heap.size (fun k_ => some k_ ≠ (.slice Ao24 t386.length co24 : Value).ownBlock ∧ some k_ ≠ (.slice Ao42 t396.length co42 : Value).ownBlock ∧ k_ ≠ gb379 ∧ k_ ≠ gb380 ∧ k_ ≠ gb389 ∧ k_ ≠ gb390 ∧ k_ ≠ gb399 ∧ k_ ≠ gb400) (.slice Ao19 t382.length co19) t382) := ⟨Vm (Vf (p := ⟨gb400, 1, none⟩) (Vf (p := ⟨gb400, 0, none⟩) (Vf (p := ⟨gb399, 1, none⟩) (Vf (p := ⟨gb399, 0, none⟩) (Vm (Vm HO384.out (fun k_ hk => (⟨hk, hk.1.2⟩ : _ ∧ k_ ≠ gb399))) (fun k_ hk => (⟨hk, hk.1.2⟩ : _ ∧ k_ ≠ gb400))) (fun _ hk => hk.1.2) (.bool t391)) (fun _ hk => hk.1.2) (.slice Ao36 t392.length co36)) (fun _ hk => hk.2) (.bool t395)) (fun _ hk => hk.2) (.slice Ao42 t396.length co42)) (fun _ hk => ⟨hk.1.1.1.1.1.1, ⟨hk.1.1.1.1.2, ⟨hk.1.1.1.1.1.2.1, ⟨hk.1.1.1.1.1.2.2.1, ⟨hk.1.1.1.1.1.2.2.2.1, ⟨hk.1.1.1.1.1.2.2.2.2, ⟨hk.1.1.1.2, hk.1.1.2⟩⟩⟩⟩⟩⟩⟩)⟩
 have n1_ : Aside0 (Kd.R (Kd.int .u32) 87 ((((w29.setCell ⟨gb399, 0, none⟩ (.bool t391)).setCell ⟨gb399, 1, none⟩ (.slice Ao36 t392.length co36)).setCell ⟨gb400, 0, none⟩ (.bool t395)).setCell ⟨gb400, 1, none⟩ (.slice Ao42 t396.length co42)) w.heap.size (fun k_ => some k_ ≠ (.slice Ao42 t396.length co42 : Value).ownBlock) (.slice Ao24 t386.length co24) t386) := ⟨Rm (Rf (p := ⟨gb400, 1, none⟩) (Rf (p := ⟨gb400, 0, none⟩) (Rf (p := ⟨gb399, 1, none⟩) (Rf (p := ⟨gb399, 0, none⟩) (Rt (Rt HO388.out BK399.out (by decide)) BK400.out (by decide)) (fun _ hk => hk.1.2) (.bool t391)) (fun _ hk => hk.1.2) (.slice Ao36 t392.length co36)) (fun _ hk => hk.2) (.bool t395)) (fun _ hk => hk.2) (.slice Ao42 t396.length co42)) (fun _ hk => hk.1.1.2)⟩
 have n2_ : Aside0 (Kd.V (Kd.int .u32) 87 ((((w29.setCell ⟨gb399, 0, none⟩ (.bool t391)).setCell ⟨gb399, 1, none⟩ (.slice Ao36 t392.length co36)).setCell ⟨gb400, 0, none⟩ (.bool t395)).setCell ⟨gb400, 1, none⟩ (.slice Ao42 t396.length co42)) w.heap.size (fun k_ => some k_ ≠ (.slice Ao24 t386.length co24 : Value).ownBlock ∧ some k_ ≠ (.slice Ao42 t396.length co42 : Value).ownBlock ∧ k_ ≠ gb379 ∧ k_ ≠ gb380 ∧ k_ ≠ gb389 ∧ k_ ≠ gb390 ∧ k_ ≠ gb399 ∧ k_ ≠ gb400) (.slice Ao36 t392.length co36) t392) := ⟨Vm (Vf (p := ⟨gb400, 1, none⟩) (Vf (p := ⟨gb400, 0, none⟩) (Vf (p := ⟨gb399, 1, none⟩) (Vf (p := ⟨gb399, 0, none⟩) (Vm (Vm HO394.out (fun k_ hk => (⟨hk, hk.1.2⟩ : _ ∧ k_ ≠ gb399))) (fun k_ hk => (⟨hk, hk.1.2⟩ : _ ∧ k_ ≠ gb400))) (fun _ hk => hk.1.2) (.bool t391)) (fun _ hk => hk.1.2) (.slice Ao36 t392.length co36)) (fun _ hk => hk.2) (.bool t395)) (fun _ hk => hk.2) (.slice Ao42 t396.length co42)) (fun _ hk => ⟨hk.1.1.1.1.2.1, ⟨hk.1.1.1.1.1, ⟨hk.1.1.1.1.2.2.1, ⟨hk.1.1.1.1.2.2.2.1, ⟨hk.1.1.1.1.2.2.2.2.1, ⟨hk.1.1.1.1.2.2.2.2.2, ⟨hk.1.1.1.2, hk.1.1.2⟩⟩⟩⟩⟩⟩⟩)⟩
 have n3_ : Aside0 (Kd.R (Kd.int .u32) 87 ((((w29.setCell ⟨gb399, 0, none⟩ (.bool t391)).setCell ⟨gb399, 1, none⟩ (.slice Ao36 t392.length co36)).setCell ⟨gb400, 0, none⟩ (.bool t395)).setCell ⟨gb400, 1, none⟩ (.slice Ao42 t396.length co42)) w.heap.size (fun k_ => some k_ ≠ (.slice Ao24 t386.length co24 : Value).ownBlock) (.slice Ao42 t396.length co42) t396) := ⟨Rm (Rf (p := ⟨gb400, 1, none⟩) (Rf (p := ⟨gb400, 0, none⟩) (Rf (p := ⟨gb399, 1, none⟩) (Rf (p := ⟨gb399, 0, none⟩) (Rt (Rt HO398.out BK399.out (by decide)) BK400.out (by decide)) (fun _ hk => hk.1.2) (.bool t391)) (fun _ hk => hk.1.2) (.slice Ao36 t392.length co36)) (fun _ hk => hk.2) (.bool t395)) (fun _ hk => hk.2) (.slice Ao42 t396.length co42)) (fun _ hk => hk.1.1.2)⟩
 have n4_ : Aside0 (((((w29.setCell ⟨gb399, 0, none⟩ (.bool t391)).setCell ⟨gb399, 1, none⟩ (.slice Ao36 t392.length co36)).setCell ⟨gb400, 0, none⟩ (.bool t395)).setCell ⟨gb400, 1, none⟩ (.slice Ao42 t396.length co42)).heap[gb379]? = some (.cells #[.bool a0_0, .slice A0_1 l0_1.length c0_1, .slice A0_2 l0_2.length c0_2] 29 (0, 0))) := ⟨by refine blk_far ?_ NB379_400.out _; refine blk_far ?_ NB379_400.out _; refine blk_far ?_ NB379_399.out _; refine blk_far ?_ NB379_399.out _; exact BK379.out⟩
 have n5_ : Aside0 (((((w29.setCell ⟨gb399, 0, none⟩ (.bool t391)).setCell ⟨gb399, 1, none⟩ (.slice Ao36 t392.length co36)).setCell ⟨gb400, 0, none⟩ (.bool t395)).setCell ⟨gb400, 1, none⟩ (.slice Ao42 t396.length co42)).heap[gb380]? = some (.cells #[.bool a1_0, .slice A1_1 l1_1.length c1_1, .slice A1_2 l1_2.length c1_2] 29 (0, 0))) := ⟨by refine blk_far ?_ NB380_400.out _; refine blk_far ?_ NB380_400.out _; refine blk_far ?_ NB380_399.out _; refine blk_far ?_ NB380_399.out _; exact BK380.out⟩
 have n6_ : Aside0 (((((w29.setCell ⟨gb399, 0, none⟩ (.bool t391)).setCell ⟨gb399, 1, none⟩ (.slice Ao36 t392.length co36)).setCell ⟨gb400, 0, none⟩ (.bool t395)).setCell ⟨gb400, 1, none⟩ (.slice Ao42 t396.length co42)).heap[gb389]? = some (.cells #[.bool t381, .slice Ao19 t382.length co19] 27 (0, 0))) := ⟨by refine blk_far ?_ NB389_400.out _; refine blk_far ?_ NB389_400.out _; refine blk_far ?_ NB389_399.out _; refine blk_far ?_ NB389_399.out _; exact BK389.out⟩
 have n7_ : Aside0 (((((w29.setCell ⟨gb399, 0, none⟩ (.bool t391)).setCell ⟨gb399, 1, none⟩ (.slice Ao36 t392.length co36)).setCell ⟨gb400, 0, none⟩ (.bool t395)).setCell ⟨gb400, 1, none⟩ (.slice Ao42 t396.length co42)).heap[gb390]? = some (.cells #[.bool t385, .slice Ao24 t386.length co24] 27 (0, 0))) := ⟨by refine blk_far ?_ NB390_400.out _; refine blk_far ?_ NB390_400.out _; refine blk_far ?_ NB390_399.out _; refine blk_far ?_ NB390_399.out _; exact BK390.out⟩
 have n8_ : Aside0 (((((w29.setCell ⟨gb399, 0, none⟩ (.bool t391)).setCell ⟨gb399, 1, none⟩ (.slice Ao36 t392.length co36)).setCell ⟨gb400, 0, none⟩ (.bool t395)).setCell ⟨gb400, 1, none⟩ (.slice Ao42 t396.length co42)).heap[gb399]? = some (.cells #[.bool t391, .slice Ao36 t392.length co36] 27 (0, 0))) := ⟨by refine blk_far ?_ NB399_400.out _; refine blk_far ?_ NB399_400.out _; refine blk_put (cs := #[.bool t391, .slice none 0 0]) ?_ 1 _ rfl; refine blk_put (cs := #[.bool false, .slice none 0 0]) ?_ 0 _ rfl; exact BK399.out⟩
 have n9_ : Aside0 (((((w29.setCell ⟨gb399, 0, none⟩ (.bool t391)).setCell ⟨gb399, 1, none⟩ (.slice Ao36 t392.length co36)).setCell ⟨gb400, 0, none⟩ (.bool t395)).setCell ⟨gb400, 1, none⟩ (.slice Ao42 t396.length co42)).heap[gb400]? = some (.cells #[.bool t395, .slice Ao42 t396.length co42] 27 (0, 0))) := ⟨by refine blk_put (cs := #[.bool t395, .slice none 0 0]) ?_ 1 _ rfl; refine blk_put (cs := #[.bool false, .slice none 0 0]) ?_ 0 _ rfl; refine blk_far ?_ NB400_399.out _; refine blk_far ?_ NB400_399.out _; exact BK400.out⟩
 have n10_ : Aside0 (Below w.heap.size w ((((w29.setCell ⟨gb399, 0, none⟩ (.bool t391)).setCell ⟨gb399, 1, none⟩ (.slice Ao36 t392.length co36)).setCell ⟨gb400, 0, none⟩ (.bool t395)).setCell ⟨gb400, 1, none⟩ (.slice Ao42 t396.length co42))) := ⟨by repeat (first | exact HB.out | apply bN | apply b1 | apply bA | refine bS ?_ GE379.out | refine bS ?_ GE380.out | refine bS ?_ GE389.out | refine bS ?_ GE390.out | refine bS ?_ GE399.out | refine bS ?_ GE400.out)⟩
 (try clear HO384)
 (try clear HO388)
 (try clear HO394)
 (try clear HO398)
 (try clear BK379)
 (try clear BK380)
 (try clear BK389)
 (try clear BK390)
 (try clear BK399)
 (try clear BK400)
 (try clear HB)
 generalize ((((w29.setCell ⟨gb399, 0, none⟩ (.bool t391)).setCell ⟨gb399, 1, none⟩ (.slice Ao36 t392.length co36)).setCell ⟨gb400, 0, none⟩ (.bool t395)).setCell ⟨gb400, 1, none⟩ (.slice Ao42 t396.length co42)) = w43 at n0_ n1_ n2_ n3_ n4_ n5_ n6_ n7_ n8_ n9_ n10_ ⊢
 have HO384 := n0_
 have HO388 := n1_
 have HO394 := n2_
 have HO398 := n3_
 have BK379 := n4_
 have BK380 := n5_
 have BK389 := n6_
 have BK390 := n7_
 have BK399 := n8_
 have BK400 := n9_
 have HB := n10_
 clear n0_ n1_ n2_ n3_ n4_ n5_ n6_ n7_ n8_ n9_ n10_
 replace HO384 := mk0 (Kd.V_drew HO384.out)
 replace HO388 := mk0 (Kd.R_drew HO388.out)
 replace HO394 := mk0 (Kd.V_drew HO394.out)
 replace HO398 := mk0 (Kd.R_drew HO398.out)
 replace BK379 := mk0 (blk_drew BK379.out)
 replace BK380 := mk0 (blk_drew BK380.out)
 replace BK389 := mk0 (blk_drew BK389.out)
 replace BK390 := mk0 (blk_drew BK390.out)
 replace BK399 := mk0 (blk_drew BK399.out)
 replace BK400 := mk0 (blk_drew BK400.out)
 replace HB := mk0 (b1 HB.out)
 refine start_ (n := 8) (S := fun w' => w'.cell? ⟨gb389, 0, none⟩ = some (.bool t381) ∧ w'.cell? ⟨gb389, 1, none⟩ = some (.slice Ao19 t382.length co19) ∧ w'.cell? ⟨gb400, 0, none⟩ = some (.bool t395) ∧ w'.cell? ⟨gb400, 1, none⟩ = some (.slice Ao42 t396.length co42) ∧ w'.cell? ⟨gb399, 0, none⟩ = some (.bool t391) ∧ w'.cell? ⟨gb399, 1, none⟩ = some (.slice Ao36 t392.length co36) ∧ w'.cell? ⟨gb390, 0, none⟩ = some (.bool t385) ∧ w'.cell? ⟨gb390, 1, none⟩ = some (.slice Ao24 t386.length co24)) (ds := []) (bv 8 0) (by kernel_rfl) rfl rfl ⟨(blk_cell BK389.out 0).trans rfl, (blk_cell BK389.out 1).trans rfl, (blk_cell BK400.out 0).trans rfl, (blk_cell BK400.out 1).trans rfl, (blk_cell BK399.out 0).trans rfl, (blk_cell BK399.out 1).trans rfl, (blk_cell BK390.out 0).trans rfl, (blk_cell BK390.out 1).trans rfl⟩ (fun hHeld => ?_); refine with_tabW ratio_Cmp.tab3 ratio_Cmp.bits3 (fun HT_ HW_ => ?_)
 generalize w43.drew = w44 at HO384 HO388 HO394 HO398 BK379 BK380 BK389 BK390 BK399 BK400 HB hHeld ⊢
 refine take_ (i := 0) (N := some 19) (v := ?_) (a' := ?_) (bv 8 1) rfl rfl (take_ofW HT_.out HW_.out (by kernel_rfl)) (fun _ _ _ h => h) (Or.inl ⟨by rfl, ?_⟩) hHeld ?_ ?_; rotate_left; (rintro w' ⟨s0, s1, s2, s3, s4, s5, s6, s7⟩; go_simp; with_reducible rfl); rotate_left; (simp only [Act.put, sA, sZ, sS, i64_w, i32_w]; rfl)
 refine take_ (i := 1) (N := some 20) (v := ?_) (a' := ?_) (bv 8 3) rfl rfl (take_ofW HT_.out HW_.out (by kernel_rfl)) (fun _ _ _ h => h) (Or.inl ⟨by rfl, ?_⟩) hHeld ?_ ?_; rotate_left; (rintro w' ⟨s0, s1, s2, s3, s4, s5, s6, s7⟩; go_simp; with_reducible rfl); rotate_left; (simp only [Act.put, sA, sZ, sS, i64_w, i32_w]; rfl)
 refine take_ (i := 3) (N := some 22) (v := ?_) (a' := ?_) (bv 8 11) rfl rfl (take_ofW HT_.out HW_.out (by kernel_rfl)) (fun _ _ _ h => h) (Or.inl ⟨by rfl, ?_⟩) hHeld ?_ ?_; rotate_left; (rintro w' ⟨s0, s1, s2, s3, s4, s5, s6, s7⟩; go_simp; with_reducible rfl); rotate_left; (simp only [Act.put, sA, sZ, sS, i64_w, i32_w]; rfl)
 refine take_ (i := 4) (N := some 23) (v := ?_) (a' := ?_) (bv 8 27) rfl rfl (take_ofW HT_.out HW_.out (by kernel_rfl)) (fun _ _ _ h => h) (Or.inl ⟨by rfl, ?_⟩) hHeld ?_ ?_; rotate_left; (rintro w' ⟨s0, s1, s2, s3, s4, s5, s6, s7⟩; go_simp; with_reducible rfl); rotate_left; (simp only [Act.put, sA, sZ, sS, i64_w, i32_w]; rfl)
 refine one_ (i := 2) (N := some 21) (bv 8 31) rfl rfl (one_of HT_.out (by kernel_rfl)) (by decide) (fun K hK => ?_)
 refine goes_ Try.func52 (by kernel_rfl) rfl #[.agg #[.bool t381, .slice Ao19 t382.length co19], .agg #[.bool t395, .slice Ao42 t396.length co42]] (by rfl) rfl rfl (by go_simp <;> rfl) ?_
 with_reducible refine (integer_Mul.calls k t381 _ _ t382 t395 _ _ t396 t401 t402 _ ?side1 ?side2 ?side3 ?side4 A5.out).mono ?_
 (case side1 => repeat (first | exact (Kd.V_reads' HO384.out).2.2 | (with_reducible refine Kd.C_alloc ?_ _) | (with_reducible refine Kd.C_drewN ?_ _) | (with_reducible refine Kd.C_drew ?_)))
 (case side2 => exact (Kd.V_reads' HO384.out).2.1)
 (case side3 => repeat (first | exact (Kd.R_reads' HO398.out).2.2 | (with_reducible refine Kd.C_alloc ?_ _) | (with_reducible refine Kd.C_drewN ?_ _) | (with_reducible refine Kd.C_drew ?_)))
 (case side4 => exact (Kd.R_reads' HO398.out).2.1)
 rintro e w45 ⟨v403, rfl, ho0, hb⟩
 refine ⟨_, rfl, ?_⟩
 replace HO384 := mk0 (Kd.V_elder' HO384.out (Rs ho0) hb)
 replace HO394 := mk0 (Kd.V_elder' HO394.out (Rs ho0) hb)
 have HO404 := mk0 (Rl (Rn (Rn ho0 (Rq HO388.out)) (Rq HO398.out)) (bZ (by repeat (first | exact HB.out | apply bN | apply b1 | apply bA | refine bS ?_ GE379.out | refine bS ?_ GE380.out | refine bS ?_ GE389.out | refine bS ?_ GE390.out | refine bS ?_ GE399.out | refine bS ?_ GE400.out))))
 replace HO388 := mk0 (Re HO388.out (Rs ho0) hb)
 replace HO398 := mk0 (Re HO398.out (Rs ho0) hb)
 replace BK379 := bkB BK379 hb
 replace BK380 := bkB BK380 hb
 replace BK389 := bkB BK389 hb
 replace BK390 := bkB BK390 hb
 replace BK399 := bkB BK399 hb
 replace BK400 := bkB BK400 hb
 replace HB := mk0 (below_step (by repeat (first | exact HB.out | apply bN | apply b1 | apply bA | refine bS ?_ GE379.out | refine bS ?_ GE380.out | refine bS ?_ GE389.out | refine bS ?_ GE390.out | refine bS ?_ GE399.out | refine bS ?_ GE400.out)) hb)
 refine hK.out _ _ ⟨(blk_cell BK389.out 0).trans rfl, (blk_cell BK389.out 1).trans rfl, (blk_cell BK400.out 0).trans rfl, (blk_cell BK400.out 1).trans rfl, (blk_cell BK399.out 0).trans rfl, (blk_cell BK399.out 1).trans rfl, (blk_cell BK390.out 0).trans rfl, (blk_cell BK390.out 1).trans rfl⟩ (fun hHeld => ?_)
 clear hK K
 refine norm_ (a' := ?_) ?_ ?_
 rotate_left
 ·show Act.put _ (some 21) _ = _
  simp only [Act.put, sA, sZ, sS, i64_w, i32_w]
  rfl
 refine one_ (i := 5) (N := some 24) (bv 8 63) rfl rfl (one_of HT_.out (by kernel_rfl)) (by decide) (fun K hK => ?_)
 refine goes_ Try.func52 (by kernel_rfl) rfl #[.agg #[.bool t391, .slice Ao36 t392.length co36], .agg #[.bool t385, .slice Ao24 t386.length co24]] (by rfl) rfl rfl (by go_simp <;> rfl) ?_
 with_reducible refine (integer_Mul.calls k t391 _ _ t392 t385 _ _ t386 t405 t406 _ ?side1 ?side2 ?side3 ?side4 A6.out).mono ?_
 (case side1 => repeat (first | exact (Kd.V_reads' HO394.out).2.2 | (with_reducible refine Kd.C_alloc ?_ _) | (with_reducible refine Kd.C_drewN ?_ _) | (with_reducible refine Kd.C_drew ?_)))
 (case side2 => exact (Kd.V_reads' HO394.out).2.1)
 (case side3 => repeat (first | exact (Kd.R_reads' HO388.out).2.2 | (with_reducible refine Kd.C_alloc ?_ _) | (with_reducible refine Kd.C_drewN ?_ _) | (with_reducible refine Kd.C_drew ?_)))
 (case side4 => exact (Kd.R_reads' HO388.out).2.1)
 rintro e w46 ⟨v407, rfl, ho0, hb⟩
 refine ⟨_, rfl, ?_⟩
 replace HO384 := mk0 (Kd.V_elder' HO384.out (Rs ho0) hb)
 replace HO394 := mk0 (Kd.V_elder' HO394.out (Rs ho0) hb)
 have HO408 := mk0 (Rl (Rn (Rn (Rn ho0 (Rq HO388.out)) (Rq HO398.out)) (Rq HO404.out)) (bZ (by repeat (first | exact HB.out | apply bN | apply b1 | apply bA | refine bS ?_ GE379.out | refine bS ?_ GE380.out | refine bS ?_ GE389.out | refine bS ?_ GE390.out | refine bS ?_ GE399.out | refine bS ?_ GE400.out))))
 replace HO388 := mk0 (Re HO388.out (Rs ho0) hb)
 replace HO398 := mk0 (Re HO398.out (Rs ho0) hb)
 replace HO404 := mk0 (Re HO404.out (Rs ho0) hb)
 replace BK379 := bkB BK379 hb
 replace BK380 := bkB BK380 hb
 replace BK389 := bkB BK389 hb
 replace BK390 := bkB BK390 hb
 replace BK399 := bkB BK399 hb
 replace BK400 := bkB BK400 hb
 replace HB := mk0 (below_step (by repeat (first | exact HB.out | apply bN | apply b1 | apply bA | refine bS ?_ GE379.out | refine bS ?_ GE380.out | refine bS ?_ GE389.out | refine bS ?_ GE390.out | refine bS ?_ GE399.out | refine bS ?_ GE400.out)) hb)
 obtain ⟨Ao47, co47, eo47⟩ := Kd.R_slice HO404.out
 (first | subst eo47 | (injection eo47 with f1_ f2_ f3_; have f4_ := f1_.symm; have f5_ := f3_.symm; clear f1_ f2_ f3_; subst f4_; subst f5_))
 obtain ⟨Ao48, co48, eo48⟩ := Kd.R_slice HO408.out
 (first | subst eo48 | (injection eo48 with f1_ f2_ f3_; have f4_ := f1_.symm; have f5_ := f3_.symm; clear f1_ f2_ f3_; subst f4_; subst f5_))
 refine hK.out _ _ ⟨(blk_cell BK389.out 0).trans rfl, (blk_cell BK389.out 1).trans rfl, (blk_cell BK400.out 0).trans rfl, (blk_cell BK400.out 1).trans rfl, (blk_cell BK399.out 0).trans rfl, (blk_cell BK399.out 1).trans rfl, (blk_cell BK390.out 0).trans rfl, (blk_cell BK390.out 1).trans rfl⟩ (fun hHeld => ?_)
 clear hK K
 refine norm_ (a' := ?_) ?_ ?_
 rotate_left
 ·show Act.put _ (some 24) _ = _
  simp only [Act.put, sA, sZ, sS, i64_w, i32_w]
  rfl
 refine one_ (i := 6) (N := some 25) (bv 8 127) rfl rfl (one_of HT_.out (by kernel_rfl)) (by decide) (fun K hK => ?_)
 refine goes_ Try.func51 (by kernel_rfl) rfl #[.agg #[.bool t401, .slice Ao47 t402.length co47], .agg #[.bool t405, .slice Ao48 t406.length co48]] (by rfl) rfl rfl (by go_simp <;> rfl) ?_
 with_reducible refine (integer_Cmp.calls k t401 _ _ t402 t405 _ _ t406 t409 _ ?side1 ?side2 ?side3 ?side4 A7.out).mono ?_
 (case side1 => repeat (first | exact (Kd.R_reads' HO404.out).2.2 | (with_reducible refine Kd.C_alloc ?_ _) | (with_reducible refine Kd.C_drewN ?_ _) | (with_reducible refine Kd.C_drew ?_)))
 (case side2 => exact (Kd.R_reads' HO404.out).2.1)
 (case side3 => repeat (first | exact (Kd.R_reads' HO408.out).2.2 | (with_reducible refine Kd.C_alloc ?_ _) | (with_reducible refine Kd.C_drewN ?_ _) | (with_reducible refine Kd.C_drew ?_)))
 (case side4 => exact (Kd.R_reads' HO408.out).2.1)
 rintro e w49 ⟨rfl, hb⟩
 refine ⟨_, rfl, ?_⟩
 replace HO384 := mk0 (Kd.V_below HO384.out hb)
 replace HO388 := rB HO388 hb
 replace HO394 := mk0 (Kd.V_below HO394.out hb)
 replace HO398 := rB HO398 hb
 replace HO404 := rB HO404 hb
 replace HO408 := rB HO408 hb
 replace BK379 := bkB BK379 hb
 replace BK380 := bkB BK380 hb
 replace BK389 := bkB BK389 hb
 replace BK390 := bkB BK390 hb
 replace BK399 := bkB BK399 hb
 replace BK400 := bkB BK400 hb
 replace HB := mk0 (below_step (by repeat (first | exact HB.out | apply bN | apply b1 | apply bA | refine bS ?_ GE379.out | refine bS ?_ GE380.out | refine bS ?_ GE389.out | refine bS ?_ GE390.out | refine bS ?_ GE399.out | refine bS ?_ GE400.out)) hb)
 refine hK.out _ _ ⟨(blk_cell BK389.out 0).trans rfl, (blk_cell BK389.out 1).trans rfl, (blk_cell BK400.out 0).trans rfl, (blk_cell BK400.out 1).trans rfl, (blk_cell BK399.out 0).trans rfl, (blk_cell BK399.out 1).trans rfl, (blk_cell BK390.out 0).trans rfl, (blk_cell BK390.out 1).trans rfl⟩ (fun hHeld => ?_)
 clear hK K
 refine norm_ (a' := ?_) ?_ ?_
 rotate_left
 ·show Act.put _ (some 25) _ = _
  simp only [Act.put, sA, sZ, sS, i64_w, i32_w]
  rfl
 refine puA (i := 7) (N := 4) (v := ?_) (a' := ?_) (bv 8 255) HT_ ?_ ?_ ?_; rotate_left; (intro w'; go_simp; with_reducible rfl); rotate_left; (simp only [Act.put, sA, sZ, sS, i64_w, i32_w]; rfl)
 refine done_ (done_of HT_.out (by kernel_rfl)) ?_
 try go_wp2
 go_ret
 exact ⟨by first | rfl | (simp [errW_none, errW_some] <;> rfl) | (simp [*, errW_none, errW_some] <;> rfl), by repeat (first | exact HB.out | apply bN | apply b1 | apply bA | refine bS ?_ GE379.out | refine bS ?_ GE380.out | refine bS ?_ GE389.out | refine bS ?_ GE390.out | refine bS ?_ GE399.out | refine bS ?_ GE400.out)⟩
set_option maxHeartbeats 8000000 in
set_option maxRecDepth 100000 in
theorem ratio_zero.calls (k : Nat)  (r1 : Bool) (r2 : List Int) (r3 : List Int) (w : World) (h : ratio_zero.f k  = some (r1, r2, r3)) :
  Calls Try.prog 67 #[] w fun e w' => ∃ v1_ v2_ : Value, e = .returned (.agg #[.bool r1, v1_, v2_]) ∧ Kd.R (Kd.int .u32) 87 w' w.heap.size (fun k_ => (w.heap.size ≤ k_)) v1_ r2 ∧ Kd.V (Kd.int .u32) 87 w' w.heap.size (fun k_ => (w.heap.size ≤ k_) ∧ some k_ ≠ (v1_ : Value).ownBlock) v2_ r3 ∧ Below w.heap.size w w' := by
 have hu29 := Try.underlying29
 have HB := mk0 (Below.refl w.heap.size w)
 have H : ((nat_Of.f k 1).bind fun t125 => (some (false, ([] : List Int), t125))) = some (r1, r2, r3) := h
 clear h
 obtain ⟨t125, A1, H⟩ := bindA H
 simp only [Option.some.injEq, Prod.mk.injEq] at H
 obtain ⟨rfl, rfl, rfl⟩ := H
 go_enter Try.func67, Try.ntmps67
 go_wp2_with (first | ((with_reducible refine gate_dst (N := 0) rfl ?_); refine box_event rfl (N := 0) rfl (cs := #[.bool false, .slice none 0 0, .slice none 0 0]) (t := 29) (by go_simp <;> rfl) ?_; intro gb124 hg w2 hbox hb; have BK124 := mk0 (hbox); have GE124 := geB hg HB; replace HB := hbS HB hb; clear hb hbox hg) | ((with_reducible refine gate_callee (f := 66) rfl ?_); refine goA 1 Try.func66 #[.int .u64 1] ?_; (with_reducible refine (nat_Of.calls k 1 t125 _ A1.out).mono ?_); rintro e w3 ⟨v126, rfl, ho0, hb⟩; refine ⟨_, rfl, ?_⟩; have HO127 := mk0 (Vl (Vm (ok' := fun k_ => (w.heap.size ≤ k_) ∧ k_ ≠ gb124) ho0 (fun k_ hk_ => ⟨(Nat.le_trans (bZ HB.out) hk_), (Kd.freshB BK124.out k_ hk_)⟩)) (bZ HB.out)); replace BK124 := bkB BK124 hb; replace HB := hbS HB hb; obtain ⟨Ao4, co4, eo4⟩ := Kd.V_slice HO127.out; subst eo4; obtain ⟨hcz5_0, hcz5_1, hcz5_2, hfz5_0, hfz5_1, hfz5_2⟩ := cz3 BK124))
 refine bodyPost_ret (results_cell_row rfl _ _ gb124 29 #[.bool false, .slice none 0 0, .slice Ao4 t125.length co4] (0, 0) _ rfl (by refine blk_put (cs := #[.bool false, .slice none 0 0, .slice none 0 0]) ?_ 2 _ rfl; refine blk_put (cs := #[.bool false, .slice none 0 0, .slice none 0 0]) ?_ 1 _ rfl; refine blk_put (cs := #[.bool false, .slice none 0 0, .slice none 0 0]) ?_ 0 _ rfl; exact BK124.out) Try.underlying29 rfl (by kernel_rfl)) rfl ?_
 exact ⟨_, _, by first | rfl | (simp [errW_none, errW_some] <;> rfl) | (simp [*, errW_none, errW_some] <;> rfl), by first | exact Kd.R_nil _ _ _ _ _ | exact Kd.N_nil _ _ _ _ _ | exact Kd.V_nil _ _ _ _ _ | exact Kd.Q_nil _ _ _ _ _ | exact Kd.S_nil _ _ _ _ _, Vm (Vf (p := ⟨gb124, 2, none⟩) (Vf (p := ⟨gb124, 1, none⟩) (Vf (p := ⟨gb124, 0, none⟩) (Vm HO127.out (fun k_ hk => (⟨hk, hk.2⟩ : _ ∧ k_ ≠ gb124))) (fun _ hk => hk.2) (.bool false)) (fun _ hk => hk.2) (.slice none 0 0)) (fun _ hk => hk.2) (.slice Ao4 t125.length co4)) (fun _ hk => ⟨hk.1.1, (by simp [Value.ownBlock])⟩), by repeat (first | exact HB.out | apply bN | apply b1 | apply bA | refine bS ?_ GE124.out)⟩
set_option maxHeartbeats 8000000 in
set_option maxRecDepth 100000 in
theorem nat_divSmall.calls (k : Nat) (A0 : Option Addr) (c0 : Nat) (l0 : List Int) (a1 : Int) (r1 : List Int) (r2 : Int) (w : World) (hr0 : Kd.C (Kd.int .u32) w A0 l0.length l0) (hc0 : l0.length ≤ c0) (h : nat_divSmall.f k l0 a1 = some (r1, r2)) :
  Calls Try.prog 107 #[.slice A0 l0.length c0, .int .u32 a1] w fun e w' => ∃ v0_ : Value, e = .returned (.tuple #[v0_, .int .u32 r2]) ∧ Kd.V (Kd.int .u32) 87 w' w.heap.size (fun k_ => (w.heap.size ≤ k_)) v0_ r1 ∧ Below w.heap.size w w' := by
 have HR0 := mk0 hr0
 have HC0 := mk0 hc0
 clear hr0 hc0
 have HB := mk0 (Below.refl w.heap.size w)
 have H : (if 0 ≤ (l0.length : Int) then (if ((l0.length : Int) : Int).toNat ≤ 70368744177664 then (nat_divSmall.l0 k l0 a1 (List.replicate ((l0.length : Int) : Int).toNat 0) 0 (wrap64 ((l0.length : Int) - 1))) else (none)) else (none)) = some (r1, r2) := h
 clear h
 by_cases c3 : 0 ≤ (l0.length : Int)
 ·rw [if_pos c3] at H
  have c3b0 := eq_true c3
  have c3b1 : decide (0 ≤ (l0.length : Int)) = true := decide_eq_true c3
  clear c3
  by_cases c4 : ((l0.length : Int) : Int).toNat ≤ 70368744177664
  ·rw [if_pos c4] at H
   have c4b0 := eq_true c4
   have c4b1 : decide (((l0.length : Int) : Int).toNat ≤ 70368744177664) = true := decide_eq_true c4
   clear c4
   obtain ⟨y151, hy151⟩ : ∃ y_ : List Int, y_ = (List.replicate ((l0.length : Int) : Int).toNat 0) := ⟨_, rfl⟩
   replace H : (nat_divSmall.l0 k l0 a1 y151 0 (wrap64 ((l0.length : Int) - 1))) = some (r1, r2) := by first | (rw [hy151]; with_reducible exact H) | (have H2_ := (Option.bind_some _ _).symm.trans H; rw [hy151]; with_reducible exact H2_) | (have H2_ := (Option.bind_some _ _).symm.trans H; with_reducible exact H2_) | with_reducible exact H | (rw [hy151]; exact H) | exact H
   have Ny151 := mk0 hy151
   clear hy151
   have H' := mk0 H
   clear H
   go_enter Try.func107, Try.ntmps107
   go_wp2_with (first | ((with_reducible refine gate_dst (N := 11) rfl ?_); refine Kd.R_make (Kd.int .u32) _ 87 rfl (N := 11) rfl 25 _ _ rfl (l0.length : Int) rfl rfl Try.underlying25 (.int .u32 0) 4 info87 rfl (by decide) (by omega) 0 (ok := fun _ => True) (okp := fun _ => True) rfl (fun _ hk => hk) trivial (of_decide_eq_true (by assumption)) (Nat.le_trans (Nat.mul_le_mul_right _ (of_decide_eq_true (by assumption) : (l0.length : Int).toNat ≤ 70368744177664)) (by omega)) (Below.refl _ _) (Nat.le_refl _) ?_; intro v152 w5 ho6 hb hg_ hnew_; clear hg_ hnew_; (first | rw [← Ny151.out] at ho6 | (simp only [Int.reduceToNat] at ho6; rw [← Ny151.out] at ho6)); have HO153 := mk0 (Rl (Kd.R_newM (M := fun k_ => (w.heap.size ≤ k_)) ho6 (bZ HB.out) (fun k_ h_ => h_)) (bZ HB.out)); replace HB := hbS HB hb; clear hb ho6))
   go_loopg [7, 8] k (fun kq v7 v8 w' => ∃ (x6_1 : List Int) (x7_1 : Int) (x8_1 : Int), v7 = .int .u64 x7_1 ∧ v8 = .int .i64 x8_1 ∧ Aside0 (nat_divSmall.l0 kq l0 a1 x6_1 x7_1 x8_1 = some (r1, r2)) ∧ Aside0 (kq ≤ k) ∧ Aside0 (Kd.R (Kd.int .u32) 87 w' w.heap.size (fun k_ => (w.heap.size ≤ k_)) v152 x6_1) ∧ Aside0 (Below w.heap.size w w'))
   case atStart => exact ⟨(y151), (0), (wrap64 ((l0.length : Int) - 1)), (by first | rfl | (simp; done) | (simp [*]; done)), (by first | rfl | (simp; done) | (simp [*]; done)), H', ⟨Nat.le_refl _⟩, ⟨Rm HO153.out (fun _ hk => hk.1)⟩, ⟨by repeat (first | exact HB.out | apply bN | apply b1 | apply bA)⟩⟩
   case round =>
    clear H'
    try clear c1
    try clear p2
    try clear c3
    try clear c3b0
    try clear c3b1
    try clear c4
    try clear c4b0
    try clear c4b1
    try clear p6
    obtain ⟨x6_1, x7_1, x8_1, rfl, rfl, HA, HK1, HO_6, HB⟩ := hrel
    cases gk with
    | zero => exact absurd HA.out (by simp [nat_divSmall.l0])
    | succ k1 =>
     have H := HA.out
     clear HA
     simp only [nat_divSmall.l0] at H
     by_cases c7 : x8_1 ≥ 0
     ·rw [if_pos c7] at H
      have c7b0 : decide (0 ≤ x8_1) = true := decide_eq_true c7
      clear c7
      by_cases c8 : 0 ≤ x8_1
      ·rw [if_pos c8] at H
       have c8b0 : decide (0 ≤ x8_1) = true := decide_eq_true c8
       clear c8
       by_cases c9 : x8_1 < (l0.length : Int)
       ·rw [if_pos c9] at H
        have c9b0 : decide (x8_1 < (l0.length : Int)) = true := decide_eq_true c9
        clear c9
        by_cases c10 : (IntKind.u64.wrap (a1)) = 0
        ·rw [if_pos c10] at H
         exact absurd H (by simp)
        ·rw [if_neg c10] at H
         have c10b0 : ((IntKind.u64.wrap (a1)) == 0) = false := beq_eq_false_iff_ne.mpr c10
         have c10b1 : ((IntKind.u64.wrap (a1)) != 0) = true := bne_iff_ne.mpr c10
         by_cases c11 : x8_1 < (x6_1.length : Int)
         ·rw [if_pos c11] at H
          have c11b0 : decide (x8_1 < (x6_1.length : Int)) = true := decide_eq_true c11
          clear c11
          obtain ⟨y155, hy155⟩ : ∃ y_ : List Int, y_ = (x6_1.set (x8_1 : Int).toNat ((IntKind.u64.wrap (Int.tdiv (Go.bits .or .u64 (IntKind.u64.wrap (x7_1 * 4294967296)) (IntKind.u64.wrap (rd l0 x8_1))) (IntKind.u64.wrap (a1)))) % 4294967296)) := ⟨_, rfl⟩
          replace H : (nat_divSmall.l0 k1 l0 a1 y155 (Int.tmod (Go.bits .or .u64 (IntKind.u64.wrap (x7_1 * 4294967296)) (IntKind.u64.wrap (rd l0 x8_1))) (IntKind.u64.wrap (a1))) (wrap64 (x8_1 - 1))) = some (r1, r2) := by first | (rw [hy155]; with_reducible exact H) | (have H2_ := (Option.bind_some _ _).symm.trans H; rw [hy155]; with_reducible exact H2_) | (have H2_ := (Option.bind_some _ _).symm.trans H; with_reducible exact H2_) | with_reducible exact H | (rw [hy155]; exact H) | exact H
          have Ny155 := mk0 hy155
          clear hy155
          have H' := mk0 H
          clear H
          have p154 : 0 ≤ (x8_1 : Int) := of_decide_eq_true (by assumption)
          have q154 : x8_1 < (l0.length : Int) := of_decide_eq_true (by assumption)
          obtain ⟨ad154, e154, hx154_0⟩ := Kd.at_int HR0.out x8_1 p154 q154
          cases e154
          replace hx154_0 := (HB.out.cell (World.block_lt_of_cell? w _ hx154_0)).trans hx154_0
          replace p154 := eq_true p154
          replace q154 := eq_true q154
          have p12 : 0 ≤ (x8_1 : Int) := of_decide_eq_true (by assumption)
          have q12 : (x8_1 : Int) < ((x6_1.length : Int) : Int) := of_decide_eq_true (by assumption)
          obtain ⟨go12, co12, eo12, gb12, gl12, cl12, HG12⟩ := Kd.R_form HO_6.out (by omega)
          (first | cases eo12 | (injection eo12 with ea_ en_ ec_; (first | subst ea_ | (injection ea_ with ea_; subst ea_)); subst ec_; clear en_))
          have GB12 := mk0 gb12
          have GG12 := mk0 HG12
          clear gb12 gl12 HG12
          obtain ⟨hx12_0, hf12_0⟩ := Kd.R_celln 0 HO_6.out (x8_1 : Int) p12 q12
          replace p12 := eq_true p12
          replace q12 := eq_true q12
          have HP13 := Kd.R_putg HO_6.out (x8_1 : Int) ((IntKind.u64.wrap (Int.tdiv (Go.bits .or .u64 (IntKind.u64.wrap (x7_1 * 4294967296)) (IntKind.u64.wrap (rd l0 x8_1))) (IntKind.u64.wrap (a1)))) % 4294967296)
          go_wp2_with (first | ((with_reducible refine gate_store (t := 87) (p := 34) rfl ?_); refine store_event (t := 87) (p := 34) (v := ?vo_w14) (w1 := (wr.setCell ⟨go12, (x8_1 : Int).toNat, none⟩ (.int .u32 ((IntKind.u64.wrap (Int.tdiv (Go.bits .or .u64 (IntKind.u64.wrap (x7_1 * 4294967296)) (IntKind.u64.wrap (rd l0 x8_1))) (IntKind.u64.wrap (a1)))) % 4294967296)))) ?hg ?ho ?hn ?hr ?_; (case ho => rfl); (case hg => rfl); (case hn => rfl); (case hr => go_simp <;> rfl); intro w14 hw; have hg : wr.grownBy w14 (some go12) := (by rw [hw]; exact HP13.2); have hp_ : Kd.R (Kd.int .u32) 87 w14 w.heap.size (fun k_ => (w.heap.size ≤ k_)) (.slice (some ⟨go12, 0, none⟩) x6_1.length co12) y155 := (by rw [hw, Ny155.out]; exact HP13.1); clear HP13; replace HO_6 := mk0 (hp_); replace HB := mk0 ((by rw [hw]; exact bS (HB.out) GB12.out : Below w.heap.size w w14)); clear hg hw hp_))
          go_roundg k1
          case measure => have := HK1.out; omega
          case rel => exact ⟨(y155), (Int.tmod (Go.bits .or .u64 (IntKind.u64.wrap (x7_1 * 4294967296)) (IntKind.u64.wrap (rd l0 x8_1))) (IntKind.u64.wrap (a1))), (wrap64 (x8_1 - 1)), (by first | rfl | (simp; done) | (simp [*]; done)), (by first | rfl | (simp; done) | (simp [*]; done)), H', ⟨by have := HK1.out; omega⟩, ⟨HO_6.out⟩, ⟨by repeat (first | exact HB.out | apply bN | apply b1 | apply bA)⟩⟩
         ·rw [if_neg c11] at H
          exact absurd H (by simp)
       ·rw [if_neg c9] at H
        exact absurd H (by simp)
      ·rw [if_neg c8] at H
       exact absurd H (by simp)
     ·rw [if_neg c7] at H
      have c7b0 : decide (0 ≤ x8_1) = false := decide_eq_false c7
      clear c7
      obtain ⟨t156, A15, H⟩ := bindA H
      simp only [Option.some.injEq, Prod.mk.injEq] at H
      obtain ⟨rfl, rfl⟩ := H
      obtain ⟨Ao16, co16, eo16⟩ := Kd.R_slice HO_6.out
      subst eo16
      go_wp2_with (first | ((with_reducible refine gate_callee (f := 81) rfl ?_); refine goA 40 Try.func81 #[.slice Ao16 x6_1.length co16] ?_; (with_reducible refine (nat_trim.calls k1 (fun k_ => some k_ = (.slice Ao16 x6_1.length co16 : Value).ownBlock) _ _ x6_1 t156 _ (by exact Kd.R_V (Kd.R_tight rfl (HO_6.out))) A15.out).mono ?_); rintro e w17 ⟨v157, rfl, ho0, hb⟩; refine ⟨_, rfl, ?_⟩; have HO158 := mk0 (Vl (Vm (ok' := fun k_ => (w.heap.size ≤ k_)) ho0 (fun k_ hk_ => Or.elim hk_ (fun hs_ => ((HO_6.out).1 k_ hs_.symm)) (fun hn_ => (Nat.le_trans (bZ HB.out) hn_)))) (bZ HB.out)); replace HO_6 := rB HO_6 hb; replace HB := hbS HB hb))
      go_ret2
      exact ⟨_, by first | rfl | (simp [errW_none, errW_some] <;> rfl) | (simp [*, errW_none, errW_some] <;> rfl), HO158.out, by repeat (first | exact HB.out | apply bN | apply b1 | apply bA)⟩
  ·rw [if_neg c4] at H
   exact absurd H (by simp)
 ·rw [if_neg c3] at H
  exact absurd H (by simp)
set_option maxHeartbeats 8000000 in
set_option maxRecDepth 100000 in
theorem bits_LeadingZeros32.calls (a0 : Int) (r : Int) (w : World) (h : bits_LeadingZeros32.f a0 = some r) :
  Calls Try.prog 108 #[.int .u32 a0] w fun e w' => e = .returned (.int .i64 r) ∧ Drawn0 w w' := by
 have H : ((bits_Len32.f a0).bind fun t159 => (some (wrap64 (32 - t159)))) = some r := h
 clear h
 obtain ⟨t159, A2, H⟩ := bindA H
 obtain rfl := Option.some.inj H
 go_enter Try.func108, Try.ntmps108
 go_wp2_with (first | ((with_reducible refine gate_callee (f := 93) rfl ?_); refine goA 4 Try.func93 #[.int .u32 a0] ?_; (with_reducible refine (bits_Len32.calls a0 t159 _ A2.out).mono ?_); rintro e w' ⟨rfl, ⟨nd, rfl⟩⟩; refine ⟨_, rfl, ?_⟩))
 go_ret
 exact ⟨by first | rfl | (simp; done) | (simp [*]; done), by repeat (first | exact Drawn0.refl _ | apply Drawn0.step)⟩
set_option maxHeartbeats 8000000 in
set_option maxRecDepth 100000 in
theorem nat_shiftUp.calls (k : Nat) (A0 : Option Addr) (c0 : Nat) (l0 : List Int) (a1 : Int) (r : List Int) (w : World) (hr0 : Kd.C (Kd.int .u32) w A0 l0.length l0) (hc0 : l0.length ≤ c0) (h : nat_shiftUp.f k l0 a1 = some r) :
  Calls Try.prog 109 #[.slice A0 l0.length c0, .int .u64 a1] w fun e w' => ∃ v0_ : Value, e = .returned (v0_) ∧ Kd.R (Kd.int .u32) 87 w' w.heap.size (fun _ => True) v0_ r ∧ Below w.heap.size w w' := by
 have HR0 := mk0 hr0
 have HC0 := mk0 hc0
 clear hr0 hc0
 have HB := mk0 (Below.refl w.heap.size w)
 have H : (if 0 ≤ (wrap64 ((l0.length : Int) + 1)) then (if (wrap64 ((l0.length : Int) + 1) : Int).toNat ≤ 70368744177664 then (nat_shiftUp.l0 k l0 a1 (List.replicate (wrap64 ((l0.length : Int) + 1) : Int).toNat 0) 0 l0 (l0.length : Int) 0) else (none)) else (none)) = some r := h
 clear h
 obtain ⟨ji3, hji3⟩ : ∃ j_ : Int, (wrap64 ((l0.length : Int) + 1)) = j_ := ⟨_, rfl⟩
 replace H : (if 0 ≤ (ji3) then (if (ji3 : Int).toNat ≤ 70368744177664 then (nat_shiftUp.l0 k l0 a1 (List.replicate (ji3 : Int).toNat 0) 0 l0 (l0.length : Int) 0) else (none)) else (none)) = some r := by first | (rw [hji3] at H; exact H) | (simp only [hji3] at H ⊢; exact H)
 have hji3w : (IntKind.i64.wrap ((l0.length : Int) + 1)) = ji3 := (i64_w _).trans hji3
 by_cases c4 : 0 ≤ (ji3)
 ·rw [if_pos c4] at H
  have c4b0 := eq_true c4
  have c4b1 : decide (0 ≤ (ji3)) = true := decide_eq_true c4
  clear c4
  by_cases c5 : (ji3 : Int).toNat ≤ 70368744177664
  ·rw [if_pos c5] at H
   have c5b0 := eq_true c5
   have c5b1 : decide ((ji3 : Int).toNat ≤ 70368744177664) = true := decide_eq_true c5
   clear c5
   obtain ⟨y160, hy160⟩ : ∃ y_ : List Int, y_ = (List.replicate (ji3 : Int).toNat 0) := ⟨_, rfl⟩
   replace H : (nat_shiftUp.l0 k l0 a1 y160 0 l0 (l0.length : Int) 0) = some r := by first | (rw [hy160]; with_reducible exact H) | (have H2_ := (Option.bind_some _ _).symm.trans H; rw [hy160]; with_reducible exact H2_) | (have H2_ := (Option.bind_some _ _).symm.trans H; with_reducible exact H2_) | with_reducible exact H | (rw [hy160]; exact H) | exact H
   have Ny160 := mk0 hy160
   clear hy160
   have H' := mk0 H
   clear H
   go_enter Try.func109, Try.ntmps109
   go_wp2_with (first | ((with_reducible refine gate_dst (N := 12) rfl ?_); refine Kd.R_make (Kd.int .u32) _ 87 rfl (N := 12) rfl 25 _ _ rfl ji3 rfl rfl Try.underlying25 (.int .u32 0) 4 info87 rfl (by decide) (by omega) 0 (ok := fun _ => True) (okp := fun _ => True) rfl (fun _ hk => hk) trivial (of_decide_eq_true (by assumption)) (Nat.le_trans (Nat.mul_le_mul_right _ (of_decide_eq_true (by assumption) : ji3.toNat ≤ 70368744177664)) (by omega)) (Below.refl _ _) (Nat.le_refl _) ?_; intro v161 w6 ho7 hb hg_ hnew_; clear hg_ hnew_; (first | rw [← Ny160.out] at ho7 | (simp only [Int.reduceToNat] at ho7; rw [← Ny160.out] at ho7)); have HO162 := mk0 (Rl ho7 (bZ HB.out)); replace HB := hbS HB hb; clear hb ho7))
   go_loopg [6, 15] k (fun kq v6 v15 w' => ∃ (x5_1 : List Int) (x6_1 : Int) (x15_1 : Int), v6 = .int .u64 x6_1 ∧ v15 = .int .i64 x15_1 ∧ Aside0 (nat_shiftUp.l0 kq l0 a1 x5_1 x6_1 l0 (l0.length : Int) x15_1 = some r) ∧ Aside0 (kq ≤ k) ∧ Aside0 (Kd.R (Kd.int .u32) 87 w' w.heap.size (fun _ => True) v161 x5_1) ∧ Aside0 (Below w.heap.size w w'))
   case atStart => exact ⟨(y160), (0), (0), (by first | rfl | (simp; done) | (simp [*]; done)), (by first | rfl | (simp; done) | (simp [*]; done)), H', ⟨Nat.le_refl _⟩, ⟨HO162.out⟩, ⟨by repeat (first | exact HB.out | apply bN | apply b1 | apply bA)⟩⟩
   case round =>
    clear H'
    try clear c1
    try clear p2
    try clear c4
    try clear c4b0
    try clear c4b1
    try clear c5
    try clear c5b0
    try clear c5b1
    try clear p6
    obtain ⟨x5_1, x6_1, x15_1, rfl, rfl, HA, HK1, HO_5, HB⟩ := hrel
    cases gk with
    | zero => exact absurd HA.out (by simp [nat_shiftUp.l0])
    | succ k1 =>
     have H := HA.out
     clear HA
     simp only [nat_shiftUp.l0] at H
     by_cases c8 : x15_1 < (l0.length : Int)
     ·rw [if_pos c8] at H
      have c8b0 : decide (x15_1 < (l0.length : Int)) = true := decide_eq_true c8
      clear c8
      by_cases c9 : 0 ≤ x15_1
      ·rw [if_pos c9] at H
       have c9b0 : decide (0 ≤ x15_1) = true := decide_eq_true c9
       clear c9
       by_cases c10 : x15_1 < (l0.length : Int)
       ·rw [if_pos c10] at H
        have c10b0 : decide (x15_1 < (l0.length : Int)) = true := decide_eq_true c10
        clear c10
        by_cases c11 : 0 ≤ a1
        ·rw [if_pos c11] at H
         have c11b0 := eq_true c11
         have c11b1 : decide (0 ≤ a1) = true := decide_eq_true c11
         clear c11
         obtain ⟨ji12, hji12⟩ : ∃ j_ : Int, (shl .u64 (IntKind.u64.wrap (rd l0 x15_1)) a1) = j_ := ⟨_, rfl⟩
         replace H : (if x15_1 < (x5_1.length : Int) then (nat_shiftUp.l0 k1 l0 a1 (x5_1.set (x15_1 : Int).toNat ((Go.bits .and .u64 (Go.bits .or .u64 x6_1 (ji12)) 4294967295) % 4294967296)) ((Go.bits .or .u64 x6_1 (ji12)) / 4294967296) l0 (l0.length : Int) (wrap64 (x15_1 + 1))) else (none)) = some r := by first | (rw [hji12] at H; exact H) | (simp only [hji12] at H ⊢; exact H)
         have hji12_ : (IntKind.u64.wrap ((IntKind.u64.wrap (rd l0 x15_1)) * 2 ^ min a1.toNat 64)) = ji12 := hji12
         have hji12z : a1 ≤ 64 → (IntKind.u64.wrap ((IntKind.u64.wrap (rd l0 x15_1)) * 2 ^ a1.toNat)) = ji12 := shl_small hji12
         by_cases c13 : x15_1 < (x5_1.length : Int)
         ·rw [if_pos c13] at H
          have c13b0 : decide (x15_1 < (x5_1.length : Int)) = true := decide_eq_true c13
          clear c13
          obtain ⟨y164, hy164⟩ : ∃ y_ : List Int, y_ = (x5_1.set (x15_1 : Int).toNat ((Go.bits .and .u64 (Go.bits .or .u64 x6_1 (ji12)) 4294967295) % 4294967296)) := ⟨_, rfl⟩
          replace H : (nat_shiftUp.l0 k1 l0 a1 y164 ((Go.bits .or .u64 x6_1 (ji12)) / 4294967296) l0 (l0.length : Int) (wrap64 (x15_1 + 1))) = some r := by first | (rw [hy164]; with_reducible exact H) | (have H2_ := (Option.bind_some _ _).symm.trans H; rw [hy164]; with_reducible exact H2_) | (have H2_ := (Option.bind_some _ _).symm.trans H; with_reducible exact H2_) | with_reducible exact H | (rw [hy164]; exact H) | exact H
          have Ny164 := mk0 hy164
          clear hy164
          have H' := mk0 H
          clear H
          have p163 : 0 ≤ (x15_1 : Int) := of_decide_eq_true (by assumption)
          have q163 : x15_1 < (l0.length : Int) := of_decide_eq_true (by assumption)
          obtain ⟨ad163, e163, hx163_0⟩ := Kd.at_int HR0.out x15_1 p163 q163
          cases e163
          replace hx163_0 := (HB.out.cell (World.block_lt_of_cell? w _ hx163_0)).trans hx163_0
          replace p163 := eq_true p163
          replace q163 := eq_true q163
          have p14 : 0 ≤ (x15_1 : Int) := of_decide_eq_true (by assumption)
          have q14 : (x15_1 : Int) < ((x5_1.length : Int) : Int) := of_decide_eq_true (by assumption)
          obtain ⟨go14, co14, eo14, gb14, gl14, cl14, HG14⟩ := Kd.R_form HO_5.out (by omega)
          (first | cases eo14 | (injection eo14 with ea_ en_ ec_; (first | subst ea_ | (injection ea_ with ea_; subst ea_)); subst ec_; clear en_))
          have GB14 := mk0 gb14
          have GG14 := mk0 HG14
          clear gb14 gl14 HG14
          obtain ⟨hx14_0, hf14_0⟩ := Kd.R_celln 0 HO_5.out (x15_1 : Int) p14 q14
          replace p14 := eq_true p14
          replace q14 := eq_true q14
          have HP15 := Kd.R_putg HO_5.out (x15_1 : Int) ((Go.bits .and .u64 (Go.bits .or .u64 x6_1 (ji12)) 4294967295) % 4294967296)
          go_wp2_with (first | ((with_reducible refine gate_store (t := 87) (p := 31) rfl ?_); refine store_event (t := 87) (p := 31) (v := ?vo_w16) (w1 := (wr.setCell ⟨go14, (x15_1 : Int).toNat, none⟩ (.int .u32 ((Go.bits .and .u64 (Go.bits .or .u64 x6_1 (ji12)) 4294967295) % 4294967296)))) ?hg ?ho ?hn ?hr ?_; (case ho => rfl); (case hg => rfl); (case hn => rfl); (case hr => go_simp <;> rfl); intro w16 hw; have hg : wr.grownBy w16 (some go14) := (by rw [hw]; exact HP15.2); have hp_ : Kd.R (Kd.int .u32) 87 w16 w.heap.size (fun _ => True) (.slice (some ⟨go14, 0, none⟩) x5_1.length co14) y164 := (by rw [hw, Ny164.out]; exact HP15.1); clear HP15; replace HO_5 := mk0 (hp_); replace HB := mk0 ((by rw [hw]; exact bS (HB.out) GB14.out : Below w.heap.size w w16)); clear hg hw hp_))
          go_roundg k1
          case measure => have := HK1.out; omega
          case rel => exact ⟨(y164), ((Go.bits .or .u64 x6_1 (ji12)) / 4294967296), (wrap64 (x15_1 + 1)), (by first | rfl | (simp; done) | (simp only [← hji12] <;> (first | rfl | simp)) | (simp [*]; done)), (by first | rfl | (simp; done) | (simp [*]; done)), H', ⟨by have := HK1.out; omega⟩, ⟨HO_5.out⟩, ⟨by repeat (first | exact HB.out | apply bN | apply b1 | apply bA)⟩⟩
         ·rw [if_neg c13] at H
          exact absurd H (by simp)
        ·rw [if_neg c11] at H
         exact absurd H (by simp)
       ·rw [if_neg c10] at H
        exact absurd H (by simp)
      ·rw [if_neg c9] at H
       exact absurd H (by simp)
     ·rw [if_neg c8] at H
      have c8b0 : decide (x15_1 < (l0.length : Int)) = false := decide_eq_false c8
      clear c8
      by_cases c17 : 0 ≤ (l0.length : Int)
      ·rw [if_pos c17] at H
       have c17b0 : decide (0 ≤ (l0.length : Int)) = true := decide_eq_true c17
       have c17b1 : decide (0 ≤ l0.length) = true := decide_eq_true (by omega)
       clear c17
       by_cases c18 : (l0.length : Int) < (x5_1.length : Int)
       ·rw [if_pos c18] at H
        have c18b0 : decide ((l0.length : Int) < (x5_1.length : Int)) = true := decide_eq_true c18
        have c18b1 : decide (l0.length < x5_1.length) = true := decide_eq_true (Int.ofNat_lt.mp c18)
        clear c18
        obtain ⟨y165, hy165⟩ : ∃ y_ : List Int, y_ = (x5_1.set ((l0.length : Int) : Int).toNat ((x6_1) % 4294967296)) := ⟨_, rfl⟩
        replace H : (some y165) = some r := by first | (rw [hy165]; with_reducible exact H) | (have H2_ := (Option.bind_some _ _).symm.trans H; rw [hy165]; with_reducible exact H2_) | (have H2_ := (Option.bind_some _ _).symm.trans H; with_reducible exact H2_) | with_reducible exact H | (rw [hy165]; exact H) | exact H
        have Ny165 := mk0 hy165
        clear hy165
        obtain rfl := Option.some.inj H
        have p19 : 0 ≤ ((l0.length : Int) : Int) := of_decide_eq_true (by assumption)
        have q19 : ((l0.length : Int) : Int) < ((x5_1.length : Int) : Int) := of_decide_eq_true (by assumption)
        obtain ⟨go19, co19, eo19, gb19, gl19, cl19, HG19⟩ := Kd.R_form HO_5.out (by omega)
        (first | cases eo19 | (injection eo19 with ea_ en_ ec_; (first | subst ea_ | (injection ea_ with ea_; subst ea_)); subst ec_; clear en_))
        have GB19 := mk0 gb19
        have GG19 := mk0 HG19
        clear gb19 gl19 HG19
        obtain ⟨hx19_0, hf19_0⟩ := Kd.R_celln 0 HO_5.out ((l0.length : Int) : Int) p19 q19
        (try simp only [Int.toNat_natCast] at hx19_0 hf19_0)
        replace p19 := eq_true p19
        replace q19 := eq_true q19
        have HP20 := Kd.R_putg HO_5.out ((l0.length : Int) : Int) ((x6_1) % 4294967296)
        go_wp2_with (first | ((with_reducible refine gate_store (t := 87) (p := 40) rfl ?_); refine store_event (t := 87) (p := 40) (v := ?vo_w21) (w1 := (wr.setCell ⟨go19, ((l0.length : Int) : Int).toNat, none⟩ (.int .u32 ((x6_1) % 4294967296)))) ?hg ?ho ?hn ?hr ?_; (case ho => rfl); (case hg => rfl); (case hn => rfl); (case hr => go_simp <;> rfl); intro w21 hw; have hg : wr.grownBy w21 (some go19) := (by rw [hw]; exact HP20.2); have hp_ : Kd.R (Kd.int .u32) 87 w21 w.heap.size (fun _ => True) (.slice (some ⟨go19, 0, none⟩) x5_1.length co19) y165 := (by rw [hw, Ny165.out]; exact HP20.1); clear HP20; replace HO_5 := mk0 (hp_); replace HB := mk0 ((by rw [hw]; exact bS (HB.out) GB19.out : Below w.heap.size w w21)); clear hg hw hp_))
        go_ret
        exact ⟨_, by first | rfl | (simp [errW_none, errW_some] <;> rfl) | (simp only [← hji3]; first | rfl | (simp [errW_none, errW_some] <;> rfl)) | (simp [*, errW_none, errW_some] <;> rfl), HO_5.out, by repeat (first | exact HB.out | apply bN | apply b1 | apply bA)⟩
       ·rw [if_neg c18] at H
        exact absurd H (by simp)
      ·rw [if_neg c17] at H
       exact absurd H (by simp)
  ·rw [if_neg c5] at H
   exact absurd H (by simp)
 ·rw [if_neg c4] at H
  exact absurd H (by simp)
set_option maxHeartbeats 8000000 in
set_option maxRecDepth 100000 in
theorem nat_guess.calls (k : Nat) (a0 : Int) (a1 : Int) (a2 : Int) (a3 : Int) (a4 : Int) (r : Int) (w : World) (h : nat_guess.f k a0 a1 a2 a3 a4 = some r) :
  Calls Try.prog 110 #[.int .u32 a0, .int .u32 a1, .int .u32 a2, .int .u32 a3, .int .u32 a4] w fun e w' => e = .returned (.int .u64 r) ∧ Drawn0 w w' := by
 have H : (if (IntKind.u64.wrap (a3)) = 0 then (none) else (nat_guess.l0 k a2 a3 a4 (IntKind.u64.wrap (Int.tdiv (Go.bits .or .u64 (IntKind.u64.wrap ((IntKind.u64.wrap (a0)) * 4294967296)) (IntKind.u64.wrap (a1))) (IntKind.u64.wrap (a3)))) (Int.tmod (Go.bits .or .u64 (IntKind.u64.wrap ((IntKind.u64.wrap (a0)) * 4294967296)) (IntKind.u64.wrap (a1))) (IntKind.u64.wrap (a3))))) = some r := h
 clear h
 by_cases c6 : (IntKind.u64.wrap (a3)) = 0
 ·rw [if_pos c6] at H
  exact absurd H (by simp)
 ·rw [if_neg c6] at H
  have c6b0 : ((IntKind.u64.wrap (a3)) == 0) = false := beq_eq_false_iff_ne.mpr c6
  have c6b1 : ((IntKind.u64.wrap (a3)) != 0) = true := bne_iff_ne.mpr c6
  have H' := mk0 H
  clear H
  go_enter Try.func110, Try.ntmps110
  go_wp2
  go_loopg [12, 13] k (fun kq v12 v13 w' => ∃ (x12_1 : Int) (x13_1 : Int), v12 = .int .u64 x12_1 ∧ v13 = .int .u64 x13_1 ∧ Aside0 (nat_guess.l0 kq a2 a3 a4 x12_1 x13_1 = some r) ∧ Aside0 (kq ≤ k) ∧ Drawn0 w w')
  case atStart => exact ⟨(IntKind.u64.wrap (Int.tdiv (Go.bits .or .u64 (IntKind.u64.wrap ((IntKind.u64.wrap (a0)) * 4294967296)) (IntKind.u64.wrap (a1))) (IntKind.u64.wrap (a3)))), (Int.tmod (Go.bits .or .u64 (IntKind.u64.wrap ((IntKind.u64.wrap (a0)) * 4294967296)) (IntKind.u64.wrap (a1))) (IntKind.u64.wrap (a3))), (by first | rfl | (simp; done) | (simp [*]; done)), (by first | rfl | (simp; done) | (simp [*]; done)), H', ⟨Nat.le_refl _⟩, by repeat (first | exact Drawn0.refl _ | apply Drawn0.step)⟩
  case round =>
   clear H'
   try clear c1
   try clear p2
   try clear c6
   try clear c6b0
   try clear c6b1
   obtain ⟨x12_1, x13_1, rfl, rfl, HA, HK1, ⟨m1, rfl⟩⟩ := hrel
   cases gk with
   | zero => exact absurd HA.out (by simp [nat_guess.l0])
   | succ k1 =>
    have H := HA.out
    clear HA
    simp only [nat_guess.l0] at H
    have HC7 := mk0 H
    clear H
    go_upto_region 4 with (fail)
    go_cut [41] (fun v41 wc => ∃ (kq : Nat) (x41_6 : Bool), v41 = .bool x41_6 ∧ Aside0 (nat_guess.j1 kq a2 a3 a4 x12_1 x13_1 x41_6 = some r) ∧ Aside0 (kq ≤ k1) ∧ Drawn0 w wc)
    case first =>
     have H := HC7.out
     clear HC7
     by_cases c8 : x12_1 > 4294967295
     ·rw [if_pos c8] at H
      have c8b0 : decide (4294967295 < x12_1) = true := decide_eq_true c8
      clear c8
      (first | rw [c8b0] | (simp only [i64_w, i32_w]; rw [c8b0]) | skip)
      have H' := mk0 H
      clear H
      go_wp2
      go_meet
      case rel => exact ⟨_, (true), (by first | rfl | (simp; done) | (simp [*]; done)), H', ⟨by have := HK1.out; first | omega | exact Nat.le_refl _⟩, by repeat (first | exact Drawn0.refl _ | apply Drawn0.step)⟩
     ·rw [if_neg c8] at H
      have c8b0 : decide (4294967295 < x12_1) = false := decide_eq_false c8
      clear c8
      (first | rw [c8b0] | (simp only [i64_w, i32_w]; rw [c8b0]) | skip)
      have H' := mk0 H
      clear H
      go_wp2
      go_meet
      case rel => exact ⟨_, (decide ((IntKind.u64.wrap (x12_1 * (IntKind.u64.wrap (a4)))) > (Go.bits .or .u64 (IntKind.u64.wrap (x13_1 * 4294967296)) (IntKind.u64.wrap (a2))))), (by first | rfl | (simp; done) | (simp [*]; done)), H', ⟨by have := HK1.out; first | omega | exact Nat.le_refl _⟩, by repeat (first | exact Drawn0.refl _ | apply Drawn0.step)⟩
    case rest =>
     clear HC7
     try clear c1
     try clear p2
     try clear c6
     try clear c6b0
     try clear c6b1
     try clear c8
     try clear c8b0
     try clear p2
     obtain ⟨kq, x41_6, rfl, HA, HJ6, ⟨mc6, rfl⟩⟩ := hcut
     cases kq with
     | zero => exact absurd HA.out (by simp [nat_guess.j1])
     | succ kj6 =>
      have H := HA.out
      clear HA
      simp only [nat_guess.j1] at H
      by_cases c9 : x41_6 = true
      ·subst c9
       have H1 : (if (IntKind.u64.wrap (x13_1 + (IntKind.u64.wrap (a3)))) > 4294967295 then (some (IntKind.u64.wrap (x12_1 - 1))) else (nat_guess.l0 kj6 a2 a3 a4 (IntKind.u64.wrap (x12_1 - 1)) (IntKind.u64.wrap (x13_1 + (IntKind.u64.wrap (a3)))))) = some r := by rw [if_pos rfl] at H; exact H
       clear H
       have H := H1
       clear H1
       by_cases c10 : (IntKind.u64.wrap (x13_1 + (IntKind.u64.wrap (a3)))) > 4294967295
       ·rw [if_pos c10] at H
        have c10b0 : decide (4294967295 < (IntKind.u64.wrap (x13_1 + (IntKind.u64.wrap (a3))))) = true := decide_eq_true c10
        clear c10
        obtain rfl := Option.some.inj H
        go_wp2
        go_ret
        exact ⟨by first | rfl | (simp; done) | (simp [*]; done), by repeat (first | exact Drawn0.refl _ | apply Drawn0.step)⟩
       ·rw [if_neg c10] at H
        have c10b0 : decide (4294967295 < (IntKind.u64.wrap (x13_1 + (IntKind.u64.wrap (a3))))) = false := decide_eq_false c10
        clear c10
        have H' := mk0 H
        clear H
        go_wp2
        go_roundg kj6
        case measure => have := HK1.out; have := HJ6.out; omega
        case rel => exact ⟨(IntKind.u64.wrap (x12_1 - 1)), (IntKind.u64.wrap (x13_1 + (IntKind.u64.wrap (a3)))), (by first | rfl | (simp; done) | (simp [*]; done)), (by first | rfl | (simp; done) | (simp [*]; done)), H', ⟨by have := HK1.out; have := HJ6.out; omega⟩, by repeat (first | exact Drawn0.refl _ | apply Drawn0.step)⟩
      ·replace c9 := Bool.eq_false_iff.mpr c9
       subst c9
       have H1 : (some x12_1) = some r := by rw [if_neg (show ¬ (false = true) by decide)] at H; exact H
       clear H
       have H := H1
       clear H1
       obtain rfl := Option.some.inj H
       go_wp2
       go_ret
       exact ⟨by first | rfl | (simp; done) | (simp [*]; done), by repeat (first | exact Drawn0.refl _ | apply Drawn0.step)⟩
set_option maxHeartbeats 8000000 in
set_option maxRecDepth 100000 in
theorem nat_subtract.calls (k : Nat) (P0_ : Nat → Prop) (u9000_ : Value) (l0 : List Int) (lo hi : Int) (A0 : Option Addr) (n0 c0 : Nat) (A1 : Option Addr) (c1 : Nat) (l1 : List Int) (a2 : Int) (r1 : Bool) (r2 : List Int) (w0 w : World) (hB : Below w0.heap.size w0 w) (ho0 : Kd.R (Kd.int .u32) 87 w w0.heap.size P0_ u9000_ l0) (hw0 : ∀ Au nu cu, u9000_ = .slice Au nu cu → A0 = (if cu = lo.toNat then Au else Au.map (·.add (lo.toNat * 1)))) (hn0 : n0 = hi.toNat - lo.toNat) (hr1 : ∀ W_, Kept w W_ (fun k_ => P0_ k_) → Kd.C (Kd.int .u32) W_ A1 l1.length l1) (hc1 : l1.length ≤ c1) (h : nat_subtract.f k l0 lo hi l1 a2 = some (r1, r2)) :
  Calls Try.prog 111 #[.slice A0 n0 c0, .slice A1 l1.length c1, .int .u64 a2] w fun e w' => e = .returned (.bool r1) ∧ Kd.R (Kd.int .u32) 87 w' w0.heap.size (fun k_ => (P0_ k_ ∨ w.heap.size ≤ k_)) u9000_ r2 ∧ Below w0.heap.size w0 w' ∧ Kept w w' (fun k_ => P0_ k_) := by
 obtain ⟨h0, h⟩ : 0 ≤ lo ∧ (if lo < hi then (if hi ≤ (l0.length : Int) then (nat_subtract.g k ((l0.take hi.toNat).drop lo.toNat) l1 a2).bind (fun t => some (t.1, l0.take lo.toNat ++ t.2 ++ l0.drop hi.toNat)) else none) else none) = some (r1, r2) := by
  unfold nat_subtract.f at h
  by_cases h0 : 0 ≤ lo
  ·exact ⟨h0, by rw [if_pos h0] at h; exact h⟩
  ·rw [if_neg h0] at h; cases h
 obtain ⟨h1, h⟩ : lo < hi ∧ (if hi ≤ (l0.length : Int) then (nat_subtract.g k ((l0.take hi.toNat).drop lo.toNat) l1 a2).bind (fun t => some (t.1, l0.take lo.toNat ++ t.2 ++ l0.drop hi.toNat)) else none) = some (r1, r2) := by
  by_cases h1 : lo < hi
  ·exact ⟨h1, by rw [if_pos h1] at h; exact h⟩
  ·rw [if_neg h1] at h; cases h
 obtain ⟨h2, h⟩ : hi ≤ (l0.length : Int) ∧ (nat_subtract.g k ((l0.take hi.toNat).drop lo.toNat) l1 a2).bind (fun t => some (t.1, l0.take lo.toNat ++ t.2 ++ l0.drop hi.toNat)) = some (r1, r2) := by
  by_cases h2 : hi ≤ (l0.length : Int)
  ·exact ⟨h2, by rw [if_pos h2] at h; exact h⟩
  ·rw [if_neg h2] at h; cases h
 obtain ⟨t0, h3, h⟩ := Option.bind_eq_some_iff.mp h
 obtain ⟨go, co, eo, gb, gl, cl, HG⟩ := Kd.R_form ho0 (by omega)
 subst eo
 have hA := hw0 _ _ _ rfl
 have hco : l0.length ≤ co := (Kd.R_reads' ho0).2.1
 rw [if_neg (by omega)] at hA
 obtain ⟨lon, hlon⟩ : ∃ z, z = lo.toNat := ⟨_, rfl⟩
 have hA' : A0 = some ⟨go, lon, none⟩ := by rw [hA, hlon]; simp [add_plain]
 subst hA'
 clear hA hw0
 obtain ⟨x0, hx0⟩ : ∃ z, z = (l0.take hi.toNat).drop lo.toNat := ⟨_, rfl⟩
 rw [← hx0] at h3
 have hlen : x0.length = n0 := by rw [hx0, hn0, lD, lT]; omega
 obtain ⟨pre, hpre⟩ : ∃ z, z = l0.take lo.toNat := ⟨_, rfl⟩
 obtain ⟨post, hpost⟩ : ∃ z, z = l0.drop hi.toNat := ⟨_, rfl⟩
 have hall : pre ++ x0 ++ post = l0 := by
  rw [hpre, hx0, hpost, List.append_assoc]
  have e1 : (l0.take hi.toNat).drop lo.toNat ++ l0.drop hi.toNat = l0.drop lo.toNat := by
   have e2 : l0.drop lo.toNat = ((l0.take hi.toNat) ++ l0.drop hi.toNat).drop lo.toNat := by rw [List.take_append_drop]
   rw [e2, List.drop_append_of_le_length (by rw [lT]; omega)]
  rw [e1, List.take_append_drop]
 have HW := mk0 (show Win .u32 87 w w0.heap.size (fun k_ => (P0_ k_ ∨ w.heap.size ≤ k_)) go co lon n0 pre post x0 from ⟨by rw [hpre, hlon, lT]; omega, hlen, by rw [hall]; exact Rm ho0 (fun k_ hk => .inl hk)⟩)
 have HLN := mk0 (show (l0.length = (pre ++ x0 ++ post).length) from by rw [hall])
 have HQ0 := mk0 (show some (r1, r2) = some (r1, r2) from rfl)
 rw [← hpre, ← hpost] at h
 have HH := mk0 h
 have HR1 := mk0 hr1
 have HC1 := mk0 hc1
 have GB := mk0 gb
 have HN1 := mk0 (show (1 : Int) ≤ n0 from by omega)
 clear hr1 hc1 h hall hpre hpost hx0 hlen hn0 hlon h0 h1 h2 hco gb gl HG ho0
 have HK := mk0 (Kept.refl w (fun k_ => P0_ k_))
 have HW0 := mk0 hB.size
 have HB := mk0 hB
 clear hB
 have H' := mk0 (show nat_subtract.l0 k x0 l1 a2 0 0 l1 (l1.length : Int) 0 = some t0 from h3)
 clear h3
 go_enter Try.func111, Try.ntmps111
 go_wp2
 go_loopg [7, 8, 15] k (fun kq v7 v8 v15 w' => ∃ (x0_1 : List Int) (x7_1 : Int) (x8_1 : Int) (x15_1 : Int), v7 = .int .u64 x7_1 ∧ v8 = .int .u64 x8_1 ∧ v15 = .int .i64 x15_1 ∧ Aside0 (nat_subtract.l0 kq x0_1 l1 a2 x7_1 x8_1 l1 (l1.length : Int) x15_1 = some t0) ∧ Aside0 (kq ≤ k) ∧ Aside0 (Win .u32 87 w' w0.heap.size (fun k_ => (P0_ k_ ∨ w.heap.size ≤ k_)) go co lon n0 pre post x0_1) ∧ Aside0 (Kept w w' (fun k_ => P0_ k_)) ∧ Aside0 (Below w0.heap.size w0 w'))
 case atStart => exact ⟨x0, (0), (0), (0), (by first | rfl | (simp; done) | (simp [*]; done)), (by first | rfl | (simp; done) | (simp [*]; done)), (by first | rfl | (simp; done) | (simp [*]; done)), H', ⟨Nat.le_refl _⟩, ⟨HW.out⟩, ⟨by repeat (first | exact HK.out | apply bN | apply b1 | apply bA)⟩, ⟨by repeat (first | exact HB.out | apply bN | apply b1 | apply bA)⟩⟩
 case round =>
  obtain ⟨x0_1, x7_1, x8_1, x15_1, rfl, rfl, rfl, HA, HK1, HO_0, HK, HB⟩ := hrel
  have HX := mk0 HO_0.out.2.1
  have HLNX := mk0 (show x0.length = x0_1.length by have a_ := HW.out.2.1; have b_ := HX.out; omega)
  cases gk with
  | zero => exact absurd HA.out (by simp [nat_subtract.l0])
  | succ k1 =>
   have H := HA.out
   clear HA
   simp only [nat_subtract.l0] at H
   by_cases c4 : x15_1 < (l1.length : Int)
   ·rw [if_pos c4] at H
    have c4b0 : decide (x15_1 < (l1.length : Int)) = true := decide_eq_true c4
    by_cases c5 : 0 ≤ x15_1
    ·rw [if_pos c5, if_pos c4] at H
     have c5b0 : decide (0 ≤ x15_1) = true := decide_eq_true c5
     by_cases c7 : x15_1 < (x0_1.length : Int)
     ·rw [if_pos c7] at H
      have HI0 := mk0 c5
      have HI1 := mk0 (show x15_1 < (n0 : Int) by have := HX.out; omega)
      have q166 : x15_1 < (l1.length : Int) := c4
      have p166 : 0 ≤ (x15_1 : Int) := c5
      obtain ⟨ad166, e166, hx166_0⟩ := Kd.at_int (Kd.C_kept_now HR1.out HK.out) x15_1 p166 q166
      cases e166
      have q167 : x15_1 < (n0 : Int) := HI1.out
      have q167b : decide (x15_1 < (n0 : Int)) = true := decide_eq_true q167
      clear c4 c5 c7
      have H' := mk0 H
      clear H
      obtain ⟨hx8_0, hf8_0⟩ := Win.at_ HO_0.out x15_1 HI0.out HI1.out
      replace p166 := eq_true p166
      replace q166 := eq_true q166
      replace q167 := eq_true q167
      have hp9_ := Win.put HO_0.out (x15_1) HI0.out HI1.out ((Go.bits .and .u64 (IntKind.u64.wrap ((IntKind.u64.wrap ((IntKind.u64.wrap (rd x0_1 x15_1)) - x7_1)) - (Go.bits .and .u64 (IntKind.u64.wrap (x8_1 + (IntKind.u64.wrap (a2 * (IntKind.u64.wrap (rd l1 x15_1)))))) 4294967295))) 4294967295) % 4294967296)
      have HMg := mk0 (show (P0_ go ∨ w.heap.size ≤ go) from Win.mine HO_0.out)
      have HP_ := mk0 hp9_
      clear hp9_
      go_wp2_with (first | ((with_reducible refine gate_store (t := 87) (p := 41) rfl ?_); refine store_event (t := 87) (p := 41) (v := ?vo_) (w1 := (wr.setCell ⟨go, lon + (x15_1 : Int).toNat, none⟩ (.int .u32 ((Go.bits .and .u64 (IntKind.u64.wrap ((IntKind.u64.wrap ((IntKind.u64.wrap (rd x0_1 x15_1)) - x7_1)) - (Go.bits .and .u64 (IntKind.u64.wrap (x8_1 + (IntKind.u64.wrap (a2 * (IntKind.u64.wrap (rd l1 x15_1)))))) 4294967295))) 4294967295) % 4294967296)))) ?hg ?ho ?hn ?hr ?_; (case ho => rfl); (case hg => rfl); (case hn => rfl); (case hr => go_simp <;> rfl); intro w11 hw; have hg : wr.grownBy w11 (some go) := (by rw [hw]; exact HP_.out.2); have hp_ : Win .u32 87 w11 w0.heap.size (fun k_ => (P0_ k_ ∨ w.heap.size ≤ k_)) go co lon n0 pre post (x0_1.set (x15_1 : Int).toNat ((Go.bits .and .u64 (IntKind.u64.wrap ((IntKind.u64.wrap ((IntKind.u64.wrap (rd x0_1 x15_1)) - x7_1)) - (Go.bits .and .u64 (IntKind.u64.wrap (x8_1 + (IntKind.u64.wrap (a2 * (IntKind.u64.wrap (rd l1 x15_1)))))) 4294967295))) 4294967295) % 4294967296)) := (by rw [hw]; exact HP_.out.1); clear HP_; replace HO_0 := mk0 (hp_); replace HB := mk0 ((by rw [hw]; exact bS (HB.out) GB.out : Below w0.heap.size w0 w11)); replace HK := mk0 (Kept.of_grown (S := (fun k_ => P0_ k_)) hg HK.out (fun k_ e_ => by cases e_; exact HMg.out)); clear hg hw hp_))
      go_roundg k1
      case measure => have := HK1.out; omega
      case rel => exact ⟨_, ((IntKind.u64.wrap ((IntKind.u64.wrap ((IntKind.u64.wrap (rd x0_1 x15_1)) - x7_1)) - (Go.bits .and .u64 (IntKind.u64.wrap (x8_1 + (IntKind.u64.wrap (a2 * (IntKind.u64.wrap (rd l1 x15_1)))))) 4294967295))) / 9223372036854775808), ((IntKind.u64.wrap (x8_1 + (IntKind.u64.wrap (a2 * (IntKind.u64.wrap (rd l1 x15_1)))))) / 4294967296), (wrap64 (x15_1 + 1)), (by first | rfl | (simp; done) | (simp [*]; done)), (by first | rfl | (simp; done) | (simp [*]; done)), (by first | rfl | (simp; done) | (simp [*]; done)), H', ⟨by have := HK1.out; omega⟩, ⟨HO_0.out⟩, ⟨by repeat (first | exact HK.out | apply bN | apply b1 | apply bA)⟩, ⟨by repeat (first | exact HB.out | apply bN | apply b1 | apply bA)⟩⟩
     ·rw [if_neg c7] at H
      exact absurd H (by simp)
    ·rw [if_neg c5] at H
     exact absurd H (by simp)
   ·rw [if_neg c4] at H
    have c4b0 : decide (x15_1 < (l1.length : Int)) = false := decide_eq_false c4
    clear c4
    by_cases c12 : 0 ≤ (l1.length : Int)
    ·rw [if_pos c12] at H
     have c12b0 : decide (0 ≤ (l1.length : Int)) = true := decide_eq_true c12
     have c12b1 : decide (0 ≤ l1.length) = true := decide_eq_true (by omega)
     by_cases c13 : (l1.length : Int) < (x0_1.length : Int)
     ·rw [if_pos c13] at H
      have HI0 := mk0 c12
      have HI1 := mk0 (show (l1.length : Int) < (n0 : Int) by have := HX.out; omega)
      have c13b0 : decide ((l1.length : Int) < (n0 : Int)) = true := decide_eq_true HI1.out
      have c13b1 : decide (l1.length < n0) = true := decide_eq_true (by have := HI1.out; omega)
      have q169 : (l1.length : Int) < (n0 : Int) := HI1.out
      clear c12 c13
      have HE := mk0 (Option.some.inj H)
      clear H
      obtain ⟨hx14_0, hf14_0⟩ := Win.at_ HO_0.out (l1.length : Int) HI0.out HI1.out
      (try simp only [Int.toNat_natCast] at hx14_0 hf14_0)
      replace q169 := eq_true q169
      have hp9_ := Win.put HO_0.out ((l1.length : Int)) HI0.out HI1.out ((Go.bits .and .u64 (IntKind.u64.wrap ((IntKind.u64.wrap ((IntKind.u64.wrap (rd x0_1 (l1.length : Int))) - x7_1)) - x8_1)) 4294967295) % 4294967296)
      have HMg := mk0 (show (P0_ go ∨ w.heap.size ≤ go) from Win.mine HO_0.out)
      (try simp only [Int.toNat_natCast] at hp9_)
      have HP_ := mk0 hp9_
      clear hp9_
      go_wp2_with (first | ((with_reducible refine gate_store (t := 87) (p := 63) rfl ?_); refine store_event (t := 87) (p := 63) (v := ?vo_b) (w1 := (wr.setCell ⟨go, lon + l1.length, none⟩ (.int .u32 ((Go.bits .and .u64 (IntKind.u64.wrap ((IntKind.u64.wrap ((IntKind.u64.wrap (rd x0_1 (l1.length : Int))) - x7_1)) - x8_1)) 4294967295) % 4294967296)))) ?hg ?ho ?hn ?hr ?_; (case ho => rfl); (case hg => rfl); (case hn => rfl); (case hr => go_simp <;> rfl); intro w11 hw; have hg : wr.grownBy w11 (some go) := (by rw [hw]; exact HP_.out.2); have hp_ : Win .u32 87 w11 w0.heap.size (fun k_ => (P0_ k_ ∨ w.heap.size ≤ k_)) go co lon n0 pre post (x0_1.set l1.length ((Go.bits .and .u64 (IntKind.u64.wrap ((IntKind.u64.wrap ((IntKind.u64.wrap (rd x0_1 (l1.length : Int))) - x7_1)) - x8_1)) 4294967295) % 4294967296)) := (by rw [hw]; exact HP_.out.1); clear HP_; replace HO_0 := mk0 (hp_); replace HB := mk0 ((by rw [hw]; exact bS (HB.out) GB.out : Below w0.heap.size w0 w11)); replace HK := mk0 (Kept.of_grown (S := (fun k_ => P0_ k_)) hg HK.out (fun k_ e_ => by cases e_; exact HMg.out)); clear hg hw hp_))
      have HF := mk0 (show Kd.R (Kd.int .u32) 87 _ w0.heap.size (fun k_ => (P0_ k_ ∨ w.heap.size ≤ k_)) (.slice (some ⟨go, 0, none⟩) l0.length co) (pre ++ (x0_1.set l1.length ((Go.bits .and .u64 (IntKind.u64.wrap ((IntKind.u64.wrap ((IntKind.u64.wrap (rd x0_1 (l1.length : Int))) - x7_1)) - x8_1)) 4294967295) % 4294967296)) ++ post) from by rw [HLN.out]; have z_ := HO_0.out.2.2; simpa [List.length_set, HLNX.out] using z_)
      go_ret
      have hh := HH.out
      have he := HE.out
      simp only [Int.toNat_natCast] at he
      subst he
      simp only [Option.some.injEq, Prod.mk.injEq] at hh
      obtain ⟨rfl, rfl⟩ := hh
      exact ⟨by first | rfl | (simp; done) | (simp [*]; done), HF.out, by repeat (first | exact HB.out | apply bN | apply b1 | apply bA), by repeat (first | exact HK.out | apply bN | apply b1 | apply bA)⟩
     ·rw [if_neg c13] at H
      exact absurd H (by simp)
    ·rw [if_neg c12] at H
     exact absurd H (by simp)
set_option maxHeartbeats 8000000 in
set_option maxRecDepth 100000 in
theorem nat_addBack.calls (k : Nat) (P0_ : Nat → Prop) (u9000_ : Value) (l0 : List Int) (lo hi : Int) (A0 : Option Addr) (n0 c0 : Nat) (A1 : Option Addr) (c1 : Nat) (l1 : List Int) (r : List Int) (w0 w : World) (hB : Below w0.heap.size w0 w) (ho0 : Kd.R (Kd.int .u32) 87 w w0.heap.size P0_ u9000_ l0) (hw0 : ∀ Au nu cu, u9000_ = .slice Au nu cu → A0 = (if cu = lo.toNat then Au else Au.map (·.add (lo.toNat * 1)))) (hn0 : n0 = hi.toNat - lo.toNat) (hr1 : ∀ W_, Kept w W_ (fun k_ => P0_ k_) → Kd.C (Kd.int .u32) W_ A1 l1.length l1) (hc1 : l1.length ≤ c1) (h : nat_addBack.f k l0 lo hi l1 = some r) :
  Calls Try.prog 112 #[.slice A0 n0 c0, .slice A1 l1.length c1] w fun e w' => e = .returned (.tuple #[]) ∧ Kd.R (Kd.int .u32) 87 w' w0.heap.size (fun k_ => (P0_ k_ ∨ w.heap.size ≤ k_)) u9000_ r ∧ Below w0.heap.size w0 w' ∧ Kept w w' (fun k_ => P0_ k_) := by
 obtain ⟨h0, h⟩ : 0 ≤ lo ∧ (if lo < hi then (if hi ≤ (l0.length : Int) then (nat_addBack.g k ((l0.take hi.toNat).drop lo.toNat) l1).bind (fun t => some (l0.take lo.toNat ++ t ++ l0.drop hi.toNat)) else none) else none) = some r := by
  unfold nat_addBack.f at h
  by_cases h0 : 0 ≤ lo
  ·exact ⟨h0, by rw [if_pos h0] at h; exact h⟩
  ·rw [if_neg h0] at h; cases h
 obtain ⟨h1, h⟩ : lo < hi ∧ (if hi ≤ (l0.length : Int) then (nat_addBack.g k ((l0.take hi.toNat).drop lo.toNat) l1).bind (fun t => some (l0.take lo.toNat ++ t ++ l0.drop hi.toNat)) else none) = some r := by
  by_cases h1 : lo < hi
  ·exact ⟨h1, by rw [if_pos h1] at h; exact h⟩
  ·rw [if_neg h1] at h; cases h
 obtain ⟨h2, h⟩ : hi ≤ (l0.length : Int) ∧ (nat_addBack.g k ((l0.take hi.toNat).drop lo.toNat) l1).bind (fun t => some (l0.take lo.toNat ++ t ++ l0.drop hi.toNat)) = some r := by
  by_cases h2 : hi ≤ (l0.length : Int)
  ·exact ⟨h2, by rw [if_pos h2] at h; exact h⟩
  ·rw [if_neg h2] at h; cases h
 obtain ⟨t0, h3, h⟩ := Option.bind_eq_some_iff.mp h
 obtain ⟨go, co, eo, gb, gl, cl, HG⟩ := Kd.R_form ho0 (by omega)
 subst eo
 have hA := hw0 _ _ _ rfl
 have hco : l0.length ≤ co := (Kd.R_reads' ho0).2.1
 rw [if_neg (by omega)] at hA
 obtain ⟨lon, hlon⟩ : ∃ z, z = lo.toNat := ⟨_, rfl⟩
 have hA' : A0 = some ⟨go, lon, none⟩ := by rw [hA, hlon]; simp [add_plain]
 subst hA'
 clear hA hw0
 obtain ⟨x0, hx0⟩ : ∃ z, z = (l0.take hi.toNat).drop lo.toNat := ⟨_, rfl⟩
 rw [← hx0] at h3
 have hlen : x0.length = n0 := by rw [hx0, hn0, lD, lT]; omega
 obtain ⟨pre, hpre⟩ : ∃ z, z = l0.take lo.toNat := ⟨_, rfl⟩
 obtain ⟨post, hpost⟩ : ∃ z, z = l0.drop hi.toNat := ⟨_, rfl⟩
 have hall : pre ++ x0 ++ post = l0 := by
  rw [hpre, hx0, hpost, List.append_assoc]
  have e1 : (l0.take hi.toNat).drop lo.toNat ++ l0.drop hi.toNat = l0.drop lo.toNat := by
   have e2 : l0.drop lo.toNat = ((l0.take hi.toNat) ++ l0.drop hi.toNat).drop lo.toNat := by rw [List.take_append_drop]
   rw [e2, List.drop_append_of_le_length (by rw [lT]; omega)]
  rw [e1, List.take_append_drop]
 have HW := mk0 (show Win .u32 87 w w0.heap.size (fun k_ => (P0_ k_ ∨ w.heap.size ≤ k_)) go co lon n0 pre post x0 from ⟨by rw [hpre, hlon, lT]; omega, hlen, by rw [hall]; exact Rm ho0 (fun k_ hk => .inl hk)⟩)
 have HLN := mk0 (show (l0.length = (pre ++ x0 ++ post).length) from by rw [hall])
 have HQ0 := mk0 (show some r = some r from rfl)
 rw [← hpre, ← hpost] at h
 have HH := mk0 h
 have HR1 := mk0 hr1
 have HC1 := mk0 hc1
 have GB := mk0 gb
 have HN1 := mk0 (show (1 : Int) ≤ n0 from by omega)
 clear hr1 hc1 h hall hpre hpost hx0 hlen hn0 hlon h0 h1 h2 hco gb gl HG ho0
 have HK := mk0 (Kept.refl w (fun k_ => P0_ k_))
 have HW0 := mk0 hB.size
 have HB := mk0 hB
 clear hB
 have H' := mk0 (show nat_addBack.l0 k x0 l1 0 l1 (l1.length : Int) 0 = some t0 from h3)
 clear h3
 go_enter Try.func112, Try.ntmps112
 go_wp2
 go_loopg [4, 9] k (fun kq v4 v9 w' => ∃ (x0_1 : List Int) (x4_1 : Int) (x9_1 : Int), v4 = .int .u64 x4_1 ∧ v9 = .int .i64 x9_1 ∧ Aside0 (nat_addBack.l0 kq x0_1 l1 x4_1 l1 (l1.length : Int) x9_1 = some t0) ∧ Aside0 (kq ≤ k) ∧ Aside0 (Win .u32 87 w' w0.heap.size (fun k_ => (P0_ k_ ∨ w.heap.size ≤ k_)) go co lon n0 pre post x0_1) ∧ Aside0 (Kept w w' (fun k_ => P0_ k_)) ∧ Aside0 (Below w0.heap.size w0 w'))
 case atStart => exact ⟨x0, (0), (0), (by first | rfl | (simp; done) | (simp [*]; done)), (by first | rfl | (simp; done) | (simp [*]; done)), H', ⟨Nat.le_refl _⟩, ⟨HW.out⟩, ⟨by repeat (first | exact HK.out | apply bN | apply b1 | apply bA)⟩, ⟨by repeat (first | exact HB.out | apply bN | apply b1 | apply bA)⟩⟩
 case round =>
  obtain ⟨x0_1, x4_1, x9_1, rfl, rfl, HA, HK1, HO_0, HK, HB⟩ := hrel
  have HX := mk0 HO_0.out.2.1
  have HLNX := mk0 (show x0.length = x0_1.length by have a_ := HW.out.2.1; have b_ := HX.out; omega)
  cases gk with
  | zero => exact absurd HA.out (by simp [nat_addBack.l0])
  | succ k1 =>
   have H := HA.out
   clear HA
   simp only [nat_addBack.l0] at H
   by_cases c4 : x9_1 < (l1.length : Int)
   ·rw [if_pos c4] at H
    have c4b0 : decide (x9_1 < (l1.length : Int)) = true := decide_eq_true c4
    by_cases c5 : 0 ≤ x9_1
    ·rw [if_pos c5, if_pos c4] at H
     have c5b0 : decide (0 ≤ x9_1) = true := decide_eq_true c5
     by_cases c7 : x9_1 < (x0_1.length : Int)
     ·rw [if_pos c7] at H
      have HI0 := mk0 c5
      have HI1 := mk0 (show x9_1 < (n0 : Int) by have := HX.out; omega)
      have q166 : x9_1 < (l1.length : Int) := c4
      have p166 : 0 ≤ (x9_1 : Int) := c5
      obtain ⟨ad166, e166, hx166_0⟩ := Kd.at_int (Kd.C_kept_now HR1.out HK.out) x9_1 p166 q166
      cases e166
      have q167 : x9_1 < (n0 : Int) := HI1.out
      have q167b : decide (x9_1 < (n0 : Int)) = true := decide_eq_true q167
      clear c4 c5 c7
      have H' := mk0 H
      clear H
      obtain ⟨hx8_0, hf8_0⟩ := Win.at_ HO_0.out x9_1 HI0.out HI1.out
      replace p166 := eq_true p166
      replace q166 := eq_true q166
      replace q167 := eq_true q167
      have hp9_ := Win.put HO_0.out (x9_1) HI0.out HI1.out ((Go.bits .and .u64 (IntKind.u64.wrap (x4_1 + (IntKind.u64.wrap ((IntKind.u64.wrap (rd x0_1 x9_1)) + (IntKind.u64.wrap (rd l1 x9_1)))))) 4294967295) % 4294967296)
      have HMg := mk0 (show (P0_ go ∨ w.heap.size ≤ go) from Win.mine HO_0.out)
      have HP_ := mk0 hp9_
      clear hp9_
      go_wp2_with (first | ((with_reducible refine gate_store (t := 87) (p := 29) rfl ?_); refine store_event (t := 87) (p := 29) (v := ?vo_) (w1 := (wr.setCell ⟨go, lon + (x9_1 : Int).toNat, none⟩ (.int .u32 ((Go.bits .and .u64 (IntKind.u64.wrap (x4_1 + (IntKind.u64.wrap ((IntKind.u64.wrap (rd x0_1 x9_1)) + (IntKind.u64.wrap (rd l1 x9_1)))))) 4294967295) % 4294967296)))) ?hg ?ho ?hn ?hr ?_; (case ho => rfl); (case hg => rfl); (case hn => rfl); (case hr => go_simp <;> rfl); intro w11 hw; have hg : wr.grownBy w11 (some go) := (by rw [hw]; exact HP_.out.2); have hp_ : Win .u32 87 w11 w0.heap.size (fun k_ => (P0_ k_ ∨ w.heap.size ≤ k_)) go co lon n0 pre post (x0_1.set (x9_1 : Int).toNat ((Go.bits .and .u64 (IntKind.u64.wrap (x4_1 + (IntKind.u64.wrap ((IntKind.u64.wrap (rd x0_1 x9_1)) + (IntKind.u64.wrap (rd l1 x9_1)))))) 4294967295) % 4294967296)) := (by rw [hw]; exact HP_.out.1); clear HP_; replace HO_0 := mk0 (hp_); replace HB := mk0 ((by rw [hw]; exact bS (HB.out) GB.out : Below w0.heap.size w0 w11)); replace HK := mk0 (Kept.of_grown (S := (fun k_ => P0_ k_)) hg HK.out (fun k_ e_ => by cases e_; exact HMg.out)); clear hg hw hp_))
      go_roundg k1
      case measure => have := HK1.out; omega
      case rel => exact ⟨_, ((IntKind.u64.wrap (x4_1 + (IntKind.u64.wrap ((IntKind.u64.wrap (rd x0_1 x9_1)) + (IntKind.u64.wrap (rd l1 x9_1)))))) / 4294967296), (wrap64 (x9_1 + 1)), (by first | rfl | (simp; done) | (simp [*]; done)), (by first | rfl | (simp; done) | (simp [*]; done)), H', ⟨by have := HK1.out; omega⟩, ⟨HO_0.out⟩, ⟨by repeat (first | exact HK.out | apply bN | apply b1 | apply bA)⟩, ⟨by repeat (first | exact HB.out | apply bN | apply b1 | apply bA)⟩⟩
     ·rw [if_neg c7] at H
      exact absurd H (by simp)
    ·rw [if_neg c5] at H
     exact absurd H (by simp)
   ·rw [if_neg c4] at H
    have c4b0 : decide (x9_1 < (l1.length : Int)) = false := decide_eq_false c4
    clear c4
    by_cases c12 : 0 ≤ (l1.length : Int)
    ·rw [if_pos c12] at H
     have c12b0 : decide (0 ≤ (l1.length : Int)) = true := decide_eq_true c12
     have c12b1 : decide (0 ≤ l1.length) = true := decide_eq_true (by omega)
     by_cases c13 : (l1.length : Int) < (x0_1.length : Int)
     ·rw [if_pos c13] at H
      have HI0 := mk0 c12
      have HI1 := mk0 (show (l1.length : Int) < (n0 : Int) by have := HX.out; omega)
      have c13b0 : decide ((l1.length : Int) < (n0 : Int)) = true := decide_eq_true HI1.out
      have c13b1 : decide (l1.length < n0) = true := decide_eq_true (by have := HI1.out; omega)
      have q169 : (l1.length : Int) < (n0 : Int) := HI1.out
      clear c12 c13
      have HE := mk0 (Option.some.inj H)
      clear H
      obtain ⟨hx14_0, hf14_0⟩ := Win.at_ HO_0.out (l1.length : Int) HI0.out HI1.out
      (try simp only [Int.toNat_natCast] at hx14_0 hf14_0)
      replace q169 := eq_true q169
      have hp9_ := Win.put HO_0.out ((l1.length : Int)) HI0.out HI1.out ((rd x0_1 (l1.length : Int) + x4_1) % 4294967296)
      have HMg := mk0 (show (P0_ go ∨ w.heap.size ≤ go) from Win.mine HO_0.out)
      (try simp only [Int.toNat_natCast] at hp9_)
      have HP_ := mk0 hp9_
      clear hp9_
      go_wp2_with (first | ((with_reducible refine gate_store (t := 87) (p := 41) rfl ?_); refine store_event (t := 87) (p := 41) (v := ?vo_b) (w1 := (wr.setCell ⟨go, lon + l1.length, none⟩ (.int .u32 ((rd x0_1 (l1.length : Int) + x4_1) % 4294967296)))) ?hg ?ho ?hn ?hr ?_; (case ho => rfl); (case hg => rfl); (case hn => rfl); (case hr => go_simp <;> rfl); intro w11 hw; have hg : wr.grownBy w11 (some go) := (by rw [hw]; exact HP_.out.2); have hp_ : Win .u32 87 w11 w0.heap.size (fun k_ => (P0_ k_ ∨ w.heap.size ≤ k_)) go co lon n0 pre post (x0_1.set l1.length ((rd x0_1 (l1.length : Int) + x4_1) % 4294967296)) := (by rw [hw]; exact HP_.out.1); clear HP_; replace HO_0 := mk0 (hp_); replace HB := mk0 ((by rw [hw]; exact bS (HB.out) GB.out : Below w0.heap.size w0 w11)); replace HK := mk0 (Kept.of_grown (S := (fun k_ => P0_ k_)) hg HK.out (fun k_ e_ => by cases e_; exact HMg.out)); clear hg hw hp_))
      have HF := mk0 (show Kd.R (Kd.int .u32) 87 _ w0.heap.size (fun k_ => (P0_ k_ ∨ w.heap.size ≤ k_)) (.slice (some ⟨go, 0, none⟩) l0.length co) (pre ++ (x0_1.set l1.length ((rd x0_1 (l1.length : Int) + x4_1) % 4294967296)) ++ post) from by rw [HLN.out]; have z_ := HO_0.out.2.2; simpa [List.length_set, HLNX.out] using z_)
      first | go_end0 | ((try simp only [Exit.inBlock, Exit.then]); refine bodyPost_ret (results_none rfl _ _ _) rfl ?_)
      have hh := HH.out
      have he := HE.out
      simp only [Int.add_emod_emod, Int.toNat_natCast] at he
      subst he
      obtain rfl := Option.some.inj hh
      exact ⟨by first | rfl | (simp; done) | (simp [*]; done), HF.out, by repeat (first | exact HB.out | apply bN | apply b1 | apply bA), by repeat (first | exact HK.out | apply bN | apply b1 | apply bA)⟩
     ·rw [if_neg c13] at H
      exact absurd H (by simp)
    ·rw [if_neg c12] at H
     exact absurd H (by simp)
set_option maxHeartbeats 8000000 in
set_option maxRecDepth 100000 in
theorem nat_shiftDown.calls (k : Nat) (A0 : Option Addr) (c0 : Nat) (l0 : List Int) (a1 : Int) (r : List Int) (w : World) (hr0 : Kd.C (Kd.int .u32) w A0 l0.length l0) (hc0 : l0.length ≤ c0) (h : nat_shiftDown.f k l0 a1 = some r) :
  Calls Try.prog 113 #[.slice A0 l0.length c0, .int .u64 a1] w fun e w' => ∃ v0_ : Value, e = .returned (v0_) ∧ Kd.V (Kd.int .u32) 87 w' w.heap.size (fun k_ => (w.heap.size ≤ k_)) v0_ r ∧ Below w.heap.size w w' := by
 have HR0 := mk0 hr0
 have HC0 := mk0 hc0
 clear hr0 hc0
 have HB := mk0 (Below.refl w.heap.size w)
 have H : (if 0 ≤ (l0.length : Int) then (if ((l0.length : Int) : Int).toNat ≤ 70368744177664 then (nat_shiftDown.l0 k l0 a1 (List.replicate ((l0.length : Int) : Int).toNat 0) (l0.length : Int) 0) else (none)) else (none)) = some r := h
 clear h
 by_cases c3 : 0 ≤ (l0.length : Int)
 ·rw [if_pos c3] at H
  have c3b0 := eq_true c3
  have c3b1 : decide (0 ≤ (l0.length : Int)) = true := decide_eq_true c3
  clear c3
  by_cases c4 : ((l0.length : Int) : Int).toNat ≤ 70368744177664
  ·rw [if_pos c4] at H
   have c4b0 := eq_true c4
   have c4b1 : decide (((l0.length : Int) : Int).toNat ≤ 70368744177664) = true := decide_eq_true c4
   clear c4
   obtain ⟨y166, hy166⟩ : ∃ y_ : List Int, y_ = (List.replicate ((l0.length : Int) : Int).toNat 0) := ⟨_, rfl⟩
   replace H : (nat_shiftDown.l0 k l0 a1 y166 (l0.length : Int) 0) = some r := by first | (rw [hy166]; with_reducible exact H) | (have H2_ := (Option.bind_some _ _).symm.trans H; rw [hy166]; with_reducible exact H2_) | (have H2_ := (Option.bind_some _ _).symm.trans H; with_reducible exact H2_) | with_reducible exact H | (rw [hy166]; exact H) | exact H
   have Ny166 := mk0 hy166
   clear hy166
   have H' := mk0 H
   clear H
   go_enter Try.func113, Try.ntmps113
   go_wp2_with (first | ((with_reducible refine gate_dst (N := 10) rfl ?_); refine Kd.R_make (Kd.int .u32) _ 87 rfl (N := 10) rfl 25 _ _ rfl (l0.length : Int) rfl rfl Try.underlying25 (.int .u32 0) 4 info87 rfl (by decide) (by omega) 0 (ok := fun _ => True) (okp := fun _ => True) rfl (fun _ hk => hk) trivial (of_decide_eq_true (by assumption)) (Nat.le_trans (Nat.mul_le_mul_right _ (of_decide_eq_true (by assumption) : (l0.length : Int).toNat ≤ 70368744177664)) (by omega)) (Below.refl _ _) (Nat.le_refl _) ?_; intro v167 w5 ho6 hb hg_ hnew_; clear hg_ hnew_; (first | rw [← Ny166.out] at ho6 | (simp only [Int.reduceToNat] at ho6; rw [← Ny166.out] at ho6)); have HO168 := mk0 (Rl (Kd.R_newM (M := fun k_ => (w.heap.size ≤ k_)) ho6 (bZ HB.out) (fun k_ h_ => h_)) (bZ HB.out)); replace HB := hbS HB hb; clear hb ho6))
   go_loopg [13] k (fun kq v13 w' => ∃ (x5_1 : List Int) (x13_1 : Int), v13 = .int .i64 x13_1 ∧ Aside0 (nat_shiftDown.l0 kq l0 a1 x5_1 (l0.length : Int) x13_1 = some r) ∧ Aside0 (kq ≤ k) ∧ Aside0 (Kd.R (Kd.int .u32) 87 w' w.heap.size (fun k_ => (w.heap.size ≤ k_)) v167 x5_1) ∧ Aside0 (Below w.heap.size w w'))
   case atStart => exact ⟨(y166), (0), (by first | rfl | (simp; done) | (simp [*]; done)), H', ⟨Nat.le_refl _⟩, ⟨Rm HO168.out (fun _ hk => hk.1)⟩, ⟨by repeat (first | exact HB.out | apply bN | apply b1 | apply bA)⟩⟩
   case round =>
    clear H'
    try clear c1
    try clear p2
    try clear c3
    try clear c3b0
    try clear c3b1
    try clear c4
    try clear c4b0
    try clear c4b1
    obtain ⟨x5_1, x13_1, rfl, HA, HK1, HO_5, HB⟩ := hrel
    cases gk with
    | zero => exact absurd HA.out (by simp [nat_shiftDown.l0])
    | succ k1 =>
     have H := HA.out
     clear HA
     simp only [nat_shiftDown.l0] at H
     by_cases c7 : x13_1 < (l0.length : Int)
     ·rw [if_pos c7] at H
      have c7b0 : decide (x13_1 < (l0.length : Int)) = true := decide_eq_true c7
      clear c7
      by_cases c8 : 0 ≤ x13_1
      ·rw [if_pos c8] at H
       have c8b0 : decide (0 ≤ x13_1) = true := decide_eq_true c8
       clear c8
       by_cases c9 : x13_1 < (l0.length : Int)
       ·rw [if_pos c9] at H
        have c9b0 : decide (x13_1 < (l0.length : Int)) = true := decide_eq_true c9
        clear c9
        by_cases c10 : (wrap64 (x13_1 + 1)) < (l0.length : Int)
        ·rw [if_pos c10] at H
         have c10b0 : decide ((wrap64 (x13_1 + 1)) < (l0.length : Int)) = true := decide_eq_true c10
         clear c10
         obtain ⟨ji11, hji11⟩ : ∃ j_ : Int, (wrap64 (x13_1 + 1)) = j_ := ⟨_, rfl⟩
         replace H : (if 0 ≤ (ji11) then (if 0 ≤ a1 then (if x13_1 < (x5_1.length : Int) then (nat_shiftDown.l0 k1 l0 a1 (x5_1.set (x13_1 : Int).toNat ((Go.bits .and .u64 (shr .u64 (Go.bits .or .u64 (IntKind.u64.wrap (rd l0 x13_1)) (IntKind.u64.wrap ((IntKind.u64.wrap (rd l0 (ji11))) * 4294967296))) a1) 4294967295) % 4294967296)) (l0.length : Int) ji11) else (none)) else (none)) else (none)) = some r := by first | (rw [hji11] at H; exact H) | (simp only [hji11] at H ⊢; exact H)
         (try rw [hji11] at c10b0)
         have hji11w : (IntKind.i64.wrap (x13_1 + 1)) = ji11 := (i64_w _).trans hji11
         by_cases c12 : 0 ≤ (ji11)
         ·rw [if_pos c12] at H
          have c12b0 : decide (0 ≤ (ji11)) = true := decide_eq_true c12
          clear c12
          by_cases c13 : 0 ≤ a1
          ·rw [if_pos c13] at H
           have c13b0 := eq_true c13
           have c13b1 : decide (0 ≤ a1) = true := decide_eq_true c13
           clear c13
           obtain ⟨ji14, hji14⟩ : ∃ j_ : Int, (shr .u64 (Go.bits .or .u64 (IntKind.u64.wrap (rd l0 x13_1)) (IntKind.u64.wrap ((IntKind.u64.wrap (rd l0 (ji11))) * 4294967296))) a1) = j_ := ⟨_, rfl⟩
           replace H : (if x13_1 < (x5_1.length : Int) then (nat_shiftDown.l0 k1 l0 a1 (x5_1.set (x13_1 : Int).toNat ((Go.bits .and .u64 (ji14) 4294967295) % 4294967296)) (l0.length : Int) ji11) else (none)) = some r := by first | (rw [hji14] at H; exact H) | (simp only [hji14] at H ⊢; exact H)
           have hji14_ : ((Go.bits .or .u64 (IntKind.u64.wrap (rd l0 x13_1)) (IntKind.u64.wrap ((IntKind.u64.wrap (rd l0 (ji11))) * 4294967296))) / 2 ^ min a1.toNat 64) = ji14 := hji14
           have hji14z : a1 ≤ 64 → ((Go.bits .or .u64 (IntKind.u64.wrap (rd l0 x13_1)) (IntKind.u64.wrap ((IntKind.u64.wrap (rd l0 (ji11))) * 4294967296))) / 2 ^ a1.toNat) = ji14 := shr_small hji14
           by_cases c15 : x13_1 < (x5_1.length : Int)
           ·rw [if_pos c15] at H
            have c15b0 : decide (x13_1 < (x5_1.length : Int)) = true := decide_eq_true c15
            clear c15
            obtain ⟨y171, hy171⟩ : ∃ y_ : List Int, y_ = (x5_1.set (x13_1 : Int).toNat ((Go.bits .and .u64 (ji14) 4294967295) % 4294967296)) := ⟨_, rfl⟩
            replace H : (nat_shiftDown.l0 k1 l0 a1 y171 (l0.length : Int) ji11) = some r := by first | (rw [hy171]; with_reducible exact H) | (have H2_ := (Option.bind_some _ _).symm.trans H; rw [hy171]; with_reducible exact H2_) | (have H2_ := (Option.bind_some _ _).symm.trans H; with_reducible exact H2_) | with_reducible exact H | (rw [hy171]; exact H) | exact H
            have Ny171 := mk0 hy171
            clear hy171
            have H' := mk0 H
            clear H
            have p169 : 0 ≤ (x13_1 : Int) := of_decide_eq_true (by assumption)
            have q169 : x13_1 < (l0.length : Int) := of_decide_eq_true (by assumption)
            obtain ⟨ad169, e169, hx169_0⟩ := Kd.at_int HR0.out x13_1 p169 q169
            cases e169
            replace hx169_0 := (HB.out.cell (World.block_lt_of_cell? w _ hx169_0)).trans hx169_0
            replace p169 := eq_true p169
            replace q169 := eq_true q169
            have p170 : 0 ≤ ((ji11) : Int) := of_decide_eq_true (by assumption)
            have q170 : (ji11) < (l0.length : Int) := of_decide_eq_true (by assumption)
            obtain ⟨ad170, e170, hx170_0⟩ := Kd.at_int HR0.out (ji11) p170 q170
            obtain rfl : ad169 = ad170 := (by injection e170)
            replace hx170_0 := (HB.out.cell (World.block_lt_of_cell? w _ hx170_0)).trans hx170_0
            replace p170 := eq_true p170
            replace q170 := eq_true q170
            have p16 : 0 ≤ (x13_1 : Int) := of_decide_eq_true (by assumption)
            have q16 : (x13_1 : Int) < ((x5_1.length : Int) : Int) := of_decide_eq_true (by assumption)
            obtain ⟨go16, co16, eo16, gb16, gl16, cl16, HG16⟩ := Kd.R_form HO_5.out (by omega)
            (first | cases eo16 | (injection eo16 with ea_ en_ ec_; (first | subst ea_ | (injection ea_ with ea_; subst ea_)); subst ec_; clear en_))
            have GB16 := mk0 gb16
            have GG16 := mk0 HG16
            clear gb16 gl16 HG16
            obtain ⟨hx16_0, hf16_0⟩ := Kd.R_celln 0 HO_5.out (x13_1 : Int) p16 q16
            replace p16 := eq_true p16
            replace q16 := eq_true q16
            have HP17 := Kd.R_putg HO_5.out (x13_1 : Int) ((Go.bits .and .u64 (ji14) 4294967295) % 4294967296)
            go_wp2_with (first | ((with_reducible refine gate_store (t := 87) (p := 42) rfl ?_); refine store_event (t := 87) (p := 42) (v := ?vo_w18) (w1 := (wr.setCell ⟨go16, (x13_1 : Int).toNat, none⟩ (.int .u32 ((Go.bits .and .u64 (ji14) 4294967295) % 4294967296)))) ?hg ?ho ?hn ?hr ?_; (case ho => rfl); (case hg => rfl); (case hn => rfl); (case hr => go_simp <;> rfl); intro w18 hw; have hg : wr.grownBy w18 (some go16) := (by rw [hw]; exact HP17.2); have hp_ : Kd.R (Kd.int .u32) 87 w18 w.heap.size (fun k_ => (w.heap.size ≤ k_)) (.slice (some ⟨go16, 0, none⟩) x5_1.length co16) y171 := (by rw [hw, Ny171.out]; exact HP17.1); clear HP17; replace HO_5 := mk0 (hp_); replace HB := mk0 ((by rw [hw]; exact bS (HB.out) GB16.out : Below w.heap.size w w18)); clear hg hw hp_))
            go_roundg k1
            case measure => have := HK1.out; omega
            case rel => exact ⟨(y171), (ji11), (by first | rfl | (simp; done) | (simp only [← hji11] <;> (first | rfl | simp)) | (simp [*]; done)), H', ⟨by have := HK1.out; omega⟩, ⟨HO_5.out⟩, ⟨by repeat (first | exact HB.out | apply bN | apply b1 | apply bA)⟩⟩
           ·rw [if_neg c15] at H
            exact absurd H (by simp)
          ·rw [if_neg c13] at H
           exact absurd H (by simp)
         ·rw [if_neg c12] at H
          exact absurd H (by simp)
        ·rw [if_neg c10] at H
         have c10b0 : decide ((wrap64 (x13_1 + 1)) < (l0.length : Int)) = false := decide_eq_false c10
         clear c10
         by_cases c19 : 0 ≤ a1
         ·rw [if_pos c19] at H
          have c19b0 := eq_true c19
          have c19b1 : decide (0 ≤ a1) = true := decide_eq_true c19
          clear c19
          obtain ⟨ji20, hji20⟩ : ∃ j_ : Int, (shr .u64 (IntKind.u64.wrap (rd l0 x13_1)) a1) = j_ := ⟨_, rfl⟩
          replace H : (if x13_1 < (x5_1.length : Int) then (nat_shiftDown.l0 k1 l0 a1 (x5_1.set (x13_1 : Int).toNat ((Go.bits .and .u64 (ji20) 4294967295) % 4294967296)) (l0.length : Int) (wrap64 (x13_1 + 1))) else (none)) = some r := by first | (rw [hji20] at H; exact H) | (simp only [hji20] at H ⊢; exact H)
          have hji20_ : ((IntKind.u64.wrap (rd l0 x13_1)) / 2 ^ min a1.toNat 64) = ji20 := hji20
          have hji20z : a1 ≤ 64 → ((IntKind.u64.wrap (rd l0 x13_1)) / 2 ^ a1.toNat) = ji20 := shr_small hji20
          by_cases c21 : x13_1 < (x5_1.length : Int)
          ·rw [if_pos c21] at H
           have c21b0 : decide (x13_1 < (x5_1.length : Int)) = true := decide_eq_true c21
           clear c21
           obtain ⟨y172, hy172⟩ : ∃ y_ : List Int, y_ = (x5_1.set (x13_1 : Int).toNat ((Go.bits .and .u64 (ji20) 4294967295) % 4294967296)) := ⟨_, rfl⟩
           replace H : (nat_shiftDown.l0 k1 l0 a1 y172 (l0.length : Int) (wrap64 (x13_1 + 1))) = some r := by first | (rw [hy172]; with_reducible exact H) | (have H2_ := (Option.bind_some _ _).symm.trans H; rw [hy172]; with_reducible exact H2_) | (have H2_ := (Option.bind_some _ _).symm.trans H; with_reducible exact H2_) | with_reducible exact H | (rw [hy172]; exact H) | exact H
           have Ny172 := mk0 hy172
           clear hy172
           have H' := mk0 H
           clear H
           have p169 : 0 ≤ (x13_1 : Int) := of_decide_eq_true (by assumption)
           have q169 : x13_1 < (l0.length : Int) := of_decide_eq_true (by assumption)
           obtain ⟨ad169, e169, hx169_0⟩ := Kd.at_int HR0.out x13_1 p169 q169
           cases e169
           replace hx169_0 := (HB.out.cell (World.block_lt_of_cell? w _ hx169_0)).trans hx169_0
           replace p169 := eq_true p169
           replace q169 := eq_true q169
           have p22 : 0 ≤ (x13_1 : Int) := of_decide_eq_true (by assumption)
           have q22 : (x13_1 : Int) < ((x5_1.length : Int) : Int) := of_decide_eq_true (by assumption)
           obtain ⟨go22, co22, eo22, gb22, gl22, cl22, HG22⟩ := Kd.R_form HO_5.out (by omega)
           (first | cases eo22 | (injection eo22 with ea_ en_ ec_; (first | subst ea_ | (injection ea_ with ea_; subst ea_)); subst ec_; clear en_))
           have GB22 := mk0 gb22
           have GG22 := mk0 HG22
           clear gb22 gl22 HG22
           obtain ⟨hx22_0, hf22_0⟩ := Kd.R_celln 0 HO_5.out (x13_1 : Int) p22 q22
           replace p22 := eq_true p22
           replace q22 := eq_true q22
           have HP23 := Kd.R_putg HO_5.out (x13_1 : Int) ((Go.bits .and .u64 (ji20) 4294967295) % 4294967296)
           go_wp2_with (first | ((with_reducible refine gate_store (t := 87) (p := 42) rfl ?_); refine store_event (t := 87) (p := 42) (v := ?vo_w24) (w1 := (wr.setCell ⟨go22, (x13_1 : Int).toNat, none⟩ (.int .u32 ((Go.bits .and .u64 (ji20) 4294967295) % 4294967296)))) ?hg ?ho ?hn ?hr ?_; (case ho => rfl); (case hg => rfl); (case hn => rfl); (case hr => go_simp <;> rfl); intro w24 hw; have hg : wr.grownBy w24 (some go22) := (by rw [hw]; exact HP23.2); have hp_ : Kd.R (Kd.int .u32) 87 w24 w.heap.size (fun k_ => (w.heap.size ≤ k_)) (.slice (some ⟨go22, 0, none⟩) x5_1.length co22) y172 := (by rw [hw, Ny172.out]; exact HP23.1); clear HP23; replace HO_5 := mk0 (hp_); replace HB := mk0 ((by rw [hw]; exact bS (HB.out) GB22.out : Below w.heap.size w w24)); clear hg hw hp_))
           go_roundg k1
           case measure => have := HK1.out; omega
           case rel => exact ⟨(y172), (wrap64 (x13_1 + 1)), (by first | rfl | (simp; done) | (simp [*]; done)), H', ⟨by have := HK1.out; omega⟩, ⟨HO_5.out⟩, ⟨by repeat (first | exact HB.out | apply bN | apply b1 | apply bA)⟩⟩
          ·rw [if_neg c21] at H
           exact absurd H (by simp)
         ·rw [if_neg c19] at H
          exact absurd H (by simp)
       ·rw [if_neg c9] at H
        exact absurd H (by simp)
      ·rw [if_neg c8] at H
       exact absurd H (by simp)
     ·rw [if_neg c7] at H
      have c7b0 : decide (x13_1 < (l0.length : Int)) = false := decide_eq_false c7
      clear c7
      obtain ⟨t173, A25, H⟩ := bindA H
      obtain rfl := Option.some.inj H
      obtain ⟨Ao26, co26, eo26⟩ := Kd.R_slice HO_5.out
      subst eo26
      go_wp2_with (first | ((with_reducible refine gate_callee (f := 81) rfl ?_); refine goA 45 Try.func81 #[.slice Ao26 x5_1.length co26] ?_; (with_reducible refine (nat_trim.calls k1 (fun k_ => some k_ = (.slice Ao26 x5_1.length co26 : Value).ownBlock) _ _ x5_1 t173 _ (by exact Kd.R_V (Kd.R_tight rfl (HO_5.out))) A25.out).mono ?_); rintro e w27 ⟨v174, rfl, ho0, hb⟩; refine ⟨_, rfl, ?_⟩; have HO175 := mk0 (Vl (Vm (ok' := fun k_ => (w.heap.size ≤ k_)) ho0 (fun k_ hk_ => Or.elim hk_ (fun hs_ => ((HO_5.out).1 k_ hs_.symm)) (fun hn_ => (Nat.le_trans (bZ HB.out) hn_)))) (bZ HB.out)); replace HO_5 := rB HO_5 hb; replace HB := hbS HB hb))
      go_ret
      exact ⟨_, by first | rfl | (simp [errW_none, errW_some] <;> rfl) | (simp [*, errW_none, errW_some] <;> rfl), HO175.out, by repeat (first | exact HB.out | apply bN | apply b1 | apply bA)⟩
  ·rw [if_neg c4] at H
   exact absurd H (by simp)
 ·rw [if_neg c3] at H
  exact absurd H (by simp)
end Go.Proofs.Ythamhjmhgcpdgaa.Q
end
