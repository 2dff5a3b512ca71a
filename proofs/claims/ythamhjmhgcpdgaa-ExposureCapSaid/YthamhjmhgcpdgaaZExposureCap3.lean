/- Lemmas and contracts for the law ExposureCap: words of the print, contracts of the functions that the law reaches, and what these compute, as far as the law needs them; packed by a program of this session. -/
import Derived.Test.YthamhjmhgcpdgaaZExposureCap2
section
namespace Go.Proofs.Ythamhjmhgcpdgaa.Q
open Go.RowKit Go.Proofs.YthamhjmhgcpdgaaW.PrintWords Go.Proofs.YthamhjmhgcpdgaaW.PrintLast Go.Proofs.YthamhjmhgcpdgaaW.PrintMore Go.Proofs.Ythamhjmhgcpdgaa.MyWords
attribute [local go_sem] max2_int min2_int max_two min_two
set_option linter.unusedVariables false
set_option linter.unusedSimpArgs false
set_option maxHeartbeats 8000000 in
set_option maxRecDepth 100000 in
theorem slices_Index_int_int.calls (k : Nat) (A0 : Option Addr) (c0 : Nat) (l0 : List Int) (a1 : Int) (r : Int) (w : World) (hr0 : Kd.C (Kd.int .i64) w A0 l0.length l0) (hc0 : l0.length ≤ c0) (h : slices_Index_int_int.f k l0 a1 = some r) :
  Calls Try.prog 70 #[.slice A0 l0.length c0, .int .i64 a1] w fun e w' => e = .returned (.int .i64 r) ∧ Drawn0 w w' := by
 have HR0 := mk0 hr0
 have HC0 := mk0 hc0
 clear hr0 hc0
 have H : (slices_Index_int_int.l0 k l0 a1 (l0.length : Int) 0) = some r := h
 clear h
 have H' := mk0 H
 clear H
 go_enter Try.func70, Try.ntmps70
 go_wp2
 go_loopg [8] k (fun kq v8 w' => ∃ (x8_1 : Int), v8 = .int .i64 x8_1 ∧ Aside0 (slices_Index_int_int.l0 kq l0 a1 (l0.length : Int) x8_1 = some r) ∧ Aside0 (kq ≤ k) ∧ Drawn0 w w')
 case atStart => exact ⟨(0), (by first | rfl | (simp; done) | (simp [*]; done)), H', ⟨Nat.le_refl _⟩, by repeat (first | exact Drawn0.refl _ | apply Drawn0.step)⟩
 case round =>
  clear H'
  try clear p2
  obtain ⟨x8_1, rfl, HA, HK1, ⟨m1, rfl⟩⟩ := hrel
  cases gk with
  | zero => exact absurd HA.out (by simp [slices_Index_int_int.l0])
  | succ k1 =>
   have H := HA.out
   clear HA
   simp only [slices_Index_int_int.l0] at H
   by_cases c3 : x8_1 < (l0.length : Int)
   ·rw [if_pos c3] at H
    have c3b0 : decide (x8_1 < (l0.length : Int)) = true := decide_eq_true c3
    clear c3
    by_cases c4 : 0 ≤ x8_1
    ·rw [if_pos c4] at H
     have c4b0 : decide (0 ≤ x8_1) = true := decide_eq_true c4
     clear c4
     by_cases c5 : x8_1 < (l0.length : Int)
     ·rw [if_pos c5] at H
      have c5b0 : decide (x8_1 < (l0.length : Int)) = true := decide_eq_true c5
      clear c5
      by_cases c6 : a1 = (rd l0 x8_1)
      ·rw [if_pos c6] at H
       have c6b0 : (a1 == (rd l0 x8_1)) = true := beq_iff_eq.mpr c6
       have c6b1 : (a1 != (rd l0 x8_1)) = false := bne_eq_false_iff_eq.mpr c6
       clear c6
       obtain rfl := Option.some.inj H
       have p1054 : 0 ≤ (x8_1 : Int) := of_decide_eq_true (by assumption)
       have q1054 : x8_1 < (l0.length : Int) := of_decide_eq_true (by assumption)
       obtain ⟨ad1054, e1054, hx1054_0⟩ := Kd.at_int HR0.out x8_1 p1054 q1054
       cases e1054
       replace p1054 := eq_true p1054
       replace q1054 := eq_true q1054
       go_wp2
       go_ret
       exact ⟨by first | rfl | (simp; done) | (simp [*]; done), by repeat (first | exact Drawn0.refl _ | apply Drawn0.step)⟩
      ·rw [if_neg c6] at H
       have c6b0 : (a1 == (rd l0 x8_1)) = false := beq_eq_false_iff_ne.mpr c6
       have c6b1 : (a1 != (rd l0 x8_1)) = true := bne_iff_ne.mpr c6
       have H' := mk0 H
       clear H
       have p1054 : 0 ≤ (x8_1 : Int) := of_decide_eq_true (by assumption)
       have q1054 : x8_1 < (l0.length : Int) := of_decide_eq_true (by assumption)
       obtain ⟨ad1054, e1054, hx1054_0⟩ := Kd.at_int HR0.out x8_1 p1054 q1054
       cases e1054
       replace p1054 := eq_true p1054
       replace q1054 := eq_true q1054
       go_wp2
       go_roundg k1
       case measure => have := HK1.out; omega
       case rel => exact ⟨(wrap64 (x8_1 + 1)), (by first | rfl | (simp; done) | (simp [*]; done)), H', ⟨by have := HK1.out; omega⟩, by repeat (first | exact Drawn0.refl _ | apply Drawn0.step)⟩
     ·rw [if_neg c5] at H
      exact absurd H (by simp)
    ·rw [if_neg c4] at H
     exact absurd H (by simp)
   ·rw [if_neg c3] at H
    have c3b0 : decide (x8_1 < (l0.length : Int)) = false := decide_eq_false c3
    clear c3
    obtain rfl := Option.some.inj H
    go_wp2
    go_ret
    exact ⟨by first | rfl | (simp; done) | (simp [*]; done), by repeat (first | exact Drawn0.refl _ | apply Drawn0.step)⟩
set_option maxHeartbeats 8000000 in
set_option maxRecDepth 100000 in
theorem slices_Contains_int_int.calls (k : Nat) (A0 : Option Addr) (c0 : Nat) (l0 : List Int) (a1 : Int) (r : Bool) (w : World) (hr0 : Kd.C (Kd.int .i64) w A0 l0.length l0) (hc0 : l0.length ≤ c0) (h : slices_Contains_int_int.f k l0 a1 = some r) :
  Calls Try.prog 42 #[.slice A0 l0.length c0, .int .i64 a1] w fun e w' => e = .returned (.bool r) ∧ Drawn0 w w' := by
 have HR0 := mk0 hr0
 have HC0 := mk0 hc0
 clear hr0 hc0
 have H : ((slices_Index_int_int.f k l0 a1).bind fun t1055 => (some (decide (t1055 ≥ 0)))) = some r := h
 clear h
 obtain ⟨t1055, A3, H⟩ := bindA H
 obtain rfl := Option.some.inj H
 go_enter Try.func42, Try.ntmps42
 go_wp2_with (first | ((with_reducible refine gate_callee (f := 70) rfl ?_); refine goA 7 Try.func70 #[.slice A0 l0.length c0, .int .i64 a1] ?_; (with_reducible refine (slices_Index_int_int.calls k _ _ l0 a1 t1055 _ HR0.out HC0.out A3.out).mono ?_); rintro e w' ⟨rfl, ⟨nd, rfl⟩⟩; refine ⟨_, rfl, ?_⟩))
 go_ret
 exact ⟨by first | rfl | (simp; done) | (simp [*]; done), by repeat (first | exact Drawn0.refl _ | apply Drawn0.step)⟩
set_option maxHeartbeats 8000000 in
set_option maxRecDepth 100000 in
theorem cmp_isNaN_int.calls (a0 : Int) (r : Bool) (w : World) (h : cmp_isNaN_int.f a0 = some r) :
  Calls Try.prog 71 #[.int .i64 a0] w fun e w' => e = .returned (.bool r) ∧ Drawn0 w w' := by
 have H : (some (a0 != a0)) = some r := h
 clear h
 obtain rfl := Option.some.inj H
 go_enter Try.func71, Try.ntmps71
 go_wp2
 go_ret
 exact ⟨by first | rfl | (simp; done) | (simp [*]; done), by repeat (first | exact Drawn0.refl _ | apply Drawn0.step)⟩
set_option maxHeartbeats 8000000 in
set_option maxRecDepth 100000 in
theorem cmp_Compare_int.calls (a0 : Int) (a1 : Int) (r : Int) (w : World) (h : cmp_Compare_int.f a0 a1 = some r) :
  Calls Try.prog 46 #[.int .i64 a0, .int .i64 a1] w fun e w' => e = .returned (.int .i64 r) ∧ Drawn0 w w' := by
 have H : ((cmp_isNaN_int.f a0).bind fun t1070 => ((cmp_isNaN_int.f a1).bind fun t1071 => (if t1070 = true then (if t1071 = true then (some 0) else (some (-1))) else (if t1071 = true then (some 1) else (if a0 < a1 then (some (-1)) else (if a0 > a1 then (some 1) else (some 0))))))) = some r := h
 clear h
 obtain ⟨t1070, A3, H⟩ := bindA H
 obtain ⟨t1071, A4, H⟩ := bindA H
 by_cases c5 : t1070 = true
 ·subst c5
  have H1 : (if t1071 = true then (some 0) else (some (-1))) = some r := by rw [if_pos rfl] at H; exact H
  clear H
  have H := H1
  clear H1
  by_cases c6 : t1071 = true
  ·subst c6
   have H1 : (some 0) = some r := by rw [if_pos rfl] at H; exact H
   clear H
   have H := H1
   clear H1
   obtain rfl := Option.some.inj H
   go_enter Try.func46, Try.ntmps46
   go_wp2_with (first | ((with_reducible refine gate_callee (f := 71) rfl ?_); refine goA 8 Try.func71 #[.int .i64 a0] ?_; (with_reducible refine (cmp_isNaN_int.calls a0 true _ A3.out).mono ?_); rintro e w' ⟨rfl, ⟨nd, rfl⟩⟩; refine ⟨_, rfl, ?_⟩) | ((with_reducible refine gate_callee (f := 71) rfl ?_); refine goA 10 Try.func71 #[.int .i64 a1] ?_; (with_reducible refine (cmp_isNaN_int.calls a1 true _ A4.out).mono ?_); rintro e w' ⟨rfl, ⟨nd, rfl⟩⟩; refine ⟨_, rfl, ?_⟩))
   go_ret
   exact ⟨by first | rfl | (simp; done) | (simp [*]; done), by repeat (first | exact Drawn0.refl _ | apply Drawn0.step)⟩
  ·replace c6 := Bool.eq_false_iff.mpr c6
   subst c6
   have H1 : (some (-1)) = some r := by rw [if_neg (show ¬ (false = true) by decide)] at H; exact H
   clear H
   have H := H1
   clear H1
   obtain rfl := Option.some.inj H
   go_enter Try.func46, Try.ntmps46
   go_wp2_with (first | ((with_reducible refine gate_callee (f := 71) rfl ?_); refine goA 8 Try.func71 #[.int .i64 a0] ?_; (with_reducible refine (cmp_isNaN_int.calls a0 true _ A3.out).mono ?_); rintro e w' ⟨rfl, ⟨nd, rfl⟩⟩; refine ⟨_, rfl, ?_⟩) | ((with_reducible refine gate_callee (f := 71) rfl ?_); refine goA 10 Try.func71 #[.int .i64 a1] ?_; (with_reducible refine (cmp_isNaN_int.calls a1 false _ A4.out).mono ?_); rintro e w' ⟨rfl, ⟨nd, rfl⟩⟩; refine ⟨_, rfl, ?_⟩))
   go_ret
   exact ⟨by first | rfl | (simp; done) | (simp [*]; done), by repeat (first | exact Drawn0.refl _ | apply Drawn0.step)⟩
 ·replace c5 := Bool.eq_false_iff.mpr c5
  subst c5
  have H1 : (if t1071 = true then (some 1) else (if a0 < a1 then (some (-1)) else (if a0 > a1 then (some 1) else (some 0)))) = some r := by rw [if_neg (show ¬ (false = true) by decide)] at H; exact H
  clear H
  have H := H1
  clear H1
  by_cases c7 : t1071 = true
  ·subst c7
   have H1 : (some 1) = some r := by rw [if_pos rfl] at H; exact H
   clear H
   have H := H1
   clear H1
   obtain rfl := Option.some.inj H
   go_enter Try.func46, Try.ntmps46
   go_wp2_with (first | ((with_reducible refine gate_callee (f := 71) rfl ?_); refine goA 8 Try.func71 #[.int .i64 a0] ?_; (with_reducible refine (cmp_isNaN_int.calls a0 false _ A3.out).mono ?_); rintro e w' ⟨rfl, ⟨nd, rfl⟩⟩; refine ⟨_, rfl, ?_⟩) | ((with_reducible refine gate_callee (f := 71) rfl ?_); refine goA 10 Try.func71 #[.int .i64 a1] ?_; (with_reducible refine (cmp_isNaN_int.calls a1 true _ A4.out).mono ?_); rintro e w' ⟨rfl, ⟨nd, rfl⟩⟩; refine ⟨_, rfl, ?_⟩))
   go_ret
   exact ⟨by first | rfl | (simp; done) | (simp [*]; done), by repeat (first | exact Drawn0.refl _ | apply Drawn0.step)⟩
  ·replace c7 := Bool.eq_false_iff.mpr c7
   subst c7
   have H1 : (if a0 < a1 then (some (-1)) else (if a0 > a1 then (some 1) else (some 0))) = some r := by rw [if_neg (show ¬ (false = true) by decide)] at H; exact H
   clear H
   have H := H1
   clear H1
   by_cases c8 : a0 < a1
   ·rw [if_pos c8] at H
    have c8b0 : decide (a0 < a1) = true := decide_eq_true c8
    clear c8
    obtain rfl := Option.some.inj H
    go_enter Try.func46, Try.ntmps46
    go_wp2_with (first | ((with_reducible refine gate_callee (f := 71) rfl ?_); refine goA 8 Try.func71 #[.int .i64 a0] ?_; (with_reducible refine (cmp_isNaN_int.calls a0 false _ A3.out).mono ?_); rintro e w' ⟨rfl, ⟨nd, rfl⟩⟩; refine ⟨_, rfl, ?_⟩) | ((with_reducible refine gate_callee (f := 71) rfl ?_); refine goA 10 Try.func71 #[.int .i64 a1] ?_; (with_reducible refine (cmp_isNaN_int.calls a1 false _ A4.out).mono ?_); rintro e w' ⟨rfl, ⟨nd, rfl⟩⟩; refine ⟨_, rfl, ?_⟩))
    go_ret
    exact ⟨by first | rfl | (simp; done) | (simp [*]; done), by repeat (first | exact Drawn0.refl _ | apply Drawn0.step)⟩
   ·rw [if_neg c8] at H
    have c8b0 : decide (a0 < a1) = false := decide_eq_false c8
    clear c8
    by_cases c9 : a0 > a1
    ·rw [if_pos c9] at H
     have c9b0 : decide (a1 < a0) = true := decide_eq_true c9
     clear c9
     obtain rfl := Option.some.inj H
     go_enter Try.func46, Try.ntmps46
     go_wp2_with (first | ((with_reducible refine gate_callee (f := 71) rfl ?_); refine goA 8 Try.func71 #[.int .i64 a0] ?_; (with_reducible refine (cmp_isNaN_int.calls a0 false _ A3.out).mono ?_); rintro e w' ⟨rfl, ⟨nd, rfl⟩⟩; refine ⟨_, rfl, ?_⟩) | ((with_reducible refine gate_callee (f := 71) rfl ?_); refine goA 10 Try.func71 #[.int .i64 a1] ?_; (with_reducible refine (cmp_isNaN_int.calls a1 false _ A4.out).mono ?_); rintro e w' ⟨rfl, ⟨nd, rfl⟩⟩; refine ⟨_, rfl, ?_⟩))
     go_ret
     exact ⟨by first | rfl | (simp; done) | (simp [*]; done), by repeat (first | exact Drawn0.refl _ | apply Drawn0.step)⟩
    ·rw [if_neg c9] at H
     have c9b0 : decide (a1 < a0) = false := decide_eq_false c9
     clear c9
     obtain rfl := Option.some.inj H
     go_enter Try.func46, Try.ntmps46
     go_wp2_with (first | ((with_reducible refine gate_callee (f := 71) rfl ?_); refine goA 8 Try.func71 #[.int .i64 a0] ?_; (with_reducible refine (cmp_isNaN_int.calls a0 false _ A3.out).mono ?_); rintro e w' ⟨rfl, ⟨nd, rfl⟩⟩; refine ⟨_, rfl, ?_⟩) | ((with_reducible refine gate_callee (f := 71) rfl ?_); refine goA 10 Try.func71 #[.int .i64 a1] ?_; (with_reducible refine (cmp_isNaN_int.calls a1 false _ A4.out).mono ?_); rintro e w' ⟨rfl, ⟨nd, rfl⟩⟩; refine ⟨_, rfl, ?_⟩))
     go_ret
     exact ⟨by first | rfl | (simp; done) | (simp [*]; done), by repeat (first | exact Drawn0.refl _ | apply Drawn0.step)⟩
set_option maxHeartbeats 8000000 in
set_option maxRecDepth 100000 in
theorem exposure_Record_1.calls (a0_0 : Int) (a0_1 : Int) (a1 : Int) (r : Int) (w : World) (h : exposure_Record_1.f a0_0 a0_1 a1 = some r) :
  Calls Try.prog 45 #[.agg #[.int .i64 a0_0, .int .i64 a0_1], .int .i64 a1] w fun e w' => e = .returned (.int .i64 r) ∧ Below w.heap.size w w' := by
 have hu50 := Try.underlying50
 have HB := mk0 (Below.refl w.heap.size w)
 have H : ((cmp_Compare_int.f a0_0 a1).bind fun t1073 => (some t1073)) = some r := h
 clear h
 obtain ⟨t1073, A3, H⟩ := bindA H
 obtain rfl := Option.some.inj H
 go_enter Try.func45, Try.ntmps45
 go_wp2_with (first | ((with_reducible refine gate_dst (N := 2) rfl ?_); refine box_event rfl (N := 2) rfl (cs := #[.int .i64 a0_0, .int .i64 a0_1]) (t := 50) (by go_simp <;> rfl) ?_; intro gb1072 hg w4 hbox hb; have BK1072 := mk0 (hbox); have GE1072 := geB hg HB; replace HB := (by first | exact hbS HB hb | exact hbD HB hb); clear hb hbox hg; obtain ⟨hcz5_0, hcz5_1, hfz5_0, hfz5_1⟩ := cz2 BK1072) | ((with_reducible refine gate_callee (f := 46) rfl ?_); refine goA 8 Try.func46 #[.int .i64 a0_0, .int .i64 a1] ?_; (with_reducible refine (cmp_Compare_int.calls a0_0 a1 t1073 _ A3.out).mono ?_); rintro e w' ⟨rfl, ⟨nd, rfl⟩⟩; refine ⟨_, rfl, ?_⟩))
 go_ret
 exact ⟨by first | rfl | (simp [errW_none, errW_some] <;> rfl) | (simp [*, errW_none, errW_some] <;> rfl), by repeat (first | exact HB.out | apply bN | apply b1 | apply bA | refine bS ?_ GE1072.out)⟩
set_option maxHeartbeats 8000000 in
set_option maxRecDepth 100000 in
theorem api_Use_int.calls (k : Nat) (A0 : Option Addr) (c0 : Nat) (l0 : List (S50)) (a1 : Int) (a2 : Int) (r1 : Int) (r2 : Bool) (w : World) (hr0 : Kd.C k50 w A0 l0.length l0) (hc0 : l0.length ≤ c0) (h : api_Use_int.f k l0 a1 a2 = some (r1, r2)) :
  Calls Try.prog 44 #[.slice A0 l0.length c0, .int .i64 a1, .func (.func 45) #[] #[]] w fun e w' => e = .returned (.tuple #[.int .i64 r1, .bool r2]) ∧ Below w.heap.size w w' := by
 have hu50 := Try.underlying50
 have HR0 := mk0 hr0
 have HC0 := mk0 hc0
 clear hr0 hc0
 have HB := mk0 (Below.refl w.heap.size w)
 have H : (api_Use_int.l0 k l0 a1 (l0.length : Int) 0 (l0.length : Int)) = some (r1, r2) := h
 clear h
 have H' := mk0 H
 clear H
 go_enter Try.func44, Try.ntmps44
 go_wp2
 go_loopg [9, 10] k (fun kq v9 v10 w' => ∃ (x9_1 : Int) (x10_1 : Int), v9 = .int .i64 x9_1 ∧ v10 = .int .i64 x10_1 ∧ Aside0 (api_Use_int.l0 kq l0 a1 (l0.length : Int) x9_1 x10_1 = some (r1, r2)) ∧ Aside0 (kq ≤ k) ∧ Aside0 (Below w.heap.size w w'))
 case atStart => exact ⟨(0), ((l0.length : Int)), (by first | rfl | (simp; done) | (simp [*]; done)), (by first | rfl | (simp; done) | (simp [*]; done)), H', ⟨Nat.le_refl _⟩, ⟨by repeat (first | exact HB.out | apply bN | apply b1 | apply bA)⟩⟩
 case round =>
  clear H'
  try clear p2
  obtain ⟨x9_1, x10_1, rfl, rfl, HA, HK1, HB⟩ := hrel
  cases gk with
  | zero => exact absurd HA.out (by simp [api_Use_int.l0])
  | succ k1 =>
   have H := HA.out
   clear HA
   simp only [api_Use_int.l0] at H
   by_cases c4 : x9_1 < x10_1
   ·rw [if_pos c4] at H
    have c4b0 : decide (x9_1 < x10_1) = true := decide_eq_true c4
    clear c4
    obtain ⟨ji5, hji5⟩ : ∃ j_ : Int, (wrap64 ((IntKind.u64.wrap (wrap64 (x9_1 + x10_1))) / 2)) = j_ := ⟨_, rfl⟩
    replace H : (if 0 ≤ (ji5) then (if (ji5) < (l0.length : Int) then ((exposure_Record_1.f ((rd_T50 l0 (ji5)).f0) ((rd_T50 l0 (ji5)).f1) a1).bind fun t1075 => (if t1075 < 0 then (api_Use_int.l0 k1 l0 a1 (l0.length : Int) (wrap64 ((ji5) + 1)) x10_1) else (api_Use_int.l0 k1 l0 a1 (l0.length : Int) x9_1 ji5))) else (none)) else (none)) = some (r1, r2) := by first | (rw [hji5] at H; exact H) | (simp only [hji5] at H ⊢; exact H)
    have hji5w : (IntKind.i64.wrap ((IntKind.u64.wrap (wrap64 (x9_1 + x10_1))) / 2)) = ji5 := (i64_w _).trans hji5
    by_cases c6 : 0 ≤ (ji5)
    ·rw [if_pos c6] at H
     have c6b0 : decide (0 ≤ (ji5)) = true := decide_eq_true c6
     clear c6
     by_cases c7 : (ji5) < (l0.length : Int)
     ·rw [if_pos c7] at H
      have c7b0 : decide ((ji5) < (l0.length : Int)) = true := decide_eq_true c7
      clear c7
      obtain ⟨t1075, A8, H⟩ := bindA H
      by_cases c9 : t1075 < 0
      ·rw [if_pos c9] at H
       have c9b0 : decide (t1075 < 0) = true := decide_eq_true c9
       clear c9
       have H' := mk0 H
       clear H
       have p1074 : 0 ≤ ((ji5) : Int) := of_decide_eq_true (by assumption)
       have q1074 : (ji5) < (l0.length : Int) := of_decide_eq_true (by assumption)
       obtain ⟨ad1074, e1074, hx1074_0, hx1074_1⟩ := at_T50 HR0.out (ji5) p1074 q1074
       cases e1074
       replace hx1074_0 := (HB.out.cell (World.block_lt_of_cell? w _ hx1074_0)).trans hx1074_0
       replace hx1074_1 := (HB.out.cell (World.block_lt_of_cell? w _ hx1074_1)).trans hx1074_1
       replace p1074 := eq_true p1074
       replace q1074 := eq_true q1074
       go_wp2_with (first | (go_at_call 45; (with_reducible refine (exposure_Record_1.calls ((rd_T50 l0 (ji5)).f0) ((rd_T50 l0 (ji5)).f1) a1 t1075 _ A8.out).mono ?_); rintro e w10 ⟨rfl, hb⟩; replace HB := (by first | exact hbS HB hb | exact hbD HB hb)))
       go_roundg k1
       case measure => have := HK1.out; omega
       case rel => exact ⟨(wrap64 ((ji5) + 1)), (x10_1), (by first | rfl | (simp; done) | (simp only [← hji5] <;> (first | rfl | simp)) | (simp [*]; done)), (by first | rfl | (simp; done) | (simp [*]; done)), H', ⟨by have := HK1.out; omega⟩, ⟨by repeat (first | exact HB.out | apply bN | apply b1 | apply bA)⟩⟩
      ·rw [if_neg c9] at H
       have c9b0 : decide (t1075 < 0) = false := decide_eq_false c9
       clear c9
       have H' := mk0 H
       clear H
       have p1074 : 0 ≤ ((ji5) : Int) := of_decide_eq_true (by assumption)
       have q1074 : (ji5) < (l0.length : Int) := of_decide_eq_true (by assumption)
       obtain ⟨ad1074, e1074, hx1074_0, hx1074_1⟩ := at_T50 HR0.out (ji5) p1074 q1074
       cases e1074
       replace hx1074_0 := (HB.out.cell (World.block_lt_of_cell? w _ hx1074_0)).trans hx1074_0
       replace hx1074_1 := (HB.out.cell (World.block_lt_of_cell? w _ hx1074_1)).trans hx1074_1
       replace p1074 := eq_true p1074
       replace q1074 := eq_true q1074
       go_wp2_with (first | (go_at_call 45; (with_reducible refine (exposure_Record_1.calls ((rd_T50 l0 (ji5)).f0) ((rd_T50 l0 (ji5)).f1) a1 t1075 _ A8.out).mono ?_); rintro e w11 ⟨rfl, hb⟩; replace HB := (by first | exact hbS HB hb | exact hbD HB hb)))
       go_roundg k1
       case measure => have := HK1.out; omega
       case rel => exact ⟨(x9_1), (ji5), (by first | rfl | (simp; done) | (simp [*]; done)), (by first | rfl | (simp; done) | (simp only [← hji5] <;> (first | rfl | simp)) | (simp [*]; done)), H', ⟨by have := HK1.out; omega⟩, ⟨by repeat (first | exact HB.out | apply bN | apply b1 | apply bA)⟩⟩
     ·rw [if_neg c7] at H
      exact absurd H (by simp)
    ·rw [if_neg c6] at H
     exact absurd H (by simp)
   ·rw [if_neg c4] at H
    have c4b0 : decide (x9_1 < x10_1) = false := decide_eq_false c4
    clear c4
    by_cases c12 : x9_1 < (l0.length : Int)
    ·rw [if_pos c12] at H
     have c12b0 : decide (x9_1 < (l0.length : Int)) = true := decide_eq_true c12
     clear c12
     by_cases c13 : 0 ≤ x9_1
     ·rw [if_pos c13] at H
      have c13b0 : decide (0 ≤ x9_1) = true := decide_eq_true c13
      clear c13
      by_cases c14 : x9_1 < (l0.length : Int)
      ·rw [if_pos c14] at H
       have c14b0 : decide (x9_1 < (l0.length : Int)) = true := decide_eq_true c14
       clear c14
       obtain ⟨t1077, A15, H⟩ := bindA H
       simp only [Option.some.injEq, Prod.mk.injEq] at H
       obtain ⟨rfl, rfl⟩ := H
       have p1076 : 0 ≤ (x9_1 : Int) := of_decide_eq_true (by assumption)
       have q1076 : x9_1 < (l0.length : Int) := of_decide_eq_true (by assumption)
       obtain ⟨ad1076, e1076, hx1076_0, hx1076_1⟩ := at_T50 HR0.out x9_1 p1076 q1076
       cases e1076
       replace hx1076_0 := (HB.out.cell (World.block_lt_of_cell? w _ hx1076_0)).trans hx1076_0
       replace hx1076_1 := (HB.out.cell (World.block_lt_of_cell? w _ hx1076_1)).trans hx1076_1
       replace p1076 := eq_true p1076
       replace q1076 := eq_true q1076
       go_wp2_with (first | (go_at_call 45; (with_reducible refine (exposure_Record_1.calls ((rd_T50 l0 x9_1).f0) ((rd_T50 l0 x9_1).f1) a1 t1077 _ A15.out).mono ?_); rintro e w16 ⟨rfl, hb⟩; replace HB := (by first | exact hbS HB hb | exact hbD HB hb)))
       go_ret2
       exact ⟨by first | rfl | (simp [errW_none, errW_some] <;> rfl) | (simp [*, errW_none, errW_some] <;> rfl), by repeat (first | exact HB.out | apply bN | apply b1 | apply bA)⟩
      ·rw [if_neg c14] at H
       exact absurd H (by simp)
     ·rw [if_neg c13] at H
      exact absurd H (by simp)
    ·rw [if_neg c12] at H
     have c12b0 : decide (x9_1 < (l0.length : Int)) = false := decide_eq_false c12
     clear c12
     simp only [Option.some.injEq, Prod.mk.injEq] at H
     obtain ⟨rfl, rfl⟩ := H
     go_wp2
     go_ret2
     exact ⟨by first | rfl | (simp [errW_none, errW_some] <;> rfl) | (simp [*, errW_none, errW_some] <;> rfl), by repeat (first | exact HB.out | apply bN | apply b1 | apply bA)⟩
end Go.Proofs.Ythamhjmhgcpdgaa.Q
end
section
namespace Go.Proofs.Ythamhjmhgcpdgaa.Th
open Go.RowKit Go.Proofs.YthamhjmhgcpdgaaW.PrintWords Go.Proofs.YthamhjmhgcpdgaaW.PrintLast Go.Proofs.YthamhjmhgcpdgaaW.PrintMore
set_option linter.unusedVariables false
set_option linter.unusedSimpArgs false
def val : List Int → Nat
 | [] => 0
 | x :: xs => x.toNat + 4294967296 * val xs
def okl (l : List Int) : Prop := ∀ x ∈ l, 0 ≤ x ∧ x < 4294967296
def limbs (n : Nat) : List Int := if h : n = 0 then [] else ((n % 4294967296 : Nat) : Int) :: limbs (n / 4294967296)
termination_by n
decreasing_by omega
def tl (l : List Int) : Nat → Nat
 | 0 => 0
 | n + 1 => if l.getD n 0 = 0 then tl l n else n + 1
theorem tl_le (l : List Int) (n : Nat) : tl l n ≤ n := by
 induction n with
 | zero => simp [tl]
 | succ n ih => unfold tl; split <;> omega
theorem okl_nil : okl [] := fun _ h => by cases h
theorem okl_cons {x : Int} {l : List Int} : okl (x :: l) ↔ (0 ≤ x ∧ x < 4294967296) ∧ okl l := by simp [okl]
theorem okl_append {a b : List Int} : okl (a ++ b) ↔ okl a ∧ okl b := by
 constructor
 ·intro h; exact ⟨fun x hx => h x (List.mem_append_left _ hx), fun x hx => h x (List.mem_append_right _ hx)⟩
 ·rintro ⟨h1, h2⟩ x hx
  rcases List.mem_append.1 hx with h | h
  ·exact h1 x h
  ·exact h2 x h
theorem okl_take {l : List Int} (h : okl l) (n : Nat) : okl (l.take n) := fun x hx => h x (List.mem_of_mem_take hx)
theorem okl_drop {l : List Int} (h : okl l) (n : Nat) : okl (l.drop n) := fun x hx => h x (List.mem_of_mem_drop hx)
theorem okl_set {l : List Int} (h : okl l) (n : Nat) {x : Int} (h0 : 0 ≤ x) (h1 : x < 4294967296) : okl (l.set n x) := fun y hy => by
 rcases List.mem_or_eq_of_mem_set hy with h2 | h2
 ·exact h y h2
 ·subst h2; exact ⟨h0, h1⟩
theorem okl_replicate (n : Nat) : okl (List.replicate n 0) := fun x hx => by
 rw [List.mem_replicate] at hx; rw [hx.2]; decide
theorem okl_rd {l : List Int} (h : okl l) (i : Int) : 0 ≤ rd l i ∧ rd l i < 4294967296 := by
 unfold rd
 by_cases hi : i.toNat < l.length
 ·rw [List.getD_eq_getElem?_getD, List.getElem?_eq_getElem hi]; exact h _ (List.getElem_mem hi)
 ·rw [List.getD_eq_getElem?_getD, List.getElem?_eq_none (by omega)]; decide
theorem val_append (a b : List Int) : val (a ++ b) = val a + 4294967296 ^ a.length * val b := by
 induction a with
 | nil => simp [val]
 | cons x xs ih => simp only [List.cons_append, val, ih, List.length_cons]; grind
theorem val_lt {l : List Int} (h : okl l) : val l < 4294967296 ^ l.length := by
 induction l with
 | nil => simp [val]
 | cons x xs ih =>
  have h1 := okl_cons.1 h
  have h2 := ih h1.2
  simp only [val, List.length_cons, Nat.pow_succ]
  have : x.toNat < 4294967296 := by omega
  omega
theorem val_replicate (n : Nat) : val (List.replicate n 0) = 0 := by
 induction n with
 | zero => rfl
 | succ n ih => rw [List.replicate_succ, val, ih]; rfl
theorem val_take_drop (l : List Int) (n : Nat) (h : n ≤ l.length) : val l = val (l.take n) + 4294967296 ^ n * val (l.drop n) := by
 have := val_append (l.take n) (l.drop n)
 rw [List.take_append_drop, List.length_take, Nat.min_eq_left h] at this
 exact this
theorem val_drop_one (l : List Int) (n : Nat) (h : n < l.length) : val (l.drop n) = (l.getD n 0).toNat + 4294967296 * val (l.drop (n + 1)) := by
 rw [List.drop_eq_getElem_cons h, val, List.getD_eq_getElem?_getD, List.getElem?_eq_getElem h]; rfl
theorem val_take_succ (l : List Int) (n : Nat) (h : n < l.length) : val (l.take (n + 1)) = val (l.take n) + 4294967296 ^ n * (l.getD n 0).toNat := by
 have h1 : l.take (n + 1) = l.take n ++ [l.getD n 0] := by
  rw [List.take_succ_eq_append_getElem h, List.getD_eq_getElem?_getD, List.getElem?_eq_getElem h]; rfl
 rw [h1, val_append, List.length_take, Nat.min_eq_left (by omega)]
 simp [val]
theorem val_tl (l : List Int) (n : Nat) (h : n ≤ l.length) : val (l.take (tl l n)) = val (l.take n) := by
 induction n with
 | zero => rfl
 | succ n ih =>
  unfold tl
  by_cases h0 : l.getD n 0 = 0
  ·rw [if_pos h0, ih (by omega), val_take_succ l n (by omega), h0]; simp
  ·rw [if_neg h0]
theorem limbs_zero : limbs 0 = [] := by rw [limbs]; rfl
theorem limbs_pos {n : Nat} (h : n ≠ 0) : limbs n = ((n % 4294967296 : Nat) : Int) :: limbs (n / 4294967296) := by rw [limbs, dif_neg h]
theorem okl_limbs (n : Nat) : okl (limbs n) := by
 induction n using Nat.strongRecOn with
 | _ n ih =>
  by_cases h : n = 0
  ·subst h; rw [limbs_zero]; exact okl_nil
  ·rw [limbs_pos h, okl_cons]; exact ⟨by omega, ih _ (by omega)⟩
theorem val_limbs (n : Nat) : val (limbs n) = n := by
 induction n using Nat.strongRecOn with
 | _ n ih =>
  by_cases h : n = 0
  ·subst h; rw [limbs_zero]; rfl
  ·rw [limbs_pos h, val, ih _ (by omega)]; omega
theorem limbs_val (l : List Int) (h : okl l) (hl : l ≠ [] → l.getD (l.length - 1) 0 ≠ 0) : limbs (val l) = l := by
 induction l with
 | nil => exact limbs_zero
 | cons x xs ih =>
  have h1 := okl_cons.1 h
  have hne : val (x :: xs) ≠ 0 := by
   intro h0
   simp only [val] at h0
   cases xs with
   | nil => exact hl (by simp) (by simp; omega)
   | cons y ys =>
    have h2 : limbs (val (y :: ys)) = y :: ys := ih h1.2 (fun _ => by have := hl (by simp); simpa using this)
    have h3 : val (y :: ys) = 0 := by omega
    rw [h3, limbs_zero] at h2
    cases h2
  rw [limbs_pos hne]
  simp only [val]
  have e1 : (x.toNat + 4294967296 * val xs) % 4294967296 = x.toNat := by omega
  have e2 : (x.toNat + 4294967296 * val xs) / 4294967296 = val xs := by omega
  rw [e1, e2]
  have e3 : limbs (val xs) = xs := by
   cases xs with
   | nil => exact limbs_zero
   | cons y ys => exact ih h1.2 (fun _ => by have := hl (by simp); simpa using this)
  rw [e3]
  congr 1
  omega
theorem tl_top (l : List Int) (n : Nat) (h : tl l n ≠ 0) : l.getD (tl l n - 1) 0 ≠ 0 := by
 induction n with
 | zero => exact absurd rfl h
 | succ n ih =>
  unfold tl at h ⊢
  by_cases h0 : l.getD n 0 = 0
  ·rw [if_pos h0] at h ⊢; exact ih h
  ·rw [if_neg h0]; exact h0
theorem limbs_tl {l : List Int} (h : okl l) : l.take (tl l l.length) = limbs (val l) := by
 have h1 := val_tl l l.length (Nat.le_refl _)
 rw [List.take_length] at h1
 rw [← h1]
 refine (limbs_val _ (okl_take h _) (fun hne => ?_)).symm
 have h2 := tl_le l l.length
 have h3 : (l.take (tl l l.length)).length = tl l l.length := by rw [List.length_take]; omega
 have h4 : tl l l.length ≠ 0 := fun h0 => hne (by rw [h0]; rfl)
 rw [h3, List.getD_eq_getElem?_getD, List.getElem?_take_of_lt (by omega), ← List.getD_eq_getElem?_getD]
 exact tl_top l _ h4
theorem limbs_len_le {n k : Nat} (h : n < 4294967296 ^ k) : (limbs n).length ≤ k := by
 induction k generalizing n with
 | zero => simp at h; subst h; rw [limbs_zero]; simp
 | succ k ih =>
  by_cases h0 : n = 0
  ·subst h0; rw [limbs_zero]; simp
  ·rw [limbs_pos h0, List.length_cons]
   have := ih (n := n / 4294967296) (by rw [Nat.pow_succ] at h; rw [Nat.div_lt_iff_lt_mul (by decide)]; exact h)
   omega
theorem limbs_ne_nil {n : Nat} (h : n ≠ 0) : limbs n ≠ [] := by rw [limbs_pos h]; simp
theorem limbs_top {n : Nat} (h : n ≠ 0) : (limbs n).getD ((limbs n).length - 1) 0 ≠ 0 := by
 have h1 := limbs_tl (okl_limbs n)
 rw [val_limbs] at h1
 have h2 := tl_le (limbs n) (limbs n).length
 have h3 : tl (limbs n) (limbs n).length = (limbs n).length := by
  have := congrArg List.length h1
  rw [List.length_take] at this
  omega
 have h4 := tl_top (limbs n) (limbs n).length (by rw [h3]; intro h0; exact limbs_ne_nil h (List.eq_nil_of_length_eq_zero h0))
 rwa [h3] at h4
theorem val_set (l : List Int) (n : Nat) (h : n < l.length) (x : Int) : val (l.set n x) + 4294967296 ^ n * (l.getD n 0).toNat = val l + 4294967296 ^ n * x.toNat := by
 induction l generalizing n with
 | nil => simp at h
 | cons y ys ih =>
  cases n with
  | zero => simp [val]; omega
  | succ n =>
   have := ih n (by simpa using h)
   simp only [List.set_cons_succ, val, List.getD_cons_succ]
   grind
theorem getD_okl {l : List Int} (h : okl l) (n : Nat) : 0 ≤ l.getD n 0 ∧ l.getD n 0 < 4294967296 := by
 have := okl_rd h (n : Int)
 unfold rd at this
 rwa [Int.toNat_natCast] at this
theorem mul_step {P : List Int} (hP : okl P) {n : Nat} (hn : n < P.length) {p q c t : Int} (hp0 : 0 ≤ p) (hp1 : p < 4294967296) (hq0 : 0 ≤ q) (hq1 : q < 4294967296) (hc0 : 0 ≤ c) (hc1 : c < 4294967296)
  (ht : t = c + p * q + P.getD n 0) :
  0 ≤ p * q ∧ p * q + P.getD n 0 + c < 18446744073709551616 ∧ 0 ≤ t ∧ t < 18446744073709551616 ∧ okl (P.set n (t % 4294967296)) ∧ 0 ≤ t / 4294967296 ∧ t / 4294967296 < 4294967296 ∧
   val (P.set n (t % 4294967296)) + 4294967296 ^ (n + 1) * (t / 4294967296).toNat = val P + 4294967296 ^ n * (c.toNat + p.toNat * q.toNat) := by
 obtain ⟨p, rfl⟩ := Int.eq_ofNat_of_zero_le hp0
 obtain ⟨q, rfl⟩ := Int.eq_ofNat_of_zero_le hq0
 obtain ⟨c, rfl⟩ := Int.eq_ofNat_of_zero_le hc0
 have hg := getD_okl hP n
 obtain ⟨g, hgg⟩ := Int.eq_ofNat_of_zero_le hg.1
 have hpq : p * q ≤ 4294967295 * 4294967295 := Nat.mul_le_mul (by omega) (by omega)
 have hcast : (p : Int) * (q : Int) = ((p * q : Nat) : Int) := by simp
 rw [hcast] at ht ⊢
 have hs := val_set P n hn (t % 4294967296)
 rw [hgg] at ht hs hg ⊢
 refine ⟨by omega, by omega, by omega, by omega, okl_set hP n (by omega) (by omega), by omega, by omega, ?_⟩
 have e1 : (t % 4294967296).toNat + 4294967296 * (t / 4294967296).toNat = c + p * q + g := by omega
 simp only [Int.toNat_natCast] at hs ⊢
 have e2 : 4294967296 ^ (n + 1) * (t / 4294967296).toNat = 4294967296 ^ n * (4294967296 * (t / 4294967296).toNat) := by rw [Nat.pow_succ]; grind
 have e3 : 4294967296 ^ n * (t % 4294967296).toNat + 4294967296 ^ n * (4294967296 * (t / 4294967296).toNat) = 4294967296 ^ n * (c + p * q) + 4294967296 ^ n * g := by
  rw [← Nat.mul_add, e1, Nat.mul_add]
 omega
end Go.Proofs.Ythamhjmhgcpdgaa.Th
end
section
namespace Go.Proofs.Ythamhjmhgcpdgaa.Big
open Go.RowKit Go.Proofs.YthamhjmhgcpdgaaW.PrintWords Go.Proofs.YthamhjmhgcpdgaaW.PrintLast Go.Proofs.YthamhjmhgcpdgaaW.PrintMore Go.Proofs.Ythamhjmhgcpdgaa.Q Go.Proofs.Ythamhjmhgcpdgaa.Th
set_option linter.unusedVariables false
set_option linter.unusedSimpArgs false
theorem wrap64_id {x : Int} (h0 : -9223372036854775808 ≤ x) (h1 : x < 9223372036854775808) : wrap64 x = x := by unfold wrap64; omega
theorem wrapu64 (x : Int) : IntKind.u64.wrap x = x % 18446744073709551616 := by simp [IntKind.wrap, IntKind.bits, IntKind.signed]
theorem wrapu64_id {x : Int} (h0 : 0 ≤ x) (h1 : x < 18446744073709551616) : IntKind.u64.wrap x = x := by rw [wrapu64]; omega
theorem and_low {x : Int} (h0 : 0 ≤ x) (h1 : x < 18446744073709551616) : Go.bits .and .u64 x 4294967295 = x % 4294967296 :=
 bits_mask .u64 64 (by decide) (fun n a b => wrapu64_id a b) 32 (by decide) x h0 h1
theorem or_high {x y : Int} (hx0 : 0 ≤ x) (hx1 : x < 4294967296) (hy0 : 0 ≤ y) (hy1 : y < 4294967296) : Go.bits .or .u64 (x * 4294967296) y = x * 4294967296 + y :=
 bits_join .u64 64 (by decide) (fun n a b => wrapu64_id a b) 32 _ _ (by omega) (by omega) (by omega) hy0 (by omega) (by omega)
abbrev lenok (l : List Int) : Prop := l.length ≤ 1099511627776
abbrev lenok2 (l : List Int) : Prop := l.length ≤ 17592186044416
theorem Ev.ite_pos {α : Type} {p : Prop} [Decidable p] {a b : Nat → Option α} {r : α} (h : p) (k : Ev a r) : Ev (fun n => if p then a n else b n) r := Ev.congr (fun n => if_pos h) k
theorem Ev.ite_neg {α : Type} {p : Prop} [Decidable p] {a b : Nat → Option α} {r : α} (h : ¬ p) (k : Ev b r) : Ev (fun n => if p then a n else b n) r := Ev.congr (fun n => if_neg h) k
theorem rd_nat (l : List Int) (n : Nat) : rd l (n : Int) = l.getD n 0 := by unfold rd; rw [Int.toNat_natCast]
theorem trim_loop (l : List Int) (n : Nat) (hn : n ≤ l.length) (hl : lenok2 l) : Ev (fun k => nat_trim.l0 k l n) (l.take (tl l n)) := by
 induction n with
 | zero =>
  refine Ev.step (f := fun _ => some (l.take 0)) (fun k => ?_) (Ev.now _)
  simp only [nat_trim.l0]
  rw [if_neg (by omega), if_pos (by omega), if_pos (by omega)]
  rfl
 | succ n ih =>
  have hw : wrap64 (((n + 1 : Nat) : Int) - 1) = (n : Int) := by rw [wrap64_id (by omega) (by unfold lenok2 at hl; omega)]; omega
  unfold tl
  by_cases h0 : l.getD n 0 = 0
  ·rw [if_pos h0]
   refine Ev.step (fun k => ?_) (ih (by omega))
   simp only [nat_trim.l0]
   rw [if_pos (by omega), hw, if_pos (by omega), if_pos (by omega), rd_nat, if_pos h0]
  ·rw [if_neg h0]
   refine Ev.step (f := fun _ => some (l.take (n + 1))) (fun k => ?_) (Ev.now _)
   simp only [nat_trim.l0]
   rw [if_pos (by omega), hw, if_pos (by omega), if_pos (by omega), rd_nat, if_neg h0, if_pos (by omega), if_pos (by omega)]
   rfl
theorem trim_ev2 {l : List Int} (h : okl l) (hl : lenok2 l) : Ev (fun k => nat_trim.f k l) (limbs (val l)) := by
 rw [← limbs_tl h]
 exact trim_loop l l.length (Nat.le_refl _) hl
theorem trim_ev {l : List Int} (h : okl l) (hl : lenok l) : Ev (fun k => nat_trim.f k l) (limbs (val l)) := trim_ev2 h (by unfold lenok at hl; unfold lenok2; omega)
theorem limbs_val_len {l : List Int} (h : okl l) : (limbs (val l)).length ≤ l.length := limbs_len_le (val_lt h)
theorem norm_ev {l : List Int} (h : okl l) (hl : lenok l) : Ev (fun k => nat_Norm.f k l) (limbs (val l)) := by
 have h1 := limbs_val_len h
 unfold lenok at hl
 refine Ev.bind (a := limbs (val l)) (f := fun k t131 => if ([] : List Int).length + t131.length < 35184372088832 then (some ([] ++ t131)) else none) (trim_ev h hl) ?_
 refine Ev.ite_pos ?_ (Ev.now _)
 simp only [List.length_nil]; omega
theorem of_two {a : Int} (h0 : 0 ≤ a) (h1 : a < 18446744073709551616) : okl [a % 4294967296, a / 4294967296 % 4294967296] ∧ val [a % 4294967296, a / 4294967296 % 4294967296] = a.toNat := by
 refine ⟨?_, ?_⟩
 ·intro x hx; simp at hx; omega
 ·simp only [val]; omega
theorem of_ev {a : Int} (h0 : 0 ≤ a) (h1 : a < 18446744073709551616) : Ev (fun k => nat_Of.f k a) (limbs a.toNat) := by
 obtain ⟨h2, h3⟩ := of_two h0 h1
 rw [← h3]
 refine Ev.bind (f := fun _ t => some t) ?_ (Ev.now _)
 rw [and_low h0 h1, show a % 4294967296 % 4294967296 = a % 4294967296 by omega]
 exact trim_ev h2 (by unfold lenok; simp)
def cmpI (a b : Nat) : Int := if a < b then -1 else if b < a then 1 else 0
theorem cmp_loop (a b : List Int) (ha : okl a) (hb : okl b) (hl : a.length = b.length) (hla : lenok a) (n : Nat) (hn : n ≤ a.length) (he : val (a.drop n) = val (b.drop n)) :
  Ev (fun k => nat_Cmp.l0 k a b ((n : Int) - 1)) (cmpI (val a) (val b)) := by
 induction n with
 | zero =>
  refine Ev.step (f := fun _ => some 0) (fun k => ?_) (by
   rw [List.drop_zero, List.drop_zero] at he
   rw [he, cmpI, if_neg (by omega), if_neg (by omega)]; exact Ev.now _)
  simp only [nat_Cmp.l0]
  rw [if_neg (by omega)]
 | succ n ih =>
  unfold lenok at hla
  have e1 : ((n + 1 : Nat) : Int) - 1 = n := by omega
  have e2 := val_drop_one a n (by omega)
  have e3 := val_drop_one b n (by omega)
  have v1 := val_take_drop a n (by omega)
  have v2 := val_take_drop b n (by omega)
  have b1 := val_lt (okl_take ha n)
  have b2 := val_lt (okl_take hb n)
  rw [List.length_take, Nat.min_eq_left (by omega)] at b1 b2
  have r1 := okl_rd ha n
  have r2 := okl_rd hb n
  rw [rd_nat] at r1 r2
  rw [e1]
  by_cases h1 : a.getD n 0 < b.getD n 0
  ·refine Ev.step (f := fun _ => some (-1)) (fun k => ?_) ?_
   ·simp only [nat_Cmp.l0]
    rw [if_pos (by omega), if_pos (by omega), if_pos (by omega), if_pos (by omega), rd_nat, rd_nat, if_pos h1]
   ·have : val (a.drop n) + 1 ≤ val (b.drop n) := by omega
    have h2 : 4294967296 ^ n * (val (a.drop n) + 1) ≤ 4294967296 ^ n * val (b.drop n) := Nat.mul_le_mul_left _ this
    rw [Nat.mul_add] at h2
    rw [cmpI, if_pos (by omega)]
    exact Ev.now _
  ·by_cases h2 : b.getD n 0 < a.getD n 0
   ·refine Ev.step (f := fun _ => some 1) (fun k => ?_) ?_
    ·simp only [nat_Cmp.l0]
     rw [if_pos (by omega), if_pos (by omega), if_pos (by omega), if_pos (by omega), rd_nat, rd_nat, if_neg h1, if_pos (by omega)]
    ·have : val (b.drop n) + 1 ≤ val (a.drop n) := by omega
     have h3 : 4294967296 ^ n * (val (b.drop n) + 1) ≤ 4294967296 ^ n * val (a.drop n) := Nat.mul_le_mul_left _ this
     rw [Nat.mul_add] at h3
     rw [cmpI, if_neg (by omega), if_pos (by omega)]
     exact Ev.now _
   ·refine Ev.step (fun k => ?_) (ih (by omega) (by omega))
    simp only [nat_Cmp.l0]
    rw [if_pos (by omega), if_pos (by omega), if_pos (by omega), if_pos (by omega), rd_nat, rd_nat, if_neg h1, if_neg (by omega), wrap64_id (by omega) (by omega)]
theorem limbs_len_mono {a b : Nat} (h : a ≤ b) : (limbs a).length ≤ (limbs b).length := by
 apply limbs_len_le
 have := val_lt (okl_limbs b)
 rw [val_limbs] at this
 omega
theorem cmp_ev {a b : List Int} (ha : okl a) (hb : okl b) (hla : lenok a) (hlb : lenok b) : Ev (fun k => nat_Cmp.f k a b) (cmpI (val a) (val b)) := by
 have l1 := limbs_val_len ha
 have l2 := limbs_val_len hb
 refine Ev.bind (trim_ev ha hla) (Ev.bind (trim_ev hb hlb) ?_)
 by_cases he : (limbs (val a)).length = (limbs (val b)).length
 ·refine Ev.ite_pos (by omega) ?_
  have := cmp_loop (limbs (val a)) (limbs (val b)) (okl_limbs _) (okl_limbs _) he (by unfold lenok at *; omega) (limbs (val a)).length (Nat.le_refl _) (by rw [List.drop_length, he, List.drop_length])
  rw [val_limbs, val_limbs] at this
  rw [wrap64_id (by omega) (by unfold lenok at *; omega)]
  exact this
 ·refine Ev.ite_neg (by omega) ?_
  by_cases h1 : (limbs (val a)).length < (limbs (val b)).length
  ·refine Ev.ite_pos (by omega) ?_
   have h2 : val a < val b := by
    rcases Nat.lt_or_ge (val a) (val b) with h | h
    ·exact h
    ·have := limbs_len_mono h; omega
   rw [cmpI, if_pos h2]; exact Ev.now _
  ·refine Ev.ite_neg (by omega) ?_
   have h2 : val b < val a := by
    rcases Nat.lt_or_ge (val b) (val a) with h | h
    ·exact h
    ·have := limbs_len_mono h; omega
   rw [cmpI, if_neg (by omega), if_pos h2]; exact Ev.now _
theorem divSmall_loop (a : List Int) (ha : okl a) (hla : lenok a) (d : Int) (hd0 : 0 < d) (hd1 : d < 4294967296) (n : Nat) (hn : n ≤ a.length) (q : List Int) (hq : okl q) (hql : q.length = a.length) (r : Int) (hr0 : 0 ≤ r) (hr1 : r < d)
  (hv : val (a.drop n) = val (q.drop n) * d.toNat + r.toNat) :
  ∃ q' r', okl q' ∧ q'.length = a.length ∧ 0 ≤ r' ∧ r' < d ∧ val a = val q' * d.toNat + r'.toNat ∧ Ev (fun k => nat_divSmall.l0 k a d q r ((n : Int) - 1)) (limbs (val q'), r') := by
 induction n generalizing q r with
 | zero =>
  refine ⟨q, r, hq, hql, hr0, hr1, by simpa using hv, ?_⟩
  refine Ev.step (f := fun k => (nat_trim.f k q).bind fun t => some (t, r % 4294967296)) (fun k => ?_) ?_
  ·simp only [nat_divSmall.l0]
   rw [if_neg (by omega)]
  ·have e : r % 4294967296 = r := by omega
   rw [e]
   exact Ev.bind (f := fun _ t => some (t, r)) (trim_ev hq (by unfold lenok at *; omega)) (Ev.now _)
 | succ n ih =>
  unfold lenok at hla
  have r1 := okl_rd ha n
  rw [rd_nat] at r1
  have e1 : ((n + 1 : Nat) : Int) - 1 = n := by omega
  obtain ⟨x, hx⟩ : ∃ x, x = r * 4294967296 + a.getD n 0 := ⟨_, rfl⟩
  have hx0 : 0 ≤ x := by omega
  have hx1 : x < d * 4294967296 := by omega
  have hdiv0 : 0 ≤ x / d := Int.ediv_nonneg hx0 (by omega)
  have hdiv1 : x / d < 4294967296 := Int.ediv_lt_of_lt_mul hd0 (by rw [Int.mul_comm]; exact hx1)
  have hm0 := Int.emod_nonneg x (show d ≠ 0 by omega)
  have hm1 := Int.emod_lt_of_pos x hd0
  have hmd := Int.mul_ediv_add_emod x d
  have e2 := val_drop_one a n (by omega)
  have e3 : val ((q.set n (x / d)).drop n) = (x / d).toNat + 4294967296 * val (q.drop (n + 1)) := by
   rw [val_drop_one _ n (by rw [List.length_set]; omega), List.getD_eq_getElem?_getD, List.getElem?_set_self (by omega), List.drop_set_of_lt (by omega)]
   rfl
  obtain ⟨q', r', h1, h2, h3, h4, h5, h6⟩ := ih (by omega) (q.set n (x / d)) (okl_set hq n hdiv0 hdiv1) (by rw [List.length_set]; exact hql) (x % d) hm0 hm1 (by
   rw [e2, hv, e3]
   have hc : (x / d).toNat * d.toNat + (x % d).toNat = r.toNat * 4294967296 + (a.getD n 0).toNat := by
    have h7 : (((x / d).toNat * d.toNat + (x % d).toNat : Nat) : Int) = ((r.toNat * 4294967296 + (a.getD n 0).toNat : Nat) : Int) := by
     rw [Int.natCast_add, Int.natCast_mul, Int.natCast_add, Int.natCast_mul, Int.toNat_of_nonneg hdiv0, Int.toNat_of_nonneg (show (0:Int) ≤ d by omega), Int.toNat_of_nonneg hm0, Int.toNat_of_nonneg hr0, Int.toNat_of_nonneg r1.1]
     rw [Int.mul_comm (x / d) d]; omega
    exact Int.ofNat.inj h7
   grind)
  refine ⟨q', r', h1, h2, h3, h4, h5, ?_⟩
  rw [e1]
  refine Ev.step (fun k => ?_) h6
  simp only [nat_divSmall.l0]
  rw [if_pos (by omega), if_pos (by omega), if_pos (by omega), wrapu64_id (x := d) (by omega) (by omega), if_neg (by omega), if_pos (by omega), rd_nat, wrapu64_id (x := a.getD n 0) (by omega) (by omega), wrapu64_id (x := r * 4294967296) (by omega) (by omega), or_high hr0 (by omega) r1.1 r1.2, ← hx, Int.tdiv_eq_ediv_of_nonneg hx0, Int.tmod_eq_emod_of_nonneg hx0, wrapu64_id (x := x / d) hdiv0 (by omega), show x / d % 4294967296 = x / d by omega, wrap64_id (by omega) (by omega), Int.toNat_natCast]
theorem divSmall_ev {a : List Int} (ha : okl a) (hla : lenok a) {d : Int} (hd0 : 0 < d) (hd1 : d < 4294967296) : Ev (fun k => nat_divSmall.f k a d) (limbs (val a / d.toNat), ((val a % d.toNat : Nat) : Int)) := by
 unfold lenok at hla
 obtain ⟨q', r', h1, h2, h3, h4, h5, h6⟩ := divSmall_loop a ha hla d hd0 hd1 a.length (Nat.le_refl _) (List.replicate a.length 0) (okl_replicate _) (by simp) 0 (by omega) hd0 (by
  rw [List.drop_length, List.drop_of_length_le (by simp)]; simp [val])
 have hq : val a / d.toNat = val q' := by
  rw [h5]
  exact Nat.div_eq_of_lt_le (by omega) (by rw [Nat.add_mul]; omega)
 have hr : val a % d.toNat = r'.toNat := by
  rw [h5, Nat.mul_comm, Nat.mul_add_mod, Nat.mod_eq_of_lt (by omega)]
 rw [hq, hr, Int.toNat_of_nonneg h3]
 refine Ev.ite_pos (by omega) (Ev.ite_pos (by omega) ?_)
 rw [Int.toNat_natCast, wrap64_id (by omega) (by omega)]
 exact h6
theorem mul_inner (a b : List Int) (ha : okl a) (hb : okl b) (hla : lenok a) (hlb : lenok b) (i : Nat) (hi : i < a.length) {r : List Int} (V : Nat)
  (K : ∀ P : List Int, okl P → P.length = a.length + b.length → (∀ m, i + 1 + b.length ≤ m → P.getD m 0 = 0) → val P = V + 4294967296 ^ i * ((a.getD i 0).toNat * val b) → Ev (fun k => nat_Mul.l0 k b P a (a.length : Int) ((i + 1 : Nat) : Int)) r)
  (d : Nat) : ∀ (j : Nat) (P : List Int) (c : Int), j + d = b.length → okl P → P.length = a.length + b.length → (∀ m, i + b.length ≤ m → P.getD m 0 = 0) → 0 ≤ c → c < 4294967296 →
   val P + 4294967296 ^ (i + j) * c.toNat = V + 4294967296 ^ i * ((a.getD i 0).toNat * val (b.take j)) →
   Ev (fun k => nat_Mul.l1 k b P (i : Int) (a.getD i 0) c a (a.length : Int) (i : Int) b (b.length : Int) (j : Int)) r := by
 unfold lenok at hla hlb
 have hx := getD_okl ha i
 induction d with
 | zero =>
  intro j P c hj hP hPl hz hc0 hc1 hv
  obtain rfl : j = b.length := by omega
  have hs := val_set P (i + b.length) (by omega) c
  rw [hz _ (Nat.le_refl _)] at hs
  have e : b.take b.length = b := List.take_length
  rw [e] at hv
  refine Ev.step (fun k => ?_) (K (P.set (i + b.length) c) (okl_set hP _ hc0 hc1) (by rw [List.length_set]; exact hPl) ?_ (by simp at hs; omega))
  ·simp only [nat_Mul.l1]
   rw [if_neg (by omega), wrap64_id (x := (i : Int) + (b.length : Int)) (by omega) (by omega), if_pos (by omega), if_pos (by omega), wrap64_id (x := (i : Int) + 1) (by omega) (by omega), show c % 4294967296 = c by omega,
    show ((i : Int) + (b.length : Int)).toNat = i + b.length by omega]
   rfl
  ·intro m hm
   rw [List.getD_eq_getElem?_getD, List.getElem?_set_ne (by omega), ← List.getD_eq_getElem?_getD]
   exact hz m (by omega)
 | succ d ih =>
  intro j P c hj hP hPl hz hc0 hc1 hv
  have hq := getD_okl hb j
  obtain ⟨t, ht⟩ : ∃ t, t = c + a.getD i 0 * b.getD j 0 + P.getD (i + j) 0 := ⟨_, rfl⟩
  obtain ⟨h1, h2, h3, h4, h5, h6, h7, h8⟩ := mul_step hP (n := i + j) (by omega) hx.1 hx.2 hq.1 hq.2 hc0 hc1 ht
  have hP2 := getD_okl hP (i + j)
  have e1 : val (b.take (j + 1)) = val (b.take j) + 4294967296 ^ j * (b.getD j 0).toNat := val_take_succ b j (by omega)
  refine Ev.step (fun k => ?_) (ih (j + 1) (P.set (i + j) (t % 4294967296)) (t / 4294967296) (by omega) h5 (by rw [List.length_set]; exact hPl) ?_ h6 h7 ?_)
  ·simp only [nat_Mul.l1]
   rw [if_pos (by omega), if_pos (by omega), if_pos (by omega), wrap64_id (x := (i : Int) + (j : Int)) (by omega) (by omega), if_pos (by omega), if_pos (by omega), rd_nat, show (i : Int) + (j : Int) = ((i + j : Nat) : Int) by omega, rd_nat,
    wrapu64_id (x := a.getD i 0) (by omega) (by omega), wrapu64_id (x := b.getD j 0) (by omega) (by omega), wrapu64_id (x := P.getD (i + j) 0) (by omega) (by omega),
    wrapu64_id (x := a.getD i 0 * b.getD j 0) h1 (by omega), wrapu64_id (x := a.getD i 0 * b.getD j 0 + P.getD (i + j) 0) (by omega) (by omega),
    ← Int.add_assoc, ← ht, wrapu64_id (x := t) h3 h4, and_low h3 h4, show t % 4294967296 % 4294967296 = t % 4294967296 by omega, wrap64_id (x := (j : Int) + 1) (by omega) (by omega), Int.toNat_natCast]
   rfl
  ·intro m hm
   rw [List.getD_eq_getElem?_getD, List.getElem?_set_ne (by omega), ← List.getD_eq_getElem?_getD]
   exact hz m hm
  ·rw [show i + (j + 1) = i + j + 1 by omega, h8, e1, Nat.mul_add (4294967296 ^ (i + j)), ← Nat.add_assoc, hv]
   have e2 : 4294967296 ^ (i + j) = 4294967296 ^ i * 4294967296 ^ j := Nat.pow_add _ _ _
   rw [e2]
   grind
theorem mul_outer (a b : List Int) (ha : okl a) (hb : okl b) (hla : lenok a) (hlb : lenok b) (d : Nat) : ∀ (i : Nat) (P : List Int), i + d = a.length → okl P → P.length = a.length + b.length →
  (∀ m, i + b.length ≤ m → P.getD m 0 = 0) → val P = val (a.take i) * val b → Ev (fun k => nat_Mul.l0 k b P a (a.length : Int) (i : Int)) (limbs (val a * val b)) := by
 induction d with
 | zero =>
  intro i P hi hP hPl hz hv
  obtain rfl : i = a.length := by omega
  rw [List.take_length] at hv
  unfold lenok at hla hlb
  rw [← hv]
  refine Ev.step (f := fun k => (nat_trim.f k P).bind fun t => some t) (fun k => ?_) (Ev.bind (f := fun _ t => some t) (trim_ev2 hP (by unfold lenok2; omega)) (Ev.now _))
  simp only [nat_Mul.l0]
  rw [if_neg (by omega)]
 | succ d ih =>
  intro i P hi hP hPl hz hv
  have hla' := hla
  unfold lenok at hla'
  refine Ev.step (fun k => ?_) (mul_inner a b ha hb hla hlb i (by omega) (val (a.take i) * val b) (fun P' h1 h2 h3 h4 => ih (i + 1) P' (by omega) h1 h2 h3 (by rw [h4, val_take_succ a i (by omega)]; grind)) b.length 0 P 0 (by omega) hP hPl hz (by omega) (by omega) (by simp [val, hv]))
  simp only [nat_Mul.l0]
  rw [if_pos (by omega), if_pos (by omega), if_pos (by omega), rd_nat]
  rfl
theorem mul_ev {a b : List Int} (ha : okl a) (hb : okl b) (hla : lenok a) (hlb : lenok b) : Ev (fun k => nat_Mul.f k a b) (limbs (val a * val b)) := by
 have l1 := limbs_val_len ha
 have l2 := limbs_val_len hb
 refine Ev.bind (trim_ev ha hla) (Ev.bind (trim_ev hb hlb) ?_)
 have hj1 : ∀ x y : List Int, Ev (fun k => nat_Mul.j0 k x y true) [] := fun x y => Ev.step (f := fun _ => some []) (fun k => by simp only [nat_Mul.j0, if_true]) (Ev.now _)
 by_cases h1 : val a = 0
 ·rw [h1, Nat.zero_mul, limbs_zero]
  exact Ev.ite_pos (by simp) (hj1 _ _)
 ·have h1' := List.length_pos_iff.2 (limbs_ne_nil h1)
  refine Ev.ite_neg (by omega) ?_
  by_cases h2 : val b = 0
  ·rw [h2, Nat.mul_zero, limbs_zero]
   exact hj1 _ _
  ·have h2' := List.length_pos_iff.2 (limbs_ne_nil h2)
   have e : (((limbs (val b)).length : Int) == 0) = false := by simp only [beq_eq_false_iff_ne]; omega
   rw [e]
   unfold lenok at hla hlb
   have w : wrap64 (((limbs (val a)).length : Int) + ((limbs (val b)).length : Int)) = ((limbs (val a)).length + (limbs (val b)).length : Nat) := by rw [wrap64_id (by omega) (by omega)]; omega
   refine Ev.step (f := fun k => nat_Mul.l0 k (limbs (val b)) (List.replicate ((limbs (val a)).length + (limbs (val b)).length) 0) (limbs (val a)) ((limbs (val a)).length : Int) 0) (fun k => ?_) ?_
   ·simp only [nat_Mul.j0]
    rw [if_neg (by decide), w, if_pos (by omega), if_pos (by omega), Int.toNat_natCast]
   ·have := mul_outer (limbs (val a)) (limbs (val b)) (okl_limbs _) (okl_limbs _) (by unfold lenok; omega) (by unfold lenok; omega) (limbs (val a)).length 0 (List.replicate ((limbs (val a)).length + (limbs (val b)).length) 0) (by omega) (okl_replicate _) (by simp) (fun m _ => by
      rw [List.getD_eq_getElem?_getD, List.getElem?_replicate]; split <;> rfl) (by simp [val, val_replicate])
    rw [val_limbs, val_limbs] at this
    exact this
theorem pow_le31 {n : Nat} (h : n ≤ 31) : 2 ^ n ≤ 2147483648 ∧ 0 < 2 ^ n := ⟨Nat.pow_le_pow_right (by decide) h, Nat.two_pow_pos n⟩
theorem shl_u64 {x : Int} {n : Nat} (h0 : 0 ≤ x) (h1 : x < 4294967296) (hn : n ≤ 31) : shl .u64 x (n : Int) = x * (2 ^ n : Nat) := by
 obtain ⟨p1, p2⟩ := pow_le31 hn
 obtain ⟨x, rfl⟩ := Int.eq_ofNat_of_zero_le h0
 have h2 : x * 2 ^ n ≤ 4294967295 * 2147483648 := Nat.mul_le_mul (by omega) p1
 unfold shl
 rw [Int.toNat_natCast, Nat.min_eq_left (by simp [IntKind.bits]; omega), show (x : Int) * (2 : Int) ^ n = ((x * 2 ^ n : Nat) : Int) by simp, wrapu64_id (by omega) (by omega)]
 simp
theorem shr_u64 {x : Int} {n : Nat} (hn : n ≤ 31) : shr .u64 x (n : Int) = x / (2 ^ n : Nat) := by
 unfold shr
 rw [Int.toNat_natCast, Nat.min_eq_left (by simp [IntKind.bits]; omega)]
 simp
theorem or_low {c x : Int} {n : Nat} (hn : n ≤ 31) (hc0 : 0 ≤ c) (hc1 : c < (2 ^ n : Nat)) (h0 : 0 ≤ x) (h1 : x < 4294967296) : Go.bits .or .u64 c (x * (2 ^ n : Nat)) = c + x * (2 ^ n : Nat) := by
 obtain ⟨p1, p2⟩ := pow_le31 hn
 obtain ⟨x, rfl⟩ := Int.eq_ofNat_of_zero_le h0
 obtain ⟨c, rfl⟩ := Int.eq_ofNat_of_zero_le hc0
 have h2 : x * 2 ^ n ≤ 4294967295 * 2147483648 := Nat.mul_le_mul (by omega) p1
 have h3 : c < 2 ^ n := by exact_mod_cast hc1
 have e : (x : Int) * ((2 ^ n : Nat) : Int) = ((x * 2 ^ n : Nat) : Int) := by simp
 rw [e, (bits_nat .u64 64 (by decide) (fun n a b => wrapu64_id a b) c (x * 2 ^ n) (by omega) (by omega)).2, Nat.or_comm, Nat.mul_comm, ← Nat.two_pow_add_eq_or_of_lt h3]
 simp [Int.add_comm]
theorem shiftUp_loop (a : List Int) (ha : okl a) (hla : lenok a) (s : Nat) (hs : s ≤ 31) (d : Nat) : ∀ (i : Nat) (o : List Int) (c : Int), i + d = a.length → okl o → o.length = a.length + 1 → 0 ≤ c → c < (2 ^ s : Nat) →
  val (o.take i) + 4294967296 ^ i * c.toNat = val (a.take i) * 2 ^ s →
  ∃ r, okl r ∧ r.length = a.length + 1 ∧ val r = val a * 2 ^ s ∧ Ev (fun k => nat_shiftUp.l0 k a (s : Int) o c a (a.length : Int) (i : Int)) r := by
 unfold lenok at hla
 obtain ⟨p1, p2⟩ := pow_le31 hs
 induction d with
 | zero =>
  intro i o c hi ho hol hc0 hc1 hv
  obtain rfl : i = a.length := by omega
  rw [List.take_length] at hv
  refine ⟨o.set a.length c, okl_set ho _ hc0 (by omega), by rw [List.length_set]; exact hol, ?_, ?_⟩
  ·have e1 : (o.set a.length c) = o.take a.length ++ [c] := by
    rw [List.set_eq_take_append_cons_drop, if_pos (by omega), List.drop_of_length_le (by omega)]
   rw [e1, val_append, List.length_take, Nat.min_eq_left (by omega)]
   simp only [val]
   omega
  ·refine Ev.step (f := fun _ => some (o.set a.length c)) (fun k => ?_) (Ev.now _)
   simp only [nat_shiftUp.l0]
   rw [if_neg (by omega), if_pos (by omega), if_pos (by omega), Int.toNat_natCast, show c % 4294967296 = c by omega]
 | succ d ih =>
  intro i o c hi ho hol hc0 hc1 hv
  have hx := getD_okl ha i
  obtain ⟨t, ht⟩ : ∃ t, t = c + a.getD i 0 * (2 ^ s : Nat) := ⟨_, rfl⟩
  have hm : 0 ≤ a.getD i 0 * ((2 ^ s : Nat) : Int) := Int.mul_nonneg hx.1 (by omega)
  have hm2 : (a.getD i 0 + 1) * ((2 ^ s : Nat) : Int) ≤ 4294967296 * ((2 ^ s : Nat) : Int) := Int.mul_le_mul_of_nonneg_right (by omega) (by omega)
  rw [Int.add_mul, Int.one_mul] at hm2
  have ht0 : 0 ≤ t := by omega
  have ht1 : t < 4294967296 * ((2 ^ s : Nat) : Int) := by omega
  have ht2 : t / 4294967296 < (2 ^ s : Nat) := by omega
  have e1 : (o.set i (t % 4294967296)).take (i + 1) = o.take i ++ [t % 4294967296] := by
   rw [List.set_eq_take_append_cons_drop, if_pos (by omega), List.take_append, List.length_take, Nat.min_eq_left (by omega), List.take_take, Nat.min_eq_right (by omega), show i + 1 - i = 1 by omega]
   rfl
  obtain ⟨r, h1, h2, h3, h4⟩ := ih (i + 1) (o.set i (t % 4294967296)) (t / 4294967296) (by omega) (okl_set ho _ (by omega) (by omega)) (by rw [List.length_set]; exact hol) (by omega) ht2 (by
   rw [e1, val_append, List.length_take, Nat.min_eq_left (by omega), val_take_succ a i (by omega), Nat.add_mul, ← hv]
   have e2 : (t % 4294967296).toNat + 4294967296 * (t / 4294967296).toNat = c.toNat + (a.getD i 0).toNat * 2 ^ s := by
    have : ((a.getD i 0).toNat * 2 ^ s : Nat) = (a.getD i 0 * ((2 ^ s : Nat) : Int)).toNat := by
     obtain ⟨x, hxx⟩ := Int.eq_ofNat_of_zero_le hx.1
     rw [hxx]
     have : (x : Int) * ((2 ^ s : Nat) : Int) = ((x * 2 ^ s : Nat) : Int) := by simp
     rw [this]; rfl
    omega
   simp only [val]
   rw [Nat.pow_succ]
   grind)
  refine ⟨r, h1, h2, h3, Ev.step (fun k => ?_) h4⟩
  simp only [nat_shiftUp.l0]
  rw [if_pos (by omega), if_pos (by omega), if_pos (by omega), if_pos (by omega), if_pos (by omega), rd_nat, wrapu64_id (x := a.getD i 0) (by omega) (by omega), shl_u64 hx.1 hx.2 hs, or_low hs hc0 hc1 hx.1 hx.2, ← ht,
   and_low ht0 (by omega), show t % 4294967296 % 4294967296 = t % 4294967296 by omega, wrap64_id (x := (i : Int) + 1) (by omega) (by omega), Int.toNat_natCast]
  rfl
theorem shiftUp_ev {a : List Int} (ha : okl a) (hla : lenok a) {s : Nat} (hs : s ≤ 31) : ∃ r, okl r ∧ r.length = a.length + 1 ∧ val r = val a * 2 ^ s ∧ Ev (fun k => nat_shiftUp.f k a (s : Int)) r := by
 have hla' := hla
 unfold lenok at hla'
 obtain ⟨r, h1, h2, h3, h4⟩ := shiftUp_loop a ha hla s hs a.length 0 (List.replicate (a.length + 1) 0) 0 (by omega) (okl_replicate _) (by simp) (by omega) (by have := (pow_le31 hs).2; omega) (by simp [val])
 refine ⟨r, h1, h2, h3, ?_⟩
 have w : wrap64 ((a.length : Int) + 1) = ((a.length + 1 : Nat) : Int) := by rw [wrap64_id (by omega) (by omega)]; rfl
 unfold nat_shiftUp.f
 simp only [w]
 refine Ev.ite_pos (by omega) (Ev.ite_pos (by omega) ?_)
 rw [Int.toNat_natCast]
 exact h4
def dn (a : List Int) (s i : Nat) : Int := ((a.getD i 0 + 4294967296 * a.getD (i + 1) 0) / ((2 ^ s : Nat) : Int)) % 4294967296
theorem dn_val (a o : List Int) (ha : okl a) (s : Nat) (hs : s ≤ 31) (hol : o.length = a.length) (ho : ∀ i, i < a.length → o.getD i 0 = dn a s i) (d : Nat) : ∀ i, i + d = a.length → val (o.drop i) = val (a.drop i) / 2 ^ s := by
 obtain ⟨p1, p2⟩ := pow_le31 hs
 induction d with
 | zero =>
  intro i hi
  rw [List.drop_of_length_le (by omega), List.drop_of_length_le (by omega)]
  simp [val]
 | succ d ih =>
  intro i hi
  have h1 := ih (i + 1) (by omega)
  rw [val_drop_one o i (by omega), val_drop_one a i (by omega), ho i (by omega), h1]
  have hx := getD_okl ha i
  have hy := getD_okl ha (i + 1)
  obtain ⟨x, hx'⟩ := Int.eq_ofNat_of_zero_le hx.1
  obtain ⟨y, hy'⟩ := Int.eq_ofNat_of_zero_le hy.1
  obtain ⟨V, hV⟩ : ∃ V, V = val (a.drop (i + 1)) := ⟨_, rfl⟩
  have hVy : V % 4294967296 = y := by
   rw [hV]
   by_cases h2 : i + 1 < a.length
   ·rw [val_drop_one a (i + 1) h2, hy', Int.toNat_natCast]; omega
   ·rw [List.drop_of_length_le (by omega)]
    rw [List.getD_eq_getElem?_getD, List.getElem?_eq_none (by omega)] at hy'
    simp at hy'
    simp [val]; omega
  rw [← hV]
  unfold dn
  rw [hx', hy']
  have e1 : ((((x : Int) + 4294967296 * (y : Int)) / ((2 ^ s : Nat) : Int)) % 4294967296).toNat = (x + 4294967296 * y) / 2 ^ s % 4294967296 := by
   have : ((x : Int) + 4294967296 * (y : Int)) = ((x + 4294967296 * y : Nat) : Int) := by simp
   rw [this, ← Int.natCast_ediv]
   omega
  rw [e1, Int.toNat_natCast]
  have hx2 : x < 4294967296 := by omega
  obtain ⟨e, he⟩ : ∃ e, 4294967296 = 2 ^ s * e := ⟨2 ^ (32 - s), by rw [← Nat.pow_add, show s + (32 - s) = 32 by omega]⟩
  have hVm := Nat.div_add_mod V 4294967296
  rw [hVy] at hVm
  have e2 : x + 4294967296 * V = (x + 4294967296 * y) + 2 ^ s * (e * (4294967296 * (V / 4294967296))) := by
   have : 4294967296 * V = 4294967296 * y + 4294967296 * (4294967296 * (V / 4294967296)) := by omega
   have h9 : 2 ^ s * (e * (4294967296 * (V / 4294967296))) = 4294967296 * (4294967296 * (V / 4294967296)) := by rw [← Nat.mul_assoc (2 ^ s), ← he]
   rw [this, h9]; omega
  have e3 : (x + 4294967296 * V) / 2 ^ s = (x + 4294967296 * y) / 2 ^ s + e * (4294967296 * (V / 4294967296)) := by rw [e2, Nat.add_mul_div_left _ _ p2]
  have e4 : (x + 4294967296 * V) / 2 ^ s % 4294967296 = (x + 4294967296 * y) / 2 ^ s % 4294967296 := by
   rw [e3, show e * (4294967296 * (V / 4294967296)) = 4294967296 * (e * (V / 4294967296)) by grind, Nat.add_mul_mod_self_left]
  have hVd := Nat.div_add_mod V (2 ^ s)
  have hVr := Nat.mod_lt V p2
  have e5 : (x + 4294967296 * V) / 2 ^ s = (x + 4294967296 * (V % 2 ^ s)) / 2 ^ s + 4294967296 * (V / 2 ^ s) := by
   have : x + 4294967296 * V = (x + 4294967296 * (V % 2 ^ s)) + 2 ^ s * (4294967296 * (V / 2 ^ s)) := by
    have h7 : 4294967296 * V = 4294967296 * (2 ^ s * (V / 2 ^ s) + V % 2 ^ s) := by rw [hVd]
    rw [h7]; grind
   rw [this, Nat.add_mul_div_left _ _ p2]
  have e6 : (x + 4294967296 * (V % 2 ^ s)) / 2 ^ s < 4294967296 := by
   rw [Nat.div_lt_iff_lt_mul p2]
   have : 4294967296 * (V % 2 ^ s + 1) ≤ 4294967296 * 2 ^ s := Nat.mul_le_mul_left _ (by omega)
   omega
  rw [← e4, e5, Nat.add_mul_mod_self_left, Nat.mod_eq_of_lt e6]
theorem shiftDown_loop (a : List Int) (ha : okl a) (hla : lenok2 a) (s : Nat) (hs : s ≤ 31) (d : Nat) : ∀ (i : Nat) (o : List Int), i + d = a.length → okl o → o.length = a.length → (∀ j, j < i → o.getD j 0 = dn a s j) →
  Ev (fun k => nat_shiftDown.l0 k a (s : Int) o (a.length : Int) (i : Int)) (limbs (val a / 2 ^ s)) := by
 unfold lenok2 at hla
 obtain ⟨p1, p2⟩ := pow_le31 hs
 induction d with
 | zero =>
  intro i o hi ho hol hd
  obtain rfl : i = a.length := by omega
  have := dn_val a o ha s hs hol hd a.length 0 (by omega)
  rw [List.drop_zero, List.drop_zero] at this
  rw [← this]
  refine Ev.step (f := fun k => (nat_trim.f k o).bind fun t => some t) (fun k => ?_) (Ev.bind (f := fun _ t => some t) (trim_ev2 ho (by unfold lenok2; omega)) (Ev.now _))
  simp only [nat_shiftDown.l0]
  rw [if_neg (by omega)]
 | succ d ih =>
  intro i o hi ho hol hd
  have hx := getD_okl ha i
  have hy := getD_okl ha (i + 1)
  have hdn : 0 ≤ dn a s i ∧ dn a s i < 4294967296 := by unfold dn; omega
  refine Ev.step (fun k => ?_) (ih (i + 1) (o.set i (dn a s i)) (by omega) (okl_set ho _ hdn.1 hdn.2) (by rw [List.length_set]; exact hol) (fun j hj => ?_))
  ·obtain ⟨t, ht⟩ : ∃ t, t = a.getD i 0 + 4294967296 * a.getD (i + 1) 0 := ⟨_, rfl⟩
   have hds : dn a s i = t / ((2 ^ s : Nat) : Int) % 4294967296 := by rw [ht]; rfl
   have ht0 : 0 ≤ t / ((2 ^ s : Nat) : Int) := Int.ediv_nonneg (by omega) (by omega)
   have ht1 : t / ((2 ^ s : Nat) : Int) < 18446744073709551616 := Int.ediv_lt_of_lt_mul (by omega) (by
    have : 18446744073709551616 * 1 ≤ 18446744073709551616 * ((2 ^ s : Nat) : Int) := Int.mul_le_mul_of_nonneg_left (by omega) (by omega)
    omega)
   have hor : Go.bits .or .u64 (a.getD i 0) (a.getD (i + 1) 0 * 4294967296) = t := by
    obtain ⟨x, hx'⟩ := Int.eq_ofNat_of_zero_le hx.1
    obtain ⟨y, hy'⟩ := Int.eq_ofNat_of_zero_le hy.1
    rw [ht, hx', hy']
    have e : (y : Int) * 4294967296 = ((4294967296 * y : Nat) : Int) := by omega
    rw [e, (bits_nat .u64 64 (by decide) (fun n a b => wrapu64_id a b) x (4294967296 * y) (by omega) (by omega)).2, Nat.or_comm, show (4294967296 : Nat) = 2 ^ 32 from rfl, ← Nat.two_pow_add_eq_or_of_lt (by omega)]
    omega
   simp only [nat_shiftDown.l0]
   rw [if_pos (by omega), if_pos (by omega), if_pos (by omega), wrap64_id (x := (i : Int) + 1) (by omega) (by omega)]
   by_cases h2 : i + 1 < a.length
   ·rw [if_pos (by omega), if_pos (by omega), if_pos (by omega), if_pos (by omega), rd_nat, show (i : Int) + 1 = ((i + 1 : Nat) : Int) by omega, rd_nat, wrapu64_id (x := a.getD i 0) (by omega) (by omega), wrapu64_id (x := a.getD (i + 1) 0) (by omega) (by omega),
     wrapu64_id (x := a.getD (i + 1) 0 * 4294967296) (by omega) (by omega), hor, shr_u64 hs, and_low ht0 ht1, Int.toNat_natCast, hds, show t / ((2 ^ s : Nat) : Int) % 4294967296 % 4294967296 = t / ((2 ^ s : Nat) : Int) % 4294967296 by omega]
   ·have hy0 : a.getD (i + 1) 0 = 0 := by rw [List.getD_eq_getElem?_getD, List.getElem?_eq_none (by omega)]; rfl
    rw [hy0] at ht
    rw [if_neg (by omega), if_pos (by omega), if_pos (by omega), rd_nat, wrapu64_id (x := a.getD i 0) (by omega) (by omega), show a.getD i 0 = t by omega, shr_u64 hs, and_low ht0 ht1, Int.toNat_natCast, hds, show t / ((2 ^ s : Nat) : Int) % 4294967296 % 4294967296 = t / ((2 ^ s : Nat) : Int) % 4294967296 by omega]
    rfl
  ·by_cases hji : j = i
   ·subst hji
    rw [List.getD_eq_getElem?_getD, List.getElem?_set_self (by omega)]; rfl
   ·rw [List.getD_eq_getElem?_getD, List.getElem?_set_ne (by omega), ← List.getD_eq_getElem?_getD]
    exact hd j (by omega)
theorem shiftDown_ev {a : List Int} (ha : okl a) (hla : lenok2 a) {s : Nat} (hs : s ≤ 31) : Ev (fun k => nat_shiftDown.f k a (s : Int)) (limbs (val a / 2 ^ s)) := by
 have hla' := hla
 unfold lenok2 at hla'
 unfold nat_shiftDown.f
 refine Ev.ite_pos (by omega) (Ev.ite_pos (by omega) ?_)
 rw [Int.toNat_natCast]
 exact shiftDown_loop a ha hla s hs a.length 0 _ (by omega) (okl_replicate _) (by simp) (fun j hj => by omega)
theorem tdown {t : Int} (h0 : -4294967297 ≤ t) (h1 : t < 4294967296) :
  Go.bits .and .u64 (IntKind.u64.wrap t) 4294967295 = t % 4294967296 ∧ IntKind.u64.wrap t / 9223372036854775808 = (if t < 0 then 1 else 0) := by
 have hw : 0 ≤ IntKind.u64.wrap t ∧ IntKind.u64.wrap t < 18446744073709551616 := by rw [wrapu64]; omega
 refine ⟨?_, ?_⟩
 ·rw [and_low hw.1 hw.2, wrapu64]; omega
 ·rw [wrapu64]; split <;> omega
theorem wrapu64_sub (x y z : Int) : IntKind.u64.wrap (IntKind.u64.wrap (x - y) - z) = IntKind.u64.wrap (x - y - z) := by
 rw [wrapu64, wrapu64, wrapu64]; omega
theorem sub_loop (v : List Int) (hv : okl v) (hlv : lenok v) (q : Int) (hq0 : 0 ≤ q) (hq1 : q < 4294967296) (U : Nat) (d : Nat) : ∀ (i : Nat) (u : List Int) (b c : Int), i + d = v.length → okl u → u.length = v.length + 1 →
  (b = 0 ∨ b = 1) → 0 ≤ c → c < 4294967296 → val u + q.toNat * val (v.take i) = U + 4294967296 ^ i * (b.toNat + c.toNat) →
  ∃ neg r, okl r ∧ r.length = v.length + 1 ∧ val r + q.toNat * val v = U + (if neg then 4294967296 ^ (v.length + 1) else 0) ∧ Ev (fun k => nat_subtract.l0 k u v q b c v (v.length : Int) (i : Int)) (neg, r) := by
 unfold lenok at hlv
 induction d with
 | zero =>
  intro i u b c hi hu hul hb hc0 hc1 hs
  obtain rfl : i = v.length := by omega
  have hx := getD_okl hu v.length
  obtain ⟨t, ht⟩ : ∃ t, t = u.getD v.length 0 - b - c := ⟨_, rfl⟩
  have td := tdown (t := t) (by omega) (by omega)
  rw [List.take_length] at hs
  refine ⟨decide (t < 0), u.set v.length (t % 4294967296), okl_set hu _ (by omega) (by omega), by rw [List.length_set]; exact hul, ?_, ?_⟩
  ·have h1 := val_set u v.length (by omega) (t % 4294967296)
   have e1 : (t % 4294967296).toNat + b.toNat + c.toNat = (u.getD v.length 0).toNat + 4294967296 * (if t < 0 then 1 else 0) := by split <;> omega
   have e2 : 4294967296 ^ v.length * ((t % 4294967296).toNat + b.toNat + c.toNat) = 4294967296 ^ v.length * ((u.getD v.length 0).toNat + 4294967296 * (if t < 0 then 1 else 0)) := by rw [e1]
   have e3 : (if decide (t < 0) = true then 4294967296 ^ (v.length + 1) else 0) = 4294967296 ^ v.length * (4294967296 * (if t < 0 then 1 else 0)) := by
    by_cases h : t < 0 <;> simp [h, Nat.pow_succ]
   rw [e3]
   generalize (if t < 0 then 1 else 0) = z at e2 ⊢
   grind
  ·refine Ev.step (f := fun _ => some (decide (t < 0), u.set v.length (t % 4294967296))) (fun k => ?_) (Ev.now _)
   simp only [nat_subtract.l0]
   rw [if_neg (by omega), if_pos (by omega), if_pos (by omega), rd_nat, wrapu64_id (x := u.getD v.length 0) (by omega) (by omega), wrapu64_sub, ← ht, td.1, td.2, Int.toNat_natCast, show t % 4294967296 % 4294967296 = t % 4294967296 by omega]
   by_cases h : t < 0 <;> simp [h]
 | succ d ih =>
  intro i u b c hi hu hul hb hc0 hc1 hs
  have hx := getD_okl hu i
  have hy := getD_okl hv i
  obtain ⟨x, hx'⟩ := Int.eq_ofNat_of_zero_le hy.1
  obtain ⟨qn, rfl⟩ := Int.eq_ofNat_of_zero_le hq0
  have hp : qn * x ≤ 4294967295 * 4294967295 := Nat.mul_le_mul (by omega) (by omega)
  have hcast : (qn : Int) * (v.getD i 0) = ((qn * x : Nat) : Int) := by rw [hx']; simp
  obtain ⟨m, hm⟩ : ∃ m, m = c + (qn : Int) * (v.getD i 0) := ⟨_, rfl⟩
  have hm0 : 0 ≤ m := by omega
  have hm1 : m < 18446744069414584321 := by omega
  obtain ⟨t, ht⟩ : ∃ t, t = u.getD i 0 - b - m % 4294967296 := ⟨_, rfl⟩
  have td := tdown (t := t) (by omega) (by omega)
  obtain ⟨neg, r, h1, h2, h3, h4⟩ := ih (i + 1) (u.set i (t % 4294967296)) (if t < 0 then 1 else 0) (m / 4294967296) (by omega) (okl_set hu _ (by omega) (by omega)) (by rw [List.length_set]; exact hul) (by split <;> simp) (by omega) (by omega) (by
   have h1 := val_set u i (by omega) (t % 4294967296)
   have e1 : (t % 4294967296).toNat + b.toNat + c.toNat + qn * x = (u.getD i 0).toNat + 4294967296 * ((if t < 0 then (1 : Int) else 0).toNat + (m / 4294967296).toNat) := by split <;> omega
   have e2 : 4294967296 ^ i * ((t % 4294967296).toNat + b.toNat + c.toNat + qn * x) = 4294967296 ^ i * ((u.getD i 0).toNat + 4294967296 * ((if t < 0 then (1 : Int) else 0).toNat + (m / 4294967296).toNat)) := by rw [e1]
   have e4 : val (v.take (i + 1)) = val (v.take i) + 4294967296 ^ i * x := by rw [val_take_succ v i (by omega), hx']; rfl
   rw [e4, Nat.pow_succ]
   rw [Int.toNat_natCast] at hs ⊢
   generalize ((if t < 0 then (1 : Int) else 0).toNat + (m / 4294967296).toNat) = z at e2 ⊢
   grind)
  refine ⟨neg, r, h1, h2, h3, Ev.step (fun k => ?_) h4⟩
  simp only [nat_subtract.l0]
  rw [if_pos (by omega), if_pos (by omega), if_pos (by omega), if_pos (by omega), rd_nat, rd_nat, wrapu64_id (x := u.getD i 0) (by omega) (by omega), wrapu64_id (x := v.getD i 0) (by omega) (by omega), wrapu64_id (x := (qn : Int) * v.getD i 0) (by omega) (by omega), ← hm, wrapu64_id (x := m) (by omega) (by omega),
   and_low hm0 (by omega), wrapu64_sub, ← ht, td.1, td.2, show t % 4294967296 % 4294967296 = t % 4294967296 by omega, wrap64_id (x := (i : Int) + 1) (by omega) (by omega), Int.toNat_natCast]
  rfl
theorem subtract_ev {u v : List Int} (hu : okl u) (hv : okl v) (hlv : lenok v) {q : Int} (hq0 : 0 ≤ q) (hq1 : q < 4294967296) {lo : Nat} (hl : lo + v.length + 1 ≤ u.length) :
  ∃ neg w, okl w ∧ w.length = v.length + 1 ∧ val w + q.toNat * val v = val ((u.drop lo).take (v.length + 1)) + (if neg then 4294967296 ^ (v.length + 1) else 0) ∧
   Ev (fun k => nat_subtract.f k u (lo : Int) ((lo + v.length + 1 : Nat) : Int) v q) (neg, u.take lo ++ w ++ u.drop (lo + v.length + 1)) := by
 have e : (u.take (lo + v.length + 1)).drop lo = (u.drop lo).take (v.length + 1) := by rw [List.drop_take]; congr 1; omega
 obtain ⟨neg, w, h1, h2, h3, h4⟩ := sub_loop v hv hlv q hq0 hq1 (val ((u.drop lo).take (v.length + 1))) v.length 0 ((u.drop lo).take (v.length + 1)) 0 0 (by omega) (okl_take (okl_drop hu _) _) (by rw [List.length_take, List.length_drop]; omega) (.inl rfl) (by omega) (by omega) (by simp [val])
 refine ⟨neg, w, h1, h2, h3, ?_⟩
 unfold nat_subtract.f
 refine Ev.ite_pos (by omega) (Ev.ite_pos (by omega) (Ev.ite_pos (by omega) ?_))
 simp only [Int.toNat_natCast]
 rw [e]
 exact Ev.bind (f := fun _ t => some (t.1, u.take lo ++ t.2 ++ u.drop (lo + v.length + 1))) h4 (Ev.now _)
theorem add_loop (v : List Int) (hv : okl v) (hlv : lenok v) (U : Nat) (d : Nat) : ∀ (i : Nat) (u : List Int) (c : Int), i + d = v.length → okl u → u.length = v.length + 1 →
  0 ≤ c → c < 4294967296 → val u + 4294967296 ^ i * c.toNat = U + val (v.take i) →
  ∃ r, okl r ∧ r.length = v.length + 1 ∧ (∃ z : Nat, val r + z * 4294967296 ^ (v.length + 1) = U + val v) ∧ Ev (fun k => nat_addBack.l0 k u v c v (v.length : Int) (i : Int)) r := by
 unfold lenok at hlv
 induction d with
 | zero =>
  intro i u c hi hu hul hc0 hc1 hs
  obtain rfl : i = v.length := by omega
  have hx := getD_okl hu v.length
  rw [List.take_length] at hs
  obtain ⟨t, ht⟩ : ∃ t, t = u.getD v.length 0 + c := ⟨_, rfl⟩
  refine ⟨u.set v.length (t % 4294967296), okl_set hu _ (by omega) (by omega), by rw [List.length_set]; exact hul, ⟨(t / 4294967296).toNat, ?_⟩, ?_⟩
  ·have h1 := val_set u v.length (by omega) (t % 4294967296)
   have e1 : (t % 4294967296).toNat + 4294967296 * (t / 4294967296).toNat = (u.getD v.length 0).toNat + c.toNat := by omega
   have e2 : 4294967296 ^ v.length * ((t % 4294967296).toNat + 4294967296 * (t / 4294967296).toNat) = 4294967296 ^ v.length * ((u.getD v.length 0).toNat + c.toNat) := by rw [e1]
   rw [Nat.pow_succ]
   grind
  ·refine Ev.step (f := fun _ => some (u.set v.length (t % 4294967296))) (fun k => ?_) (Ev.now _)
   simp only [nat_addBack.l0]
   rw [if_neg (by omega), if_pos (by omega), if_pos (by omega), rd_nat, Int.toNat_natCast, show c % 4294967296 = c by omega, ← ht]
 | succ d ih =>
  intro i u c hi hu hul hc0 hc1 hs
  have hx := getD_okl hu i
  have hy := getD_okl hv i
  obtain ⟨t, ht⟩ : ∃ t, t = c + (u.getD i 0 + v.getD i 0) := ⟨_, rfl⟩
  obtain ⟨r, h1, h2, h3, h4⟩ := ih (i + 1) (u.set i (t % 4294967296)) (t / 4294967296) (by omega) (okl_set hu _ (by omega) (by omega)) (by rw [List.length_set]; exact hul) (by omega) (by omega) (by
   have h1 := val_set u i (by omega) (t % 4294967296)
   have e1 : (t % 4294967296).toNat + 4294967296 * (t / 4294967296).toNat = c.toNat + (u.getD i 0).toNat + (v.getD i 0).toNat := by omega
   have e2 : 4294967296 ^ i * ((t % 4294967296).toNat + 4294967296 * (t / 4294967296).toNat) = 4294967296 ^ i * (c.toNat + (u.getD i 0).toNat + (v.getD i 0).toNat) := by rw [e1]
   rw [val_take_succ v i (by omega), Nat.pow_succ]
   grind)
  refine ⟨r, h1, h2, h3, Ev.step (fun k => ?_) h4⟩
  simp only [nat_addBack.l0]
  rw [if_pos (by omega), if_pos (by omega), if_pos (by omega), if_pos (by omega), rd_nat, rd_nat, wrapu64_id (x := u.getD i 0) (by omega) (by omega), wrapu64_id (x := v.getD i 0) (by omega) (by omega), wrapu64_id (x := u.getD i 0 + v.getD i 0) (by omega) (by omega), ← ht, wrapu64_id (x := t) (by omega) (by omega),
   and_low (by omega) (by omega), show t % 4294967296 % 4294967296 = t % 4294967296 by omega, wrap64_id (x := (i : Int) + 1) (by omega) (by omega), Int.toNat_natCast]
  rfl
theorem addBack_ev {u v : List Int} (hu : okl u) (hv : okl v) (hlv : lenok v) {lo : Nat} (hl : lo + v.length + 1 ≤ u.length) :
  ∃ w, okl w ∧ w.length = v.length + 1 ∧ (∃ z : Nat, val w + z * 4294967296 ^ (v.length + 1) = val ((u.drop lo).take (v.length + 1)) + val v) ∧
   Ev (fun k => nat_addBack.f k u (lo : Int) ((lo + v.length + 1 : Nat) : Int) v) (u.take lo ++ w ++ u.drop (lo + v.length + 1)) := by
 have e : (u.take (lo + v.length + 1)).drop lo = (u.drop lo).take (v.length + 1) := by rw [List.drop_take]; congr 1; omega
 obtain ⟨w, h1, h2, h3, h4⟩ := add_loop v hv hlv (val ((u.drop lo).take (v.length + 1))) v.length 0 ((u.drop lo).take (v.length + 1)) 0 (by omega) (okl_take (okl_drop hu _) _) (by rw [List.length_take, List.length_drop]; omega) (by omega) (by omega) (by simp [val])
 refine ⟨w, h1, h2, h3, ?_⟩
 unfold nat_addBack.f
 refine Ev.ite_pos (by omega) (Ev.ite_pos (by omega) (Ev.ite_pos (by omega) ?_))
 simp only [Int.toNat_natCast]
 rw [e]
 exact Ev.bind (f := fun _ t => some (u.take lo ++ t ++ u.drop (lo + v.length + 1))) h4 (Ev.now _)
theorem guess_loop (u0 v1 v0 head : Nat) (h0 : u0 < 4294967296) (h1 : v1 < 4294967296) (h1' : 2147483648 ≤ v1) (h2 : v0 < 4294967296) (hh : head < v1 * 4294967296 + 4294967296) (d : Nat) :
  ∀ (digit rest : Nat), 4294967296 - rest ≤ d → digit * v1 + rest = head → rest < 4294967296 → (∀ q, q < 4294967296 → q * (v1 * 4294967296 + v0) ≤ head * 4294967296 + u0 → q ≤ digit) →
   ∃ r : Nat, r < 4294967296 ∧ r * (v1 * 4294967296 + v0) ≤ head * 4294967296 + u0 ∧ (∀ q, q < 4294967296 → q * (v1 * 4294967296 + v0) ≤ head * 4294967296 + u0 → q ≤ r) ∧
    Ev (fun k => nat_guess.l0 k (u0 : Int) (v1 : Int) (v0 : Int) (digit : Int) (rest : Int)) (r : Int) := by
 induction d with
 | zero => intro digit rest hd _ hr; omega
 | succ d ih =>
  intro digit rest hd he hr hq
  have hdv : digit * 2147483648 ≤ digit * v1 := Nat.mul_le_mul_left _ h1'
  have hdb : digit < 8589934592 := by omega
  have eU : head * 4294967296 + u0 = digit * (v1 * 4294967296) + (rest * 4294967296 + u0) := by rw [← he]; grind
  have eV : digit * (v1 * 4294967296 + v0) = digit * (v1 * 4294967296) + digit * v0 := Nat.mul_add _ _ _
  by_cases ht : 4294967296 ≤ digit ∨ rest * 4294967296 + u0 < digit * v0
  ·
   have hpos : 1 ≤ digit := by
    rcases ht with h | h
    ·omega
    ·rcases Nat.eq_zero_or_pos digit with h3 | h3
     ·rw [h3] at h; omega
     ·exact h3
   have hq' : ∀ q, q < 4294967296 → q * (v1 * 4294967296 + v0) ≤ head * 4294967296 + u0 → q ≤ digit - 1 := by
    intro q hq1 hq2
    have h3 := hq q hq1 hq2
    rcases ht with h | h
    ·omega
    ·rcases Nat.lt_or_ge q digit with h4 | h4
     ·omega
     ·have : q = digit := by omega
      rw [this, eV, eU] at hq2
      omega
   have hstep : ∀ k, nat_guess.l0 (k + 2) (u0 : Int) (v1 : Int) (v0 : Int) (digit : Int) (rest : Int) = (if IntKind.u64.wrap ((rest : Int) + IntKind.u64.wrap (v1 : Int)) > 4294967295 then some (IntKind.u64.wrap ((digit : Int) - 1)) else nat_guess.l0 k (u0 : Int) (v1 : Int) (v0 : Int) (IntKind.u64.wrap ((digit : Int) - 1)) (IntKind.u64.wrap ((rest : Int) + IntKind.u64.wrap (v1 : Int)))) := by
    intro k
    simp only [nat_guess.l0]
    by_cases h : 4294967296 ≤ digit
    ·rw [if_pos (by omega)]; simp only [nat_guess.j1, if_true]
    ·rw [if_neg (by omega)]
     have h3 := ht.resolve_left h
     have h4 : (digit : Int) * (v0 : Int) = ((digit * v0 : Nat) : Int) := by simp
     have h5 : digit * v0 ≤ 4294967295 * 4294967295 := Nat.mul_le_mul (by omega) (by omega)
     have h6 : decide (IntKind.u64.wrap ((digit : Int) * IntKind.u64.wrap (v0 : Int)) > Go.bits .or .u64 (IntKind.u64.wrap ((rest : Int) * 4294967296)) (IntKind.u64.wrap (u0 : Int))) = true := by
      rw [wrapu64_id (x := (v0 : Int)) (by omega) (by omega), h4, wrapu64_id (by omega) (by omega), wrapu64_id (x := (rest : Int) * 4294967296) (by omega) (by omega), wrapu64_id (x := (u0 : Int)) (by omega) (by omega), or_high (by omega) (by omega) (by omega) (by omega)]
      exact decide_eq_true (by omega)
     rw [h6]; simp only [nat_guess.j1, if_true]
   have w1 : IntKind.u64.wrap ((rest : Int) + IntKind.u64.wrap (v1 : Int)) = ((rest + v1 : Nat) : Int) := by rw [wrapu64_id (x := (v1 : Int)) (by omega) (by omega), wrapu64_id (by omega) (by omega)]; simp
   have w2 : IntKind.u64.wrap ((digit : Int) - 1) = ((digit - 1 : Nat) : Int) := by rw [wrapu64_id (by omega) (by omega)]; omega
   rw [w1, w2] at hstep
   have e1 : (digit - 1) * v1 + (rest + v1) = head := by
    obtain ⟨m, rfl⟩ : ∃ m, digit = m + 1 := ⟨digit - 1, by omega⟩
    rw [Nat.add_mul] at he
    simp; omega
   by_cases hb : 4294967296 ≤ rest + v1
   ·
    have hlt : (digit - 1) * v1 < 4294967296 * v1 := by omega
    have hlt2 : digit - 1 < 4294967296 := Nat.lt_of_mul_lt_mul_right hlt
    refine ⟨digit - 1, hlt2, ?_, hq', ?_⟩
    ·have h5 : (digit - 1) * v0 ≤ 4294967295 * 4294967295 := Nat.mul_le_mul (by omega) (by omega)
     have : head * 4294967296 + u0 = (digit - 1) * (v1 * 4294967296) + ((rest + v1) * 4294967296 + u0) := by rw [← e1]; grind
     rw [this, Nat.mul_add]
     omega
    ·refine ⟨2, fun k hk => ?_⟩
     obtain ⟨m, rfl⟩ : ∃ m, k = m + 2 := ⟨k - 2, by omega⟩
     show nat_guess.l0 (m + 2) _ _ _ _ _ = _
     rw [hstep, if_pos (by omega)]
   ·obtain ⟨r, a1, a2, a3, a4⟩ := ih (digit - 1) (rest + v1) (by omega) e1 (by omega) hq'
    refine ⟨r, a1, a2, a3, ?_⟩
    obtain ⟨K, hK⟩ := a4
    refine ⟨K + 2, fun k hk => ?_⟩
    obtain ⟨m, rfl⟩ : ∃ m, k = m + 2 := ⟨k - 2, by omega⟩
    show nat_guess.l0 (m + 2) _ _ _ _ _ = _
    rw [hstep, if_neg (by omega)]
    exact hK m (by omega)
  ·
   have h3 : digit < 4294967296 := by omega
   have h4 : digit * v0 ≤ rest * 4294967296 + u0 := by omega
   refine ⟨digit, h3, by rw [eV, eU]; omega, hq, ⟨2, fun k hk => ?_⟩⟩
   obtain ⟨m, rfl⟩ : ∃ m, k = m + 2 := ⟨k - 2, by omega⟩
   show nat_guess.l0 (m + 1 + 1) _ _ _ _ _ = _
   simp only [nat_guess.l0]
   rw [if_neg (by omega)]
   have h4' : (digit : Int) * (v0 : Int) = ((digit * v0 : Nat) : Int) := by simp
   have h6 : decide (IntKind.u64.wrap ((digit : Int) * IntKind.u64.wrap (v0 : Int)) > Go.bits .or .u64 (IntKind.u64.wrap ((rest : Int) * 4294967296)) (IntKind.u64.wrap (u0 : Int))) = false := by
    rw [wrapu64_id (x := (v0 : Int)) (by omega) (by omega), h4', wrapu64_id (by omega) (by omega), wrapu64_id (x := (rest : Int) * 4294967296) (by omega) (by omega), wrapu64_id (x := (u0 : Int)) (by omega) (by omega), or_high (by omega) (by omega) (by omega) (by omega)]
    exact decide_eq_false (by omega)
   rw [h6]
   simp only [nat_guess.j1]
   rw [if_neg (by decide)]
theorem guess_ev {u2 u1 u0 v1 v0 : Nat} (hu1 : u1 < 4294967296) (h0 : u0 < 4294967296) (h1 : v1 < 4294967296) (h1' : 2147483648 ≤ v1) (h2 : v0 < 4294967296) (hu2 : u2 ≤ v1) :
  ∃ r : Nat, r < 4294967296 ∧ r * (v1 * 4294967296 + v0) ≤ (u2 * 4294967296 + u1) * 4294967296 + u0 ∧ (∀ q, q < 4294967296 → q * (v1 * 4294967296 + v0) ≤ (u2 * 4294967296 + u1) * 4294967296 + u0 → q ≤ r) ∧
   Ev (fun k => nat_guess.f k (u2 : Int) (u1 : Int) (u0 : Int) (v1 : Int) (v0 : Int)) (r : Int) := by
 have hm : u2 * 4294967296 ≤ v1 * 4294967296 := Nat.mul_le_mul_right _ hu2
 obtain ⟨head, hhead⟩ : ∃ h, h = u2 * 4294967296 + u1 := ⟨_, rfl⟩
 have hd := Nat.div_add_mod head v1
 have hr := Nat.mod_lt head (show 0 < v1 by omega)
 obtain ⟨r, a1, a2, a3, a4⟩ := guess_loop u0 v1 v0 head h0 h1 h1' h2 (by omega) (4294967296 - head % v1) (head / v1) (head % v1) (Nat.le_refl _) (by rw [Nat.mul_comm]; exact hd) (by omega) (fun q hq1 hq2 => by
  rw [Nat.le_div_iff_mul_le (by omega)]
  have h3 : q * (v1 * 4294967296) ≤ q * (v1 * 4294967296 + v0) := Nat.mul_le_mul_left q (Nat.le_add_right _ _)
  have h4 : q * (v1 * 4294967296) = q * v1 * 4294967296 := by grind
  omega)
 refine ⟨r, a1, by rw [← hhead]; exact a2, by rw [← hhead]; exact a3, ?_⟩
 unfold nat_guess.f
 refine Ev.ite_neg (by rw [wrapu64_id (by omega) (by omega)]; omega) ?_
 have e1 : Go.bits .or .u64 (IntKind.u64.wrap ((IntKind.u64.wrap (u2 : Int)) * 4294967296)) (IntKind.u64.wrap (u1 : Int)) = (head : Int) := by
  rw [wrapu64_id (x := (u2 : Int)) (by omega) (by omega), wrapu64_id (x := (u2 : Int) * 4294967296) (by omega) (by omega), wrapu64_id (x := (u1 : Int)) (by omega) (by omega), or_high (by omega) (by omega) (by omega) (by omega)]
  omega
 have e2 : head / v1 ≤ head := Nat.div_le_self _ _
 have e3 : IntKind.u64.wrap (Int.tdiv (head : Int) (IntKind.u64.wrap (v1 : Int))) = ((head / v1 : Nat) : Int) := by
  rw [wrapu64_id (x := (v1 : Int)) (by omega) (by omega), Int.tdiv_eq_ediv_of_nonneg (by omega), ← Int.natCast_ediv, wrapu64_id (Int.natCast_nonneg _) (by omega)]
 have e4 : Int.tmod (head : Int) (IntKind.u64.wrap (v1 : Int)) = ((head % v1 : Nat) : Int) := by
  rw [wrapu64_id (x := (v1 : Int)) (by omega) (by omega), Int.tmod_eq_emod_of_nonneg (by omega), ← Int.natCast_emod]
 rw [e1, e3, e4]
 exact a4
theorem knuth {U v V2 U3 P vr ur r : Nat} (hP : 0 < P) (hv : v = V2 * P + vr) (hvr : vr < P) (hU : U = U3 * P + ur) (hur : ur < P) (hlt : U < v * 4294967296) (hbig : 2147483648 * 4294967296 ≤ V2)
  (hr : r < 4294967296) (hr1 : r * V2 ≤ U3) (hr2 : ∀ q, q < 4294967296 → q * V2 ≤ U3 → q ≤ r) : U / v ≤ r ∧ r ≤ U / v + 1 := by
 have hVP : 1 * P ≤ V2 * P := Nat.mul_le_mul_right _ (by omega)
 have hv0 : 0 < v := by omega
 have hd := Nat.div_add_mod U v
 have hm := Nat.mod_lt U hv0
 obtain ⟨q, hq⟩ : ∃ q, q = U / v := ⟨_, rfl⟩
 rw [← hq] at hd ⊢
 have hq1 : q < 4294967296 := by rw [hq, Nat.div_lt_iff_lt_mul hv0, Nat.mul_comm]; exact hlt
 refine ⟨hr2 q hq1 ?_, ?_⟩
 ·have h1 : q * V2 * P ≤ q * v := by rw [Nat.mul_assoc]; exact Nat.mul_le_mul_left _ (by omega)
  have h2 : q * V2 * P < (U3 + 1) * P := by rw [Nat.add_mul]; rw [Nat.mul_comm q v] at h1; omega
  have := Nat.lt_of_mul_lt_mul_right h2
  omega
 ·have h1 : r * V2 * P ≤ U3 * P := Nat.mul_le_mul_right _ hr1
  have h2 : r * v = r * V2 * P + r * vr := by rw [hv, Nat.mul_add, Nat.mul_assoc]
  have h3 : r * vr ≤ r * P := Nat.mul_le_mul_left _ (by omega)
  have h4 : r * P ≤ 4294967296 * P := Nat.mul_le_mul_right _ (by omega)
  have h5 : 4294967296 * P ≤ V2 * P := Nat.mul_le_mul_right _ (by omega)
  have h6 : r * v < (q + 2) * v := by rw [Nat.add_mul, Nat.mul_comm q v]; omega
  have := Nat.lt_of_mul_lt_mul_right h6
  omega
theorem drop_app {l w : List Int} {d m : Nat} (hd : d ≤ l.length) : ((l.take d) ++ w ++ l.drop m).drop d = w ++ l.drop m := by
 rw [List.append_assoc, List.drop_append, List.length_take, Nat.min_eq_left hd, Nat.sub_self, List.drop_of_length_le (by rw [List.length_take]; omega)]; rfl
theorem divmod_loop (v : List Int) (hv : okl v) (hlv : lenok v) (n : Nat) (hn : v.length = n) (hn2 : 2 ≤ n) (htop : 2147483648 ≤ v.getD (n - 1) 0) (s : Nat) (hs : s ≤ 31) (X : Nat) (d : Nat) :
  ∀ (u q : List Int), okl u → okl q → d + n ≤ u.length → lenok2 u → d ≤ q.length → lenok2 q → val (u.drop d) < val v → X = val (q.drop d) * (4294967296 ^ d * val v) + val u →
   Ev (fun k => nat_DivMod.l0 k (n : Int) (s : Int) u v q ((d : Int) - 1)) (limbs (X / val v), limbs (X % val v / 2 ^ s), true) := by
 have hvB : val v < 4294967296 ^ n := by have := val_lt hv; rwa [hn] at this
 unfold lenok at hlv
 induction d with
 | zero =>
  intro u q hu hq hul hlu hql hlq hlt hX
  rw [List.drop_zero] at hlt hX
  rw [Nat.pow_zero, Nat.one_mul] at hX
  unfold lenok2 at hlu hlq
  have hv0 : 0 < val v := by omega
  have e1 : X / val v = val q := by rw [hX]; exact Nat.div_eq_of_lt_le (by omega) (by rw [Nat.add_mul]; omega)
  have e2 : X % val v = val u := by rw [hX, Nat.mul_comm, Nat.mul_add_mod, Nat.mod_eq_of_lt hlt]
  have e3 : val (u.take n) = val u := by
   have h1 := val_take_drop u n (by omega)
   rcases Nat.eq_zero_or_pos (val (u.drop n)) with h | h
   ·rw [h] at h1; omega
   ·have : 4294967296 ^ n * 1 ≤ 4294967296 ^ n * val (u.drop n) := Nat.mul_le_mul_left _ h
    omega
  rw [e1, e2, ← e3]
  refine Ev.step (f := fun k => (nat_trim.f k q).bind fun t => if 0 ≤ (n : Int) then (if (n : Int) ≤ (u.length : Int) then ((nat_shiftDown.f k (u.take ((n : Int) : Int).toNat) (s : Int)).bind fun t2 => some (t, t2, true)) else none) else none) (fun k => ?_) ?_
  ·simp only [nat_DivMod.l0]
   rw [if_neg (by omega)]
  ·refine Ev.bind (f := fun k t => if 0 ≤ (n : Int) then (if (n : Int) ≤ (u.length : Int) then ((nat_shiftDown.f k (u.take ((n : Int) : Int).toNat) (s : Int)).bind fun t2 => some (t, t2, true)) else none) else none) (trim_ev2 hq (by unfold lenok2; omega)) ?_
   refine Ev.ite_pos (by omega) (Ev.ite_pos (by omega) ?_)
   rw [Int.toNat_natCast]
   exact Ev.bind (f := fun _ t2 => some (limbs (val q), t2, true)) (shiftDown_ev (okl_take hu n) (by unfold lenok2; rw [List.length_take]; omega) hs) (Ev.now _)
 | succ d ih =>
  intro u q hu hq hul hlu hql hlq hlt hX
  unfold lenok2 at hlu hlq
  have HX := Aside0.mk hX
  clear hX
  obtain ⟨m, rfl⟩ : ∃ m, n = m + 2 := ⟨n - 2, by omega⟩
  have hul2 : u.length < 17592186044417 := by omega
  have i1 := Aside0.mk (show wrap64 ((d : Int) + ((m + 2 : Nat) : Int)) = ((d + (m + 2) : Nat) : Int) by rw [wrap64_id (by omega) (by omega)]; omega)
  have i2 := Aside0.mk (show wrap64 (((d + (m + 2) : Nat) : Int) - 1) = ((d + (m + 1) : Nat) : Int) by rw [wrap64_id (by omega) (by omega)]; omega)
  have i3 := Aside0.mk (show wrap64 (((d + (m + 2) : Nat) : Int) - 2) = ((d + m : Nat) : Int) by rw [wrap64_id (by omega) (by omega)]; omega)
  have i4 := Aside0.mk (show wrap64 (((m + 2 : Nat) : Int) - 1) = ((m + 1 : Nat) : Int) by rw [wrap64_id (by omega) (by omega)]; omega)
  have i5 := Aside0.mk (show wrap64 (((m + 2 : Nat) : Int) - 2) = ((m : Nat) : Int) by rw [wrap64_id (by omega) (by omega)]; omega)
  have i6 := Aside0.mk (show wrap64 (((d + (m + 2) : Nat) : Int) + 1) = ((d + (m + 2) + 1 : Nat) : Int) by rw [wrap64_id (by omega) (by omega)]; omega)
  have i7 := Aside0.mk (show wrap64 ((d : Int) - 1) = (d : Int) - 1 from wrap64_id (by omega) (by omega))
  obtain ⟨W, hW⟩ : ∃ W, W = (u.drop d).take (m + 2 + 1) := ⟨_, rfl⟩
  have hWl : W.length = m + 2 + 1 := by rw [hW, List.length_take, List.length_drop]; omega
  have hWo : okl W := by rw [hW]; exact okl_take (okl_drop hu _) _
  have hWg : ∀ i, i < m + 2 + 1 → W.getD i 0 = u.getD (d + i) 0 := fun i hi => by
   rw [hW, List.getD_eq_getElem?_getD, List.getElem?_take_of_lt hi, List.getElem?_drop, ← List.getD_eq_getElem?_getD]
  have e1 := val_drop_one u d (by omega)
  have hud := getD_okl hu d
  have hBv : val (u.drop d) < val v * 4294967296 := by
   have : (val (u.drop (d + 1)) + 1) * 4294967296 ≤ val v * 4294967296 := Nat.mul_le_mul_right _ hlt
   omega
  obtain ⟨P, hP⟩ : ∃ P, P = 4294967296 ^ m := ⟨_, rfl⟩
  have hP0 : 0 < P := by rw [hP]; exact Nat.pow_pos (by decide)
  obtain ⟨T1, hT1⟩ : ∃ T, T = P * 4294967296 := ⟨_, rfl⟩
  obtain ⟨T2, hT2⟩ : ∃ T, T = T1 * 4294967296 := ⟨_, rfl⟩
  obtain ⟨T3, hT3⟩ : ∃ T, T = T2 * 4294967296 := ⟨_, rfl⟩
  have p1 := Aside0.mk (show (4294967296 : Nat) ^ (m + 1) = T1 by rw [Nat.pow_succ, ← hP, hT1])
  have p2 := Aside0.mk (show (4294967296 : Nat) ^ (m + 2) = T2 by rw [Nat.pow_succ, p1.out, hT2])
  have p3 := Aside0.mk (show (4294967296 : Nat) ^ (m + 2 + 1) = T3 by rw [Nat.pow_succ, p2.out, hT3])
  have HP := Aside0.mk hP
  clear hP
  rw [p2.out] at hvB
  have hWv : val (u.drop d) = val W ∧ val (u.drop (d + (m + 2) + 1)) = 0 := by
   have h1 := val_take_drop (u.drop d) (m + 2 + 1) (by rw [List.length_drop]; omega)
   rw [← hW, List.drop_drop, show d + (m + 2 + 1) = d + (m + 2) + 1 by omega, p3.out] at h1
   rcases Nat.eq_zero_or_pos (val (u.drop (d + (m + 2) + 1))) with h | h
   ·exact ⟨by rw [h1, h, Nat.mul_zero, Nat.add_zero], h⟩
   ·have : T3 * 1 ≤ T3 * val (u.drop (d + (m + 2) + 1)) := Nat.mul_le_mul_left T3 h
    omega
  obtain ⟨hWv, hz⟩ := hWv
  have w0 := val_take_succ W m (by omega)
  have w1 := val_take_succ W (m + 1) (by omega)
  have w2 := val_take_succ W (m + 2) (by omega)
  have hWt : W.take (m + 2 + 1) = W := List.take_of_length_le (by omega)
  rw [hWt] at w2
  have v0 := val_take_succ v m (by omega)
  have v1 := val_take_succ v (m + 1) (by omega)
  have hvt : v.take (m + 1 + 1) = v := List.take_of_length_le (by omega)
  rw [hvt] at v1
  have bu2 := getD_okl hWo (m + 2)
  have bu1 := getD_okl hWo (m + 1)
  have bu0 := getD_okl hWo m
  have bv1 := getD_okl hv (m + 1)
  have bv0 := getD_okl hv m
  have bur := val_lt (okl_take hWo m)
  have bvr := val_lt (okl_take hv m)
  rw [List.length_take, Nat.min_eq_left (by omega)] at bur bvr
  obtain ⟨u2, hu2⟩ := Int.eq_ofNat_of_zero_le bu2.1
  obtain ⟨u1, hu1⟩ := Int.eq_ofNat_of_zero_le bu1.1
  obtain ⟨u0, hu0⟩ := Int.eq_ofNat_of_zero_le bu0.1
  obtain ⟨y1, hy1⟩ := Int.eq_ofNat_of_zero_le bv1.1
  obtain ⟨y0, hy0⟩ := Int.eq_ofNat_of_zero_le bv0.1
  rw [show m + 2 - 1 = m + 1 by omega, hy1] at htop
  rw [hu2] at w2 bu2
  rw [hu1] at w1 bu1
  rw [hu0] at w0 bu0
  rw [hy1] at v1 bv1
  rw [hy0] at v0 bv0
  simp only [Int.toNat_natCast] at w0 w1 w2 v0 v1
  rw [p1.out] at w1 v1
  rw [p2.out] at w2
  rw [← HP.out] at w0 v0 bur bvr
  obtain ⟨V2, hV2⟩ : ∃ V, V = y1 * 4294967296 + y0 := ⟨_, rfl⟩
  obtain ⟨U3, hU3⟩ : ∃ V, V = (u2 * 4294967296 + u1) * 4294967296 + u0 := ⟨_, rfl⟩
  have eV : val v = V2 * P + val (v.take m) := by rw [v1, v0, hV2, hT1]; grind
  have eU : val W = U3 * P + val (W.take m) := by rw [w2, w1, w0, hU3, hT2, hT1]; grind
  have hU : val W < val v * 4294967296 := by omega
  have h2 : u2 ≤ y1 := by
   have h3 : T2 * u2 ≤ val W := by rw [w2]; omega
   have h4 : val v < T1 * (y1 + 1) := by
    rw [v1, v0, Nat.mul_add]
    have : P * y0 ≤ P * 4294967295 := Nat.mul_le_mul_left P (by omega)
    omega
   have h5 : val v * 4294967296 < T1 * (y1 + 1) * 4294967296 := by omega
   have h7 : T1 * (y1 + 1) * 4294967296 = T2 * (y1 + 1) := by rw [hT2]; grind
   have h6 : T2 * u2 < T2 * (y1 + 1) := by omega
   have := Nat.lt_of_mul_lt_mul_left h6
   omega
  obtain ⟨r, r1, r2, r3, r4⟩ := guess_ev (u2 := u2) (u1 := u1) (u0 := u0) (v1 := y1) (v0 := y0) (by omega) (by omega) (by omega) (by omega) (by omega) h2
  rw [← hV2, ← hU3] at r2
  have r3' : ∀ q, q < 4294967296 → q * V2 ≤ U3 → q ≤ r := by rw [hV2, hU3]; exact r3
  have hk := knuth hP0 eV bvr eU bur hU (by omega) r1 r2 r3'
  have hv0 : 0 < val v := by
   have : 1 * P ≤ V2 * P := Nat.mul_le_mul_right P (by omega)
   omega
  have hdm := Nat.div_add_mod (val W) (val v)
  have hml := Nat.mod_lt (val W) hv0
  obtain ⟨Q, hQ⟩ : ∃ Q, Q = val W / val v := ⟨_, rfl⟩
  obtain ⟨R, hR⟩ : ∃ R, R = val W % val v := ⟨_, rfl⟩
  rw [← hQ, ← hR] at hdm
  rw [← hQ] at hk
  rw [← hR] at hml
  clear w0 w1 w2 v0 v1 bu2 bu1 bu0 bv1 bv0 bur bvr eV eU h2 r2 r3 r3' hud e1 hWt hvt hV2 hU3
  have hQ1 : Q < 4294967296 := by omega
  have hlen : d + v.length + 1 ≤ u.length := by omega
  obtain ⟨neg, w, a1, a2, a3, a4⟩ := subtract_ev hu hv (by unfold lenok; omega) (q := (r : Int)) (by omega) (by omega) hlen
  rw [hn, ← hW, Int.toNat_natCast] at a3
  rw [hn] at a2 a4
  have rest : ∀ w' : List Int, okl w' → w'.length = m + 2 + 1 → val w' = R →
    Ev (fun k => nat_DivMod.l0 k ((m + 2 : Nat) : Int) (s : Int) (u.take d ++ w' ++ u.drop (d + (m + 2) + 1)) v (q.set d (Q : Int)) ((d : Int) - 1)) (limbs (X / val v), limbs (X % val v / 2 ^ s), true) := by
   intro w' b1 b2 b3
   have c1 : ((u.take d ++ w' ++ u.drop (d + (m + 2) + 1)).drop d) = w' ++ u.drop (d + (m + 2) + 1) := drop_app (by omega)
   have c2 : val (w' ++ u.drop (d + (m + 2) + 1)) = R := by rw [val_append, hz, b3]; omega
   refine ih _ _ (okl_append.2 ⟨okl_append.2 ⟨okl_take hu _, b1⟩, okl_drop hu _⟩) (okl_set hq _ (by omega) (by omega)) ?_ ?_ ?_ ?_ ?_ ?_
   ·simp only [List.length_append, List.length_take, List.length_drop]; omega
   ·unfold lenok2; simp only [List.length_append, List.length_take, List.length_drop]; omega
   ·rw [List.length_set]; omega
   ·unfold lenok2; rw [List.length_set]; omega
   ·rw [c1, c2]; exact hml
   ·have f1 : val (u.take d ++ w' ++ u.drop (d + (m + 2) + 1)) = val (u.take d) + 4294967296 ^ d * R := by
     rw [List.append_assoc, val_append, c2, List.length_take, Nat.min_eq_left (by omega)]
    have f2 := val_take_drop u d (by omega)
    have f3 : val ((q.set d (Q : Int)).drop d) = Q + 4294967296 * val (q.drop (d + 1)) := by
     rw [val_drop_one _ d (by rw [List.length_set]; omega), List.getD_eq_getElem?_getD, List.getElem?_set_self (by omega), List.drop_set_of_lt (by omega)]
     rfl
    rw [f1, f3, HX.out, f2, hWv, ← hdm, Nat.pow_succ]
    grind
  have g2 : rd u ((d + (m + 2) : Nat) : Int) = (u2 : Int) := by rw [rd_nat, ← hWg (m + 2) (by omega)]; exact hu2
  have g1 : rd u ((d + (m + 1) : Nat) : Int) = (u1 : Int) := by rw [rd_nat, ← hWg (m + 1) (by omega)]; exact hu1
  have g0 : rd u ((d + m : Nat) : Int) = (u0 : Int) := by rw [rd_nat, ← hWg m (by omega)]; exact hu0
  have k1 : rd v ((m + 1 : Nat) : Int) = (y1 : Int) := by rw [rd_nat]; exact hy1
  have k0 : rd v ((m : Nat) : Int) = (y0 : Int) := by rw [rd_nat]; exact hy0
  have e0 : ((d + 1 : Nat) : Int) - 1 = (d : Int) := by omega
  rw [e0]
  refine Ev.step (f := fun k => (nat_guess.f k (u2 : Int) (u1 : Int) (u0 : Int) (y1 : Int) (y0 : Int)).bind fun t223 => (nat_subtract.f k u (d : Int) ((d + (m + 2) + 1 : Nat) : Int) v t223).bind fun bt228 =>
   if bt228.1 = true then ((nat_addBack.f k bt228.2 (d : Int) ((d + (m + 2) + 1 : Nat) : Int) v).bind fun t234 => nat_DivMod.l0 k ((m + 2 : Nat) : Int) (s : Int) t234 v (q.set d ((IntKind.u64.wrap (t223 - 1)) % 4294967296)) ((d : Int) - 1))
   else nat_DivMod.l0 k ((m + 2 : Nat) : Int) (s : Int) bt228.2 v (q.set d (t223 % 4294967296)) ((d : Int) - 1)) (fun k => ?_) ?_
  ·simp only [nat_DivMod.l0]
   rw [if_pos (by omega), i1.out, if_pos (by omega), if_pos (by omega), i2.out, if_pos (by omega), if_pos (by omega), i3.out, if_pos (by omega), if_pos (by omega), i4.out, if_pos (by omega), if_pos (by omega), i5.out, if_pos (by omega), if_pos (by omega), i6.out, i7.out, g2, g1, g0, k1, k0]
   have t1 : (0 : Int) ≤ (d : Int) := by omega
   have t2 : (d : Int) ≤ ((d + (m + 2) + 1 : Nat) : Int) := by omega
   have t3 : ((d + (m + 2) + 1 : Nat) : Int) ≤ (u.length : Int) := by omega
   have t4 : (d : Int) < (q.length : Int) := by omega
   simp only [t1, t2, t3, t4, if_true, Int.toNat_natCast]
  ·refine Ev.bind (f := fun k t223 => (nat_subtract.f k u (d : Int) ((d + (m + 2) + 1 : Nat) : Int) v t223).bind fun bt228 =>
    if bt228.1 = true then ((nat_addBack.f k bt228.2 (d : Int) ((d + (m + 2) + 1 : Nat) : Int) v).bind fun t234 => nat_DivMod.l0 k ((m + 2 : Nat) : Int) (s : Int) t234 v (q.set d ((IntKind.u64.wrap (t223 - 1)) % 4294967296)) ((d : Int) - 1))
    else nat_DivMod.l0 k ((m + 2 : Nat) : Int) (s : Int) bt228.2 v (q.set d (t223 % 4294967296)) ((d : Int) - 1)) r4 ?_
   refine Ev.bind (f := fun k (bt228 : Bool × List Int) =>
    if bt228.1 = true then ((nat_addBack.f k bt228.2 (d : Int) ((d + (m + 2) + 1 : Nat) : Int) v).bind fun t234 => nat_DivMod.l0 k ((m + 2 : Nat) : Int) (s : Int) t234 v (q.set d ((IntKind.u64.wrap ((r : Int) - 1)) % 4294967296)) ((d : Int) - 1))
    else nat_DivMod.l0 k ((m + 2 : Nat) : Int) (s : Int) bt228.2 v (q.set d ((r : Int) % 4294967296)) ((d : Int) - 1)) a4 ?_
   have hQv : Q * val v = val v * Q := Nat.mul_comm _ _
   cases neg with
   | false =>
    refine Ev.ite_neg (by simp) ?_
    simp only [Bool.false_eq_true, if_false, Nat.add_zero] at a3
    have hrq : r = Q := by
     rcases Nat.lt_or_ge Q r with h | h
     ·have : (Q + 1) * val v ≤ r * val v := Nat.mul_le_mul_right _ h
      rw [Nat.add_mul] at this
      omega
     ·omega
    have e5 : (r : Int) % 4294967296 = (Q : Int) := by omega
    rw [e5]
    exact rest w a1 a2 (by rw [hrq] at a3; omega)
   | true =>
    refine Ev.ite_pos rfl ?_
    simp only [if_true] at a3
    have hwlt := val_lt a1
    rw [a2, p3.out] at hwlt
    rw [p3.out] at a3
    have hrq : r = Q + 1 := by
     rcases Nat.lt_or_ge Q r with h | h
     ·omega
     ·have : r * val v ≤ Q * val v := Nat.mul_le_mul_right _ h
      omega
    have hu' : okl (u.take d ++ w ++ u.drop (d + (m + 2) + 1)) := okl_append.2 ⟨okl_append.2 ⟨okl_take hu _, a1⟩, okl_drop hu _⟩
    have hul' : (u.take d ++ w ++ u.drop (d + (m + 2) + 1)).length = u.length := by simp only [List.length_append, List.length_take, List.length_drop]; omega
    obtain ⟨w', c1, c2, ⟨z, c3⟩, c4⟩ := addBack_ev hu' hv (by unfold lenok; omega) (lo := d) (by rw [hul']; omega)
    have c5 : ((u.take d ++ w ++ u.drop (d + (m + 2) + 1)).drop d).take (v.length + 1) = w := by
     rw [drop_app (by omega), List.take_append_of_le_length (by omega), List.take_of_length_le (by omega)]
    have c6 : (u.take d ++ w ++ u.drop (d + (m + 2) + 1)).take d = u.take d := by
     rw [List.append_assoc, List.take_append_of_le_length (by rw [List.length_take]; omega), List.take_of_length_le (by rw [List.length_take]; omega)]
    have c7 : (u.take d ++ w ++ u.drop (d + (m + 2) + 1)).drop (d + (m + 2) + 1) = u.drop (d + (m + 2) + 1) := by
     rw [List.drop_append, List.length_append, List.length_take, Nat.min_eq_left (by omega), a2, show d + (m + 2) + 1 - (d + (m + 2 + 1)) = 0 by omega, List.drop_of_length_le (by rw [List.length_append, List.length_take]; omega)]; rfl
    rw [c5] at c3
    rw [hn] at c2 c3 c4
    rw [c6, c7] at c4
    have hw'lt := val_lt c1
    rw [c2, p3.out] at hw'lt
    rw [p3.out] at c3
    have e5 : (IntKind.u64.wrap ((r : Int) - 1)) % 4294967296 = (Q : Int) := by rw [wrapu64_id (by omega) (by omega)]; omega
    rw [e5]
    refine Ev.bind (f := fun k t234 => nat_DivMod.l0 k ((m + 2 : Nat) : Int) (s : Int) t234 v (q.set d (Q : Int)) ((d : Int) - 1)) c4 (rest w' c1 c2 ?_)
    have h9 : val w' + z * T3 = R + T3 := by
     rw [hrq, Nat.add_mul, Nat.one_mul] at a3
     omega
    have hRlt : R < T3 := by omega
    rcases Nat.lt_or_ge z 1 with hz1 | hz1
    ·have : z = 0 := by omega
     rw [this] at h9; omega
    ·rcases Nat.lt_or_ge 1 z with hz2 | hz2
     ·have : 2 * T3 ≤ z * T3 := Nat.mul_le_mul_right T3 hz2
      omega
     ·have : z = 1 := by omega
      rw [this] at h9; omega
end Go.Proofs.Ythamhjmhgcpdgaa.Big
end
section
namespace Go.Proofs.Ythamhjmhgcpdgaa.Big
open Go.RowKit Go.Proofs.YthamhjmhgcpdgaaW.PrintWords Go.Proofs.YthamhjmhgcpdgaaW.PrintLast Go.Proofs.YthamhjmhgcpdgaaW.PrintMore Go.Proofs.Ythamhjmhgcpdgaa.Q Go.Proofs.Ythamhjmhgcpdgaa.Th
set_option linter.unusedVariables false
set_option linter.unusedSimpArgs false
set_option maxRecDepth 4000
def T8 : ByteArray := ⟨#[0, 1, 2, 2, 3, 3, 3, 3, 4, 4, 4, 4, 4, 4, 4, 4, 5, 5, 5, 5, 5, 5, 5, 5, 5, 5, 5, 5, 5, 5, 5, 5, 6, 6, 6, 6, 6, 6, 6, 6, 6, 6, 6, 6, 6, 6, 6, 6, 6, 6, 6, 6, 6, 6, 6, 6, 6, 6, 6, 6, 6, 6, 6, 6, 7, 7, 7, 7, 7, 7, 7, 7, 7, 7, 7, 7, 7, 7, 7, 7, 7, 7, 7, 7, 7, 7, 7, 7, 7, 7, 7, 7, 7, 7, 7, 7, 7, 7, 7, 7, 7, 7, 7, 7, 7, 7, 7, 7, 7, 7, 7, 7, 7, 7, 7, 7, 7, 7, 7, 7, 7, 7, 7, 7, 7, 7, 7, 7, 8, 8, 8, 8, 8, 8, 8, 8, 8, 8, 8, 8, 8, 8, 8, 8, 8, 8, 8, 8, 8, 8, 8, 8, 8, 8, 8, 8, 8, 8, 8, 8, 8, 8, 8, 8, 8, 8, 8, 8, 8, 8, 8, 8, 8, 8, 8, 8, 8, 8, 8, 8, 8, 8, 8, 8, 8, 8, 8, 8, 8, 8, 8, 8, 8, 8, 8, 8, 8, 8, 8, 8, 8, 8, 8, 8, 8, 8, 8, 8, 8, 8, 8, 8, 8, 8, 8, 8, 8, 8, 8, 8, 8, 8, 8, 8, 8, 8, 8, 8, 8, 8, 8, 8, 8, 8, 8, 8, 8, 8, 8, 8, 8, 8, 8, 8, 8, 8, 8, 8, 8, 8, 8, 8, 8, 8, 8, 8]⟩
def bl (n : Nat) : Nat := if n = 0 then 0 else Nat.log2 n + 1
theorem t8 : ∀ i : Fin 256, bt T8 ((i.val : Nat) : Int) = ((bl i.val : Nat) : Int) ∧ i.val < 2 ^ bl i.val ∧ (i.val ≠ 0 → 1 ≤ bl i.val ∧ 2 ^ (bl i.val - 1) ≤ i.val) ∧ bl i.val ≤ 8 := by decide +kernel
theorem len32 (a : Nat) (h : a < 4294967296) : ∃ L : Nat, bits_Len32.f (a : Int) = some (L : Int) ∧ L ≤ 32 ∧ a < 2 ^ L ∧ (a ≠ 0 → 1 ≤ L ∧ 2 ^ (L - 1) ≤ a) ∧ (a = 0 → L = 0) := by
 have key : ∀ (i s : Nat), i < 256 → i * 2 ^ s ≤ a → a < (i + 1) * 2 ^ s → (s = 0 ∨ i ≠ 0) → s ≤ 24 → ∃ L : Nat, ((s : Int) + bt T8 (i : Int)) = (L : Int) ∧ L ≤ 32 ∧ a < 2 ^ L ∧ (a ≠ 0 → 1 ≤ L ∧ 2 ^ (L - 1) ≤ a) ∧ (a = 0 → L = 0) := by
  intro i s hi h1 h2 h3 h4
  obtain ⟨q1, q2, q3, q4⟩ := t8 ⟨i, hi⟩
  simp only at q1 q2 q3 q4
  refine ⟨s + bl i, by rw [q1]; simp, by omega, ?_, ?_, ?_⟩
  ·rw [Nat.pow_add, Nat.mul_comm]
   have : (i + 1) * 2 ^ s ≤ 2 ^ bl i * 2 ^ s := Nat.mul_le_mul_right _ (by omega)
   omega
  ·intro ha
   have hi0 : i ≠ 0 := by
    rcases h3 with h3 | h3
    ·subst h3; simp at h1 h2; omega
    ·exact h3
   obtain ⟨q5, q6⟩ := q3 hi0
   refine ⟨by omega, ?_⟩
   rw [show s + bl i - 1 = (bl i - 1) + s by omega, Nat.pow_add]
   have : 2 ^ (bl i - 1) * 2 ^ s ≤ i * 2 ^ s := Nat.mul_le_mul_right _ q6
   omega
  ·intro ha
   have hp := Nat.two_pow_pos s
   have hi0 : i = 0 := by
    rcases Nat.eq_zero_or_pos i with h | h
    ·exact h
    ·have : 1 * 2 ^ s ≤ i * 2 ^ s := Nat.mul_le_mul_right _ h
     omega
   have hs0 : s = 0 := by
    rcases h3 with h3 | h3
    ·exact h3
    ·exact absurd hi0 h3
   subst hi0 hs0
   simp [bl]
 have hb : ∀ x : Int, ∀ L : Nat, ∀ s : Int, s + x = (L : Int) → 0 ≤ s → s ≤ 24 → L ≤ 32 → wrap64 (s + wrap64 x) = (L : Int) := by
  intro x L s h1 h2 h3 h4
  rw [wrap64_id (x := x) (by omega) (by omega), h1, wrap64_id (by omega) (by omega)]
 unfold bits_Len32.f
 change ∃ L : Nat, (if (a : Int) ≥ 65536 then (if ((a : Int) / 65536) ≥ 256 then (if 0 ≤ ((((a : Int) / 65536) / 256) % 256) then (if ((((a : Int) / 65536) / 256) % 256) < 256 then (some (wrap64 ((16 + 8) + (wrap64 (bt T8 ((((a : Int) / 65536) / 256) % 256)))))) else (none)) else (none)) else (if 0 ≤ (((a : Int) / 65536) % 256) then (if (((a : Int) / 65536) % 256) < 256 then (some (wrap64 (16 + (wrap64 (bt T8 (((a : Int) / 65536) % 256)))))) else (none)) else (none))) else (if (a : Int) ≥ 256 then (if 0 ≤ (((a : Int) / 256) % 256) then (if (((a : Int) / 256) % 256) < 256 then (some (wrap64 ((0 + 8) + (wrap64 (bt T8 (((a : Int) / 256) % 256)))))) else (none)) else (none)) else (if 0 ≤ (((a : Int)) % 256) then (if (((a : Int)) % 256) < 256 then (some (wrap64 (0 + (wrap64 (bt T8 (((a : Int)) % 256)))))) else (none)) else (none)))) = some (L : Int) ∧ _
 by_cases c1 : 65536 ≤ a
 ·rw [if_pos (by omega)]
  by_cases c2 : 16777216 ≤ a
  ·rw [if_pos (by omega), if_pos (by omega), if_pos (by omega)]
   obtain ⟨L, p1, p2, p3⟩ := key (a / 65536 / 256 % 256) 24 (by omega) (by simp; omega) (by simp; omega) (.inr (by omega)) (by omega)
   refine ⟨L, ?_, p2, p3⟩
   rw [show ((((a : Int) / 65536) / 256) % 256) = ((a / 65536 / 256 % 256 : Nat) : Int) by omega]
   exact congrArg some (hb _ L 24 p1 (by omega) (by omega) p2)
  ·rw [if_neg (by omega), if_pos (by omega), if_pos (by omega)]
   obtain ⟨L, p1, p2, p3⟩ := key (a / 65536 % 256) 16 (by omega) (by simp; omega) (by simp; omega) (.inr (by omega)) (by omega)
   refine ⟨L, ?_, p2, p3⟩
   rw [show (((a : Int) / 65536) % 256) = ((a / 65536 % 256 : Nat) : Int) by omega]
   exact congrArg some (hb _ L 16 p1 (by omega) (by omega) p2)
 ·rw [if_neg (by omega)]
  by_cases c2 : 256 ≤ a
  ·rw [if_pos (by omega), if_pos (by omega), if_pos (by omega)]
   obtain ⟨L, p1, p2, p3⟩ := key (a / 256 % 256) 8 (by omega) (by simp; omega) (by simp; omega) (.inr (by omega)) (by omega)
   refine ⟨L, ?_, p2, p3⟩
   rw [show (((a : Int) / 256) % 256) = ((a / 256 % 256 : Nat) : Int) by omega]
   exact congrArg some (hb _ L 8 p1 (by omega) (by omega) p2)
  ·rw [if_neg (by omega), if_pos (by omega), if_pos (by omega)]
   obtain ⟨L, p1, p2, p3⟩ := key (a % 256) 0 (by omega) (by simp; omega) (by simp; omega) (.inl rfl) (by omega)
   refine ⟨L, ?_, p2, p3⟩
   rw [show ((a : Int) % 256) = ((a % 256 : Nat) : Int) by omega]
   exact congrArg some (hb _ L 0 p1 (by omega) (by omega) p2)
theorem limbs_bounds {y n : Nat} (hn : (limbs y).length = n + 1) : ∃ top P : Nat, Aside0 (P = 4294967296 ^ n) ∧ (limbs y).getD n 0 = (top : Int) ∧ 1 ≤ top ∧ top < 4294967296 ∧ P * top ≤ y ∧ y < P * (top + 1) := by
 have h0 : y ≠ 0 := fun h => by rw [h, limbs_zero] at hn; simp at hn
 have h1 := limbs_top h0
 rw [hn, Nat.add_sub_cancel] at h1
 have h2 := getD_okl (okl_limbs y) n
 obtain ⟨top, ht⟩ := Int.eq_ofNat_of_zero_le h2.1
 have h3 := val_take_succ (limbs y) n (by omega)
 rw [List.take_of_length_le (by omega), val_limbs, ht, Int.toNat_natCast] at h3
 have h4 := val_lt (okl_take (okl_limbs y) n)
 rw [List.length_take, Nat.min_eq_left (by omega)] at h4
 obtain ⟨P, hP⟩ : ∃ P, P = 4294967296 ^ n := ⟨_, rfl⟩
 rw [← hP] at h3 h4
 refine ⟨top, P, ⟨hP⟩, ht, by omega, by omega, by omega, ?_⟩
 rw [Nat.mul_add]
 omega
theorem divmod_big (x y n : Nat) (hn : (limbs y).length = n + 2) (hx : (limbs x).length ≤ 1099511627776) (hxy : y ≤ x) :
  ∃ (s : Nat) (u v : List Int), bits_LeadingZeros32.f (rd (limbs y) ((n + 1 : Nat) : Int)) = some (s : Int) ∧ s ≤ 31 ∧ v.length = n + 3 ∧ Ev (fun k => nat_shiftUp.f k (limbs x) (s : Int)) u ∧ Ev (fun k => nat_shiftUp.f k (limbs y) (s : Int)) v ∧
   Ev (fun k => nat_DivMod.l0 k ((n + 2 : Nat) : Int) (s : Int) u (v.take (n + 2)) (List.replicate ((limbs x).length - (n + 2) + 1) 0) ((((limbs x).length - (n + 2) : Nat) : Int))) (limbs (x / y), limbs (x % y), true) := by
 obtain ⟨top, P, hP, ht, ht1, ht2, hy1, hy2⟩ := limbs_bounds hn
 obtain ⟨L, l1, l2, l3, l4, l5⟩ := len32 top ht2
 obtain ⟨l6, l7⟩ := l4 (by omega)
 have hlen := limbs_len_mono hxy
 obtain ⟨s, hs⟩ : ∃ s, s = 32 - L := ⟨_, rfl⟩
 have hs31 : s ≤ 31 := by omega
 have e1 : bits_LeadingZeros32.f (rd (limbs y) ((n + 1 : Nat) : Int)) = some (s : Int) := by
  unfold bits_LeadingZeros32.f
  rw [rd_nat, ht, l1]
  simp only [Option.bind_some]
  rw [wrap64_id (by omega) (by omega)]
  congr 1; omega
 obtain ⟨u, u1, u2, u3, u4⟩ := shiftUp_ev (okl_limbs x) (by unfold lenok; omega) hs31
 obtain ⟨v, v1, v2, v3, v4⟩ := shiftUp_ev (okl_limbs y) (by unfold lenok; omega) hs31
 rw [val_limbs] at u3 v3
 refine ⟨s, u, v, e1, hs31, by omega, u4, v4, ?_⟩
 have hs0 := Nat.two_pow_pos s
 obtain ⟨S, hS⟩ : ∃ S, S = 2 ^ s := ⟨_, rfl⟩
 have hPP := Aside0.mk (show 4294967296 ^ (n + 2) = P * 4294967296 by rw [hP.out, ← Nat.pow_succ])
 have hP0 : 0 < P := by rw [hP.out]; exact Nat.pow_pos (by decide)
 have hLS : 2 ^ (L - 1) * S = 2147483648 := by rw [hS, ← Nat.pow_add, show L - 1 + s = 31 by omega]
 have hLS2 : 2 ^ L * S = 4294967296 := by rw [hS, ← Nat.pow_add, show L + s = 32 by omega]
 have q1 : 2147483648 ≤ top * S := by rw [← hLS]; exact Nat.mul_le_mul_right _ l7
 have q2 : (top + 1) * S ≤ 4294967296 := by rw [← hLS2]; exact Nat.mul_le_mul_right _ l3
 rw [← hS] at u3 v3 hs0
 have hyS : y * S < P * 4294967296 := by
  have h1 : y * S < P * (top + 1) * S := Nat.mul_lt_mul_of_pos_right hy2 hs0
  have h2 : P * (top + 1) * S ≤ P * 4294967296 := by rw [Nat.mul_assoc]; exact Nat.mul_le_mul_left P q2
  omega
 have hyS2 : P * 2147483648 ≤ y * S := by
  have h1 : P * top * S ≤ y * S := Nat.mul_le_mul_right _ hy1
  have h2 : P * 2147483648 ≤ P * (top * S) := Nat.mul_le_mul_left P q1
  rw [Nat.mul_assoc] at h1
  omega
 have w1 : val (v.take (n + 2)) = y * S := by
  have h1 := val_take_drop v (n + 2) (by omega)
  obtain ⟨T, hT⟩ : ∃ T, T = P * 4294967296 := ⟨_, rfl⟩
  rw [hPP.out, ← hT] at h1
  rcases Nat.eq_zero_or_pos (val (v.drop (n + 2))) with h | h
  ·rw [h, Nat.mul_zero, Nat.add_zero] at h1; rw [← h1, v3]
  ·have h2 : T * 1 ≤ T * val (v.drop (n + 2)) := Nat.mul_le_mul_left T h
   rw [v3] at h1
   omega
 have w2 : (v.take (n + 2)).length = n + 2 := by rw [List.length_take]; omega
 have w3 : 2147483648 ≤ (v.take (n + 2)).getD (n + 2 - 1) 0 := by
  have h1 := val_take_succ (v.take (n + 2)) (n + 1) (by omega)
  rw [List.take_of_length_le (by omega), w1, ← hP.out] at h1
  have h2 := val_lt (okl_take (okl_take v1 (n + 2)) (n + 1))
  rw [List.length_take, Nat.min_eq_left (by omega), ← hP.out] at h2
  have h3 := getD_okl (okl_take v1 (n + 2)) (n + 1)
  obtain ⟨z, hz⟩ := Int.eq_ofNat_of_zero_le h3.1
  rw [show n + 2 - 1 = n + 1 by omega, hz]
  rw [hz, Int.toNat_natCast] at h1
  rcases Nat.lt_or_ge z 2147483648 with h4 | h4
  ·have h5 : P * (z + 1) ≤ P * 2147483648 := Nat.mul_le_mul_left P h4
   rw [Nat.mul_add] at h5
   omega
  ·omega
 obtain ⟨lx, hlx⟩ : ∃ lx, lx = (limbs x).length := ⟨_, rfl⟩
 rw [← hlx] at u2 hx hlen ⊢
 obtain ⟨d, hd⟩ : ∃ d, d = lx - (n + 2) + 1 := ⟨_, rfl⟩
 have hxlt := val_lt (okl_limbs x)
 rw [val_limbs, ← hlx, show lx = d + (n + 1) by omega, Nat.pow_add, ← hP.out] at hxlt
 have f1 : val (u.drop d) < y * S := by
  have h1 := val_take_drop u d (by omega)
  rw [u3] at h1
  obtain ⟨D, hD⟩ : ∃ D, D = 4294967296 ^ d := ⟨_, rfl⟩
  rw [← hD] at h1 hxlt
  have h2 : x * S < D * P * S := Nat.mul_lt_mul_of_pos_right hxlt hs0
  have h3 : D * val (u.drop d) < D * (P * S) := by rw [← Nat.mul_assoc]; omega
  have h4 := Nat.lt_of_mul_lt_mul_left h3
  have h5 : P * 1 * S ≤ y * S := Nat.mul_le_mul_right _ (by
   have : P * 1 ≤ P * top := Nat.mul_le_mul_left P ht1
   omega)
  rw [Nat.mul_one] at h5
  omega
 have := divmod_loop (v.take (n + 2)) (okl_take v1 _) (by unfold lenok; omega) (n + 2) w2 (by omega) w3 s hs31 (x * S) d u (List.replicate d 0) u1 (okl_replicate _) (by omega) (by unfold lenok2; omega) (by simp) (by unfold lenok2; rw [List.length_replicate]; omega) (by rw [w1]; exact f1) (by
  rw [List.drop_of_length_le (by simp), u3]; simp [val])
 have e9 : ((d : Int) - 1) = ((lx - (n + 2) : Nat) : Int) := by omega
 rw [w1, ← hS, Nat.mul_div_mul_right _ _ hs0, Nat.mul_mod_mul_right, Nat.mul_div_cancel _ hs0] at this
 rw [e9] at this
 rw [← hd]
 exact this
theorem divmod_ev {a b : List Int} (ha : okl a) (hb : okl b) (hla : lenok a) (hlb : lenok b) : Ev (fun k => nat_DivMod.f k a b) (if val b = 0 then ([], [], false) else (limbs (val a / val b), limbs (val a % val b), true)) := by
 have l1 := limbs_val_len ha
 have l2 := limbs_val_len hb
 unfold lenok at hla hlb
 have HA := trim_ev ha hla
 have HB := trim_ev hb hlb
 obtain ⟨x, hx⟩ : ∃ x, x = val a := ⟨_, rfl⟩
 obtain ⟨y, hy⟩ : ∃ y, y = val b := ⟨_, rfl⟩
 rw [← hx] at HA l1 ⊢
 rw [← hy] at HB l2 ⊢
 refine Ev.bind HA (Ev.bind HB ?_)
 by_cases h0 : y = 0
 ·rw [if_pos h0]
  subst h0
  exact Ev.ite_pos (by rw [limbs_zero]; rfl) (Ev.now _)
 ·rw [if_neg h0]
  have hpos := List.length_pos_iff.2 (limbs_ne_nil h0)
  refine Ev.ite_neg (by omega) ?_
  have hc := cmp_ev (okl_limbs x) (okl_limbs y) (by unfold lenok; omega) (by unfold lenok; omega)
  rw [val_limbs, val_limbs] at hc
  refine Ev.bind hc ?_
  by_cases h1 : x < y
  ·rw [Nat.div_eq_of_lt h1, Nat.mod_eq_of_lt h1, limbs_zero]
   refine Ev.ite_pos (by rw [cmpI, if_pos h1]; decide) ?_
   have hn := norm_ev (okl_limbs x) (by unfold lenok; omega)
   rw [val_limbs] at hn
   exact Ev.bind (f := fun _ t => some (([] : List Int), t, true)) hn (Ev.now _)
  ·refine Ev.ite_neg (by rw [cmpI, if_neg h1]; split <;> decide) ?_
   by_cases h2 : (limbs y).length = 1
   ·refine Ev.ite_pos (by omega) (Ev.ite_pos (by omega) ?_)
    obtain ⟨top, P, hP, t1, t2, t3, t4, t5⟩ := limbs_bounds (n := 0) h2
    have hP' := hP.out
    rw [Nat.pow_zero] at hP'
    subst hP'
    rw [Nat.one_mul] at t4 t5
    have hyt : top = y := by omega
    have e : rd (limbs y) 0 = (y : Int) := by have := rd_nat (limbs y) 0; rw [t1, hyt] at this; exact this
    rw [e]
    have hd := divSmall_ev (okl_limbs x) (by unfold lenok; omega) (d := (y : Int)) (by omega) (by omega)
    rw [val_limbs, Int.toNat_natCast] at hd
    refine Ev.bind hd ?_
    have hm := Nat.mod_lt x (show 0 < y by omega)
    have ho := of_ev (a := ((x % y : Nat) : Int)) (Int.natCast_nonneg _) (by omega)
    rw [Int.toNat_natCast] at ho
    refine Ev.congr (f := fun k => (nat_Of.f k ((x % y : Nat) : Int)).bind fun t => some (limbs (x / y), t, true)) (fun k => ?_) (Ev.bind (f := fun _ t => some (limbs (x / y), t, true)) ho (Ev.now _))
    rw [wrapu64_id (Int.natCast_nonneg _) (by omega)]
   ·refine Ev.ite_neg (by omega) ?_
    obtain ⟨n, hn⟩ : ∃ n, (limbs y).length = n + 2 := ⟨(limbs y).length - 2, by omega⟩
    have hlen := limbs_len_mono (show y ≤ x by omega)
    have i1 : wrap64 (((limbs y).length : Int) - 1) = ((n + 1 : Nat) : Int) := by rw [hn, wrap64_id (by omega) (by omega)]; omega
    have i2 : wrap64 (((limbs x).length : Int) - ((limbs y).length : Int)) = (((limbs x).length - (n + 2) : Nat) : Int) := by rw [hn, wrap64_id (by omega) (by omega)]; omega
    have i3 : wrap64 ((((limbs x).length - (n + 2) : Nat) : Int) + 1) = (((limbs x).length - (n + 2) + 1 : Nat) : Int) := by rw [wrap64_id (by omega) (by omega)]; omega
    have hb := divmod_big x y n hn (by omega) (by omega)
    rw [i1, i2, i3]
    clear i1 i2 i3
    obtain ⟨s, u, v, b1, b2, b3, b4, b5, b6⟩ := hb
    have e2 : IntKind.u64.wrap (s : Int) = (s : Int) := wrapu64_id (by omega) (by omega)
    refine Ev.ite_pos (by omega) (Ev.ite_pos (by omega) ?_)
    refine Ev.bind (a := (s : Int)) ⟨0, fun _ _ => b1⟩ ?_
    rw [e2]
    refine Ev.bind b4 (Ev.bind b5 ?_)
    refine Ev.ite_pos (by omega) (Ev.ite_pos (by omega) (Ev.ite_pos (by omega) (Ev.ite_pos (by omega) ?_)))
    rw [Int.toNat_natCast, Int.toNat_natCast, hn]
    exact b6
end Go.Proofs.Ythamhjmhgcpdgaa.Big
end
section
namespace Go.Proofs.Ythamhjmhgcpdgaa.Big
open Go.RowKit Go.Proofs.YthamhjmhgcpdgaaW.PrintWords Go.Proofs.YthamhjmhgcpdgaaW.PrintLast Go.Proofs.YthamhjmhgcpdgaaW.PrintMore Go.Proofs.Ythamhjmhgcpdgaa.Q Go.Proofs.Ythamhjmhgcpdgaa.Th
set_option linter.unusedVariables false
set_option linter.unusedSimpArgs false
theorem bits_ev {l : List Int} (h : okl l) (hl : lenok l) : ∃ n : Int, Ev (fun k => nat_Bits.f k l) n ∧ 0 ≤ n ∧ (n = 0 ↔ val l = 0) := by
 have h1 := limbs_val_len h
 unfold lenok at hl
 have HT := trim_ev h hl
 obtain ⟨x, hx⟩ : ∃ x, x = val l := ⟨_, rfl⟩
 rw [← hx] at HT h1 ⊢
 by_cases h0 : x = 0
 ·subst h0
  exact ⟨0, Ev.bind HT (Ev.ite_pos (by rw [limbs_zero]; rfl) (Ev.now _)), by omega, by simp⟩
 ·have hpos := List.length_pos_iff.2 (limbs_ne_nil h0)
  obtain ⟨n, hn⟩ : ∃ n, (limbs x).length = n + 1 := ⟨(limbs x).length - 1, by omega⟩
  obtain ⟨top, P, hP, t1, t2, t3, t4, t5⟩ := limbs_bounds hn
  obtain ⟨L, m1, m2, m3, m4, m5⟩ := len32 top t3
  obtain ⟨m6, m7⟩ := m4 (by omega)
  clear t4 t5 m7 m3 m4 m5 hP
  have i1 : wrap64 (((limbs x).length : Int) - 1) = (n : Int) := by rw [hn, wrap64_id (by omega) (by omega)]; omega
  have i2 : wrap64 (32 * (n : Int)) = 32 * (n : Int) := wrap64_id (by omega) (by omega)
  have i3 : wrap64 (32 * (n : Int) + (L : Int)) = 32 * (n : Int) + (L : Int) := wrap64_id (by omega) (by omega)
  refine ⟨32 * (n : Int) + (L : Int), Ev.bind HT ?_, by clear i1 i2 i3; omega, by clear i1 i2 i3; omega⟩
  refine Ev.ite_neg (by clear i1 i2 i3; omega) ?_
  rw [i1]
  refine Ev.ite_pos (by clear i1 i2 i3; omega) (Ev.ite_pos (by clear i1 i2 i3; omega) ?_)
  rw [rd_nat, t1]
  refine Ev.bind (a := (L : Int)) (f := fun _ t => some (wrap64 (wrap64 (32 * (n : Int)) + t))) ⟨0, fun _ _ => m1⟩ ?_
  rw [i2, i3]
  exact Ev.now _
theorem gcd_loop (m : Nat) : ∀ (x y : Nat), y ≤ m → (limbs x).length ≤ 1099511627776 → (limbs y).length ≤ 1099511627776 → Ev (fun k => nat_Gcd.l0 k (limbs x) (limbs y)) (limbs (Nat.gcd x y)) := by
 induction m with
 | zero =>
  intro x y hy _ _
  obtain rfl : y = 0 := by omega
  rw [Nat.gcd_zero_right]
  refine Ev.step (f := fun _ => some (limbs x)) (fun k => ?_) (Ev.now _)
  simp only [nat_Gcd.l0]
  rw [if_neg (by rw [limbs_zero]; decide)]
 | succ m ih =>
  intro x y hy hlx hly
  by_cases h0 : y = 0
  ·exact ih x y (by omega) hlx hly
  ·have hpos := List.length_pos_iff.2 (limbs_ne_nil h0)
   have hm := Nat.mod_lt x (show 0 < y by omega)
   have hd := divmod_ev (okl_limbs x) (okl_limbs y) hlx hly
   rw [val_limbs, val_limbs, if_neg h0] at hd
   refine Ev.step (f := fun k => (nat_DivMod.f k (limbs x) (limbs y)).bind fun b => nat_Gcd.l0 k (limbs y) b.2.1) (fun k => ?_) (Ev.bind (f := fun k b => nat_Gcd.l0 k (limbs y) b.2.1) hd ?_)
   ·simp only [nat_Gcd.l0]
    rw [if_pos (by omega)]
   ·rw [Nat.gcd_comm x y, Nat.gcd_rec y x, Nat.gcd_comm]
    exact ih y (x % y) (by omega) hly (by have := limbs_len_mono (show x % y ≤ y by omega); omega)
theorem gcd_ev {a b : List Int} (ha : okl a) (hb : okl b) (hla : lenok a) (hlb : lenok b) : Ev (fun k => nat_Gcd.f k a b) (limbs (Nat.gcd (val a) (val b))) := by
 have l1 := limbs_val_len ha
 have l2 := limbs_val_len hb
 unfold lenok at *
 exact Ev.bind (norm_ev ha hla) (Ev.bind (norm_ev hb hlb) (gcd_loop (val b) _ _ (Nat.le_refl _) (by omega) (by omega)))
def sI (neg : Bool) (l : List Int) : Int := if neg then -(val l : Int) else (val l : Int)
def eI (z : Int) : Bool × List Int := (decide (z < 0), limbs z.natAbs)
theorem sI_natAbs (neg : Bool) (l : List Int) : (sI neg l).natAbs = val l := by unfold sI; cases neg <;> simp
theorem sI_eI (z : Int) : sI (eI z).1 (eI z).2 = z := by
 unfold sI eI
 simp only [val_limbs, decide_eq_true_eq]
 split <;> omega
theorem imake_ev (neg : Bool) {l : List Int} (h : okl l) (hl : lenok l) : Ev (fun k => integer_Make.f k neg l) (eI (sI neg l)) := by
 refine Ev.bind (norm_ev h hl) ?_
 unfold eI
 rw [sI_natAbs]
 cases neg with
 | true =>
  refine Ev.ite_pos rfl ?_
  have e : decide (0 < (limbs (val l)).length) = decide (sI true l < 0) := by
   unfold sI
   simp only [if_true]
   by_cases h0 : val l = 0
   ·rw [h0, limbs_zero]; simp
   ·have := List.length_pos_iff.2 (limbs_ne_nil h0)
    rw [decide_eq_true this]
    exact (decide_eq_true (by omega)).symm
  rw [e]
  exact Ev.now _
 | false =>
  refine Ev.ite_neg (by decide) ?_
  have e : decide (sI false l < 0) = false := decide_eq_false (by unfold sI; simp)
  rw [e]
  exact Ev.now _
theorem iof_ev {a : Int} (h0 : -9223372036854775808 ≤ a) (h1 : a < 9223372036854775808) : Ev (fun k => integer_Of.f k a) (eI a) := by
 unfold eI
 by_cases hn : a < 0
 ·refine Ev.ite_pos hn ?_
  have e : IntKind.u64.wrap ((IntKind.u64.wrap (wrap64 (-(wrap64 (a + 1))))) + 1) = (a.natAbs : Int) := by
   rw [wrap64_id (x := a + 1) (by omega) (by omega), wrap64_id (x := -(a + 1)) (by omega) (by omega), wrapu64_id (x := -(a + 1)) (by omega) (by omega), wrapu64_id (by omega) (by omega)]
   omega
  rw [e, decide_eq_true hn]
  have ho := of_ev (a := (a.natAbs : Int)) (by omega) (by omega)
  rw [Int.toNat_natCast] at ho
  exact Ev.bind (f := fun _ t => some (true, t)) ho (Ev.now _)
 ·refine Ev.ite_neg hn ?_
  rw [wrapu64_id (by omega) (by omega), decide_eq_false hn]
  have ho := of_ev (a := a) (by omega) (by omega)
  rw [show a.toNat = a.natAbs by omega] at ho
  exact Ev.bind (f := fun _ t => some (false, t)) ho (Ev.now _)
theorem isign_ev (neg : Bool) {l : List Int} (h : okl l) (hl : lenok l) : Ev (fun k => integer_Sign.f k neg l) (Int.sign (sI neg l)) := by
 obtain ⟨n, hn, hn0, hz⟩ := bits_ev h hl
 refine Ev.bind hn ?_
 by_cases h0 : val l = 0
 ·rw [show sI neg l = 0 by unfold sI; rw [h0]; cases neg <;> rfl]
  exact Ev.ite_pos (hz.2 h0) (Ev.now _)
 ·refine Ev.ite_neg (fun e => h0 (hz.1 e)) ?_
  cases neg with
  | true =>
   rw [Int.sign_eq_neg_one_of_neg (by unfold sI; simp only [if_true]; omega)]
   exact Ev.ite_pos rfl (Ev.now _)
  | false =>
   rw [Int.sign_eq_one_of_pos (by unfold sI; simp; omega)]
   exact Ev.ite_neg (by decide) (Ev.now _)
def cmpZ (a b : Int) : Int := if a < b then -1 else if b < a then 1 else 0
theorem icmp_ev (n1 : Bool) {l1 : List Int} (h1 : okl l1) (hl1 : lenok l1) (n2 : Bool) {l2 : List Int} (h2 : okl l2) (hl2 : lenok l2) : Ev (fun k => integer_Cmp.f k n1 l1 n2 l2) (cmpZ (sI n1 l1) (sI n2 l2)) := by
 refine Ev.bind (isign_ev n1 h1 hl1) (Ev.bind (isign_ev n2 h2 hl2) ?_)
 have a1 := sI_natAbs n1 l1
 have a2 := sI_natAbs n2 l2
 have c12 := cmp_ev h1 h2 hl1 hl2
 have c21 := cmp_ev h2 h1 hl2 hl1
 generalize sI n1 l1 = z1 at *
 generalize sI n2 l2 = z2 at *
 rw [← a1, ← a2] at c12 c21
 have s1 : Int.sign z1 = if z1 < 0 then -1 else if 0 < z1 then 1 else 0 := by
  rcases Int.lt_trichotomy z1 0 with h | h | h
  ·rw [Int.sign_eq_neg_one_of_neg h, if_pos h]
  ·subst h; rfl
  ·rw [Int.sign_eq_one_of_pos h, if_neg (by omega), if_pos h]
 have s2 : Int.sign z2 = if z2 < 0 then -1 else if 0 < z2 then 1 else 0 := by
  rcases Int.lt_trichotomy z2 0 with h | h | h
  ·rw [Int.sign_eq_neg_one_of_neg h, if_pos h]
  ·subst h; rfl
  ·rw [Int.sign_eq_one_of_pos h, if_neg (by omega), if_pos h]
 by_cases q1 : Int.sign z1 < Int.sign z2
 ·rw [cmpZ, if_pos (by rw [s1, s2] at q1; split at q1 <;> split at q1 <;> (try split at q1) <;> (try split at q1) <;> omega)]
  exact Ev.ite_pos q1 (Ev.now _)
 ·refine Ev.ite_neg q1 ?_
  by_cases q2 : Int.sign z1 > Int.sign z2
  ·have : z2 < z1 := by rw [s1, s2] at q2; split at q2 <;> split at q2 <;> (try split at q2) <;> (try split at q2) <;> omega
   rw [cmpZ, if_neg (by omega), if_pos this]
   exact Ev.ite_pos q2 (Ev.now _)
  ·refine Ev.ite_neg q2 ?_
   by_cases q3 : Int.sign z1 < 0
   ·refine Ev.ite_pos q3 ?_
    have e : cmpI z2.natAbs z1.natAbs = cmpZ z1 z2 := by
     have h3 : z1 < 0 := by rw [s1] at q3; split at q3 <;> (try split at q3) <;> omega
     have h4 : z2 < 0 := by rw [s1, s2, if_pos h3] at q1; split at q1 <;> (try split at q1) <;> omega
     unfold cmpI cmpZ
     split <;> split <;> (try split) <;> (try split) <;> omega
    rw [← e]
    exact Ev.bind (f := fun _ t => some t) c21 (Ev.now _)
   ·refine Ev.ite_neg q3 ?_
    have e : cmpI z1.natAbs z2.natAbs = cmpZ z1 z2 := by
     have h3 : 0 ≤ z1 := by rw [s1] at q3; split at q3 <;> (try split at q3) <;> omega
     have h4 : 0 ≤ z2 := by rw [s1, s2, if_neg (by omega)] at q2; split at q2 <;> (try split at q2) <;> (try split at q2) <;> omega
     unfold cmpI cmpZ
     split <;> split <;> (try split) <;> (try split) <;> omega
    rw [← e]
    exact Ev.bind (f := fun _ t => some t) c12 (Ev.now _)
theorem sI_mul (n1 n2 : Bool) (l1 l2 : List Int) : sI (n1 != n2) (limbs (val l1 * val l2)) = sI n1 l1 * sI n2 l2 := by
 unfold sI
 rw [val_limbs]
 cases n1 <;> cases n2 <;> simp [Int.neg_mul, Int.mul_neg]
theorem imul_ev (n1 : Bool) {l1 : List Int} (h1 : okl l1) (hl1 : lenok l1) (n2 : Bool) {l2 : List Int} (h2 : okl l2) (hl2 : lenok l2) (hl : l1.length + l2.length ≤ 1099511627776) : Ev (fun k => integer_Mul.f k n1 l1 n2 l2) (eI (sI n1 l1 * sI n2 l2)) := by
 refine Ev.bind (mul_ev h1 h2 hl1 hl2) ?_
 rw [← sI_mul]
 refine Ev.bind (f := fun _ b => some (b.1, b.2)) (imake_ev (n1 != n2) (okl_limbs _) ?_) (Ev.now _)
 unfold lenok
 refine Nat.le_trans (limbs_len_le (k := l1.length + l2.length) ?_) hl
 rw [Nat.pow_add]
 exact Nat.mul_lt_mul'' (val_lt h1) (val_lt h2)
def encR (p : Int) (q : Nat) : Bool × List Int × List Int := (decide (p < 0), limbs (p.natAbs / Nat.gcd p.natAbs q), limbs (q / Nat.gcd p.natAbs q))
def numR (neg : Bool) (ln ld : List Int) : Int := if val ld = 0 then 0 else sI neg ln
def denR (ld : List Int) : Nat := if val ld = 0 then 1 else val ld
theorem denR_pos (ld : List Int) : 0 < denR ld := by unfold denR; split <;> omega
abbrev smallR (l : List Int) : Prop := l.length ≤ 17179869184
theorem limbs_one_len : (limbs 1).length = 1 := by rw [limbs_pos (by decide), limbs_zero]; rfl
theorem iwhole_ev {l : List Int} (h : okl l) (hl : lenok l) : Ev (fun k => ratio_whole.f k l) (false, limbs (val l)) := by
 have h1 := imake_ev false h hl
 have e : eI (sI false l) = (false, limbs (val l)) := by
  unfold eI
  rw [sI_natAbs, decide_eq_false (by unfold sI; simp)]
 rw [e] at h1
 exact Ev.bind (f := fun _ b => some (b.1, b.2)) h1 (Ev.now _)
theorem parts_ev (neg : Bool) {ln ld : List Int} (hn : okl ln) (hd : okl ld) (hln : smallR ln) (hld : smallR ld) :
  ∃ n' l', Ev (fun k => ratio_parts.f k neg ln ld) (n', l', false, limbs (denR ld)) ∧ okl l' ∧ smallR l' ∧ sI n' l' = numR neg ln ld ∧ smallR (limbs (denR ld)) := by
 unfold smallR at *
 obtain ⟨b, hb, hb0, hbz⟩ := bits_ev hd (by unfold lenok; omega)
 have l1 := limbs_val_len hd
 have l2 := limbs_one_len
 by_cases h0 : val ld = 0
 ·refine ⟨false, [], Ev.bind hb (Ev.ite_pos (hbz.2 h0) ?_), okl_nil, by simp, by unfold numR sI; rw [if_pos h0]; rfl, by unfold denR; rw [if_pos h0]; omega⟩
  unfold denR
  rw [if_pos h0]
  have ho := of_ev (a := 1) (by omega) (by omega)
  have hw := iwhole_ev (okl_limbs 1) (by unfold lenok; omega)
  rw [val_limbs] at hw
  exact Ev.bind (a := limbs 1) (f := fun k t => (ratio_whole.f k t).bind fun b => some (false, ([] : List Int), b.1, b.2)) ho (Ev.bind (f := fun _ b => some (false, ([] : List Int), b.1, b.2)) hw (Ev.now _))
 ·refine ⟨neg, ln, Ev.bind hb (Ev.ite_neg (fun e => h0 (hbz.1 e)) ?_), hn, hln, by unfold numR; rw [if_neg h0], by unfold denR; rw [if_neg h0]; omega⟩
  unfold denR
  rw [if_neg h0]
  exact Ev.bind (f := fun _ b => some (neg, ln, b.1, b.2)) (iwhole_ev hd (by unfold lenok; omega)) (Ev.now _)
theorem zero_ev : Ev (fun k => ratio_zero.f k) (encR 0 1) := by
 have ho := of_ev (a := 1) (by omega) (by omega)
 have e : encR 0 1 = (false, [], limbs 1) := by unfold encR; simp [limbs_zero]
 rw [e]
 exact Ev.bind (a := limbs 1) (f := fun _ t => some (false, ([] : List Int), t)) ho (Ev.now _)
theorem lowest_ev (neg : Bool) {ln ld : List Int} (hn : okl ln) (hd : okl ld) (hln : lenok ln) (hld : lenok ld) :
  Ev (fun k => ratio_lowest.f k neg ln ld) (if val ld = 0 then encR 0 1 else encR (sI neg ln) (val ld)) := by
 have hg := gcd_ev hn hd hln hld
 obtain ⟨b, hb, hb0, hbz⟩ := bits_ev hd hld
 obtain ⟨c, hc, hc0, hcz⟩ := bits_ev hn hln
 refine Ev.bind hg (Ev.bind hb ?_)
 have hz : Ev (fun k => ratio_lowest.j0 k ld (limbs (Nat.gcd (val ln) (val ld))) true neg ln) (encR 0 1) := by
  refine Ev.step (f := fun k => (ratio_zero.f k).bind fun b => some (b.1, b.2.1, b.2.2)) (fun k => ?_) (Ev.bind (f := fun _ b => some (b.1, b.2.1, b.2.2)) zero_ev (Ev.now _))
  simp only [ratio_lowest.j0, if_true]
 by_cases h0 : val ld = 0
 ·rw [if_pos h0]
  exact Ev.ite_pos (hbz.2 h0) hz
 ·rw [if_neg h0]
  refine Ev.ite_neg (fun e => h0 (hbz.1 e)) (Ev.bind hc ?_)
  by_cases h1 : val ln = 0
  ·have e1 : encR (sI neg ln) (val ld) = encR 0 1 := by
    have : sI neg ln = 0 := by unfold sI; rw [h1]; cases neg <;> rfl
    rw [this]
    unfold encR
    simp [Nat.div_self (Nat.pos_of_ne_zero h0)]
   rw [e1, show (c == 0) = true by rw [hcz.2 h1]; rfl]
   exact hz
  ·rw [show (c == 0) = false by simp only [beq_eq_false_iff_ne]; exact fun e => h1 (hcz.1 e)]
   obtain ⟨g, hgg⟩ : ∃ g, g = Nat.gcd (val ln) (val ld) := ⟨_, rfl⟩
   have hg0 : 0 < g := by rw [hgg]; exact Nat.gcd_pos_of_pos_left _ (by omega)
   rw [← hgg]
   have hgl : (limbs g).length ≤ ln.length := by
    have h2 : g ≤ val ln := by rw [hgg]; exact Nat.gcd_le_left _ (by omega)
    have := limbs_len_mono h2
    have := limbs_val_len hn
    omega
   have d1 := divmod_ev hn (okl_limbs g) hln (by unfold lenok at *; omega)
   have d2 := divmod_ev hd (okl_limbs g) hld (by unfold lenok at *; omega)
   rw [val_limbs, if_neg (by omega)] at d1 d2
   have hql : (limbs (val ln / g)).length ≤ ln.length := by
    have := limbs_len_mono (Nat.div_le_self (val ln) g)
    have := limbs_val_len hn
    omega
   have hm := imake_ev neg (okl_limbs (val ln / g)) (by unfold lenok at *; omega)
   have hgd : g ∣ val ln := by rw [hgg]; exact Nat.gcd_dvd_left _ _
   have hq0 : 0 < val ln / g := Nat.div_pos (Nat.le_of_dvd (by omega) hgd) hg0
   have e2 : eI (sI neg (limbs (val ln / g))) = (decide (sI neg ln < 0), limbs (val ln / g)) := by
    unfold eI
    rw [sI_natAbs, val_limbs]
    congr 1
    unfold sI
    rw [val_limbs]
    cases neg
    ·simp only [Bool.false_eq_true, if_false]
     rw [decide_eq_false (by omega), decide_eq_false (by omega)]
    ·simp only [if_true]
     rw [decide_eq_true (by omega), decide_eq_true (by omega)]
   rw [e2] at hm
   have e3 : encR (sI neg ln) (val ld) = (decide (sI neg ln < 0), limbs (val ln / g), limbs (val ld / g)) := by
    unfold encR
    rw [sI_natAbs, ← hgg]
   rw [e3]
   refine Ev.step (f := fun k => (nat_DivMod.f k ln (limbs g)).bind fun bt264 => ((nat_DivMod.f k ld (limbs g)).bind fun bt271 => ((integer_Make.f k neg bt264.1).bind fun bt278 => (some (bt278.1, bt278.2, bt271.1))))) (fun k => ?_) ?_
   ·simp only [ratio_lowest.j0]
    rw [if_neg (by decide)]
   ·exact Ev.bind (f := fun k bt264 => ((nat_DivMod.f k ld (limbs g)).bind fun bt271 => ((integer_Make.f k neg bt264.1).bind fun bt278 => (some (bt278.1, bt278.2, bt271.1))))) d1 (Ev.bind (f := fun k bt271 => ((integer_Make.f k neg (limbs (val ln / g))).bind fun bt278 => (some (bt278.1, bt278.2, bt271.1)))) d2 (Ev.bind (f := fun _ bt278 => some (bt278.1, bt278.2, limbs (val ld / g))) hm (Ev.now _)))
theorem prod_len {a b : List Int} (ha : okl a) (hb : okl b) : (limbs (val a * val b)).length ≤ a.length + b.length := by
 refine limbs_len_le (k := a.length + b.length) ?_
 rw [Nat.pow_add]
 exact Nat.mul_lt_mul'' (val_lt ha) (val_lt hb)
theorem sI_false_limbs (n : Nat) : sI false (limbs n) = (n : Int) := by unfold sI; rw [val_limbs]; rfl
theorem imulp {n1 n2 : Bool} {l1 l2 : List Int} (h1 : okl l1) (h2 : okl l2) (hl1 : smallR l1) (hl2 : smallR l2) :
  Ev (fun k => integer_Mul.f k n1 l1 n2 l2) (eI (sI n1 l1 * sI n2 l2)) ∧ (limbs (sI n1 l1 * sI n2 l2).natAbs).length ≤ 34359738368 := by
 unfold smallR at *
 refine ⟨imul_ev n1 h1 (by unfold lenok; omega) n2 h2 (by unfold lenok; omega) (by omega), ?_⟩
 rw [Int.natAbs_mul, sI_natAbs, sI_natAbs]
 have := prod_len h1 h2
 omega
theorem rmake_ev (n1 : Bool) {l1 : List Int} (h1 : okl l1) (hl1 : lenok l1) (n2 : Bool) {l2 : List Int} (h2 : okl l2) (hl2 : lenok l2) :
  Ev (fun k => ratio_Make.f k n1 l1 n2 l2) (if val l2 = 0 then (false, [], limbs 1, false) else ((encR (sI (n1 != n2) l1) (val l2)).1, (encR (sI (n1 != n2) l1) (val l2)).2.1, (encR (sI (n1 != n2) l1) (val l2)).2.2, true)) := by
 obtain ⟨b, hb, hb0, hbz⟩ := bits_ev h2 hl2
 have e : encR 0 1 = (false, [], limbs 1) := by unfold encR; simp [limbs_zero]
 refine Ev.bind hb ?_
 by_cases h0 : val l2 = 0
 ·rw [if_pos h0]
  have hz := zero_ev
  rw [e] at hz
  exact Ev.ite_pos (hbz.2 h0) (Ev.bind (f := fun _ b => some (b.1, b.2.1, b.2.2, false)) hz (Ev.now _))
 ·rw [if_neg h0]
  have hw := lowest_ev (n1 != n2) h1 h2 hl1 hl2
  rw [if_neg h0] at hw
  exact Ev.ite_neg (fun e => h0 (hbz.1 e)) (Ev.bind (f := fun _ b => some (b.1, b.2.1, b.2.2, true)) hw (Ev.now _))
theorem rof_ev {a b : Int} (ha0 : -9223372036854775808 ≤ a) (ha1 : a < 9223372036854775808) (hb0 : -9223372036854775808 ≤ b) (hb1 : b < 9223372036854775808) :
  Ev (fun k => ratio_Of.f k a b) (if b = 0 then (false, [], limbs 1, false) else ((encR (a * b.sign) b.natAbs).1, (encR (a * b.sign) b.natAbs).2.1, (encR (a * b.sign) b.natAbs).2.2, true)) := by
 have ia := iof_ev ha0 ha1
 have ib := iof_ev hb0 hb1
 have la : lenok (limbs a.natAbs) := by
  unfold lenok
  have : (limbs a.natAbs).length ≤ 2 := limbs_len_le (by omega)
  omega
 have lb : lenok (limbs b.natAbs) := by
  unfold lenok
  have : (limbs b.natAbs).length ≤ 2 := limbs_len_le (by omega)
  omega
 have hm := rmake_ev (decide (a < 0)) (okl_limbs a.natAbs) la (decide (b < 0)) (okl_limbs b.natAbs) lb
 rw [val_limbs] at hm
 have e : b.natAbs ≠ 0 → sI (decide (a < 0) != decide (b < 0)) (limbs a.natAbs) = a * b.sign := by
  intro hb
  unfold sI
  rw [val_limbs]
  rcases Int.lt_or_le b 0 with c | c
  ·rw [Int.sign_eq_neg_one_of_neg c, decide_eq_true (p := b < 0) c]
   by_cases d : a < 0
   ·rw [decide_eq_true d, if_neg (by decide)]; omega
   ·rw [decide_eq_false d, if_pos (by decide)]; omega
  ·rw [Int.sign_eq_one_of_pos (by omega), decide_eq_false (p := b < 0) (by omega)]
   by_cases d : a < 0
   ·rw [decide_eq_true d, if_pos (by decide)]; omega
   ·rw [decide_eq_false d, if_neg (by decide)]; omega
 refine Ev.bind ia (Ev.bind (f := fun k bt312 => ((ratio_Make.f k (eI a).1 (eI a).2 bt312.1 bt312.2).bind fun bt316 => (some (bt316.1, bt316.2.1, bt316.2.2.1, bt316.2.2.2)))) ib ?_)
 by_cases h0 : b = 0
 ·rw [if_pos h0]
  rw [if_pos (by omega)] at hm
  exact Ev.bind (f := fun _ b => some (b.1, b.2.1, b.2.2.1, b.2.2.2)) hm (Ev.now _)
 ·rw [if_neg h0]
  rw [if_neg (by omega), e (by omega)] at hm
  exact Ev.bind (f := fun _ b => some (b.1, b.2.1, b.2.2.1, b.2.2.2)) hm (Ev.now _)
theorem rcmp_ev (n1 n2 : Bool) {ln1 ld1 ln2 ld2 : List Int} (h1 : okl ln1) (h2 : okl ld1) (h3 : okl ln2) (h4 : okl ld2) (s1 : smallR ln1) (s2 : smallR ld1) (s3 : smallR ln2) (s4 : smallR ld2) :
  Ev (fun k => ratio_Cmp.f k n1 ln1 ld1 n2 ln2 ld2) (cmpZ (numR n1 ln1 ld1 * denR ld2) (numR n2 ln2 ld2 * denR ld1)) := by
 obtain ⟨m1, l1, p1, o1, q1, e1, r1⟩ := parts_ev n1 h1 h2 s1 s2
 obtain ⟨m2, l2, p2, o2, q2, e2, r2⟩ := parts_ev n2 h3 h4 s3 s4
 obtain ⟨x1, y1⟩ := imulp (n1 := m1) (n2 := false) o1 (okl_limbs (denR ld2)) q1 r2
 obtain ⟨x2, y2⟩ := imulp (n1 := m2) (n2 := false) o2 (okl_limbs (denR ld1)) q2 r1
 rw [sI_false_limbs, e1] at x1 y1
 rw [sI_false_limbs, e2] at x2 y2
 generalize hz1 : numR n1 ln1 ld1 * (denR ld2 : Int) = z1 at *
 generalize hz2 : numR n2 ln2 ld2 * (denR ld1 : Int) = z2 at *
 have c := icmp_ev (eI z1).1 (okl_limbs z1.natAbs) (by unfold lenok; omega) (eI z2).1 (okl_limbs z2.natAbs) (by unfold lenok; omega)
 have c1 : sI (eI z1).1 (limbs z1.natAbs) = z1 := sI_eI z1
 have c2 : sI (eI z2).1 (limbs z2.natAbs) = z2 := sI_eI z2
 rw [c1, c2] at c
 replace c : Ev (fun k => integer_Cmp.f k (eI z1).1 (eI z1).2 (eI z2).1 (eI z2).2) (cmpZ z1 z2) := c
 exact Ev.bind p1 (Ev.bind (f := fun k bt391 => ((integer_Mul.f k m1 l1 bt391.2.2.1 bt391.2.2.2).bind fun bt401 => ((integer_Mul.f k bt391.1 bt391.2.1 false (limbs (denR ld1))).bind fun bt405 => ((integer_Cmp.f k bt401.1 bt401.2 bt405.1 bt405.2).bind fun t409 => (some t409))))) p2 (Ev.bind x1 (Ev.bind (f := fun k bt405 => ((integer_Cmp.f k (eI z1).1 (eI z1).2 bt405.1 bt405.2).bind fun t409 => (some t409))) x2 (Ev.bind (f := fun _ t => some t) c (Ev.now _)))))
theorem rsign_ev (n1 : Bool) {ln1 ld1 : List Int} (h1 : okl ln1) (h2 : okl ld1) (s1 : smallR ln1) (s2 : smallR ld1) :
  Ev (fun k => ratio_Sign.f k n1 ln1 ld1) (Int.sign (numR n1 ln1 ld1)) := by
 obtain ⟨m1, l1, p1, o1, q1, e1, r1⟩ := parts_ev n1 h1 h2 s1 s2
 have c := isign_ev m1 o1 (by unfold lenok; unfold smallR at q1; omega)
 rw [e1] at c
 exact Ev.bind p1 (Ev.bind (f := fun _ t => some t) c (Ev.now _))
theorem rmul_ev (n1 n2 : Bool) {ln1 ld1 ln2 ld2 : List Int} (h1 : okl ln1) (h2 : okl ld1) (h3 : okl ln2) (h4 : okl ld2) (s1 : smallR ln1) (s2 : smallR ld1) (s3 : smallR ln2) (s4 : smallR ld2) :
  Ev (fun k => ratio_Mul.f k n1 ln1 ld1 n2 ln2 ld2) (encR (numR n1 ln1 ld1 * numR n2 ln2 ld2) (denR ld1 * denR ld2)) := by
 obtain ⟨m1, l1, p1, o1, q1, e1, r1⟩ := parts_ev n1 h1 h2 s1 s2
 obtain ⟨m2, l2, p2, o2, q2, e2, r2⟩ := parts_ev n2 h3 h4 s3 s4
 obtain ⟨x1, y1⟩ := imulp (n1 := m1) (n2 := m2) o1 o2 q1 q2
 rw [e1, e2] at x1 y1
 unfold smallR at r1 r2
 have x2 := mul_ev (okl_limbs (denR ld1)) (okl_limbs (denR ld2)) (by unfold lenok; omega) (by unfold lenok; omega)
 have y2 := prod_len (okl_limbs (denR ld1)) (okl_limbs (denR ld2))
 rw [val_limbs, val_limbs] at x2 y2
 have d0 : denR ld1 * denR ld2 ≠ 0 := Nat.pos_iff_ne_zero.mp (Nat.mul_pos (denR_pos _) (denR_pos _))
 generalize numR n1 ln1 ld1 * numR n2 ln2 ld2 = z1 at *
 generalize hd : denR ld1 * denR ld2 = d1 at *
 have c := lowest_ev (eI z1).1 (okl_limbs z1.natAbs) (okl_limbs d1) (by unfold lenok; omega) (by unfold lenok; omega)
 have c1 : sI (eI z1).1 (limbs z1.natAbs) = z1 := sI_eI z1
 rw [c1, val_limbs, if_neg d0] at c
 replace c : Ev (fun k => ratio_lowest.f k (eI z1).1 (eI z1).2 (limbs d1)) (encR z1 d1) := c
 exact Ev.bind p1 (Ev.bind (f := fun k bt826 => ((integer_Mul.f k m1 l1 bt826.1 bt826.2.1).bind fun bt836 => ((nat_Mul.f k (limbs (denR ld1)) bt826.2.2.2).bind fun t840 => ((ratio_lowest.f k bt836.1 bt836.2 t840).bind fun bt843 => (some (bt843.1, bt843.2.1, bt843.2.2)))))) p2 (Ev.bind (f := fun k bt836 => ((nat_Mul.f k (limbs (denR ld1)) (limbs (denR ld2))).bind fun t840 => ((ratio_lowest.f k bt836.1 bt836.2 t840).bind fun bt843 => (some (bt843.1, bt843.2.1, bt843.2.2))))) x1 (Ev.bind (f := fun k t840 => ((ratio_lowest.f k (eI z1).1 (eI z1).2 t840).bind fun bt843 => (some (bt843.1, bt843.2.1, bt843.2.2)))) x2 (Ev.bind (f := fun _ b => some (b.1, b.2.1, b.2.2)) c (Ev.now _)))))
theorem sI_abs (neg : Bool) (n : Nat) : sI neg (limbs n) = if neg then -(n : Int) else (n : Int) := by unfold sI; rw [val_limbs]
theorem limbs2 {n : Nat} (h : n < 18446744073709551616) : (limbs n).length ≤ 2 := limbs_len_le (by omega)
theorem numR_len (neg : Bool) {ln ld : List Int} (hn : okl ln) : (limbs (numR neg ln ld).natAbs).length ≤ ln.length := by
 unfold numR
 split
 ·simp [limbs_zero]
 ·rw [sI_natAbs]; exact limbs_val_len hn
theorem denR_len {ld : List Int} (hd : okl ld) : (limbs (denR ld)).length ≤ ld.length + 1 := by
 unfold denR
 split
 ·rw [limbs_one_len]; omega
 ·exact Nat.le_trans (limbs_val_len hd) (Nat.le_succ _)
theorem cmpZ_mul {a b g : Int} (hg : 0 < g) : cmpZ (a * g) (b * g) = cmpZ a b := by
 unfold cmpZ
 by_cases h : a < b
 ·rw [if_pos h, if_pos (Int.mul_lt_mul_of_pos_right h hg)]
 ·have h2 : ¬ a * g < b * g := fun h3 => h (Int.lt_of_mul_lt_mul_right h3 (Int.le_of_lt hg))
  rw [if_neg h, if_neg h2]
  by_cases h4 : b < a
  ·rw [if_pos h4, if_pos (Int.mul_lt_mul_of_pos_right h4 hg)]
  ·have h5 : ¬ b * g < a * g := fun h3 => h4 (Int.lt_of_mul_lt_mul_right h3 (Int.le_of_lt hg))
   rw [if_neg h4, if_neg h5]
theorem enc_parts (p : Int) {q : Nat} (hq : 0 < q) : ∃ g : Nat, 0 < g ∧ numR (encR p q).1 (encR p q).2.1 (encR p q).2.2 * (g : Int) = p ∧ denR (encR p q).2.2 * g = q := by
 have g0 : 0 < Nat.gcd p.natAbs q := Nat.gcd_pos_of_pos_right _ hq
 have d1 := Nat.gcd_dvd_left p.natAbs q
 have d2 := Nat.gcd_dvd_right p.natAbs q
 refine ⟨Nat.gcd p.natAbs q, g0, ?_, ?_⟩
 ·unfold numR encR
  simp only [val_limbs]
  generalize Nat.gcd p.natAbs q = g at *
  have h1 : q / g ≠ 0 := Nat.pos_iff_ne_zero.mp (Nat.div_pos (Nat.le_of_dvd hq d2) g0)
  rw [if_neg h1, sI_abs]
  have h2 : ((p.natAbs / g : Nat) : Int) * (g : Int) = (p.natAbs : Int) := by rw [← Int.natCast_mul, Nat.div_mul_cancel d1]
  by_cases c : p < 0
  ·rw [decide_eq_true c, if_pos rfl, Int.neg_mul, h2]; omega
  ·rw [decide_eq_false c, if_neg Bool.false_ne_true, h2]; omega
 ·unfold denR encR
  simp only [val_limbs]
  generalize Nat.gcd p.natAbs q = g at *
  have h1 : q / g ≠ 0 := Nat.pos_iff_ne_zero.mp (Nat.div_pos (Nat.le_of_dvd hq d2) g0)
  rw [if_neg h1, Nat.div_mul_cancel d2]
theorem enc_ok (p : Int) (q : Nat) : okl (encR p q).2.1 ∧ okl (encR p q).2.2 ∧ (encR p q).2.1.length ≤ (limbs p.natAbs).length ∧ (encR p q).2.2.length ≤ (limbs q).length :=
 ⟨okl_limbs _, okl_limbs _, limbs_len_mono (Nat.div_le_self _ _), limbs_len_mono (Nat.div_le_self _ _)⟩
theorem enc_cmp_right (p : Int) {q : Nat} (hq : 0 < q) (N : Int) (D : Nat) : cmpZ (N * (denR (encR p q).2.2 : Int)) (numR (encR p q).1 (encR p q).2.1 (encR p q).2.2 * (D : Int)) = cmpZ (N * q) (p * D) := by
 obtain ⟨g, g0, h1, h2⟩ := enc_parts p hq
 generalize numR (encR p q).1 (encR p q).2.1 (encR p q).2.2 = a at *
 generalize denR (encR p q).2.2 = b at *
 subst h1 h2
 rw [Int.natCast_mul, ← Int.mul_assoc N, Int.mul_right_comm a, cmpZ_mul (by omega)]
theorem enc_one (z : Int) : numR (encR z 1).1 (encR z 1).2.1 (encR z 1).2.2 = z ∧ denR (encR z 1).2.2 = 1 := by
 obtain ⟨g, g0, h1, h2⟩ := enc_parts z (q := 1) (by decide)
 have hg : g = 1 := Nat.eq_one_of_mul_eq_one_left h2
 subst hg
 exact ⟨by simpa using h1, by simpa using h2⟩
theorem numR_len20 (neg : Bool) {ln ld : List Int} (hn : okl ln) (h : ln.length ≤ 20) : (limbs (numR neg ln ld).natAbs).length ≤ 20 := Nat.le_trans (numR_len neg hn) h
theorem rofk {a b : Int} (ha0 : -9223372036854775808 ≤ a) (ha1 : a < 9223372036854775808) (hb0 : 0 < b) (hb1 : b < 9223372036854775808) :
  Ev (fun k => ratio_Of.f k a b) ((encR a b.toNat).1, (encR a b.toNat).2.1, (encR a b.toNat).2.2, true) := by
 have h := rof_ev ha0 ha1 (by omega) hb1
 rw [if_neg (by omega), Int.sign_eq_one_of_pos hb0, Int.mul_one, show b.natAbs = b.toNat by omega] at h
 exact h
theorem large_eq (neg : Bool) (ln ld : List Int) : examboardlaw37_large.f neg ln ld = some (decide (20 < ln.length ∨ 20 < ld.length)) := by
 unfold examboardlaw37_large.f
 by_cases h : ln.length > 20
 ·rw [if_pos (by omega), decide_eq_true (by omega)]
 ·rw [if_neg (by omega)]
  congr 1
  by_cases h2 : ld.length > 20
  ·rw [decide_eq_true (by omega), decide_eq_true (by omega)]
  ·rw [decide_eq_false (by omega), decide_eq_false (by omega)]
def bd (a : Int) : Int := if a < 0 then 0 else if a > 1000000 then 1000000 else a
theorem bd_bounds (a : Int) : 0 ≤ bd a ∧ bd a ≤ 1000000 := by unfold bd; split <;> (try split) <;> omega
theorem bounded_eq (a : Int) : exposure_bounded.f a = some (bd a) := by
 unfold exposure_bounded.f bd mn mx
 congr 1
 split <;> split <;> (try split) <;> (try split) <;> omega
def eligV (a0 a1 : Int) (N : Int) (D : Nat) (a3 : Int) : Bool := decide (cmpZ ((bd a0 + 1) * D) (N * (bd a1 + 1 + bd a3)) ≤ 0)
theorem fraction_ev {a b : Int} (ha0 : -9223372036854775808 ≤ a) (ha1 : a < 9223372036854775808) (hb0 : 0 < b) (hb1 : b < 9223372036854775808) : Ev (fun k => exposure_fraction.f k a b) (encR a b.toNat) :=
 Ev.bind (a := ((encR a b.toNat).1, (encR a b.toNat).2.1, (encR a b.toNat).2.2, true)) (f := fun (_ : Nat) (b : Bool × List Int × List Int × Bool) => some (b.1, b.2.1, b.2.2.1)) (rofk ha0 ha1 hb0 hb1) (Ev.now _)
theorem elig_nums (neg : Bool) {ln ld : List Int} (hn : okl ln) (hd : okl ld) (h1 : ln.length ≤ 20) (h2 : ld.length ≤ 20) {S c : Int} (hS0 : 0 ≤ S) (hS1 : S ≤ 4000000) (hc0 : 0 ≤ c) (hc1 : c ≤ 4000000) :
  (encR (numR neg ln ld * S) (denR ld)).2.1.length ≤ 22 ∧ (encR (numR neg ln ld * S) (denR ld)).2.2.length ≤ 21 ∧ (encR S 1).2.1.length ≤ 2 ∧ (encR S 1).2.2.length ≤ 2 ∧ (encR c 1).2.1.length ≤ 2 ∧ (encR c 1).2.2.length ≤ 2 := by
 have k1 := numR_len20 neg (ld := ld) hn h1
 have k2 := denR_len hd
 obtain ⟨_, _, m3, m4⟩ := enc_ok (numR neg ln ld * S) (denR ld)
 obtain ⟨_, _, n3, n4⟩ := enc_ok S 1
 obtain ⟨_, _, q3, q4⟩ := enc_ok c 1
 have l4 := prod_len (okl_limbs (numR neg ln ld).natAbs) (okl_limbs S.natAbs)
 rw [val_limbs, val_limbs] at l4
 rw [Int.natAbs_mul] at m3
 have l1 := limbs2 (n := S.natAbs) (by omega)
 have l2 := limbs2 (n := 1) (by decide)
 have l3 := limbs2 (n := c.natAbs) (by omega)
 omega
theorem elig_ev (a0 a1 a3 : Int) (neg : Bool) {ln ld : List Int} (hn : okl ln) (hd : okl ld) (h1 : ln.length ≤ 20) (h2 : ld.length ≤ 20) :
  Ev (fun k => exposure_Eligible.f k a0 a1 neg ln ld a3) (eligV a0 a1 (numR neg ln ld) (denR ld) a3) := by
 unfold exposure_Eligible.f eligV
 rw [bounded_eq, bounded_eq, bounded_eq]
 simp only [Option.bind_some]
 obtain ⟨x0, x1⟩ := bd_bounds a0
 obtain ⟨y0, y1⟩ := bd_bounds a1
 obtain ⟨z0, z1⟩ := bd_bounds a3
 have w1 : wrap64 (wrap64 (bd a1 + 1) + bd a3) = bd a1 + 1 + bd a3 := by rw [wrap64_id (x := bd a1 + 1) (by omega) (by omega), wrap64_id (by omega) (by omega)]
 have w2 : wrap64 (bd a0 + 1) = bd a0 + 1 := wrap64_id (by omega) (by omega)
 rw [w1, w2]
 clear w1 w2
 have hS0 : 0 ≤ bd a1 + 1 + bd a3 := by omega
 have hS1 : bd a1 + 1 + bd a3 ≤ 4000000 := by omega
 generalize bd a1 + 1 + bd a3 = S at *
 have hc0 : 0 ≤ bd a0 + 1 := by omega
 have hc1 : bd a0 + 1 ≤ 4000000 := by omega
 generalize bd a0 + 1 = c at *
 clear x0 x1 y0 y1 z0 z1
 have f1 := fraction_ev (a := S) (b := 1) (by omega) (by omega) (by omega) (by omega)
 have f2 := fraction_ev (a := c) (b := 1) (by omega) (by omega) (by omega) (by omega)
 rw [show (1 : Int).toNat = 1 from rfl] at f1 f2
 obtain ⟨e1, e2⟩ := enc_one S
 obtain ⟨g1, g2⟩ := enc_one c
 obtain ⟨k1, k2, k3, k4, k5, k6⟩ := elig_nums neg hn hd h1 h2 hS0 hS1 hc0 hc1
 have hm := rmul_ev neg (encR S 1).1 hn hd (okl_limbs _) (okl_limbs _) (by unfold smallR; omega) (by unfold smallR; omega) (show smallR (encR S 1).2.1 by unfold smallR; omega) (show smallR (encR S 1).2.2 by unfold smallR; omega)
 replace hm : Ev (fun k => ratio_Mul.f k neg ln ld (encR S 1).1 (encR S 1).2.1 (encR S 1).2.2) (encR (numR neg ln ld * numR (encR S 1).1 (encR S 1).2.1 (encR S 1).2.2) (denR ld * denR (encR S 1).2.2)) := hm
 rw [e1, e2, Nat.mul_one] at hm
 have hc := rcmp_ev (encR c 1).1 (encR (numR neg ln ld * S) (denR ld)).1 (enc_ok c 1).1 (enc_ok c 1).2.1 (enc_ok (numR neg ln ld * S) (denR ld)).1 (enc_ok (numR neg ln ld * S) (denR ld)).2.1 (by unfold smallR; omega) (by unfold smallR; omega) (by unfold smallR; omega) (by unfold smallR; omega)
 rw [g1, g2, enc_cmp_right _ (denR_pos ld), Int.natCast_one, Int.mul_one] at hc
 exact Ev.bind f1 (Ev.bind f2 (Ev.bind hm (Ev.bind (a := cmpZ (c * denR ld) (numR neg ln ld * S)) (f := fun (_ : Nat) (t : Int) => some (decide (t ≤ 0))) hc (Ev.now _))))
theorem cmpZ_le (a b : Int) : cmpZ a b ≤ 0 ↔ a ≤ b := by
 unfold cmpZ
 split
 ·constructor <;> intro <;> omega
 ·split <;> constructor <;> intro <;> omega
theorem eligV_true {a0 a1 N : Int} {D : Nat} {a3 : Int} : eligV a0 a1 N D a3 = true ↔ (bd a0 + 1) * D ≤ N * (bd a1 + 1 + bd a3) := by
 unfold eligV
 rw [decide_eq_true_iff, cmpZ_le]
theorem bd_id {a : Int} (h0 : 0 ≤ a) (h1 : a ≤ 1000000) : bd a = a := by unfold bd; rw [if_neg (by omega), if_neg (by omega)]
end Go.Proofs.Ythamhjmhgcpdgaa.Big
end
section
namespace Go.Proofs.Ythamhjmhgcpdgaa.Lp
open Go.RowKit Go.Proofs.YthamhjmhgcpdgaaW.PrintWords
set_option linter.unusedVariables false
theorem wrap64_id {x : Int} (h0 : -9223372036854775808 ≤ x) (h1 : x < 9223372036854775808) : wrap64 x = x := by unfold wrap64; omega
theorem wrap_next {i n : Nat} (h : i < n) (hn : n ≤ 9223372036854775807) : wrap64 ((i : Int) + 1) = ((i + 1 : Nat) : Int) := by rw [wrap64_id (by omega) (by omega)]; omega
theorem Ev.ite_pos {α : Type} {p : Prop} [Decidable p] {a b : Nat → Option α} {r : α} (h : p) (k : Ev a r) : Ev (fun n => if p then a n else b n) r := Ev.congr (fun n => if_pos h) k
theorem Ev.ite_neg {α : Type} {p : Prop} [Decidable p] {a b : Nat → Option α} {r : α} (h : ¬ p) (k : Ev b r) : Ev (fun n => if p then a n else b n) r := Ev.congr (fun n => if_neg h) k
theorem Ev.last {α : Type} {g : Nat → Option α} {r : α} (h : ∀ k, g (k + 1) = some r) : Ev g r := Ev.step (f := fun _ => some r) h (Ev.now r)
theorem getD_drop {α : Type} (l : List α) (z : α) (i : Nat) (h : i < l.length) : l.drop i = l.getD i z :: l.drop (i + 1) := by
 rw [List.drop_eq_getElem_cons h, List.getD_eq_getElem?_getD, List.getElem?_eq_getElem h]
 rfl
theorem getD_mem {α : Type} (l : List α) (z : α) (i : Nat) (h : i < l.length) : l.getD i z ∈ l := by
 rw [List.getD_eq_getElem?_getD, List.getElem?_eq_getElem h]
 exact List.getElem_mem h
theorem take_snoc {α : Type} (l : List α) (z : α) (i : Nat) (h : i < l.length) : l.take (i + 1) = l.take i ++ [l.getD i z] := by
 rw [List.take_add_one, List.getElem?_eq_getElem h, List.getD_eq_getElem?_getD, List.getElem?_eq_getElem h]
 rfl
end Go.Proofs.Ythamhjmhgcpdgaa.Lp
end
