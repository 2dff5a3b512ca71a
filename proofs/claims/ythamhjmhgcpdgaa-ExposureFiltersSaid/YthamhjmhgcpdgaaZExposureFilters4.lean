/- Lemmas and contracts for the law ExposureFilters: words of the print, contracts of the functions that the law reaches, and what these compute, as far as the law needs them; packed by a program of this session. -/
import Derived.Test.YthamhjmhgcpdgaaZExposureFilters3
section
namespace Go.Proofs.Ythamhjmhgcpdgaa.Q
open Go.RowKit Go.Proofs.YthamhjmhgcpdgaaW.PrintWords Go.Proofs.YthamhjmhgcpdgaaW.PrintLast Go.Proofs.YthamhjmhgcpdgaaW.PrintMore Go.Proofs.Ythamhjmhgcpdgaa.MyWords
attribute [local go_sem] max2_int min2_int max_two min_two
set_option linter.unusedVariables false
set_option linter.unusedSimpArgs false
set_option maxHeartbeats 8000000 in
set_option maxRecDepth 100000 in
theorem examboardref37_least.calls (k : Nat) (A0 : Option Addr) (c0 : Nat) (l0 : List Int) (a1 : Bool) (a2 : Int) (r1 : Int) (r2 : Bool) (w : World) (hr0 : Kd.C (Kd.int .i64) w A0 l0.length l0) (hc0 : l0.length ≤ c0) (h : examboardref37_least.f k l0 a1 a2 = some (r1, r2)) :
  Calls Try.prog 76 #[.slice A0 l0.length c0, .bool a1, .int .i64 a2] w fun e w' => e = .returned (.tuple #[.int .i64 r1, .bool r2]) ∧ Drawn0 w w' := by
 have HR0 := mk0 hr0
 have HC0 := mk0 hc0
 clear hr0 hc0
 have H : (examboardref37_least.l0 k l0 a1 a2 0 false 0) = some (r1, r2) := h
 clear h
 have H' := mk0 H
 clear H
 go_enter Try.func76, Try.ntmps76
 go_wp2
 go_loopg [8, 9, 10] k (fun kq v8 v9 v10 w' => ∃ (x8_1 : Int) (x9_1 : Bool) (x10_1 : Int), v8 = .int .i64 x8_1 ∧ v9 = .bool x9_1 ∧ v10 = .int .i64 x10_1 ∧ Aside0 (examboardref37_least.l0 kq l0 a1 a2 x8_1 x9_1 x10_1 = some (r1, r2)) ∧ Aside0 (kq ≤ k) ∧ Drawn0 w w')
 case atStart => exact ⟨(0), (false), (0), rfl, rfl, rfl, H', ⟨Nat.le_refl _⟩, by repeat (first | exact Drawn0.refl _ | apply Drawn0.step)⟩
 case round =>
  clear H'
  try clear p2
  obtain ⟨x8_1, x9_1, x10_1, rfl, rfl, rfl, HA, HK1, ⟨m1, rfl⟩⟩ := hrel
  cases gk with
  | zero => exact absurd HA.out (by simp [examboardref37_least.l0])
  | succ k1 =>
   have H := HA.out
   clear HA
   simp only [examboardref37_least.l0] at H
   by_cases c4 : x10_1 < (l0.length : Int)
   ·rw [if_pos c4] at H
    have c4b0 := decide_eq_true c4
    clear c4
    by_cases c5 : a1 = true
    ·subst c5
     have H1 : (if 0 ≤ x10_1 then (if (rd l0 x10_1) > a2 then (if x9_1 = true then (if (rd l0 x10_1) < x8_1 then (examboardref37_least.l0 k1 l0 true a2 (rd l0 x10_1) true (wrap64 (x10_1 + 1))) else (examboardref37_least.l0 k1 l0 true a2 x8_1 x9_1 (wrap64 (x10_1 + 1)))) else (examboardref37_least.l0 k1 l0 true a2 (rd l0 x10_1) true (wrap64 (x10_1 + 1)))) else (examboardref37_least.l0 k1 l0 true a2 x8_1 x9_1 (wrap64 (x10_1 + 1)))) else (none)) = some (r1, r2) := by rw [if_pos rfl] at H; exact H
     clear H
     have H := H1
     clear H1
     by_cases c6 : 0 ≤ x10_1
     ·rw [if_pos c6] at H
      have c6b0 := decide_eq_true c6
      clear c6
      by_cases c7 : (rd l0 x10_1) > a2
      ·rw [if_pos c7] at H
       have c7b0 := decide_eq_true c7
       clear c7
       by_cases c8 : x9_1 = true
       ·subst c8
        have H1 : (if (rd l0 x10_1) < x8_1 then (examboardref37_least.l0 k1 l0 true a2 (rd l0 x10_1) true (wrap64 (x10_1 + 1))) else (examboardref37_least.l0 k1 l0 true a2 x8_1 true (wrap64 (x10_1 + 1)))) = some (r1, r2) := by rw [if_pos rfl] at H; exact H
        clear H
        have H := H1
        clear H1
        by_cases c9 : (rd l0 x10_1) < x8_1
        ·rw [if_pos c9] at H
         have c9b0 := decide_eq_true c9
         clear c9
         have H' := mk0 H
         clear H
         have p1007 : 0 ≤ (x10_1 : Int) := of_decide_eq_true (by assumption)
         have q1007 : x10_1 < (l0.length : Int) := of_decide_eq_true (by assumption)
         obtain ⟨ad1007, e1007, hx1007_0⟩ := Kd.at_int HR0.out x10_1 p1007 q1007
         cases e1007
         replace p1007 := eq_true p1007
         replace q1007 := eq_true q1007
         have p1008 : 0 ≤ (x10_1 : Int) := of_decide_eq_true (by assumption)
         have q1008 : x10_1 < (l0.length : Int) := of_decide_eq_true (by assumption)
         obtain ⟨ad1008, e1008, hx1008_0⟩ := Kd.at_int HR0.out x10_1 p1008 q1008
         obtain rfl : ad1007 = ad1008 := (by injection e1008)
         replace p1008 := eq_true p1008
         replace q1008 := eq_true q1008
         have p1009 : 0 ≤ (x10_1 : Int) := of_decide_eq_true (by assumption)
         have q1009 : x10_1 < (l0.length : Int) := of_decide_eq_true (by assumption)
         obtain ⟨ad1009, e1009, hx1009_0⟩ := Kd.at_int HR0.out x10_1 p1009 q1009
         obtain rfl : ad1007 = ad1009 := (by injection e1009)
         replace p1009 := eq_true p1009
         replace q1009 := eq_true q1009
         go_wp2
         go_roundg k1
         case measure => have := HK1.out; omega
         case rel => exact ⟨(rd l0 x10_1), (true), (wrap64 (x10_1 + 1)), rfl, rfl, rfl, H', ⟨by have := HK1.out; omega⟩, by repeat (first | exact Drawn0.refl _ | apply Drawn0.step)⟩
        ·rw [if_neg c9] at H
         have c9b0 := decide_eq_false c9
         clear c9
         have H' := mk0 H
         clear H
         have p1007 : 0 ≤ (x10_1 : Int) := of_decide_eq_true (by assumption)
         have q1007 : x10_1 < (l0.length : Int) := of_decide_eq_true (by assumption)
         obtain ⟨ad1007, e1007, hx1007_0⟩ := Kd.at_int HR0.out x10_1 p1007 q1007
         cases e1007
         replace p1007 := eq_true p1007
         replace q1007 := eq_true q1007
         have p1008 : 0 ≤ (x10_1 : Int) := of_decide_eq_true (by assumption)
         have q1008 : x10_1 < (l0.length : Int) := of_decide_eq_true (by assumption)
         obtain ⟨ad1008, e1008, hx1008_0⟩ := Kd.at_int HR0.out x10_1 p1008 q1008
         obtain rfl : ad1007 = ad1008 := (by injection e1008)
         replace p1008 := eq_true p1008
         replace q1008 := eq_true q1008
         go_wp2
         go_roundg k1
         case measure => have := HK1.out; omega
         case rel => exact ⟨(x8_1), (true), (wrap64 (x10_1 + 1)), rfl, rfl, rfl, H', ⟨by have := HK1.out; omega⟩, by repeat (first | exact Drawn0.refl _ | apply Drawn0.step)⟩
       ·replace c8 := Bool.eq_false_iff.mpr c8
        subst c8
        have H1 : (examboardref37_least.l0 k1 l0 true a2 (rd l0 x10_1) true (wrap64 (x10_1 + 1))) = some (r1, r2) := by rw [if_neg (show ¬ (false = true) by decide)] at H; exact H
        clear H
        have H := H1
        clear H1
        have H' := mk0 H
        clear H
        have p1007 : 0 ≤ (x10_1 : Int) := of_decide_eq_true (by assumption)
        have q1007 : x10_1 < (l0.length : Int) := of_decide_eq_true (by assumption)
        obtain ⟨ad1007, e1007, hx1007_0⟩ := Kd.at_int HR0.out x10_1 p1007 q1007
        cases e1007
        replace p1007 := eq_true p1007
        replace q1007 := eq_true q1007
        have p1010 : 0 ≤ (x10_1 : Int) := of_decide_eq_true (by assumption)
        have q1010 : x10_1 < (l0.length : Int) := of_decide_eq_true (by assumption)
        obtain ⟨ad1010, e1010, hx1010_0⟩ := Kd.at_int HR0.out x10_1 p1010 q1010
        obtain rfl : ad1007 = ad1010 := (by injection e1010)
        replace p1010 := eq_true p1010
        replace q1010 := eq_true q1010
        go_wp2
        go_roundg k1
        case measure => have := HK1.out; omega
        case rel => exact ⟨(rd l0 x10_1), (true), (wrap64 (x10_1 + 1)), rfl, rfl, rfl, H', ⟨by have := HK1.out; omega⟩, by repeat (first | exact Drawn0.refl _ | apply Drawn0.step)⟩
      ·rw [if_neg c7] at H
       have c7b0 := decide_eq_false c7
       clear c7
       have H' := mk0 H
       clear H
       have p1007 : 0 ≤ (x10_1 : Int) := of_decide_eq_true (by assumption)
       have q1007 : x10_1 < (l0.length : Int) := of_decide_eq_true (by assumption)
       obtain ⟨ad1007, e1007, hx1007_0⟩ := Kd.at_int HR0.out x10_1 p1007 q1007
       cases e1007
       replace p1007 := eq_true p1007
       replace q1007 := eq_true q1007
       go_wp2
       go_roundg k1
       case measure => have := HK1.out; omega
       case rel => exact ⟨(x8_1), (x9_1), (wrap64 (x10_1 + 1)), rfl, rfl, rfl, H', ⟨by have := HK1.out; omega⟩, by repeat (first | exact Drawn0.refl _ | apply Drawn0.step)⟩
     ·rw [if_neg c6] at H
      exact absurd H (by simp)
    ·replace c5 := Bool.eq_false_iff.mpr c5
     subst c5
     have H1 : (if x9_1 = true then (if 0 ≤ x10_1 then (if (rd l0 x10_1) < x8_1 then (examboardref37_least.l0 k1 l0 false a2 (rd l0 x10_1) true (wrap64 (x10_1 + 1))) else (examboardref37_least.l0 k1 l0 false a2 x8_1 x9_1 (wrap64 (x10_1 + 1)))) else (none)) else (if 0 ≤ x10_1 then (examboardref37_least.l0 k1 l0 false a2 (rd l0 x10_1) true (wrap64 (x10_1 + 1))) else (none))) = some (r1, r2) := by rw [if_neg (show ¬ (false = true) by decide)] at H; exact H
     clear H
     have H := H1
     clear H1
     by_cases c10 : x9_1 = true
     ·subst c10
      have H1 : (if 0 ≤ x10_1 then (if (rd l0 x10_1) < x8_1 then (examboardref37_least.l0 k1 l0 false a2 (rd l0 x10_1) true (wrap64 (x10_1 + 1))) else (examboardref37_least.l0 k1 l0 false a2 x8_1 true (wrap64 (x10_1 + 1)))) else (none)) = some (r1, r2) := by rw [if_pos rfl] at H; exact H
      clear H
      have H := H1
      clear H1
      by_cases c11 : 0 ≤ x10_1
      ·rw [if_pos c11] at H
       have c11b0 := decide_eq_true c11
       clear c11
       by_cases c12 : (rd l0 x10_1) < x8_1
       ·rw [if_pos c12] at H
        have c12b0 := decide_eq_true c12
        clear c12
        have H' := mk0 H
        clear H
        have p1011 : 0 ≤ (x10_1 : Int) := of_decide_eq_true (by assumption)
        have q1011 : x10_1 < (l0.length : Int) := of_decide_eq_true (by assumption)
        obtain ⟨ad1011, e1011, hx1011_0⟩ := Kd.at_int HR0.out x10_1 p1011 q1011
        cases e1011
        replace p1011 := eq_true p1011
        replace q1011 := eq_true q1011
        have p1012 : 0 ≤ (x10_1 : Int) := of_decide_eq_true (by assumption)
        have q1012 : x10_1 < (l0.length : Int) := of_decide_eq_true (by assumption)
        obtain ⟨ad1012, e1012, hx1012_0⟩ := Kd.at_int HR0.out x10_1 p1012 q1012
        obtain rfl : ad1011 = ad1012 := (by injection e1012)
        replace p1012 := eq_true p1012
        replace q1012 := eq_true q1012
        go_wp2
        go_roundg k1
        case measure => have := HK1.out; omega
        case rel => exact ⟨(rd l0 x10_1), (true), (wrap64 (x10_1 + 1)), rfl, rfl, rfl, H', ⟨by have := HK1.out; omega⟩, by repeat (first | exact Drawn0.refl _ | apply Drawn0.step)⟩
       ·rw [if_neg c12] at H
        have c12b0 := decide_eq_false c12
        clear c12
        have H' := mk0 H
        clear H
        have p1011 : 0 ≤ (x10_1 : Int) := of_decide_eq_true (by assumption)
        have q1011 : x10_1 < (l0.length : Int) := of_decide_eq_true (by assumption)
        obtain ⟨ad1011, e1011, hx1011_0⟩ := Kd.at_int HR0.out x10_1 p1011 q1011
        cases e1011
        replace p1011 := eq_true p1011
        replace q1011 := eq_true q1011
        go_wp2
        go_roundg k1
        case measure => have := HK1.out; omega
        case rel => exact ⟨(x8_1), (true), (wrap64 (x10_1 + 1)), rfl, rfl, rfl, H', ⟨by have := HK1.out; omega⟩, by repeat (first | exact Drawn0.refl _ | apply Drawn0.step)⟩
      ·rw [if_neg c11] at H
       exact absurd H (by simp)
     ·replace c10 := Bool.eq_false_iff.mpr c10
      subst c10
      have H1 : (if 0 ≤ x10_1 then (examboardref37_least.l0 k1 l0 false a2 (rd l0 x10_1) true (wrap64 (x10_1 + 1))) else (none)) = some (r1, r2) := by rw [if_neg (show ¬ (false = true) by decide)] at H; exact H
      clear H
      have H := H1
      clear H1
      by_cases c13 : 0 ≤ x10_1
      ·rw [if_pos c13] at H
       have c13b0 := decide_eq_true c13
       clear c13
       have H' := mk0 H
       clear H
       have p1013 : 0 ≤ (x10_1 : Int) := of_decide_eq_true (by assumption)
       have q1013 : x10_1 < (l0.length : Int) := of_decide_eq_true (by assumption)
       obtain ⟨ad1013, e1013, hx1013_0⟩ := Kd.at_int HR0.out x10_1 p1013 q1013
       cases e1013
       replace p1013 := eq_true p1013
       replace q1013 := eq_true q1013
       go_wp2
       go_roundg k1
       case measure => have := HK1.out; omega
       case rel => exact ⟨(rd l0 x10_1), (true), (wrap64 (x10_1 + 1)), rfl, rfl, rfl, H', ⟨by have := HK1.out; omega⟩, by repeat (first | exact Drawn0.refl _ | apply Drawn0.step)⟩
      ·rw [if_neg c13] at H
       exact absurd H (by simp)
   ·rw [if_neg c4] at H
    have c4b0 := decide_eq_false c4
    clear c4
    simp only [Option.some.injEq, Prod.mk.injEq] at H
    obtain ⟨rfl, rfl⟩ := H
    go_wp2
    go_ret2
    exact ⟨by first | rfl | (simp; done) | (simp [*]; done), by repeat (first | exact Drawn0.refl _ | apply Drawn0.step)⟩
set_option maxHeartbeats 8000000 in
set_option maxRecDepth 100000 in
theorem examboardref37_rising.calls (k : Nat) (A0 : Option Addr) (c0 : Nat) (l0 : List Int) (r : List Int) (w : World) (hr0 : Kd.C (Kd.int .i64) w A0 l0.length l0) (hc0 : l0.length ≤ c0) (h : examboardref37_rising.f k l0 = some r) :
  Calls Try.prog 50 #[.slice A0 l0.length c0] w fun e w' => ∃ v0_ : Value, e = .returned (v0_) ∧ Kd.R (Kd.int .i64) 3 w' w.heap.size (fun _ => True) v0_ r ∧ Below w.heap.size w w' := by
 have HR0 := mk0 hr0
 have HC0 := mk0 hc0
 clear hr0 hc0
 have HB := mk0 (Below.refl w.heap.size w)
 have H : ((examboardref37_least.f k l0 false 0).bind fun bt1014 => (examboardref37_rising.l0 k l0 ([] : List Int) bt1014.1 bt1014.2)) = some r := h
 clear h
 obtain ⟨⟨t1014, t1015⟩, A2, H⟩ := bindA H
 have H' := mk0 H
 clear H
 go_enter Try.func50, Try.ntmps50
 go_wp2_with (first | ((with_reducible refine gate_callee (f := 76) rfl ?_); refine goA 8 Try.func76 #[.slice A0 l0.length c0, .bool false, .int .i64 0] ?_; (with_reducible refine (examboardref37_least.calls k _ _ l0 false 0 t1014 t1015 _ HR0.out HC0.out A2.out).mono ?_); rintro e w' ⟨rfl, ⟨nd, rfl⟩⟩; refine ⟨_, rfl, ?_⟩))
 go_loopg [3, 4, 5] k (fun kq v3 v4 v5 w' => ∃ (x3_1 : List Int) (x4_1 : Int) (x5_1 : Bool), v4 = .int .i64 x4_1 ∧ v5 = .bool x5_1 ∧ Aside0 (examboardref37_rising.l0 kq l0 x3_1 x4_1 x5_1 = some r) ∧ Aside0 (kq ≤ k) ∧ Aside0 (Kd.R (Kd.int .i64) 3 w' w.heap.size (fun _ => True) v3 x3_1) ∧ Aside0 (Below w.heap.size w w'))
 case atStart => exact ⟨(([] : List Int)), (t1014), (t1015), rfl, rfl, H', ⟨Nat.le_refl _⟩, ⟨by first | exact Kd.R_nil _ _ _ _ _ | exact Kd.N_nil _ _ _ _ _ | exact Kd.V_nil _ _ _ _ _ | exact Kd.Q_nil _ _ _ _ _ | exact Kd.S_nil _ _ _ _ _⟩, ⟨by repeat (first | exact HB.out | apply bN | apply b1 | apply bA)⟩⟩
 case round =>
  clear H'
  try clear p2
  obtain ⟨x3_1, x4_1, x5_1, rfl, rfl, HA, HK1, HO_3, HB⟩ := hrel
  cases gk with
  | zero => exact absurd HA.out (by simp [examboardref37_rising.l0])
  | succ k1 =>
   have H := HA.out
   clear HA
   simp only [examboardref37_rising.l0] at H
   by_cases c3 : x5_1 = true
   ·subst c3
    have H1 : (if x3_1.length < 17592186044416 then ((examboardref37_least.f k1 l0 true x4_1).bind fun bt1019 => (examboardref37_rising.l0 k1 l0 (x3_1 ++ [x4_1]) bt1019.1 bt1019.2)) else (none)) = some r := by rw [if_pos rfl] at H; exact H
    clear H
    have H := H1
    clear H1
    by_cases c4 : x3_1.length < 17592186044416
    ·rw [if_pos c4] at H
     have LMc4 := mk0 c4
     clear c4
     obtain ⟨y1016, hy1016⟩ : ∃ y_ : List Int, y_ = (x3_1 ++ [x4_1]) := ⟨_, rfl⟩
     rw [← hy1016] at H
     have Ny1016 := mk0 hy1016
     clear hy1016
     obtain ⟨⟨t1019, t1020⟩, A5, H⟩ := bindA H
     have H' := mk0 H
     clear H
     go_wp2_with (first | ((with_reducible refine gate_builtin (b := .append) (xs := #[.tmp 12, .tmp 14]) rfl ?_); at_builtin; refine Kd.R_append (Kd.int .i64) (w0 := w) w.heap.size rfl (.tmp 12) (.tmp 14) 46 3 (.int .i64 0) 8 rfl Try.underlying46 info3 rfl (by decide) (by omega) u3 x3_1 x4_1 [.int .i64 x4_1] (fun _ => True) (fun _ => False) rfl rfl ?aP (fun _ hk => hk.elim) ?aF ?aO ?aB ?aS ?aL ?_; (case aP => exact rfl); (case aB => exact (by repeat (first | exact HB.out | apply bN | apply b1 | apply bA))); (case aF => exact tv); (case aO => exact (by (with_reducible repeat apply Kd.R_drewN); exact HO_3.out)); (case aS => exact (bZ (by repeat (first | exact HB.out | apply bN | apply b1 | apply bA)))); (case aL => have := LMc4.out; omega); intro v1017 w6 ho hb hg hat; rw [← Ny1016.out] at ho; replace HB := mk0 (hb); have HO1018 := mk0 (ho); clear HO_3; clear ho hb hg hat) | ((with_reducible refine gate_callee (f := 76) rfl ?_); refine goA 19 Try.func76 #[.slice A0 l0.length c0, .bool true, .int .i64 x4_1] ?_; (with_reducible refine (examboardref37_least.calls k1 _ _ l0 true x4_1 t1019 t1020 _ (by exact Cb HR0.out HB.out) HC0.out A5.out).mono ?_); rintro e w' ⟨rfl, ⟨nd, rfl⟩⟩; refine ⟨_, rfl, ?_⟩))
     go_roundg k1
     case measure => have := HK1.out; omega
     case rel => exact ⟨(y1016), (t1019), (t1020), rfl, rfl, H', ⟨by have := HK1.out; omega⟩, ⟨by (with_reducible repeat apply Kd.R_drewN); exact HO1018.out⟩, ⟨by repeat (first | exact HB.out | apply bN | apply b1 | apply bA)⟩⟩
    ·rw [if_neg c4] at H
     exact absurd H (by simp)
   ·replace c3 := Bool.eq_false_iff.mpr c3
    subst c3
    have H1 : (some x3_1) = some r := by rw [if_neg (show ¬ (false = true) by decide)] at H; exact H
    clear H
    have H := H1
    clear H1
    obtain rfl := Option.some.inj H
    go_wp2
    go_ret
    exact ⟨_, by first | rfl | (simp [errW_none, errW_some] <;> rfl) | (simp [*, errW_none, errW_some] <;> rfl), by (with_reducible repeat apply Kd.R_drewN); exact HO_3.out, by repeat (first | exact HB.out | apply bN | apply b1 | apply bA)⟩
def examboardref37_Filter.T5 : Bool × List (List Nat × List Nat) := (true, [([], []), ([], []), ([], []), ([1, 2], [1, 2]), ([3], [3]), ([4], [4]), ([0, 5], [0, 5]), ([], []), ([], []), ([], []), ([6, 7, 8, 9, 6], [6, 7, 8, 9])])
def examboardref37_Filter.B5 : List Nat := [0, 0, 0, 6, 14, 30, 63, 0, 0, 0, 1023]
theorem examboardref37_Filter.tab5 : rtab .any (opsOf Try.f25 5) = examboardref37_Filter.T5 := by kernel_rfl
theorem examboardref37_Filter.bits5 : waitsOk examboardref37_Filter.T5.2 examboardref37_Filter.B5 = true := by kernel_rfl
set_option maxHeartbeats 8000000 in
set_option maxRecDepth 100000 in
theorem examboardref37_Filter.calls (k : Nat) (A0 : Option Addr) (c0 : Nat) (l0 : List (S80)) (A1 : Option Addr) (c1 : Nat) (l1 : List (S50)) (a2 : Int) (a3_0 : Bool) (A3_1 : Option Addr) (c3_1 : Nat) (l3_1 : List Int) (A3_2 : Option Addr) (c3_2 : Nat) (l3_2 : List Int) (a4 : Int) (r : List Int) (w : World) (hr0 : Kd.C k80 w A0 l0.length l0) (hc0 : l0.length ≤ c0) (hr1 : Kd.C k50 w A1 l1.length l1) (hc1 : l1.length ≤ c1) (hr3_1 : Kd.C (Kd.int .u32) w A3_1 l3_1.length l3_1) (hc3_1 : l3_1.length ≤ c3_1) (hr3_2 : Kd.C (Kd.int .u32) w A3_2 l3_2.length l3_2) (hc3_2 : l3_2.length ≤ c3_2) (h : examboardref37_Filter.f k l0 l1 a2 a3_0 l3_1 l3_2 a4 = some r) :
  Calls Try.prog 25 #[.slice A0 l0.length c0, .slice A1 l1.length c1, .int .i64 a2, .agg #[.bool a3_0, .slice A3_1 l3_1.length c3_1, .slice A3_2 l3_2.length c3_2], .int .i64 a4] w fun e w' => ∃ v0_ : Value, e = .returned (v0_) ∧ Kd.R (Kd.int .i64) 3 w' w.heap.size (fun _ => True) v0_ r ∧ Below w.heap.size w w' := by
 have hu29 := Try.underlying29
 have HR0 := mk0 hr0
 have HC0 := mk0 hc0
 clear hr0 hc0
 have HR1 := mk0 hr1
 have HC1 := mk0 hc1
 clear hr1 hc1
 have HR3_1 := mk0 hr3_1
 have HC3_1 := mk0 hc3_1
 clear hr3_1 hc3_1
 have HR3_2 := mk0 hr3_2
 have HC3_2 := mk0 hc3_2
 clear hr3_2 hc3_2
 have HB := mk0 (Below.refl w.heap.size w)
 have H : (examboardref37_Filter.l0 k l0 l1 a2 a4 ([] : List Int) 0 a3_0 l3_1 l3_2) = some r := h
 clear h
 have H' := mk0 H
 clear H
 go_enter Try.func25, Try.ntmps25
 go_wp2_with (first | ((with_reducible refine gate_dst (N := 8) rfl ?_); refine box_event rfl (N := 8) rfl (cs := #[.bool a3_0, .slice A3_1 l3_1.length c3_1, .slice A3_2 l3_2.length c3_2]) (t := 29) (by go_simp <;> rfl) ?_; intro gb1021 hg w6 hbox hb; have BK1021 := mk0 (hbox); have GE1021 := geB hg HB; replace HB := (by first | exact hbS HB hb | exact hbD HB hb); clear hb hbox hg))
 go_loopg [11, 12] k (fun kq v11 v12 w' => ∃ (x11_1 : List Int) (x12_1 : Int), v12 = .int .i64 x12_1 ∧ Aside0 (examboardref37_Filter.l0 kq l0 l1 a2 a4 x11_1 x12_1 a3_0 l3_1 l3_2 = some r) ∧ Aside0 (kq ≤ k) ∧ Aside0 (Kd.R (Kd.int .i64) 3 w' w.heap.size (fun _ => True) v11 x11_1) ∧ Aside0 (w'.heap[gb1021]? = some (.cells #[.bool a3_0, (.slice A3_1 l3_1.length c3_1), (.slice A3_2 l3_2.length c3_2)] 29 (0, 0))) ∧ Aside0 (Below w.heap.size w w'))
 case atStart => exact ⟨(([] : List Int)), (0), (by first | rfl | (simp; done) | (simp [*]; done)), H', ⟨Nat.le_refl _⟩, ⟨by first | exact Kd.R_nil _ _ _ _ _ | exact Kd.N_nil _ _ _ _ _ | exact Kd.V_nil _ _ _ _ _ | exact Kd.Q_nil _ _ _ _ _ | exact Kd.S_nil _ _ _ _ _⟩, ⟨by (with_reducible repeat refine blk_drewN ?_ _); exact BK1021.out⟩, ⟨by repeat (first | exact HB.out | apply bN | apply b1 | apply bA | refine bS ?_ GE1021.out)⟩⟩
 case round =>
  clear H'
  try clear c1
  try clear c2
  try clear p2
  try clear c3
  obtain ⟨x11_1, x12_1, rfl, HA, HK1, HO_11, BK1021, HB⟩ := hrel
  cases gk with
  | zero => exact absurd HA.out (by simp [examboardref37_Filter.l0])
  | succ k1 =>
   have H := HA.out
   clear HA
   simp only [examboardref37_Filter.l0] at H
   by_cases c7 : x12_1 < (l0.length : Int)
   ·rw [if_pos c7] at H
    have c7b0 : decide (x12_1 < (l0.length : Int)) = true := decide_eq_true c7
    clear c7
    by_cases c8 : 0 ≤ x12_1
    ·rw [if_pos c8] at H
     have c8b0 : decide (0 ≤ x12_1) = true := decide_eq_true c8
     clear c8
     obtain ⟨t1026, A9, H⟩ := bindA H
     obtain ⟨t1027, A10, H⟩ := bindA H
     by_cases c11 : t1027 = true
     ·subst c11
      have H1 : (if x11_1.length < 17592186044416 then (examboardref37_Filter.l0 k1 l0 l1 a2 a4 (x11_1 ++ [(rd_T80 l0 x12_1).f0]) (wrap64 (x12_1 + 1)) a3_0 l3_1 l3_2) else (none)) = some r := by rw [if_pos rfl] at H; exact H
      clear H
      have H := H1
      clear H1
      by_cases c12 : x11_1.length < 17592186044416
      ·rw [if_pos c12] at H
       have LMc12 := mk0 c12
       clear c12
       obtain ⟨y1029, hy1029⟩ : ∃ y_ : List Int, y_ = (x11_1 ++ [(rd_T80 l0 x12_1).f0]) := ⟨_, rfl⟩
       replace H : (examboardref37_Filter.l0 k1 l0 l1 a2 a4 y1029 (wrap64 (x12_1 + 1)) a3_0 l3_1 l3_2) = some r := by rw [hy1029]; exact H
       have Ny1029 := mk0 hy1029
       clear hy1029
       have H' := mk0 H
       clear H
       try go_wp2
       replace HO_11 := mk0 (Kd.R_drew HO_11.out)
       replace BK1021 := mk0 (blk_drew BK1021.out)
       replace HB := mk0 (b1 HB.out)
       have p1025 : 0 ≤ (x12_1 : Int) := of_decide_eq_true (by assumption)
       have q1025 : x12_1 < (l0.length : Int) := of_decide_eq_true (by assumption)
       obtain ⟨ad1025, A1025_8, c1025_8, e1025, hx1025_0, hx1025_1, hx1025_2, hx1025_3, hx1025_4, hx1025_5, hx1025_6, hx1025_7, hx1025_8, hl1025_8, hi1025_8⟩ := at_T80 HR0.out x12_1 p1025 q1025
       have hw1025_8 := hx1025_8
       have hw1025_7 := hx1025_7
       have hw1025_6 := hx1025_6
       have hw1025_5 := hx1025_5
       have hw1025_4 := hx1025_4
       have hw1025_3 := hx1025_3
       have hw1025_2 := hx1025_2
       have hw1025_1 := hx1025_1
       have hw1025_0 := hx1025_0
       cases e1025
       replace hx1025_0 := (HB.out.cell (World.block_lt_of_cell? w _ hx1025_0)).trans hx1025_0
       replace hx1025_1 := (HB.out.cell (World.block_lt_of_cell? w _ hx1025_1)).trans hx1025_1
       replace hx1025_2 := (HB.out.cell (World.block_lt_of_cell? w _ hx1025_2)).trans hx1025_2
       replace hx1025_3 := (HB.out.cell (World.block_lt_of_cell? w _ hx1025_3)).trans hx1025_3
       replace hx1025_4 := (HB.out.cell (World.block_lt_of_cell? w _ hx1025_4)).trans hx1025_4
       replace hx1025_5 := (HB.out.cell (World.block_lt_of_cell? w _ hx1025_5)).trans hx1025_5
       replace hx1025_6 := (HB.out.cell (World.block_lt_of_cell? w _ hx1025_6)).trans hx1025_6
       replace hx1025_7 := (HB.out.cell (World.block_lt_of_cell? w _ hx1025_7)).trans hx1025_7
       replace hx1025_8 := (HB.out.cell (World.block_lt_of_cell? w _ hx1025_8)).trans hx1025_8
       have HR1025_8 := mk0 hi1025_8
       have HC1025_8 := mk0 hl1025_8
       clear hi1025_8 hl1025_8
       replace p1025 := eq_true p1025
       replace q1025 := eq_true q1025
       refine start_ (n := 11) (S := fun w' => w'.cell? ⟨gb1021, 0, none⟩ = some (.bool a3_0) ∧ w'.cell? ⟨gb1021, 1, none⟩ = some (.slice A3_1 l3_1.length c3_1) ∧ w'.cell? ⟨gb1021, 2, none⟩ = some (.slice A3_2 l3_2.length c3_2) ∧ w'.cell? (ad1025.add ((x12_1).toNat * 9)) = some (.int .i64 ((rd_T80 l0 x12_1).f0)) ∧ w'.cell? ⟨(ad1025.add ((x12_1).toNat * 9)).block, (ad1025.add ((x12_1).toNat * 9)).off + 1, none⟩ = some (.string ((rd_T80 l0 x12_1).f1)) ∧ w'.cell? ⟨(ad1025.add ((x12_1).toNat * 9)).block, (ad1025.add ((x12_1).toNat * 9)).off + 2, none⟩ = some (.int .i64 ((rd_T80 l0 x12_1).f2)) ∧ w'.cell? ⟨(ad1025.add ((x12_1).toNat * 9)).block, (ad1025.add ((x12_1).toNat * 9)).off + 3, none⟩ = some (.int .i64 ((rd_T80 l0 x12_1).f3)) ∧ w'.cell? ⟨(ad1025.add ((x12_1).toNat * 9)).block, (ad1025.add ((x12_1).toNat * 9)).off + 4, none⟩ = some (.int .i64 ((rd_T80 l0 x12_1).f4)) ∧ w'.cell? ⟨(ad1025.add ((x12_1).toNat * 9)).block, (ad1025.add ((x12_1).toNat * 9)).off + 5, none⟩ = some (.int .i64 ((rd_T80 l0 x12_1).f5)) ∧ w'.cell? ⟨(ad1025.add ((x12_1).toNat * 9)).block, (ad1025.add ((x12_1).toNat * 9)).off + 6, none⟩ = some (.int .i64 ((rd_T80 l0 x12_1).f6)) ∧ w'.cell? ⟨(ad1025.add ((x12_1).toNat * 9)).block, (ad1025.add ((x12_1).toNat * 9)).off + 7, none⟩ = some (.int .i64 ((rd_T80 l0 x12_1).f7)) ∧ w'.cell? ⟨(ad1025.add ((x12_1).toNat * 9)).block, (ad1025.add ((x12_1).toNat * 9)).off + 8, none⟩ = some (.slice A1025_8 ((rd_T80 l0 x12_1).f8.f0).length c1025_8)) (ds := []) (bv 11 0) (by kernel_rfl) rfl rfl ⟨(blk_cell BK1021.out 0).trans rfl, (blk_cell BK1021.out 1).trans rfl, (blk_cell BK1021.out 2).trans rfl, ((HB.out.cell (World.block_lt_of_cell? w _ hw1025_0)).trans hw1025_0), ((HB.out.cell (World.block_lt_of_cell? w _ hw1025_1)).trans hw1025_1), ((HB.out.cell (World.block_lt_of_cell? w _ hw1025_2)).trans hw1025_2), ((HB.out.cell (World.block_lt_of_cell? w _ hw1025_3)).trans hw1025_3), ((HB.out.cell (World.block_lt_of_cell? w _ hw1025_4)).trans hw1025_4), ((HB.out.cell (World.block_lt_of_cell? w _ hw1025_5)).trans hw1025_5), ((HB.out.cell (World.block_lt_of_cell? w _ hw1025_6)).trans hw1025_6), ((HB.out.cell (World.block_lt_of_cell? w _ hw1025_7)).trans hw1025_7), ((HB.out.cell (World.block_lt_of_cell? w _ hw1025_8)).trans hw1025_8)⟩ (fun hHeld => ?_); refine with_tabW examboardref37_Filter.tab5 examboardref37_Filter.bits5 (fun HT_ HW_ => ?_)
       generalize wr.drew = w13 at HO_11 BK1021 HB HR1025_8 hx1025_0 hx1025_1 hx1025_2 hx1025_3 hx1025_4 hx1025_5 hx1025_6 hx1025_7 hx1025_8 hHeld ⊢
       refine puA (i := 0) (N := 19) (v := ?_) (a' := ?_) (bv 11 1) HT_ ?_ ?_ ?_; rotate_left; (intro w'; go_simp; with_reducible rfl); rotate_left; (simp only [Act.put, sA, sZ, sS, i64_w, i32_w]; rfl)
       refine puA (i := 1) (N := 20) (v := ?_) (a' := ?_) (bv 11 3) HT_ ?_ ?_ ?_; rotate_left; (intro w'; go_simp; with_reducible rfl); rotate_left; (simp only [Act.put, sA, sZ, sS, i64_w, i32_w]; rfl)
       refine puA (i := 2) (N := 21) (v := ?_) (a' := ?_) (bv 11 7) HT_ ?_ ?_ ?_; rotate_left; (intro w'; go_simp; with_reducible rfl); rotate_left; (simp only [Act.put, sA, sZ, sS, i64_w, i32_w]; rfl)
       refine puA (i := 3) (N := 22) (v := ?_) (a' := ?_) (bv 11 15) HT_ ?_ ?_ ?_; rotate_left; (intro w'; go_simp; with_reducible rfl); rotate_left; (simp only [Act.put, sA, sZ, sS, i64_w, i32_w]; rfl)
       refine puA (i := 4) (N := 23) (v := ?_) (a' := ?_) (bv 11 31) HT_ ?_ ?_ ?_; rotate_left; (intro w'; go_simp; with_reducible rfl); rotate_left; (simp only [Act.put, sA, sZ, sS, i64_w, i32_w]; rfl)
       refine puA (i := 7) (N := 26) (v := ?_) (a' := ?_) (bv 11 159) HT_ ?_ ?_ ?_; rotate_left; (intro w'; go_simp; with_reducible rfl); rotate_left; (simp only [Act.put, sA, sZ, sS, i64_w, i32_w]; rfl)
       refine puA (i := 9) (N := 28) (v := ?_) (a' := ?_) (bv 11 671) HT_ ?_ ?_ ?_; rotate_left; (intro w'; go_simp; with_reducible rfl); rotate_left; (simp only [Act.put, sA, sZ, sS, i64_w, i32_w]; rfl)
       refine take_ (i := 5) (N := some 24) (v := ?_) (a' := ?_) (bv 11 703) rfl rfl (take_ofW HT_.out HW_.out (by kernel_rfl)) (fun _ _ _ h => h) (Or.inl ⟨by rfl, ?_⟩) hHeld ?_ ?_; rotate_left; (rintro w' ⟨s0, s1, s2, s3, s4, s5, s6, s7, s8, s9, s10, s11⟩; go_simp; with_reducible rfl); rotate_left; (simp only [Act.put, sA, sZ, sS, i64_w, i32_w]; rfl)
       refine take_ (i := 8) (N := some 27) (v := ?_) (a' := ?_) (bv 11 959) rfl rfl (take_ofW HT_.out HW_.out (by kernel_rfl)) (fun _ _ _ h => h) (Or.inl ⟨by rfl, ?_⟩) hHeld ?_ ?_; rotate_left; (rintro w' ⟨s0, s1, s2, s3, s4, s5, s6, s7, s8, s9, s10, s11⟩; go_simp; with_reducible rfl); rotate_left; (simp only [Act.put, sA, sZ, sS, i64_w, i32_w]; rfl)
       refine one_ (i := 6) (N := some 25) (bv 11 1023) rfl rfl (one_of HT_.out (by kernel_rfl)) (by decide) (fun K hK => ?_)
       refine goes_ Try.func20 (by kernel_rfl) rfl #[.slice A1 l1.length c1, .int .i64 ((rd_T80 l0 x12_1).f0)] (by rfl) rfl rfl (by go_simp <;> rfl) ?_
       with_reducible refine (examboardref37_Count.calls k1 _ _ l1 ((rd_T80 l0 x12_1).f0) t1026 _ ?side1 ?side2 A9.out).mono ?_
       (case side1 => exact (Cb HR1.out HB.out))
       (case side2 => exact HC1.out)
       rintro e w' ⟨rfl, ⟨nd, rfl⟩⟩
       refine ⟨_, rfl, ?_⟩
       refine hK.out _ _ ⟨(blk_cell BK1021.out 0).trans rfl, (blk_cell BK1021.out 1).trans rfl, (blk_cell BK1021.out 2).trans rfl, ((HB.out.cell (World.block_lt_of_cell? w _ hw1025_0)).trans hw1025_0), ((HB.out.cell (World.block_lt_of_cell? w _ hw1025_1)).trans hw1025_1), ((HB.out.cell (World.block_lt_of_cell? w _ hw1025_2)).trans hw1025_2), ((HB.out.cell (World.block_lt_of_cell? w _ hw1025_3)).trans hw1025_3), ((HB.out.cell (World.block_lt_of_cell? w _ hw1025_4)).trans hw1025_4), ((HB.out.cell (World.block_lt_of_cell? w _ hw1025_5)).trans hw1025_5), ((HB.out.cell (World.block_lt_of_cell? w _ hw1025_6)).trans hw1025_6), ((HB.out.cell (World.block_lt_of_cell? w _ hw1025_7)).trans hw1025_7), ((HB.out.cell (World.block_lt_of_cell? w _ hw1025_8)).trans hw1025_8)⟩ (fun hHeld => ?_)
       clear hK K
       refine norm_ (a' := ?_) ?_ ?_
       rotate_left
       ·show Act.put _ (some 25) _ = _
        simp only [Act.put, sA, sZ, sS, i64_w, i32_w]
        rfl
       refine one_ (i := 10) (N := some 29) (bv 11 2047) rfl rfl (one_of HT_.out (by kernel_rfl)) (by decide) (fun K hK => ?_)
       refine goes_ Try.func14 (by kernel_rfl) rfl #[.int .i64 t1026, .int .i64 a2, .agg #[.bool a3_0, .slice A3_1 l3_1.length c3_1, .slice A3_2 l3_2.length c3_2], .int .i64 a4] (by rfl) rfl rfl (by go_simp <;> rfl) ?_
       with_reducible refine (examboardref37_Eligible.calls k1 t1026 a2 a3_0 _ _ l3_1 _ _ l3_2 a4 true _ ?side1 ?side2 ?side3 ?side4 A10.out).mono ?_
       (case side1 => repeat (first | exact (Cb HR3_1.out HB.out) | (with_reducible refine Kd.C_alloc ?_ _) | (with_reducible refine Kd.C_drewN ?_ _) | (with_reducible refine Kd.C_drew ?_)))
       (case side2 => exact HC3_1.out)
       (case side3 => repeat (first | exact (Cb HR3_2.out HB.out) | (with_reducible refine Kd.C_alloc ?_ _) | (with_reducible refine Kd.C_drewN ?_ _) | (with_reducible refine Kd.C_drew ?_)))
       (case side4 => exact HC3_2.out)
       rintro e w14 ⟨rfl, hb⟩
       refine ⟨_, rfl, ?_⟩
       replace HO_11 := (by first | exact rB HO_11 hb | exact rD HO_11 hb)
       replace BK1021 := (by first | exact bkB BK1021 hb | exact bkD BK1021 hb)
       replace HB := mk0 (below_step (by repeat (first | exact HB.out | apply bN | apply b1 | apply bA | refine bS ?_ GE1021.out)) hb)
       refine hK.out _ _ ⟨(blk_cell BK1021.out 0).trans rfl, (blk_cell BK1021.out 1).trans rfl, (blk_cell BK1021.out 2).trans rfl, ((HB.out.cell (World.block_lt_of_cell? w _ hw1025_0)).trans hw1025_0), ((HB.out.cell (World.block_lt_of_cell? w _ hw1025_1)).trans hw1025_1), ((HB.out.cell (World.block_lt_of_cell? w _ hw1025_2)).trans hw1025_2), ((HB.out.cell (World.block_lt_of_cell? w _ hw1025_3)).trans hw1025_3), ((HB.out.cell (World.block_lt_of_cell? w _ hw1025_4)).trans hw1025_4), ((HB.out.cell (World.block_lt_of_cell? w _ hw1025_5)).trans hw1025_5), ((HB.out.cell (World.block_lt_of_cell? w _ hw1025_6)).trans hw1025_6), ((HB.out.cell (World.block_lt_of_cell? w _ hw1025_7)).trans hw1025_7), ((HB.out.cell (World.block_lt_of_cell? w _ hw1025_8)).trans hw1025_8)⟩ (fun hHeld => ?_)
       clear hK K
       refine norm_ (a' := ?_) ?_ ?_
       rotate_left
       ·show Act.put _ (some 29) _ = _
        simp only [Act.put, sA, sZ, sS, i64_w, i32_w]
        rfl
       refine done_ (done_of HT_.out (by kernel_rfl)) ?_
       have p1028 : 0 ≤ (x12_1 : Int) := of_decide_eq_true (by assumption)
       have q1028 : x12_1 < (l0.length : Int) := of_decide_eq_true (by assumption)
       obtain ⟨ad1028, A1028_8, c1028_8, e1028, hx1028_0, hx1028_1, hx1028_2, hx1028_3, hx1028_4, hx1028_5, hx1028_6, hx1028_7, hx1028_8, hl1028_8, hi1028_8⟩ := at_T80 HR0.out x12_1 p1028 q1028
       obtain rfl : ad1025 = ad1028 := (by injection e1028)
       replace hx1028_0 := (HB.out.cell (World.block_lt_of_cell? w _ hx1028_0)).trans hx1028_0
       replace hx1028_1 := (HB.out.cell (World.block_lt_of_cell? w _ hx1028_1)).trans hx1028_1
       replace hx1028_2 := (HB.out.cell (World.block_lt_of_cell? w _ hx1028_2)).trans hx1028_2
       replace hx1028_3 := (HB.out.cell (World.block_lt_of_cell? w _ hx1028_3)).trans hx1028_3
       replace hx1028_4 := (HB.out.cell (World.block_lt_of_cell? w _ hx1028_4)).trans hx1028_4
       replace hx1028_5 := (HB.out.cell (World.block_lt_of_cell? w _ hx1028_5)).trans hx1028_5
       replace hx1028_6 := (HB.out.cell (World.block_lt_of_cell? w _ hx1028_6)).trans hx1028_6
       replace hx1028_7 := (HB.out.cell (World.block_lt_of_cell? w _ hx1028_7)).trans hx1028_7
       replace hx1028_8 := (HB.out.cell (World.block_lt_of_cell? w _ hx1028_8)).trans hx1028_8
       have HR1028_8 := mk0 hi1028_8
       have HC1028_8 := mk0 hl1028_8
       clear hi1028_8 hl1028_8
       replace p1028 := eq_true p1028
       replace q1028 := eq_true q1028
       try go_wp2_with (first | ((with_reducible refine gate_builtin (b := .append) (xs := #[.tmp 30, .tmp 36]) rfl ?_); at_builtin; refine Kd.R_append (Kd.int .i64) (w0 := w) w.heap.size rfl (.tmp 30) (.tmp 36) 46 3 (.int .i64 0) 8 rfl Try.underlying46 info3 rfl (by decide) (by omega) u11 x11_1 ((rd_T80 l0 x12_1).f0) [.int .i64 ((rd_T80 l0 x12_1).f0)] (fun _ => True) (fun _ => False) rfl rfl ?aP (fun _ hk => hk.elim) ?aF ?aO ?aB ?aS ?aL ?_; (case aP => exact rfl); (case aB => exact HB.out); (case aF => exact tv); (case aO => exact (by (with_reducible repeat apply Kd.R_drewN); exact HO_11.out)); (case aS => exact (bZ HB.out)); (case aL => have := LMc12.out; omega); intro v1030 w15 ho hb hg hat; rw [← Ny1029.out] at ho; replace BK1021 := mk0 (blk_grown (g := gb1021) (o := .cells #[.bool a3_0, .slice A3_1 l3_1.length c3_1, .slice A3_2 l3_2.length c3_2] 29 (0, 0)) (by (with_reducible repeat refine blk_drewN ?_ _); exact BK1021.out) hg (Kd.R_ne HO_11.out BK1021.out (by decide))); replace HB := mk0 (hb); have HO1031 := mk0 (ho); clear HO_11; clear ho hb hg hat))
       go_roundg k1
       case measure => have := HK1.out; omega
       case rel => exact ⟨(y1029), (wrap64 (x12_1 + 1)), (by first | rfl | (simp; done) | (simp [*]; done)), H', ⟨by have := HK1.out; omega⟩, ⟨by (with_reducible repeat apply Kd.R_drewN); exact HO1031.out⟩, ⟨by (with_reducible repeat refine blk_drewN ?_ _); exact BK1021.out⟩, ⟨by repeat (first | exact HB.out | apply bN | apply b1 | apply bA | refine bS ?_ GE1021.out)⟩⟩
      ·rw [if_neg c12] at H
       exact absurd H (by simp)
     ·replace c11 := Bool.eq_false_iff.mpr c11
      subst c11
      have H1 : (examboardref37_Filter.l0 k1 l0 l1 a2 a4 x11_1 (wrap64 (x12_1 + 1)) a3_0 l3_1 l3_2) = some r := by rw [if_neg (show ¬ (false = true) by decide)] at H; exact H
      clear H
      have H := H1
      clear H1
      have H' := mk0 H
      clear H
      try go_wp2
      replace HO_11 := mk0 (Kd.R_drew HO_11.out)
      replace BK1021 := mk0 (blk_drew BK1021.out)
      replace HB := mk0 (b1 HB.out)
      have p1025 : 0 ≤ (x12_1 : Int) := of_decide_eq_true (by assumption)
      have q1025 : x12_1 < (l0.length : Int) := of_decide_eq_true (by assumption)
      obtain ⟨ad1025, A1025_8, c1025_8, e1025, hx1025_0, hx1025_1, hx1025_2, hx1025_3, hx1025_4, hx1025_5, hx1025_6, hx1025_7, hx1025_8, hl1025_8, hi1025_8⟩ := at_T80 HR0.out x12_1 p1025 q1025
      have hw1025_8 := hx1025_8
      have hw1025_7 := hx1025_7
      have hw1025_6 := hx1025_6
      have hw1025_5 := hx1025_5
      have hw1025_4 := hx1025_4
      have hw1025_3 := hx1025_3
      have hw1025_2 := hx1025_2
      have hw1025_1 := hx1025_1
      have hw1025_0 := hx1025_0
      cases e1025
      replace hx1025_0 := (HB.out.cell (World.block_lt_of_cell? w _ hx1025_0)).trans hx1025_0
      replace hx1025_1 := (HB.out.cell (World.block_lt_of_cell? w _ hx1025_1)).trans hx1025_1
      replace hx1025_2 := (HB.out.cell (World.block_lt_of_cell? w _ hx1025_2)).trans hx1025_2
      replace hx1025_3 := (HB.out.cell (World.block_lt_of_cell? w _ hx1025_3)).trans hx1025_3
      replace hx1025_4 := (HB.out.cell (World.block_lt_of_cell? w _ hx1025_4)).trans hx1025_4
      replace hx1025_5 := (HB.out.cell (World.block_lt_of_cell? w _ hx1025_5)).trans hx1025_5
      replace hx1025_6 := (HB.out.cell (World.block_lt_of_cell? w _ hx1025_6)).trans hx1025_6
      replace hx1025_7 := (HB.out.cell (World.block_lt_of_cell? w _ hx1025_7)).trans hx1025_7
      replace hx1025_8 := (HB.out.cell (World.block_lt_of_cell? w _ hx1025_8)).trans hx1025_8
      have HR1025_8 := mk0 hi1025_8
      have HC1025_8 := mk0 hl1025_8
      clear hi1025_8 hl1025_8
      replace p1025 := eq_true p1025
      replace q1025 := eq_true q1025
      refine start_ (n := 11) (S := fun w' => w'.cell? ⟨gb1021, 0, none⟩ = some (.bool a3_0) ∧ w'.cell? ⟨gb1021, 1, none⟩ = some (.slice A3_1 l3_1.length c3_1) ∧ w'.cell? ⟨gb1021, 2, none⟩ = some (.slice A3_2 l3_2.length c3_2) ∧ w'.cell? (ad1025.add ((x12_1).toNat * 9)) = some (.int .i64 ((rd_T80 l0 x12_1).f0)) ∧ w'.cell? ⟨(ad1025.add ((x12_1).toNat * 9)).block, (ad1025.add ((x12_1).toNat * 9)).off + 1, none⟩ = some (.string ((rd_T80 l0 x12_1).f1)) ∧ w'.cell? ⟨(ad1025.add ((x12_1).toNat * 9)).block, (ad1025.add ((x12_1).toNat * 9)).off + 2, none⟩ = some (.int .i64 ((rd_T80 l0 x12_1).f2)) ∧ w'.cell? ⟨(ad1025.add ((x12_1).toNat * 9)).block, (ad1025.add ((x12_1).toNat * 9)).off + 3, none⟩ = some (.int .i64 ((rd_T80 l0 x12_1).f3)) ∧ w'.cell? ⟨(ad1025.add ((x12_1).toNat * 9)).block, (ad1025.add ((x12_1).toNat * 9)).off + 4, none⟩ = some (.int .i64 ((rd_T80 l0 x12_1).f4)) ∧ w'.cell? ⟨(ad1025.add ((x12_1).toNat * 9)).block, (ad1025.add ((x12_1).toNat * 9)).off + 5, none⟩ = some (.int .i64 ((rd_T80 l0 x12_1).f5)) ∧ w'.cell? ⟨(ad1025.add ((x12_1).toNat * 9)).block, (ad1025.add ((x12_1).toNat * 9)).off + 6, none⟩ = some (.int .i64 ((rd_T80 l0 x12_1).f6)) ∧ w'.cell? ⟨(ad1025.add ((x12_1).toNat * 9)).block, (ad1025.add ((x12_1).toNat * 9)).off + 7, none⟩ = some (.int .i64 ((rd_T80 l0 x12_1).f7)) ∧ w'.cell? ⟨(ad1025.add ((x12_1).toNat * 9)).block, (ad1025.add ((x12_1).toNat * 9)).off + 8, none⟩ = some (.slice A1025_8 ((rd_T80 l0 x12_1).f8.f0).length c1025_8)) (ds := []) (bv 11 0) (by kernel_rfl) rfl rfl ⟨(blk_cell BK1021.out 0).trans rfl, (blk_cell BK1021.out 1).trans rfl, (blk_cell BK1021.out 2).trans rfl, ((HB.out.cell (World.block_lt_of_cell? w _ hw1025_0)).trans hw1025_0), ((HB.out.cell (World.block_lt_of_cell? w _ hw1025_1)).trans hw1025_1), ((HB.out.cell (World.block_lt_of_cell? w _ hw1025_2)).trans hw1025_2), ((HB.out.cell (World.block_lt_of_cell? w _ hw1025_3)).trans hw1025_3), ((HB.out.cell (World.block_lt_of_cell? w _ hw1025_4)).trans hw1025_4), ((HB.out.cell (World.block_lt_of_cell? w _ hw1025_5)).trans hw1025_5), ((HB.out.cell (World.block_lt_of_cell? w _ hw1025_6)).trans hw1025_6), ((HB.out.cell (World.block_lt_of_cell? w _ hw1025_7)).trans hw1025_7), ((HB.out.cell (World.block_lt_of_cell? w _ hw1025_8)).trans hw1025_8)⟩ (fun hHeld => ?_); refine with_tabW examboardref37_Filter.tab5 examboardref37_Filter.bits5 (fun HT_ HW_ => ?_)
      generalize wr.drew = w16 at HO_11 BK1021 HB HR1025_8 hx1025_0 hx1025_1 hx1025_2 hx1025_3 hx1025_4 hx1025_5 hx1025_6 hx1025_7 hx1025_8 hHeld ⊢
      refine puA (i := 0) (N := 19) (v := ?_) (a' := ?_) (bv 11 1) HT_ ?_ ?_ ?_; rotate_left; (intro w'; go_simp; with_reducible rfl); rotate_left; (simp only [Act.put, sA, sZ, sS, i64_w, i32_w]; rfl)
      refine puA (i := 1) (N := 20) (v := ?_) (a' := ?_) (bv 11 3) HT_ ?_ ?_ ?_; rotate_left; (intro w'; go_simp; with_reducible rfl); rotate_left; (simp only [Act.put, sA, sZ, sS, i64_w, i32_w]; rfl)
      refine puA (i := 2) (N := 21) (v := ?_) (a' := ?_) (bv 11 7) HT_ ?_ ?_ ?_; rotate_left; (intro w'; go_simp; with_reducible rfl); rotate_left; (simp only [Act.put, sA, sZ, sS, i64_w, i32_w]; rfl)
      refine puA (i := 3) (N := 22) (v := ?_) (a' := ?_) (bv 11 15) HT_ ?_ ?_ ?_; rotate_left; (intro w'; go_simp; with_reducible rfl); rotate_left; (simp only [Act.put, sA, sZ, sS, i64_w, i32_w]; rfl)
      refine puA (i := 4) (N := 23) (v := ?_) (a' := ?_) (bv 11 31) HT_ ?_ ?_ ?_; rotate_left; (intro w'; go_simp; with_reducible rfl); rotate_left; (simp only [Act.put, sA, sZ, sS, i64_w, i32_w]; rfl)
      refine puA (i := 7) (N := 26) (v := ?_) (a' := ?_) (bv 11 159) HT_ ?_ ?_ ?_; rotate_left; (intro w'; go_simp; with_reducible rfl); rotate_left; (simp only [Act.put, sA, sZ, sS, i64_w, i32_w]; rfl)
      refine puA (i := 9) (N := 28) (v := ?_) (a' := ?_) (bv 11 671) HT_ ?_ ?_ ?_; rotate_left; (intro w'; go_simp; with_reducible rfl); rotate_left; (simp only [Act.put, sA, sZ, sS, i64_w, i32_w]; rfl)
      refine take_ (i := 5) (N := some 24) (v := ?_) (a' := ?_) (bv 11 703) rfl rfl (take_ofW HT_.out HW_.out (by kernel_rfl)) (fun _ _ _ h => h) (Or.inl ⟨by rfl, ?_⟩) hHeld ?_ ?_; rotate_left; (rintro w' ⟨s0, s1, s2, s3, s4, s5, s6, s7, s8, s9, s10, s11⟩; go_simp; with_reducible rfl); rotate_left; (simp only [Act.put, sA, sZ, sS, i64_w, i32_w]; rfl)
      refine take_ (i := 8) (N := some 27) (v := ?_) (a' := ?_) (bv 11 959) rfl rfl (take_ofW HT_.out HW_.out (by kernel_rfl)) (fun _ _ _ h => h) (Or.inl ⟨by rfl, ?_⟩) hHeld ?_ ?_; rotate_left; (rintro w' ⟨s0, s1, s2, s3, s4, s5, s6, s7, s8, s9, s10, s11⟩; go_simp; with_reducible rfl); rotate_left; (simp only [Act.put, sA, sZ, sS, i64_w, i32_w]; rfl)
      refine one_ (i := 6) (N := some 25) (bv 11 1023) rfl rfl (one_of HT_.out (by kernel_rfl)) (by decide) (fun K hK => ?_)
      refine goes_ Try.func20 (by kernel_rfl) rfl #[.slice A1 l1.length c1, .int .i64 ((rd_T80 l0 x12_1).f0)] (by rfl) rfl rfl (by go_simp <;> rfl) ?_
      with_reducible refine (examboardref37_Count.calls k1 _ _ l1 ((rd_T80 l0 x12_1).f0) t1026 _ ?side1 ?side2 A9.out).mono ?_
      (case side1 => exact (Cb HR1.out HB.out))
      (case side2 => exact HC1.out)
      rintro e w' ⟨rfl, ⟨nd, rfl⟩⟩
      refine ⟨_, rfl, ?_⟩
      refine hK.out _ _ ⟨(blk_cell BK1021.out 0).trans rfl, (blk_cell BK1021.out 1).trans rfl, (blk_cell BK1021.out 2).trans rfl, ((HB.out.cell (World.block_lt_of_cell? w _ hw1025_0)).trans hw1025_0), ((HB.out.cell (World.block_lt_of_cell? w _ hw1025_1)).trans hw1025_1), ((HB.out.cell (World.block_lt_of_cell? w _ hw1025_2)).trans hw1025_2), ((HB.out.cell (World.block_lt_of_cell? w _ hw1025_3)).trans hw1025_3), ((HB.out.cell (World.block_lt_of_cell? w _ hw1025_4)).trans hw1025_4), ((HB.out.cell (World.block_lt_of_cell? w _ hw1025_5)).trans hw1025_5), ((HB.out.cell (World.block_lt_of_cell? w _ hw1025_6)).trans hw1025_6), ((HB.out.cell (World.block_lt_of_cell? w _ hw1025_7)).trans hw1025_7), ((HB.out.cell (World.block_lt_of_cell? w _ hw1025_8)).trans hw1025_8)⟩ (fun hHeld => ?_)
      clear hK K
      refine norm_ (a' := ?_) ?_ ?_
      rotate_left
      ·show Act.put _ (some 25) _ = _
       simp only [Act.put, sA, sZ, sS, i64_w, i32_w]
       rfl
      refine one_ (i := 10) (N := some 29) (bv 11 2047) rfl rfl (one_of HT_.out (by kernel_rfl)) (by decide) (fun K hK => ?_)
      refine goes_ Try.func14 (by kernel_rfl) rfl #[.int .i64 t1026, .int .i64 a2, .agg #[.bool a3_0, .slice A3_1 l3_1.length c3_1, .slice A3_2 l3_2.length c3_2], .int .i64 a4] (by rfl) rfl rfl (by go_simp <;> rfl) ?_
      with_reducible refine (examboardref37_Eligible.calls k1 t1026 a2 a3_0 _ _ l3_1 _ _ l3_2 a4 false _ ?side1 ?side2 ?side3 ?side4 A10.out).mono ?_
      (case side1 => repeat (first | exact (Cb HR3_1.out HB.out) | (with_reducible refine Kd.C_alloc ?_ _) | (with_reducible refine Kd.C_drewN ?_ _) | (with_reducible refine Kd.C_drew ?_)))
      (case side2 => exact HC3_1.out)
      (case side3 => repeat (first | exact (Cb HR3_2.out HB.out) | (with_reducible refine Kd.C_alloc ?_ _) | (with_reducible refine Kd.C_drewN ?_ _) | (with_reducible refine Kd.C_drew ?_)))
      (case side4 => exact HC3_2.out)
      rintro e w17 ⟨rfl, hb⟩
      refine ⟨_, rfl, ?_⟩
      replace HO_11 := (by first | exact rB HO_11 hb | exact rD HO_11 hb)
      replace BK1021 := (by first | exact bkB BK1021 hb | exact bkD BK1021 hb)
      replace HB := mk0 (below_step (by repeat (first | exact HB.out | apply bN | apply b1 | apply bA | refine bS ?_ GE1021.out)) hb)
      refine hK.out _ _ ⟨(blk_cell BK1021.out 0).trans rfl, (blk_cell BK1021.out 1).trans rfl, (blk_cell BK1021.out 2).trans rfl, ((HB.out.cell (World.block_lt_of_cell? w _ hw1025_0)).trans hw1025_0), ((HB.out.cell (World.block_lt_of_cell? w _ hw1025_1)).trans hw1025_1), ((HB.out.cell (World.block_lt_of_cell? w _ hw1025_2)).trans hw1025_2), ((HB.out.cell (World.block_lt_of_cell? w _ hw1025_3)).trans hw1025_3), ((HB.out.cell (World.block_lt_of_cell? w _ hw1025_4)).trans hw1025_4), ((HB.out.cell (World.block_lt_of_cell? w _ hw1025_5)).trans hw1025_5), ((HB.out.cell (World.block_lt_of_cell? w _ hw1025_6)).trans hw1025_6), ((HB.out.cell (World.block_lt_of_cell? w _ hw1025_7)).trans hw1025_7), ((HB.out.cell (World.block_lt_of_cell? w _ hw1025_8)).trans hw1025_8)⟩ (fun hHeld => ?_)
      clear hK K
      refine norm_ (a' := ?_) ?_ ?_
      rotate_left
      ·show Act.put _ (some 29) _ = _
       simp only [Act.put, sA, sZ, sS, i64_w, i32_w]
       rfl
      refine done_ (done_of HT_.out (by kernel_rfl)) ?_
      try go_wp2
      go_roundg k1
      case measure => have := HK1.out; omega
      case rel => exact ⟨(x11_1), (wrap64 (x12_1 + 1)), (by first | rfl | (simp; done) | (simp [*]; done)), H', ⟨by have := HK1.out; omega⟩, ⟨by (with_reducible repeat apply Kd.R_drewN); exact HO_11.out⟩, ⟨by (with_reducible repeat refine blk_drewN ?_ _); exact BK1021.out⟩, ⟨by repeat (first | exact HB.out | apply bN | apply b1 | apply bA | refine bS ?_ GE1021.out)⟩⟩
    ·rw [if_neg c8] at H
     exact absurd H (by simp)
   ·rw [if_neg c7] at H
    have c7b0 : decide (x12_1 < (l0.length : Int)) = false := decide_eq_false c7
    clear c7
    obtain ⟨t1022, A18, H⟩ := bindA H
    obtain rfl := Option.some.inj H
    obtain ⟨Ao19, co19, eo19⟩ := Kd.R_slice HO_11.out
    subst eo19
    go_wp2_with (first | ((with_reducible refine gate_callee (f := 50) rfl ?_); refine goA 39 Try.func50 #[.slice Ao19 x11_1.length co19] ?_; (with_reducible refine (examboardref37_rising.calls k1 _ _ x11_1 t1022 _ (by exact (Kd.R_reads' HO_11.out).2.2) (by exact (Kd.R_reads' HO_11.out).2.1) A18.out).mono ?_); rintro e w20 ⟨v1023, rfl, ho0, hb⟩; refine ⟨_, rfl, ?_⟩; have HO1024 := mk0 (Rl (Rn ho0 (Rq (by (with_reducible repeat apply Kd.R_drewN); exact HO_11.out))) (bZ HB.out)); replace HO_11 := mk0 (Re (by (with_reducible repeat apply Kd.R_drewN); exact HO_11.out) (Rs ho0) hb); replace BK1021 := (by first | exact bkB BK1021 hb | exact bkD BK1021 hb); replace HB := (by first | exact hbS HB hb | exact hbD HB hb)))
    go_ret
    exact ⟨_, by first | rfl | (simp [errW_none, errW_some] <;> rfl) | (simp [*, errW_none, errW_some] <;> rfl), by (with_reducible repeat apply Kd.R_drewN); exact Rm HO1024.out tv, by repeat (first | exact HB.out | apply bN | apply b1 | apply bA | refine bS ?_ GE1021.out)⟩
end Go.Proofs.Ythamhjmhgcpdgaa.Q
end
section
namespace Go.Proofs.Ythamhjmhgcpdgaa.Th
open Go.RowKit Go.Proofs.YthamhjmhgcpdgaaW.PrintWords Go.Proofs.YthamhjmhgcpdgaaW.PrintLast Go.Proofs.YthamhjmhgcpdgaaW.PrintMore
set_option linter.unusedVariables false
set_option linter.unusedSimpArgs false
def val : List Int → Nat
 | [] => 0
 | x :: xs => x.toNat + 4294967296 * val xs
def okl (l : List Int) : Prop := ∀ x ∈ l, 0 ≤ x ∧ x < 4294967296
def limbs (n : Nat) : List Int := if h : n = 0 then [] else ((n % 4294967296 : Nat) : Int) :: limbs (n / 4294967296)
termination_by n
decreasing_by omega
def tl (l : List Int) : Nat → Nat
 | 0 => 0
 | n + 1 => if l.getD n 0 = 0 then tl l n else n + 1
theorem tl_le (l : List Int) (n : Nat) : tl l n ≤ n := by
 induction n with
 | zero => simp [tl]
 | succ n ih => unfold tl; split <;> omega
theorem okl_nil : okl [] := fun _ h => by cases h
theorem okl_cons {x : Int} {l : List Int} : okl (x :: l) ↔ (0 ≤ x ∧ x < 4294967296) ∧ okl l := by simp [okl]
theorem okl_append {a b : List Int} : okl (a ++ b) ↔ okl a ∧ okl b := by
 constructor
 ·intro h; exact ⟨fun x hx => h x (List.mem_append_left _ hx), fun x hx => h x (List.mem_append_right _ hx)⟩
 ·rintro ⟨h1, h2⟩ x hx
  rcases List.mem_append.1 hx with h | h
  ·exact h1 x h
  ·exact h2 x h
theorem okl_take {l : List Int} (h : okl l) (n : Nat) : okl (l.take n) := fun x hx => h x (List.mem_of_mem_take hx)
theorem okl_drop {l : List Int} (h : okl l) (n : Nat) : okl (l.drop n) := fun x hx => h x (List.mem_of_mem_drop hx)
theorem okl_set {l : List Int} (h : okl l) (n : Nat) {x : Int} (h0 : 0 ≤ x) (h1 : x < 4294967296) : okl (l.set n x) := fun y hy => by
 rcases List.mem_or_eq_of_mem_set hy with h2 | h2
 ·exact h y h2
 ·subst h2; exact ⟨h0, h1⟩
theorem okl_replicate (n : Nat) : okl (List.replicate n 0) := fun x hx => by
 rw [List.mem_replicate] at hx; rw [hx.2]; decide
theorem okl_rd {l : List Int} (h : okl l) (i : Int) : 0 ≤ rd l i ∧ rd l i < 4294967296 := by
 unfold rd
 by_cases hi : i.toNat < l.length
 ·rw [List.getD_eq_getElem?_getD, List.getElem?_eq_getElem hi]; exact h _ (List.getElem_mem hi)
 ·rw [List.getD_eq_getElem?_getD, List.getElem?_eq_none (by omega)]; decide
theorem val_append (a b : List Int) : val (a ++ b) = val a + 4294967296 ^ a.length * val b := by
 induction a with
 | nil => simp [val]
 | cons x xs ih => simp only [List.cons_append, val, ih, List.length_cons]; grind
theorem val_lt {l : List Int} (h : okl l) : val l < 4294967296 ^ l.length := by
 induction l with
 | nil => simp [val]
 | cons x xs ih =>
  have h1 := okl_cons.1 h
  have h2 := ih h1.2
  simp only [val, List.length_cons, Nat.pow_succ]
  have : x.toNat < 4294967296 := by omega
  omega
theorem val_replicate (n : Nat) : val (List.replicate n 0) = 0 := by
 induction n with
 | zero => rfl
 | succ n ih => rw [List.replicate_succ, val, ih]; rfl
theorem val_take_drop (l : List Int) (n : Nat) (h : n ≤ l.length) : val l = val (l.take n) + 4294967296 ^ n * val (l.drop n) := by
 have := val_append (l.take n) (l.drop n)
 rw [List.take_append_drop, List.length_take, Nat.min_eq_left h] at this
 exact this
theorem val_drop_one (l : List Int) (n : Nat) (h : n < l.length) : val (l.drop n) = (l.getD n 0).toNat + 4294967296 * val (l.drop (n + 1)) := by
 rw [List.drop_eq_getElem_cons h, val, List.getD_eq_getElem?_getD, List.getElem?_eq_getElem h]; rfl
theorem val_take_succ (l : List Int) (n : Nat) (h : n < l.length) : val (l.take (n + 1)) = val (l.take n) + 4294967296 ^ n * (l.getD n 0).toNat := by
 have h1 : l.take (n + 1) = l.take n ++ [l.getD n 0] := by
  rw [List.take_succ_eq_append_getElem h, List.getD_eq_getElem?_getD, List.getElem?_eq_getElem h]; rfl
 rw [h1, val_append, List.length_take, Nat.min_eq_left (by omega)]
 simp [val]
theorem val_tl (l : List Int) (n : Nat) (h : n ≤ l.length) : val (l.take (tl l n)) = val (l.take n) := by
 induction n with
 | zero => rfl
 | succ n ih =>
  unfold tl
  by_cases h0 : l.getD n 0 = 0
  ·rw [if_pos h0, ih (by omega), val_take_succ l n (by omega), h0]; simp
  ·rw [if_neg h0]
theorem limbs_zero : limbs 0 = [] := by rw [limbs]; rfl
theorem limbs_pos {n : Nat} (h : n ≠ 0) : limbs n = ((n % 4294967296 : Nat) : Int) :: limbs (n / 4294967296) := by rw [limbs, dif_neg h]
theorem okl_limbs (n : Nat) : okl (limbs n) := by
 induction n using Nat.strongRecOn with
 | _ n ih =>
  by_cases h : n = 0
  ·subst h; rw [limbs_zero]; exact okl_nil
  ·rw [limbs_pos h, okl_cons]; exact ⟨by omega, ih _ (by omega)⟩
theorem val_limbs (n : Nat) : val (limbs n) = n := by
 induction n using Nat.strongRecOn with
 | _ n ih =>
  by_cases h : n = 0
  ·subst h; rw [limbs_zero]; rfl
  ·rw [limbs_pos h, val, ih _ (by omega)]; omega
theorem limbs_val (l : List Int) (h : okl l) (hl : l ≠ [] → l.getD (l.length - 1) 0 ≠ 0) : limbs (val l) = l := by
 induction l with
 | nil => exact limbs_zero
 | cons x xs ih =>
  have h1 := okl_cons.1 h
  have hne : val (x :: xs) ≠ 0 := by
   intro h0
   simp only [val] at h0
   cases xs with
   | nil => exact hl (by simp) (by simp; omega)
   | cons y ys =>
    have h2 : limbs (val (y :: ys)) = y :: ys := ih h1.2 (fun _ => by have := hl (by simp); simpa using this)
    have h3 : val (y :: ys) = 0 := by omega
    rw [h3, limbs_zero] at h2
    cases h2
  rw [limbs_pos hne]
  simp only [val]
  have e1 : (x.toNat + 4294967296 * val xs) % 4294967296 = x.toNat := by omega
  have e2 : (x.toNat + 4294967296 * val xs) / 4294967296 = val xs := by omega
  rw [e1, e2]
  have e3 : limbs (val xs) = xs := by
   cases xs with
   | nil => exact limbs_zero
   | cons y ys => exact ih h1.2 (fun _ => by have := hl (by simp); simpa using this)
  rw [e3]
  congr 1
  omega
theorem tl_top (l : List Int) (n : Nat) (h : tl l n ≠ 0) : l.getD (tl l n - 1) 0 ≠ 0 := by
 induction n with
 | zero => exact absurd rfl h
 | succ n ih =>
  unfold tl at h ⊢
  by_cases h0 : l.getD n 0 = 0
  ·rw [if_pos h0] at h ⊢; exact ih h
  ·rw [if_neg h0]; exact h0
theorem limbs_tl {l : List Int} (h : okl l) : l.take (tl l l.length) = limbs (val l) := by
 have h1 := val_tl l l.length (Nat.le_refl _)
 rw [List.take_length] at h1
 rw [← h1]
 refine (limbs_val _ (okl_take h _) (fun hne => ?_)).symm
 have h2 := tl_le l l.length
 have h3 : (l.take (tl l l.length)).length = tl l l.length := by rw [List.length_take]; omega
 have h4 : tl l l.length ≠ 0 := fun h0 => hne (by rw [h0]; rfl)
 rw [h3, List.getD_eq_getElem?_getD, List.getElem?_take_of_lt (by omega), ← List.getD_eq_getElem?_getD]
 exact tl_top l _ h4
theorem limbs_len_le {n k : Nat} (h : n < 4294967296 ^ k) : (limbs n).length ≤ k := by
 induction k generalizing n with
 | zero => simp at h; subst h; rw [limbs_zero]; simp
 | succ k ih =>
  by_cases h0 : n = 0
  ·subst h0; rw [limbs_zero]; simp
  ·rw [limbs_pos h0, List.length_cons]
   have := ih (n := n / 4294967296) (by rw [Nat.pow_succ] at h; rw [Nat.div_lt_iff_lt_mul (by decide)]; exact h)
   omega
theorem limbs_ne_nil {n : Nat} (h : n ≠ 0) : limbs n ≠ [] := by rw [limbs_pos h]; simp
theorem limbs_eq_nil {n : Nat} : limbs n = [] ↔ n = 0 := ⟨fun h => by
 by_cases h0 : n = 0
 ·exact h0
 ·exact absurd h (limbs_ne_nil h0), fun h => by rw [h, limbs_zero]⟩
theorem limbs_top {n : Nat} (h : n ≠ 0) : (limbs n).getD ((limbs n).length - 1) 0 ≠ 0 := by
 have h1 := limbs_tl (okl_limbs n)
 rw [val_limbs] at h1
 have h2 := tl_le (limbs n) (limbs n).length
 have h3 : tl (limbs n) (limbs n).length = (limbs n).length := by
  have := congrArg List.length h1
  rw [List.length_take] at this
  omega
 have h4 := tl_top (limbs n) (limbs n).length (by rw [h3]; intro h0; exact limbs_ne_nil h (List.eq_nil_of_length_eq_zero h0))
 rwa [h3] at h4
theorem val_set (l : List Int) (n : Nat) (h : n < l.length) (x : Int) : val (l.set n x) + 4294967296 ^ n * (l.getD n 0).toNat = val l + 4294967296 ^ n * x.toNat := by
 induction l generalizing n with
 | nil => simp at h
 | cons y ys ih =>
  cases n with
  | zero => simp [val]; omega
  | succ n =>
   have := ih n (by simpa using h)
   simp only [List.set_cons_succ, val, List.getD_cons_succ]
   grind
theorem getD_okl {l : List Int} (h : okl l) (n : Nat) : 0 ≤ l.getD n 0 ∧ l.getD n 0 < 4294967296 := by
 have := okl_rd h (n : Int)
 unfold rd at this
 rwa [Int.toNat_natCast] at this
theorem mul_step {P : List Int} (hP : okl P) {n : Nat} (hn : n < P.length) {p q c t : Int} (hp0 : 0 ≤ p) (hp1 : p < 4294967296) (hq0 : 0 ≤ q) (hq1 : q < 4294967296) (hc0 : 0 ≤ c) (hc1 : c < 4294967296)
  (ht : t = c + p * q + P.getD n 0) :
  0 ≤ p * q ∧ p * q + P.getD n 0 + c < 18446744073709551616 ∧ 0 ≤ t ∧ t < 18446744073709551616 ∧ okl (P.set n (t % 4294967296)) ∧ 0 ≤ t / 4294967296 ∧ t / 4294967296 < 4294967296 ∧
   val (P.set n (t % 4294967296)) + 4294967296 ^ (n + 1) * (t / 4294967296).toNat = val P + 4294967296 ^ n * (c.toNat + p.toNat * q.toNat) := by
 obtain ⟨p, rfl⟩ := Int.eq_ofNat_of_zero_le hp0
 obtain ⟨q, rfl⟩ := Int.eq_ofNat_of_zero_le hq0
 obtain ⟨c, rfl⟩ := Int.eq_ofNat_of_zero_le hc0
 have hg := getD_okl hP n
 obtain ⟨g, hgg⟩ := Int.eq_ofNat_of_zero_le hg.1
 have hpq : p * q ≤ 4294967295 * 4294967295 := Nat.mul_le_mul (by omega) (by omega)
 have hcast : (p : Int) * (q : Int) = ((p * q : Nat) : Int) := by simp
 rw [hcast] at ht ⊢
 have hs := val_set P n hn (t % 4294967296)
 rw [hgg] at ht hs hg ⊢
 refine ⟨by omega, by omega, by omega, by omega, okl_set hP n (by omega) (by omega), by omega, by omega, ?_⟩
 have e1 : (t % 4294967296).toNat + 4294967296 * (t / 4294967296).toNat = c + p * q + g := by omega
 simp only [Int.toNat_natCast] at hs ⊢
 have e2 : 4294967296 ^ (n + 1) * (t / 4294967296).toNat = 4294967296 ^ n * (4294967296 * (t / 4294967296).toNat) := by rw [Nat.pow_succ]; grind
 have e3 : 4294967296 ^ n * (t % 4294967296).toNat + 4294967296 ^ n * (4294967296 * (t / 4294967296).toNat) = 4294967296 ^ n * (c + p * q) + 4294967296 ^ n * g := by
  rw [← Nat.mul_add, e1, Nat.mul_add]
 omega
end Go.Proofs.Ythamhjmhgcpdgaa.Th
end
section
namespace Go.Proofs.Ythamhjmhgcpdgaa.Big
open Go.RowKit Go.Proofs.YthamhjmhgcpdgaaW.PrintWords Go.Proofs.YthamhjmhgcpdgaaW.PrintLast Go.Proofs.YthamhjmhgcpdgaaW.PrintMore Go.Proofs.Ythamhjmhgcpdgaa.Q Go.Proofs.Ythamhjmhgcpdgaa.Th
set_option linter.unusedVariables false
set_option linter.unusedSimpArgs false
theorem wrap64_id {x : Int} (h0 : -9223372036854775808 ≤ x) (h1 : x < 9223372036854775808) : wrap64 x = x := by unfold wrap64; omega
theorem wrapu64 (x : Int) : IntKind.u64.wrap x = x % 18446744073709551616 := by simp [IntKind.wrap, IntKind.bits, IntKind.signed]
theorem wrapu64_id {x : Int} (h0 : 0 ≤ x) (h1 : x < 18446744073709551616) : IntKind.u64.wrap x = x := by rw [wrapu64]; omega
theorem and_low {x : Int} (h0 : 0 ≤ x) (h1 : x < 18446744073709551616) : Go.bits .and .u64 x 4294967295 = x % 4294967296 :=
 bits_mask .u64 64 (by decide) (fun n a b => wrapu64_id a b) 32 (by decide) x h0 h1
theorem or_high {x y : Int} (hx0 : 0 ≤ x) (hx1 : x < 4294967296) (hy0 : 0 ≤ y) (hy1 : y < 4294967296) : Go.bits .or .u64 (x * 4294967296) y = x * 4294967296 + y :=
 bits_join .u64 64 (by decide) (fun n a b => wrapu64_id a b) 32 _ _ (by omega) (by omega) (by omega) hy0 (by omega) (by omega)
abbrev lenok (l : List Int) : Prop := l.length ≤ 1099511627776
abbrev lenok2 (l : List Int) : Prop := l.length ≤ 17592186044416
theorem Ev.ite_pos {α : Type} {p : Prop} [Decidable p] {a b : Nat → Option α} {r : α} (h : p) (k : Ev a r) : Ev (fun n => if p then a n else b n) r := Ev.congr (fun n => if_pos h) k
theorem Ev.ite_neg {α : Type} {p : Prop} [Decidable p] {a b : Nat → Option α} {r : α} (h : ¬ p) (k : Ev b r) : Ev (fun n => if p then a n else b n) r := Ev.congr (fun n => if_neg h) k
theorem rd_nat (l : List Int) (n : Nat) : rd l (n : Int) = l.getD n 0 := by unfold rd; rw [Int.toNat_natCast]
theorem trim_loop (l : List Int) (n : Nat) (hn : n ≤ l.length) (hl : lenok2 l) : Ev (fun k => nat_trim.l0 k l n) (l.take (tl l n)) := by
 induction n with
 | zero =>
  refine Ev.step (f := fun _ => some (l.take 0)) (fun k => ?_) (Ev.now _)
  simp only [nat_trim.l0]
  rw [if_neg (by omega), if_pos (by omega), if_pos (by omega)]
  rfl
 | succ n ih =>
  have hw : wrap64 (((n + 1 : Nat) : Int) - 1) = (n : Int) := by rw [wrap64_id (by omega) (by unfold lenok2 at hl; omega)]; omega
  unfold tl
  by_cases h0 : l.getD n 0 = 0
  ·rw [if_pos h0]
   refine Ev.step (fun k => ?_) (ih (by omega))
   simp only [nat_trim.l0]
   rw [if_pos (by omega), hw, if_pos (by omega), if_pos (by omega), rd_nat, if_pos h0]
  ·rw [if_neg h0]
   refine Ev.step (f := fun _ => some (l.take (n + 1))) (fun k => ?_) (Ev.now _)
   simp only [nat_trim.l0]
   rw [if_pos (by omega), hw, if_pos (by omega), if_pos (by omega), rd_nat, if_neg h0, if_pos (by omega), if_pos (by omega)]
   rfl
theorem trim_ev2 {l : List Int} (h : okl l) (hl : lenok2 l) : Ev (fun k => nat_trim.f k l) (limbs (val l)) := by
 rw [← limbs_tl h]
 exact trim_loop l l.length (Nat.le_refl _) hl
theorem trim_ev {l : List Int} (h : okl l) (hl : lenok l) : Ev (fun k => nat_trim.f k l) (limbs (val l)) := trim_ev2 h (by unfold lenok at hl; unfold lenok2; omega)
theorem limbs_val_len {l : List Int} (h : okl l) : (limbs (val l)).length ≤ l.length := limbs_len_le (val_lt h)
theorem norm_ev {l : List Int} (h : okl l) (hl : lenok l) : Ev (fun k => nat_Norm.f k l) (limbs (val l)) := by
 have h1 := limbs_val_len h
 unfold lenok at hl
 refine Ev.bind (a := limbs (val l)) (f := fun k t131 => if ([] : List Int).length + t131.length < 35184372088832 then (some ([] ++ t131)) else none) (trim_ev h hl) ?_
 refine Ev.ite_pos ?_ (Ev.now _)
 simp only [List.length_nil]; omega
theorem of_two {a : Int} (h0 : 0 ≤ a) (h1 : a < 18446744073709551616) : okl [a % 4294967296, a / 4294967296 % 4294967296] ∧ val [a % 4294967296, a / 4294967296 % 4294967296] = a.toNat := by
 refine ⟨?_, ?_⟩
 ·intro x hx; simp at hx; omega
 ·simp only [val]; omega
theorem of_ev {a : Int} (h0 : 0 ≤ a) (h1 : a < 18446744073709551616) : Ev (fun k => nat_Of.f k a) (limbs a.toNat) := by
 obtain ⟨h2, h3⟩ := of_two h0 h1
 rw [← h3]
 refine Ev.bind (f := fun _ t => some t) ?_ (Ev.now _)
 rw [and_low h0 h1, show a % 4294967296 % 4294967296 = a % 4294967296 by omega]
 exact trim_ev h2 (by unfold lenok; simp)
def cmpI (a b : Nat) : Int := if a < b then -1 else if b < a then 1 else 0
theorem cmp_loop (a b : List Int) (ha : okl a) (hb : okl b) (hl : a.length = b.length) (hla : lenok a) (n : Nat) (hn : n ≤ a.length) (he : val (a.drop n) = val (b.drop n)) :
  Ev (fun k => nat_Cmp.l0 k a b ((n : Int) - 1)) (cmpI (val a) (val b)) := by
 induction n with
 | zero =>
  refine Ev.step (f := fun _ => some 0) (fun k => ?_) (by
   rw [List.drop_zero, List.drop_zero] at he
   rw [he, cmpI, if_neg (by omega), if_neg (by omega)]; exact Ev.now _)
  simp only [nat_Cmp.l0]
  rw [if_neg (by omega)]
 | succ n ih =>
  unfold lenok at hla
  have e1 : ((n + 1 : Nat) : Int) - 1 = n := by omega
  have e2 := val_drop_one a n (by omega)
  have e3 := val_drop_one b n (by omega)
  have v1 := val_take_drop a n (by omega)
  have v2 := val_take_drop b n (by omega)
  have b1 := val_lt (okl_take ha n)
  have b2 := val_lt (okl_take hb n)
  rw [List.length_take, Nat.min_eq_left (by omega)] at b1 b2
  have r1 := okl_rd ha n
  have r2 := okl_rd hb n
  rw [rd_nat] at r1 r2
  rw [e1]
  by_cases h1 : a.getD n 0 < b.getD n 0
  ·refine Ev.step (f := fun _ => some (-1)) (fun k => ?_) ?_
   ·simp only [nat_Cmp.l0]
    rw [if_pos (by omega), if_pos (by omega), if_pos (by omega), if_pos (by omega), rd_nat, rd_nat, if_pos h1]
   ·have : val (a.drop n) + 1 ≤ val (b.drop n) := by omega
    have h2 : 4294967296 ^ n * (val (a.drop n) + 1) ≤ 4294967296 ^ n * val (b.drop n) := Nat.mul_le_mul_left _ this
    rw [Nat.mul_add] at h2
    rw [cmpI, if_pos (by omega)]
    exact Ev.now _
  ·by_cases h2 : b.getD n 0 < a.getD n 0
   ·refine Ev.step (f := fun _ => some 1) (fun k => ?_) ?_
    ·simp only [nat_Cmp.l0]
     rw [if_pos (by omega), if_pos (by omega), if_pos (by omega), if_pos (by omega), rd_nat, rd_nat, if_neg h1, if_pos (by omega)]
    ·have : val (b.drop n) + 1 ≤ val (a.drop n) := by omega
     have h3 : 4294967296 ^ n * (val (b.drop n) + 1) ≤ 4294967296 ^ n * val (a.drop n) := Nat.mul_le_mul_left _ this
     rw [Nat.mul_add] at h3
     rw [cmpI, if_neg (by omega), if_pos (by omega)]
     exact Ev.now _
   ·refine Ev.step (fun k => ?_) (ih (by omega) (by omega))
    simp only [nat_Cmp.l0]
    rw [if_pos (by omega), if_pos (by omega), if_pos (by omega), if_pos (by omega), rd_nat, rd_nat, if_neg h1, if_neg (by omega), wrap64_id (by omega) (by omega)]
theorem pow_mono {a b : Nat} (h : a ≤ b) : 4294967296 ^ a ≤ 4294967296 ^ b := Nat.pow_le_pow_right (by decide) h
theorem limbs_len_mono {a b : Nat} (h : a ≤ b) : (limbs a).length ≤ (limbs b).length := by
 apply limbs_len_le
 have := val_lt (okl_limbs b)
 rw [val_limbs] at this
 omega
theorem cmp_ev {a b : List Int} (ha : okl a) (hb : okl b) (hla : lenok a) (hlb : lenok b) : Ev (fun k => nat_Cmp.f k a b) (cmpI (val a) (val b)) := by
 have l1 := limbs_val_len ha
 have l2 := limbs_val_len hb
 refine Ev.bind (trim_ev ha hla) (Ev.bind (trim_ev hb hlb) ?_)
 by_cases he : (limbs (val a)).length = (limbs (val b)).length
 ·refine Ev.ite_pos (by omega) ?_
  have := cmp_loop (limbs (val a)) (limbs (val b)) (okl_limbs _) (okl_limbs _) he (by unfold lenok at *; omega) (limbs (val a)).length (Nat.le_refl _) (by rw [List.drop_length, he, List.drop_length])
  rw [val_limbs, val_limbs] at this
  rw [wrap64_id (by omega) (by unfold lenok at *; omega)]
  exact this
 ·refine Ev.ite_neg (by omega) ?_
  by_cases h1 : (limbs (val a)).length < (limbs (val b)).length
  ·refine Ev.ite_pos (by omega) ?_
   have h2 : val a < val b := by
    rcases Nat.lt_or_ge (val a) (val b) with h | h
    ·exact h
    ·have := limbs_len_mono h; omega
   rw [cmpI, if_pos h2]; exact Ev.now _
  ·refine Ev.ite_neg (by omega) ?_
   have h2 : val b < val a := by
    rcases Nat.lt_or_ge (val b) (val a) with h | h
    ·exact h
    ·have := limbs_len_mono h; omega
   rw [cmpI, if_neg (by omega), if_pos h2]; exact Ev.now _
theorem divSmall_loop (a : List Int) (ha : okl a) (hla : lenok a) (d : Int) (hd0 : 0 < d) (hd1 : d < 4294967296) (n : Nat) (hn : n ≤ a.length) (q : List Int) (hq : okl q) (hql : q.length = a.length) (r : Int) (hr0 : 0 ≤ r) (hr1 : r < d)
  (hv : val (a.drop n) = val (q.drop n) * d.toNat + r.toNat) :
  ∃ q' r', okl q' ∧ q'.length = a.length ∧ 0 ≤ r' ∧ r' < d ∧ val a = val q' * d.toNat + r'.toNat ∧ Ev (fun k => nat_divSmall.l0 k a d q r ((n : Int) - 1)) (limbs (val q'), r') := by
 induction n generalizing q r with
 | zero =>
  refine ⟨q, r, hq, hql, hr0, hr1, by simpa using hv, ?_⟩
  refine Ev.step (f := fun k => (nat_trim.f k q).bind fun t => some (t, r % 4294967296)) (fun k => ?_) ?_
  ·simp only [nat_divSmall.l0]
   rw [if_neg (by omega)]
  ·have e : r % 4294967296 = r := by omega
   rw [e]
   exact Ev.bind (f := fun _ t => some (t, r)) (trim_ev hq (by unfold lenok at *; omega)) (Ev.now _)
 | succ n ih =>
  unfold lenok at hla
  have r1 := okl_rd ha n
  rw [rd_nat] at r1
  have e1 : ((n + 1 : Nat) : Int) - 1 = n := by omega
  obtain ⟨x, hx⟩ : ∃ x, x = r * 4294967296 + a.getD n 0 := ⟨_, rfl⟩
  have hx0 : 0 ≤ x := by omega
  have hx1 : x < d * 4294967296 := by omega
  have hdiv0 : 0 ≤ x / d := Int.ediv_nonneg hx0 (by omega)
  have hdiv1 : x / d < 4294967296 := Int.ediv_lt_of_lt_mul hd0 (by rw [Int.mul_comm]; exact hx1)
  have hm0 := Int.emod_nonneg x (show d ≠ 0 by omega)
  have hm1 := Int.emod_lt_of_pos x hd0
  have hmd := Int.mul_ediv_add_emod x d
  have e2 := val_drop_one a n (by omega)
  have e3 : val ((q.set n (x / d)).drop n) = (x / d).toNat + 4294967296 * val (q.drop (n + 1)) := by
   rw [val_drop_one _ n (by rw [List.length_set]; omega), List.getD_eq_getElem?_getD, List.getElem?_set_self (by omega), List.drop_set_of_lt (by omega)]
   rfl
  obtain ⟨q', r', h1, h2, h3, h4, h5, h6⟩ := ih (by omega) (q.set n (x / d)) (okl_set hq n hdiv0 hdiv1) (by rw [List.length_set]; exact hql) (x % d) hm0 hm1 (by
   rw [e2, hv, e3]
   have hc : (x / d).toNat * d.toNat + (x % d).toNat = r.toNat * 4294967296 + (a.getD n 0).toNat := by
    have h7 : (((x / d).toNat * d.toNat + (x % d).toNat : Nat) : Int) = ((r.toNat * 4294967296 + (a.getD n 0).toNat : Nat) : Int) := by
     rw [Int.natCast_add, Int.natCast_mul, Int.natCast_add, Int.natCast_mul, Int.toNat_of_nonneg hdiv0, Int.toNat_of_nonneg (show (0:Int) ≤ d by omega), Int.toNat_of_nonneg hm0, Int.toNat_of_nonneg hr0, Int.toNat_of_nonneg r1.1]
     rw [Int.mul_comm (x / d) d]; omega
    exact Int.ofNat.inj h7
   grind)
  refine ⟨q', r', h1, h2, h3, h4, h5, ?_⟩
  rw [e1]
  refine Ev.step (fun k => ?_) h6
  simp only [nat_divSmall.l0]
  rw [if_pos (by omega), if_pos (by omega), if_pos (by omega), wrapu64_id (x := d) (by omega) (by omega), if_neg (by omega), if_pos (by omega), rd_nat, wrapu64_id (x := a.getD n 0) (by omega) (by omega), wrapu64_id (x := r * 4294967296) (by omega) (by omega), or_high hr0 (by omega) r1.1 r1.2, ← hx, Int.tdiv_eq_ediv_of_nonneg hx0, Int.tmod_eq_emod_of_nonneg hx0, wrapu64_id (x := x / d) hdiv0 (by omega), show x / d % 4294967296 = x / d by omega, wrap64_id (by omega) (by omega), Int.toNat_natCast]
theorem divSmall_ev {a : List Int} (ha : okl a) (hla : lenok a) {d : Int} (hd0 : 0 < d) (hd1 : d < 4294967296) : Ev (fun k => nat_divSmall.f k a d) (limbs (val a / d.toNat), ((val a % d.toNat : Nat) : Int)) := by
 unfold lenok at hla
 obtain ⟨q', r', h1, h2, h3, h4, h5, h6⟩ := divSmall_loop a ha hla d hd0 hd1 a.length (Nat.le_refl _) (List.replicate a.length 0) (okl_replicate _) (by simp) 0 (by omega) hd0 (by
  rw [List.drop_length, List.drop_of_length_le (by simp)]; simp [val])
 have hq : val a / d.toNat = val q' := by
  rw [h5]
  exact Nat.div_eq_of_lt_le (by omega) (by rw [Nat.add_mul]; omega)
 have hr : val a % d.toNat = r'.toNat := by
  rw [h5, Nat.mul_comm, Nat.mul_add_mod, Nat.mod_eq_of_lt (by omega)]
 rw [hq, hr, Int.toNat_of_nonneg h3]
 refine Ev.ite_pos (by omega) (Ev.ite_pos (by omega) ?_)
 rw [Int.toNat_natCast, wrap64_id (by omega) (by omega)]
 exact h6
theorem mul_inner (a b : List Int) (ha : okl a) (hb : okl b) (hla : lenok a) (hlb : lenok b) (i : Nat) (hi : i < a.length) {r : List Int} (V : Nat)
  (K : ∀ P : List Int, okl P → P.length = a.length + b.length → (∀ m, i + 1 + b.length ≤ m → P.getD m 0 = 0) → val P = V + 4294967296 ^ i * ((a.getD i 0).toNat * val b) → Ev (fun k => nat_Mul.l0 k b P a (a.length : Int) ((i + 1 : Nat) : Int)) r)
  (d : Nat) : ∀ (j : Nat) (P : List Int) (c : Int), j + d = b.length → okl P → P.length = a.length + b.length → (∀ m, i + b.length ≤ m → P.getD m 0 = 0) → 0 ≤ c → c < 4294967296 →
   val P + 4294967296 ^ (i + j) * c.toNat = V + 4294967296 ^ i * ((a.getD i 0).toNat * val (b.take j)) →
   Ev (fun k => nat_Mul.l1 k b P (i : Int) (a.getD i 0) c a (a.length : Int) (i : Int) b (b.length : Int) (j : Int)) r := by
 unfold lenok at hla hlb
 have hx := getD_okl ha i
 induction d with
 | zero =>
  intro j P c hj hP hPl hz hc0 hc1 hv
  obtain rfl : j = b.length := by omega
  have hs := val_set P (i + b.length) (by omega) c
  rw [hz _ (Nat.le_refl _)] at hs
  have e : b.take b.length = b := List.take_length
  rw [e] at hv
  refine Ev.step (fun k => ?_) (K (P.set (i + b.length) c) (okl_set hP _ hc0 hc1) (by rw [List.length_set]; exact hPl) ?_ (by simp at hs; omega))
  ·simp only [nat_Mul.l1]
   rw [if_neg (by omega), wrap64_id (x := (i : Int) + (b.length : Int)) (by omega) (by omega), if_pos (by omega), if_pos (by omega), wrap64_id (x := (i : Int) + 1) (by omega) (by omega), show c % 4294967296 = c by omega,
    show ((i : Int) + (b.length : Int)).toNat = i + b.length by omega]
   rfl
  ·intro m hm
   rw [List.getD_eq_getElem?_getD, List.getElem?_set_ne (by omega), ← List.getD_eq_getElem?_getD]
   exact hz m (by omega)
 | succ d ih =>
  intro j P c hj hP hPl hz hc0 hc1 hv
  have hq := getD_okl hb j
  obtain ⟨t, ht⟩ : ∃ t, t = c + a.getD i 0 * b.getD j 0 + P.getD (i + j) 0 := ⟨_, rfl⟩
  obtain ⟨h1, h2, h3, h4, h5, h6, h7, h8⟩ := mul_step hP (n := i + j) (by omega) hx.1 hx.2 hq.1 hq.2 hc0 hc1 ht
  have hP2 := getD_okl hP (i + j)
  have e1 : val (b.take (j + 1)) = val (b.take j) + 4294967296 ^ j * (b.getD j 0).toNat := val_take_succ b j (by omega)
  refine Ev.step (fun k => ?_) (ih (j + 1) (P.set (i + j) (t % 4294967296)) (t / 4294967296) (by omega) h5 (by rw [List.length_set]; exact hPl) ?_ h6 h7 ?_)
  ·simp only [nat_Mul.l1]
   rw [if_pos (by omega), if_pos (by omega), if_pos (by omega), wrap64_id (x := (i : Int) + (j : Int)) (by omega) (by omega), if_pos (by omega), if_pos (by omega), rd_nat, show (i : Int) + (j : Int) = ((i + j : Nat) : Int) by omega, rd_nat,
    wrapu64_id (x := a.getD i 0) (by omega) (by omega), wrapu64_id (x := b.getD j 0) (by omega) (by omega), wrapu64_id (x := P.getD (i + j) 0) (by omega) (by omega),
    wrapu64_id (x := a.getD i 0 * b.getD j 0) h1 (by omega), wrapu64_id (x := a.getD i 0 * b.getD j 0 + P.getD (i + j) 0) (by omega) (by omega),
    ← Int.add_assoc, ← ht, wrapu64_id (x := t) h3 h4, and_low h3 h4, show t % 4294967296 % 4294967296 = t % 4294967296 by omega, wrap64_id (x := (j : Int) + 1) (by omega) (by omega), Int.toNat_natCast]
   rfl
  ·intro m hm
   rw [List.getD_eq_getElem?_getD, List.getElem?_set_ne (by omega), ← List.getD_eq_getElem?_getD]
   exact hz m hm
  ·rw [show i + (j + 1) = i + j + 1 by omega, h8, e1, Nat.mul_add (4294967296 ^ (i + j)), ← Nat.add_assoc, hv]
   have e2 : 4294967296 ^ (i + j) = 4294967296 ^ i * 4294967296 ^ j := Nat.pow_add _ _ _
   rw [e2]
   grind
theorem mul_outer (a b : List Int) (ha : okl a) (hb : okl b) (hla : lenok a) (hlb : lenok b) (d : Nat) : ∀ (i : Nat) (P : List Int), i + d = a.length → okl P → P.length = a.length + b.length →
  (∀ m, i + b.length ≤ m → P.getD m 0 = 0) → val P = val (a.take i) * val b → Ev (fun k => nat_Mul.l0 k b P a (a.length : Int) (i : Int)) (limbs (val a * val b)) := by
 induction d with
 | zero =>
  intro i P hi hP hPl hz hv
  obtain rfl : i = a.length := by omega
  rw [List.take_length] at hv
  unfold lenok at hla hlb
  rw [← hv]
  refine Ev.step (f := fun k => (nat_trim.f k P).bind fun t => some t) (fun k => ?_) (Ev.bind (f := fun _ t => some t) (trim_ev2 hP (by unfold lenok2; omega)) (Ev.now _))
  simp only [nat_Mul.l0]
  rw [if_neg (by omega)]
 | succ d ih =>
  intro i P hi hP hPl hz hv
  have hla' := hla
  unfold lenok at hla'
  refine Ev.step (fun k => ?_) (mul_inner a b ha hb hla hlb i (by omega) (val (a.take i) * val b) (fun P' h1 h2 h3 h4 => ih (i + 1) P' (by omega) h1 h2 h3 (by rw [h4, val_take_succ a i (by omega)]; grind)) b.length 0 P 0 (by omega) hP hPl hz (by omega) (by omega) (by simp [val, hv]))
  simp only [nat_Mul.l0]
  rw [if_pos (by omega), if_pos (by omega), if_pos (by omega), rd_nat]
  rfl
theorem mul_ev {a b : List Int} (ha : okl a) (hb : okl b) (hla : lenok a) (hlb : lenok b) : Ev (fun k => nat_Mul.f k a b) (limbs (val a * val b)) := by
 have l1 := limbs_val_len ha
 have l2 := limbs_val_len hb
 refine Ev.bind (trim_ev ha hla) (Ev.bind (trim_ev hb hlb) ?_)
 have hj1 : ∀ x y : List Int, Ev (fun k => nat_Mul.j0 k x y true) [] := fun x y => Ev.step (f := fun _ => some []) (fun k => by simp only [nat_Mul.j0, if_true]) (Ev.now _)
 by_cases h1 : val a = 0
 ·rw [h1, Nat.zero_mul, limbs_zero]
  exact Ev.ite_pos (by simp) (hj1 _ _)
 ·have h1' := List.length_pos_iff.2 (limbs_ne_nil h1)
  refine Ev.ite_neg (by omega) ?_
  by_cases h2 : val b = 0
  ·rw [h2, Nat.mul_zero, limbs_zero]
   exact hj1 _ _
  ·have h2' := List.length_pos_iff.2 (limbs_ne_nil h2)
   have e : (((limbs (val b)).length : Int) == 0) = false := by simp only [beq_eq_false_iff_ne]; omega
   rw [e]
   unfold lenok at hla hlb
   have w : wrap64 (((limbs (val a)).length : Int) + ((limbs (val b)).length : Int)) = ((limbs (val a)).length + (limbs (val b)).length : Nat) := by rw [wrap64_id (by omega) (by omega)]; omega
   refine Ev.step (f := fun k => nat_Mul.l0 k (limbs (val b)) (List.replicate ((limbs (val a)).length + (limbs (val b)).length) 0) (limbs (val a)) ((limbs (val a)).length : Int) 0) (fun k => ?_) ?_
   ·simp only [nat_Mul.j0]
    rw [if_neg (by decide), w, if_pos (by omega), if_pos (by omega), Int.toNat_natCast]
   ·have := mul_outer (limbs (val a)) (limbs (val b)) (okl_limbs _) (okl_limbs _) (by unfold lenok; omega) (by unfold lenok; omega) (limbs (val a)).length 0 (List.replicate ((limbs (val a)).length + (limbs (val b)).length) 0) (by omega) (okl_replicate _) (by simp) (fun m _ => by
      rw [List.getD_eq_getElem?_getD, List.getElem?_replicate]; split <;> rfl) (by simp [val, val_replicate])
    rw [val_limbs, val_limbs] at this
    exact this
theorem pow_le31 {n : Nat} (h : n ≤ 31) : 2 ^ n ≤ 2147483648 ∧ 0 < 2 ^ n := ⟨Nat.pow_le_pow_right (by decide) h, Nat.two_pow_pos n⟩
theorem shl_u64 {x : Int} {n : Nat} (h0 : 0 ≤ x) (h1 : x < 4294967296) (hn : n ≤ 31) : shl .u64 x (n : Int) = x * (2 ^ n : Nat) := by
 obtain ⟨p1, p2⟩ := pow_le31 hn
 obtain ⟨x, rfl⟩ := Int.eq_ofNat_of_zero_le h0
 have h2 : x * 2 ^ n ≤ 4294967295 * 2147483648 := Nat.mul_le_mul (by omega) p1
 unfold shl
 rw [Int.toNat_natCast, Nat.min_eq_left (by simp [IntKind.bits]; omega), show (x : Int) * (2 : Int) ^ n = ((x * 2 ^ n : Nat) : Int) by simp, wrapu64_id (by omega) (by omega)]
 simp
theorem shr_u64 {x : Int} {n : Nat} (hn : n ≤ 31) : shr .u64 x (n : Int) = x / (2 ^ n : Nat) := by
 unfold shr
 rw [Int.toNat_natCast, Nat.min_eq_left (by simp [IntKind.bits]; omega)]
 simp
theorem or_low {c x : Int} {n : Nat} (hn : n ≤ 31) (hc0 : 0 ≤ c) (hc1 : c < (2 ^ n : Nat)) (h0 : 0 ≤ x) (h1 : x < 4294967296) : Go.bits .or .u64 c (x * (2 ^ n : Nat)) = c + x * (2 ^ n : Nat) := by
 obtain ⟨p1, p2⟩ := pow_le31 hn
 obtain ⟨x, rfl⟩ := Int.eq_ofNat_of_zero_le h0
 obtain ⟨c, rfl⟩ := Int.eq_ofNat_of_zero_le hc0
 have h2 : x * 2 ^ n ≤ 4294967295 * 2147483648 := Nat.mul_le_mul (by omega) p1
 have h3 : c < 2 ^ n := by exact_mod_cast hc1
 have e : (x : Int) * ((2 ^ n : Nat) : Int) = ((x * 2 ^ n : Nat) : Int) := by simp
 rw [e, (bits_nat .u64 64 (by decide) (fun n a b => wrapu64_id a b) c (x * 2 ^ n) (by omega) (by omega)).2, Nat.or_comm, Nat.mul_comm, ← Nat.two_pow_add_eq_or_of_lt h3]
 simp [Int.add_comm]
theorem shiftUp_loop (a : List Int) (ha : okl a) (hla : lenok a) (s : Nat) (hs : s ≤ 31) (d : Nat) : ∀ (i : Nat) (o : List Int) (c : Int), i + d = a.length → okl o → o.length = a.length + 1 → 0 ≤ c → c < (2 ^ s : Nat) →
  val (o.take i) + 4294967296 ^ i * c.toNat = val (a.take i) * 2 ^ s →
  ∃ r, okl r ∧ r.length = a.length + 1 ∧ val r = val a * 2 ^ s ∧ Ev (fun k => nat_shiftUp.l0 k a (s : Int) o c a (a.length : Int) (i : Int)) r := by
 unfold lenok at hla
 obtain ⟨p1, p2⟩ := pow_le31 hs
 induction d with
 | zero =>
  intro i o c hi ho hol hc0 hc1 hv
  obtain rfl : i = a.length := by omega
  rw [List.take_length] at hv
  refine ⟨o.set a.length c, okl_set ho _ hc0 (by omega), by rw [List.length_set]; exact hol, ?_, ?_⟩
  ·have e1 : (o.set a.length c) = o.take a.length ++ [c] := by
    rw [List.set_eq_take_append_cons_drop, if_pos (by omega), List.drop_of_length_le (by omega)]
   rw [e1, val_append, List.length_take, Nat.min_eq_left (by omega)]
   simp only [val]
   omega
  ·refine Ev.step (f := fun _ => some (o.set a.length c)) (fun k => ?_) (Ev.now _)
   simp only [nat_shiftUp.l0]
   rw [if_neg (by omega), if_pos (by omega), if_pos (by omega), Int.toNat_natCast, show c % 4294967296 = c by omega]
 | succ d ih =>
  intro i o c hi ho hol hc0 hc1 hv
  have hx := getD_okl ha i
  obtain ⟨t, ht⟩ : ∃ t, t = c + a.getD i 0 * (2 ^ s : Nat) := ⟨_, rfl⟩
  have hm : 0 ≤ a.getD i 0 * ((2 ^ s : Nat) : Int) := Int.mul_nonneg hx.1 (by omega)
  have hm2 : (a.getD i 0 + 1) * ((2 ^ s : Nat) : Int) ≤ 4294967296 * ((2 ^ s : Nat) : Int) := Int.mul_le_mul_of_nonneg_right (by omega) (by omega)
  rw [Int.add_mul, Int.one_mul] at hm2
  have ht0 : 0 ≤ t := by omega
  have ht1 : t < 4294967296 * ((2 ^ s : Nat) : Int) := by omega
  have ht2 : t / 4294967296 < (2 ^ s : Nat) := by omega
  have e1 : (o.set i (t % 4294967296)).take (i + 1) = o.take i ++ [t % 4294967296] := by
   rw [List.set_eq_take_append_cons_drop, if_pos (by omega), List.take_append, List.length_take, Nat.min_eq_left (by omega), List.take_take, Nat.min_eq_right (by omega), show i + 1 - i = 1 by omega]
   rfl
  obtain ⟨r, h1, h2, h3, h4⟩ := ih (i + 1) (o.set i (t % 4294967296)) (t / 4294967296) (by omega) (okl_set ho _ (by omega) (by omega)) (by rw [List.length_set]; exact hol) (by omega) ht2 (by
   rw [e1, val_append, List.length_take, Nat.min_eq_left (by omega), val_take_succ a i (by omega), Nat.add_mul, ← hv]
   have e2 : (t % 4294967296).toNat + 4294967296 * (t / 4294967296).toNat = c.toNat + (a.getD i 0).toNat * 2 ^ s := by
    have : ((a.getD i 0).toNat * 2 ^ s : Nat) = (a.getD i 0 * ((2 ^ s : Nat) : Int)).toNat := by
     obtain ⟨x, hxx⟩ := Int.eq_ofNat_of_zero_le hx.1
     rw [hxx]
     have : (x : Int) * ((2 ^ s : Nat) : Int) = ((x * 2 ^ s : Nat) : Int) := by simp
     rw [this]; rfl
    omega
   simp only [val]
   rw [Nat.pow_succ]
   grind)
  refine ⟨r, h1, h2, h3, Ev.step (fun k => ?_) h4⟩
  simp only [nat_shiftUp.l0]
  rw [if_pos (by omega), if_pos (by omega), if_pos (by omega), if_pos (by omega), if_pos (by omega), rd_nat, wrapu64_id (x := a.getD i 0) (by omega) (by omega), shl_u64 hx.1 hx.2 hs, or_low hs hc0 hc1 hx.1 hx.2, ← ht,
   and_low ht0 (by omega), show t % 4294967296 % 4294967296 = t % 4294967296 by omega, wrap64_id (x := (i : Int) + 1) (by omega) (by omega), Int.toNat_natCast]
  rfl
theorem shiftUp_ev {a : List Int} (ha : okl a) (hla : lenok a) {s : Nat} (hs : s ≤ 31) : ∃ r, okl r ∧ r.length = a.length + 1 ∧ val r = val a * 2 ^ s ∧ Ev (fun k => nat_shiftUp.f k a (s : Int)) r := by
 have hla' := hla
 unfold lenok at hla'
 obtain ⟨r, h1, h2, h3, h4⟩ := shiftUp_loop a ha hla s hs a.length 0 (List.replicate (a.length + 1) 0) 0 (by omega) (okl_replicate _) (by simp) (by omega) (by have := (pow_le31 hs).2; omega) (by simp [val])
 refine ⟨r, h1, h2, h3, ?_⟩
 have w : wrap64 ((a.length : Int) + 1) = ((a.length + 1 : Nat) : Int) := by rw [wrap64_id (by omega) (by omega)]; rfl
 unfold nat_shiftUp.f
 simp only [w]
 refine Ev.ite_pos (by omega) (Ev.ite_pos (by omega) ?_)
 rw [Int.toNat_natCast]
 exact h4
def dn (a : List Int) (s i : Nat) : Int := ((a.getD i 0 + 4294967296 * a.getD (i + 1) 0) / ((2 ^ s : Nat) : Int)) % 4294967296
theorem dn_val (a o : List Int) (ha : okl a) (s : Nat) (hs : s ≤ 31) (hol : o.length = a.length) (ho : ∀ i, i < a.length → o.getD i 0 = dn a s i) (d : Nat) : ∀ i, i + d = a.length → val (o.drop i) = val (a.drop i) / 2 ^ s := by
 obtain ⟨p1, p2⟩ := pow_le31 hs
 induction d with
 | zero =>
  intro i hi
  rw [List.drop_of_length_le (by omega), List.drop_of_length_le (by omega)]
  simp [val]
 | succ d ih =>
  intro i hi
  have h1 := ih (i + 1) (by omega)
  rw [val_drop_one o i (by omega), val_drop_one a i (by omega), ho i (by omega), h1]
  have hx := getD_okl ha i
  have hy := getD_okl ha (i + 1)
  obtain ⟨x, hx'⟩ := Int.eq_ofNat_of_zero_le hx.1
  obtain ⟨y, hy'⟩ := Int.eq_ofNat_of_zero_le hy.1
  obtain ⟨V, hV⟩ : ∃ V, V = val (a.drop (i + 1)) := ⟨_, rfl⟩
  have hVy : V % 4294967296 = y := by
   rw [hV]
   by_cases h2 : i + 1 < a.length
   ·rw [val_drop_one a (i + 1) h2, hy', Int.toNat_natCast]; omega
   ·rw [List.drop_of_length_le (by omega)]
    rw [List.getD_eq_getElem?_getD, List.getElem?_eq_none (by omega)] at hy'
    simp at hy'
    simp [val]; omega
  rw [← hV]
  unfold dn
  rw [hx', hy']
  have e1 : ((((x : Int) + 4294967296 * (y : Int)) / ((2 ^ s : Nat) : Int)) % 4294967296).toNat = (x + 4294967296 * y) / 2 ^ s % 4294967296 := by
   have : ((x : Int) + 4294967296 * (y : Int)) = ((x + 4294967296 * y : Nat) : Int) := by simp
   rw [this, ← Int.natCast_ediv]
   omega
  rw [e1, Int.toNat_natCast]
  have hx2 : x < 4294967296 := by omega
  obtain ⟨e, he⟩ : ∃ e, 4294967296 = 2 ^ s * e := ⟨2 ^ (32 - s), by rw [← Nat.pow_add, show s + (32 - s) = 32 by omega]⟩
  have hVm := Nat.div_add_mod V 4294967296
  rw [hVy] at hVm
  have e2 : x + 4294967296 * V = (x + 4294967296 * y) + 2 ^ s * (e * (4294967296 * (V / 4294967296))) := by
   have : 4294967296 * V = 4294967296 * y + 4294967296 * (4294967296 * (V / 4294967296)) := by omega
   have h9 : 2 ^ s * (e * (4294967296 * (V / 4294967296))) = 4294967296 * (4294967296 * (V / 4294967296)) := by rw [← Nat.mul_assoc (2 ^ s), ← he]
   rw [this, h9]; omega
  have e3 : (x + 4294967296 * V) / 2 ^ s = (x + 4294967296 * y) / 2 ^ s + e * (4294967296 * (V / 4294967296)) := by rw [e2, Nat.add_mul_div_left _ _ p2]
  have e4 : (x + 4294967296 * V) / 2 ^ s % 4294967296 = (x + 4294967296 * y) / 2 ^ s % 4294967296 := by
   rw [e3, show e * (4294967296 * (V / 4294967296)) = 4294967296 * (e * (V / 4294967296)) by grind, Nat.add_mul_mod_self_left]
  have hVd := Nat.div_add_mod V (2 ^ s)
  have hVr := Nat.mod_lt V p2
  have e5 : (x + 4294967296 * V) / 2 ^ s = (x + 4294967296 * (V % 2 ^ s)) / 2 ^ s + 4294967296 * (V / 2 ^ s) := by
   have : x + 4294967296 * V = (x + 4294967296 * (V % 2 ^ s)) + 2 ^ s * (4294967296 * (V / 2 ^ s)) := by
    have h7 : 4294967296 * V = 4294967296 * (2 ^ s * (V / 2 ^ s) + V % 2 ^ s) := by rw [hVd]
    rw [h7]; grind
   rw [this, Nat.add_mul_div_left _ _ p2]
  have e6 : (x + 4294967296 * (V % 2 ^ s)) / 2 ^ s < 4294967296 := by
   rw [Nat.div_lt_iff_lt_mul p2]
   have : 4294967296 * (V % 2 ^ s + 1) ≤ 4294967296 * 2 ^ s := Nat.mul_le_mul_left _ (by omega)
   omega
  rw [← e4, e5, Nat.add_mul_mod_self_left, Nat.mod_eq_of_lt e6]
theorem shiftDown_loop (a : List Int) (ha : okl a) (hla : lenok2 a) (s : Nat) (hs : s ≤ 31) (d : Nat) : ∀ (i : Nat) (o : List Int), i + d = a.length → okl o → o.length = a.length → (∀ j, j < i → o.getD j 0 = dn a s j) →
  Ev (fun k => nat_shiftDown.l0 k a (s : Int) o (a.length : Int) (i : Int)) (limbs (val a / 2 ^ s)) := by
 unfold lenok2 at hla
 obtain ⟨p1, p2⟩ := pow_le31 hs
 induction d with
 | zero =>
  intro i o hi ho hol hd
  obtain rfl : i = a.length := by omega
  have := dn_val a o ha s hs hol hd a.length 0 (by omega)
  rw [List.drop_zero, List.drop_zero] at this
  rw [← this]
  refine Ev.step (f := fun k => (nat_trim.f k o).bind fun t => some t) (fun k => ?_) (Ev.bind (f := fun _ t => some t) (trim_ev2 ho (by unfold lenok2; omega)) (Ev.now _))
  simp only [nat_shiftDown.l0]
  rw [if_neg (by omega)]
 | succ d ih =>
  intro i o hi ho hol hd
  have hx := getD_okl ha i
  have hy := getD_okl ha (i + 1)
  have hdn : 0 ≤ dn a s i ∧ dn a s i < 4294967296 := by unfold dn; omega
  refine Ev.step (fun k => ?_) (ih (i + 1) (o.set i (dn a s i)) (by omega) (okl_set ho _ hdn.1 hdn.2) (by rw [List.length_set]; exact hol) (fun j hj => ?_))
  ·obtain ⟨t, ht⟩ : ∃ t, t = a.getD i 0 + 4294967296 * a.getD (i + 1) 0 := ⟨_, rfl⟩
   have hds : dn a s i = t / ((2 ^ s : Nat) : Int) % 4294967296 := by rw [ht]; rfl
   have ht0 : 0 ≤ t / ((2 ^ s : Nat) : Int) := Int.ediv_nonneg (by omega) (by omega)
   have ht1 : t / ((2 ^ s : Nat) : Int) < 18446744073709551616 := Int.ediv_lt_of_lt_mul (by omega) (by
    have : 18446744073709551616 * 1 ≤ 18446744073709551616 * ((2 ^ s : Nat) : Int) := Int.mul_le_mul_of_nonneg_left (by omega) (by omega)
    omega)
   have hor : Go.bits .or .u64 (a.getD i 0) (a.getD (i + 1) 0 * 4294967296) = t := by
    obtain ⟨x, hx'⟩ := Int.eq_ofNat_of_zero_le hx.1
    obtain ⟨y, hy'⟩ := Int.eq_ofNat_of_zero_le hy.1
    rw [ht, hx', hy']
    have e : (y : Int) * 4294967296 = ((4294967296 * y : Nat) : Int) := by omega
    rw [e, (bits_nat .u64 64 (by decide) (fun n a b => wrapu64_id a b) x (4294967296 * y) (by omega) (by omega)).2, Nat.or_comm, show (4294967296 : Nat) = 2 ^ 32 from rfl, ← Nat.two_pow_add_eq_or_of_lt (by omega)]
    omega
   simp only [nat_shiftDown.l0]
   rw [if_pos (by omega), if_pos (by omega), if_pos (by omega), wrap64_id (x := (i : Int) + 1) (by omega) (by omega)]
   by_cases h2 : i + 1 < a.length
   ·rw [if_pos (by omega), if_pos (by omega), if_pos (by omega), if_pos (by omega), rd_nat, show (i : Int) + 1 = ((i + 1 : Nat) : Int) by omega, rd_nat, wrapu64_id (x := a.getD i 0) (by omega) (by omega), wrapu64_id (x := a.getD (i + 1) 0) (by omega) (by omega),
     wrapu64_id (x := a.getD (i + 1) 0 * 4294967296) (by omega) (by omega), hor, shr_u64 hs, and_low ht0 ht1, Int.toNat_natCast, hds, show t / ((2 ^ s : Nat) : Int) % 4294967296 % 4294967296 = t / ((2 ^ s : Nat) : Int) % 4294967296 by omega]
   ·have hy0 : a.getD (i + 1) 0 = 0 := by rw [List.getD_eq_getElem?_getD, List.getElem?_eq_none (by omega)]; rfl
    rw [hy0] at ht
    rw [if_neg (by omega), if_pos (by omega), if_pos (by omega), rd_nat, wrapu64_id (x := a.getD i 0) (by omega) (by omega), show a.getD i 0 = t by omega, shr_u64 hs, and_low ht0 ht1, Int.toNat_natCast, hds, show t / ((2 ^ s : Nat) : Int) % 4294967296 % 4294967296 = t / ((2 ^ s : Nat) : Int) % 4294967296 by omega]
    rfl
  ·by_cases hji : j = i
   ·subst hji
    rw [List.getD_eq_getElem?_getD, List.getElem?_set_self (by omega)]; rfl
   ·rw [List.getD_eq_getElem?_getD, List.getElem?_set_ne (by omega), ← List.getD_eq_getElem?_getD]
    exact hd j (by omega)
theorem shiftDown_ev {a : List Int} (ha : okl a) (hla : lenok2 a) {s : Nat} (hs : s ≤ 31) : Ev (fun k => nat_shiftDown.f k a (s : Int)) (limbs (val a / 2 ^ s)) := by
 have hla' := hla
 unfold lenok2 at hla'
 unfold nat_shiftDown.f
 refine Ev.ite_pos (by omega) (Ev.ite_pos (by omega) ?_)
 rw [Int.toNat_natCast]
 exact shiftDown_loop a ha hla s hs a.length 0 _ (by omega) (okl_replicate _) (by simp) (fun j hj => by omega)
theorem tdown {t : Int} (h0 : -4294967297 ≤ t) (h1 : t < 4294967296) :
  Go.bits .and .u64 (IntKind.u64.wrap t) 4294967295 = t % 4294967296 ∧ IntKind.u64.wrap t / 9223372036854775808 = (if t < 0 then 1 else 0) := by
 have hw : 0 ≤ IntKind.u64.wrap t ∧ IntKind.u64.wrap t < 18446744073709551616 := by rw [wrapu64]; omega
 refine ⟨?_, ?_⟩
 ·rw [and_low hw.1 hw.2, wrapu64]; omega
 ·rw [wrapu64]; split <;> omega
theorem wrapu64_sub (x y z : Int) : IntKind.u64.wrap (IntKind.u64.wrap (x - y) - z) = IntKind.u64.wrap (x - y - z) := by
 rw [wrapu64, wrapu64, wrapu64]; omega
theorem sub_loop (v : List Int) (hv : okl v) (hlv : lenok v) (q : Int) (hq0 : 0 ≤ q) (hq1 : q < 4294967296) (U : Nat) (d : Nat) : ∀ (i : Nat) (u : List Int) (b c : Int), i + d = v.length → okl u → u.length = v.length + 1 →
  (b = 0 ∨ b = 1) → 0 ≤ c → c < 4294967296 → val u + q.toNat * val (v.take i) = U + 4294967296 ^ i * (b.toNat + c.toNat) →
  ∃ neg r, okl r ∧ r.length = v.length + 1 ∧ val r + q.toNat * val v = U + (if neg then 4294967296 ^ (v.length + 1) else 0) ∧ Ev (fun k => nat_subtract.l0 k u v q b c v (v.length : Int) (i : Int)) (neg, r) := by
 unfold lenok at hlv
 induction d with
 | zero =>
  intro i u b c hi hu hul hb hc0 hc1 hs
  obtain rfl : i = v.length := by omega
  have hx := getD_okl hu v.length
  obtain ⟨t, ht⟩ : ∃ t, t = u.getD v.length 0 - b - c := ⟨_, rfl⟩
  have td := tdown (t := t) (by omega) (by omega)
  rw [List.take_length] at hs
  refine ⟨decide (t < 0), u.set v.length (t % 4294967296), okl_set hu _ (by omega) (by omega), by rw [List.length_set]; exact hul, ?_, ?_⟩
  ·have h1 := val_set u v.length (by omega) (t % 4294967296)
   have e1 : (t % 4294967296).toNat + b.toNat + c.toNat = (u.getD v.length 0).toNat + 4294967296 * (if t < 0 then 1 else 0) := by split <;> omega
   have e2 : 4294967296 ^ v.length * ((t % 4294967296).toNat + b.toNat + c.toNat) = 4294967296 ^ v.length * ((u.getD v.length 0).toNat + 4294967296 * (if t < 0 then 1 else 0)) := by rw [e1]
   have e3 : (if decide (t < 0) = true then 4294967296 ^ (v.length + 1) else 0) = 4294967296 ^ v.length * (4294967296 * (if t < 0 then 1 else 0)) := by
    by_cases h : t < 0 <;> simp [h, Nat.pow_succ]
   rw [e3]
   generalize (if t < 0 then 1 else 0) = z at e2 ⊢
   grind
  ·refine Ev.step (f := fun _ => some (decide (t < 0), u.set v.length (t % 4294967296))) (fun k => ?_) (Ev.now _)
   simp only [nat_subtract.l0]
   rw [if_neg (by omega), if_pos (by omega), if_pos (by omega), rd_nat, wrapu64_id (x := u.getD v.length 0) (by omega) (by omega), wrapu64_sub, ← ht, td.1, td.2, Int.toNat_natCast, show t % 4294967296 % 4294967296 = t % 4294967296 by omega]
   by_cases h : t < 0 <;> simp [h]
 | succ d ih =>
  intro i u b c hi hu hul hb hc0 hc1 hs
  have hx := getD_okl hu i
  have hy := getD_okl hv i
  obtain ⟨x, hx'⟩ := Int.eq_ofNat_of_zero_le hy.1
  obtain ⟨qn, rfl⟩ := Int.eq_ofNat_of_zero_le hq0
  have hp : qn * x ≤ 4294967295 * 4294967295 := Nat.mul_le_mul (by omega) (by omega)
  have hcast : (qn : Int) * (v.getD i 0) = ((qn * x : Nat) : Int) := by rw [hx']; simp
  obtain ⟨m, hm⟩ : ∃ m, m = c + (qn : Int) * (v.getD i 0) := ⟨_, rfl⟩
  have hm0 : 0 ≤ m := by omega
  have hm1 : m < 18446744069414584321 := by omega
  obtain ⟨t, ht⟩ : ∃ t, t = u.getD i 0 - b - m % 4294967296 := ⟨_, rfl⟩
  have td := tdown (t := t) (by omega) (by omega)
  obtain ⟨neg, r, h1, h2, h3, h4⟩ := ih (i + 1) (u.set i (t % 4294967296)) (if t < 0 then 1 else 0) (m / 4294967296) (by omega) (okl_set hu _ (by omega) (by omega)) (by rw [List.length_set]; exact hul) (by split <;> simp) (by omega) (by omega) (by
   have h1 := val_set u i (by omega) (t % 4294967296)
   have e1 : (t % 4294967296).toNat + b.toNat + c.toNat + qn * x = (u.getD i 0).toNat + 4294967296 * ((if t < 0 then (1 : Int) else 0).toNat + (m / 4294967296).toNat) := by split <;> omega
   have e2 : 4294967296 ^ i * ((t % 4294967296).toNat + b.toNat + c.toNat + qn * x) = 4294967296 ^ i * ((u.getD i 0).toNat + 4294967296 * ((if t < 0 then (1 : Int) else 0).toNat + (m / 4294967296).toNat)) := by rw [e1]
   have e4 : val (v.take (i + 1)) = val (v.take i) + 4294967296 ^ i * x := by rw [val_take_succ v i (by omega), hx']; rfl
   rw [e4, Nat.pow_succ]
   rw [Int.toNat_natCast] at hs ⊢
   generalize ((if t < 0 then (1 : Int) else 0).toNat + (m / 4294967296).toNat) = z at e2 ⊢
   grind)
  refine ⟨neg, r, h1, h2, h3, Ev.step (fun k => ?_) h4⟩
  simp only [nat_subtract.l0]
  rw [if_pos (by omega), if_pos (by omega), if_pos (by omega), if_pos (by omega), rd_nat, rd_nat, wrapu64_id (x := u.getD i 0) (by omega) (by omega), wrapu64_id (x := v.getD i 0) (by omega) (by omega), wrapu64_id (x := (qn : Int) * v.getD i 0) (by omega) (by omega), ← hm, wrapu64_id (x := m) (by omega) (by omega),
   and_low hm0 (by omega), wrapu64_sub, ← ht, td.1, td.2, show t % 4294967296 % 4294967296 = t % 4294967296 by omega, wrap64_id (x := (i : Int) + 1) (by omega) (by omega), Int.toNat_natCast]
  rfl
theorem subtract_ev {u v : List Int} (hu : okl u) (hv : okl v) (hlv : lenok v) {q : Int} (hq0 : 0 ≤ q) (hq1 : q < 4294967296) {lo : Nat} (hl : lo + v.length + 1 ≤ u.length) :
  ∃ neg w, okl w ∧ w.length = v.length + 1 ∧ val w + q.toNat * val v = val ((u.drop lo).take (v.length + 1)) + (if neg then 4294967296 ^ (v.length + 1) else 0) ∧
   Ev (fun k => nat_subtract.f k u (lo : Int) ((lo + v.length + 1 : Nat) : Int) v q) (neg, u.take lo ++ w ++ u.drop (lo + v.length + 1)) := by
 have e : (u.take (lo + v.length + 1)).drop lo = (u.drop lo).take (v.length + 1) := by rw [List.drop_take]; congr 1; omega
 obtain ⟨neg, w, h1, h2, h3, h4⟩ := sub_loop v hv hlv q hq0 hq1 (val ((u.drop lo).take (v.length + 1))) v.length 0 ((u.drop lo).take (v.length + 1)) 0 0 (by omega) (okl_take (okl_drop hu _) _) (by rw [List.length_take, List.length_drop]; omega) (.inl rfl) (by omega) (by omega) (by simp [val])
 refine ⟨neg, w, h1, h2, h3, ?_⟩
 unfold nat_subtract.f
 refine Ev.ite_pos (by omega) (Ev.ite_pos (by omega) (Ev.ite_pos (by omega) ?_))
 simp only [Int.toNat_natCast]
 rw [e]
 exact Ev.bind (f := fun _ t => some (t.1, u.take lo ++ t.2 ++ u.drop (lo + v.length + 1))) h4 (Ev.now _)
theorem add_loop (v : List Int) (hv : okl v) (hlv : lenok v) (U : Nat) (d : Nat) : ∀ (i : Nat) (u : List Int) (c : Int), i + d = v.length → okl u → u.length = v.length + 1 →
  0 ≤ c → c < 4294967296 → val u + 4294967296 ^ i * c.toNat = U + val (v.take i) →
  ∃ r, okl r ∧ r.length = v.length + 1 ∧ (∃ z : Nat, val r + z * 4294967296 ^ (v.length + 1) = U + val v) ∧ Ev (fun k => nat_addBack.l0 k u v c v (v.length : Int) (i : Int)) r := by
 unfold lenok at hlv
 induction d with
 | zero =>
  intro i u c hi hu hul hc0 hc1 hs
  obtain rfl : i = v.length := by omega
  have hx := getD_okl hu v.length
  rw [List.take_length] at hs
  obtain ⟨t, ht⟩ : ∃ t, t = u.getD v.length 0 + c := ⟨_, rfl⟩
  refine ⟨u.set v.length (t % 4294967296), okl_set hu _ (by omega) (by omega), by rw [List.length_set]; exact hul, ⟨(t / 4294967296).toNat, ?_⟩, ?_⟩
  ·have h1 := val_set u v.length (by omega) (t % 4294967296)
   have e1 : (t % 4294967296).toNat + 4294967296 * (t / 4294967296).toNat = (u.getD v.length 0).toNat + c.toNat := by omega
   have e2 : 4294967296 ^ v.length * ((t % 4294967296).toNat + 4294967296 * (t / 4294967296).toNat) = 4294967296 ^ v.length * ((u.getD v.length 0).toNat + c.toNat) := by rw [e1]
   rw [Nat.pow_succ]
   grind
  ·refine Ev.step (f := fun _ => some (u.set v.length (t % 4294967296))) (fun k => ?_) (Ev.now _)
   simp only [nat_addBack.l0]
   rw [if_neg (by omega), if_pos (by omega), if_pos (by omega), rd_nat, Int.toNat_natCast, show c % 4294967296 = c by omega, ← ht]
 | succ d ih =>
  intro i u c hi hu hul hc0 hc1 hs
  have hx := getD_okl hu i
  have hy := getD_okl hv i
  obtain ⟨t, ht⟩ : ∃ t, t = c + (u.getD i 0 + v.getD i 0) := ⟨_, rfl⟩
  obtain ⟨r, h1, h2, h3, h4⟩ := ih (i + 1) (u.set i (t % 4294967296)) (t / 4294967296) (by omega) (okl_set hu _ (by omega) (by omega)) (by rw [List.length_set]; exact hul) (by omega) (by omega) (by
   have h1 := val_set u i (by omega) (t % 4294967296)
   have e1 : (t % 4294967296).toNat + 4294967296 * (t / 4294967296).toNat = c.toNat + (u.getD i 0).toNat + (v.getD i 0).toNat := by omega
   have e2 : 4294967296 ^ i * ((t % 4294967296).toNat + 4294967296 * (t / 4294967296).toNat) = 4294967296 ^ i * (c.toNat + (u.getD i 0).toNat + (v.getD i 0).toNat) := by rw [e1]
   rw [val_take_succ v i (by omega), Nat.pow_succ]
   grind)
  refine ⟨r, h1, h2, h3, Ev.step (fun k => ?_) h4⟩
  simp only [nat_addBack.l0]
  rw [if_pos (by omega), if_pos (by omega), if_pos (by omega), if_pos (by omega), rd_nat, rd_nat, wrapu64_id (x := u.getD i 0) (by omega) (by omega), wrapu64_id (x := v.getD i 0) (by omega) (by omega), wrapu64_id (x := u.getD i 0 + v.getD i 0) (by omega) (by omega), ← ht, wrapu64_id (x := t) (by omega) (by omega),
   and_low (by omega) (by omega), show t % 4294967296 % 4294967296 = t % 4294967296 by omega, wrap64_id (x := (i : Int) + 1) (by omega) (by omega), Int.toNat_natCast]
  rfl
theorem addBack_ev {u v : List Int} (hu : okl u) (hv : okl v) (hlv : lenok v) {lo : Nat} (hl : lo + v.length + 1 ≤ u.length) :
  ∃ w, okl w ∧ w.length = v.length + 1 ∧ (∃ z : Nat, val w + z * 4294967296 ^ (v.length + 1) = val ((u.drop lo).take (v.length + 1)) + val v) ∧
   Ev (fun k => nat_addBack.f k u (lo : Int) ((lo + v.length + 1 : Nat) : Int) v) (u.take lo ++ w ++ u.drop (lo + v.length + 1)) := by
 have e : (u.take (lo + v.length + 1)).drop lo = (u.drop lo).take (v.length + 1) := by rw [List.drop_take]; congr 1; omega
 obtain ⟨w, h1, h2, h3, h4⟩ := add_loop v hv hlv (val ((u.drop lo).take (v.length + 1))) v.length 0 ((u.drop lo).take (v.length + 1)) 0 (by omega) (okl_take (okl_drop hu _) _) (by rw [List.length_take, List.length_drop]; omega) (by omega) (by omega) (by simp [val])
 refine ⟨w, h1, h2, h3, ?_⟩
 unfold nat_addBack.f
 refine Ev.ite_pos (by omega) (Ev.ite_pos (by omega) (Ev.ite_pos (by omega) ?_))
 simp only [Int.toNat_natCast]
 rw [e]
 exact Ev.bind (f := fun _ t => some (u.take lo ++ t ++ u.drop (lo + v.length + 1))) h4 (Ev.now _)
theorem guess_loop (u0 v1 v0 head : Nat) (h0 : u0 < 4294967296) (h1 : v1 < 4294967296) (h1' : 2147483648 ≤ v1) (h2 : v0 < 4294967296) (hh : head < v1 * 4294967296 + 4294967296) (d : Nat) :
  ∀ (digit rest : Nat), 4294967296 - rest ≤ d → digit * v1 + rest = head → rest < 4294967296 → (∀ q, q < 4294967296 → q * (v1 * 4294967296 + v0) ≤ head * 4294967296 + u0 → q ≤ digit) →
   ∃ r : Nat, r < 4294967296 ∧ r * (v1 * 4294967296 + v0) ≤ head * 4294967296 + u0 ∧ (∀ q, q < 4294967296 → q * (v1 * 4294967296 + v0) ≤ head * 4294967296 + u0 → q ≤ r) ∧
    Ev (fun k => nat_guess.l0 k (u0 : Int) (v1 : Int) (v0 : Int) (digit : Int) (rest : Int)) (r : Int) := by
 induction d with
 | zero => intro digit rest hd _ hr; omega
 | succ d ih =>
  intro digit rest hd he hr hq
  have hdv : digit * 2147483648 ≤ digit * v1 := Nat.mul_le_mul_left _ h1'
  have hdb : digit < 8589934592 := by omega
  have eU : head * 4294967296 + u0 = digit * (v1 * 4294967296) + (rest * 4294967296 + u0) := by rw [← he]; grind
  have eV : digit * (v1 * 4294967296 + v0) = digit * (v1 * 4294967296) + digit * v0 := Nat.mul_add _ _ _
  by_cases ht : 4294967296 ≤ digit ∨ rest * 4294967296 + u0 < digit * v0
  ·
   have hpos : 1 ≤ digit := by
    rcases ht with h | h
    ·omega
    ·rcases Nat.eq_zero_or_pos digit with h3 | h3
     ·rw [h3] at h; omega
     ·exact h3
   have hq' : ∀ q, q < 4294967296 → q * (v1 * 4294967296 + v0) ≤ head * 4294967296 + u0 → q ≤ digit - 1 := by
    intro q hq1 hq2
    have h3 := hq q hq1 hq2
    rcases ht with h | h
    ·omega
    ·rcases Nat.lt_or_ge q digit with h4 | h4
     ·omega
     ·have : q = digit := by omega
      rw [this, eV, eU] at hq2
      omega
   have hstep : ∀ k, nat_guess.l0 (k + 2) (u0 : Int) (v1 : Int) (v0 : Int) (digit : Int) (rest : Int) = (if IntKind.u64.wrap ((rest : Int) + IntKind.u64.wrap (v1 : Int)) > 4294967295 then some (IntKind.u64.wrap ((digit : Int) - 1)) else nat_guess.l0 k (u0 : Int) (v1 : Int) (v0 : Int) (IntKind.u64.wrap ((digit : Int) - 1)) (IntKind.u64.wrap ((rest : Int) + IntKind.u64.wrap (v1 : Int)))) := by
    intro k
    simp only [nat_guess.l0]
    by_cases h : 4294967296 ≤ digit
    ·rw [if_pos (by omega)]; simp only [nat_guess.j1, if_true]
    ·rw [if_neg (by omega)]
     have h3 := ht.resolve_left h
     have h4 : (digit : Int) * (v0 : Int) = ((digit * v0 : Nat) : Int) := by simp
     have h5 : digit * v0 ≤ 4294967295 * 4294967295 := Nat.mul_le_mul (by omega) (by omega)
     have h6 : decide (IntKind.u64.wrap ((digit : Int) * IntKind.u64.wrap (v0 : Int)) > Go.bits .or .u64 (IntKind.u64.wrap ((rest : Int) * 4294967296)) (IntKind.u64.wrap (u0 : Int))) = true := by
      rw [wrapu64_id (x := (v0 : Int)) (by omega) (by omega), h4, wrapu64_id (by omega) (by omega), wrapu64_id (x := (rest : Int) * 4294967296) (by omega) (by omega), wrapu64_id (x := (u0 : Int)) (by omega) (by omega), or_high (by omega) (by omega) (by omega) (by omega)]
      exact decide_eq_true (by omega)
     rw [h6]; simp only [nat_guess.j1, if_true]
   have w1 : IntKind.u64.wrap ((rest : Int) + IntKind.u64.wrap (v1 : Int)) = ((rest + v1 : Nat) : Int) := by rw [wrapu64_id (x := (v1 : Int)) (by omega) (by omega), wrapu64_id (by omega) (by omega)]; simp
   have w2 : IntKind.u64.wrap ((digit : Int) - 1) = ((digit - 1 : Nat) : Int) := by rw [wrapu64_id (by omega) (by omega)]; omega
   rw [w1, w2] at hstep
   have e1 : (digit - 1) * v1 + (rest + v1) = head := by
    obtain ⟨m, rfl⟩ : ∃ m, digit = m + 1 := ⟨digit - 1, by omega⟩
    rw [Nat.add_mul] at he
    simp; omega
   by_cases hb : 4294967296 ≤ rest + v1
   ·
    have hlt : (digit - 1) * v1 < 4294967296 * v1 := by omega
    have hlt2 : digit - 1 < 4294967296 := Nat.lt_of_mul_lt_mul_right hlt
    refine ⟨digit - 1, hlt2, ?_, hq', ?_⟩
    ·have h5 : (digit - 1) * v0 ≤ 4294967295 * 4294967295 := Nat.mul_le_mul (by omega) (by omega)
     have : head * 4294967296 + u0 = (digit - 1) * (v1 * 4294967296) + ((rest + v1) * 4294967296 + u0) := by rw [← e1]; grind
     rw [this, Nat.mul_add]
     omega
    ·refine ⟨2, fun k hk => ?_⟩
     obtain ⟨m, rfl⟩ : ∃ m, k = m + 2 := ⟨k - 2, by omega⟩
     show nat_guess.l0 (m + 2) _ _ _ _ _ = _
     rw [hstep, if_pos (by omega)]
   ·obtain ⟨r, a1, a2, a3, a4⟩ := ih (digit - 1) (rest + v1) (by omega) e1 (by omega) hq'
    refine ⟨r, a1, a2, a3, ?_⟩
    obtain ⟨K, hK⟩ := a4
    refine ⟨K + 2, fun k hk => ?_⟩
    obtain ⟨m, rfl⟩ : ∃ m, k = m + 2 := ⟨k - 2, by omega⟩
    show nat_guess.l0 (m + 2) _ _ _ _ _ = _
    rw [hstep, if_neg (by omega)]
    exact hK m (by omega)
  ·
   have h3 : digit < 4294967296 := by omega
   have h4 : digit * v0 ≤ rest * 4294967296 + u0 := by omega
   refine ⟨digit, h3, by rw [eV, eU]; omega, hq, ⟨2, fun k hk => ?_⟩⟩
   obtain ⟨m, rfl⟩ : ∃ m, k = m + 2 := ⟨k - 2, by omega⟩
   show nat_guess.l0 (m + 1 + 1) _ _ _ _ _ = _
   simp only [nat_guess.l0]
   rw [if_neg (by omega)]
   have h4' : (digit : Int) * (v0 : Int) = ((digit * v0 : Nat) : Int) := by simp
   have h6 : decide (IntKind.u64.wrap ((digit : Int) * IntKind.u64.wrap (v0 : Int)) > Go.bits .or .u64 (IntKind.u64.wrap ((rest : Int) * 4294967296)) (IntKind.u64.wrap (u0 : Int))) = false := by
    rw [wrapu64_id (x := (v0 : Int)) (by omega) (by omega), h4', wrapu64_id (by omega) (by omega), wrapu64_id (x := (rest : Int) * 4294967296) (by omega) (by omega), wrapu64_id (x := (u0 : Int)) (by omega) (by omega), or_high (by omega) (by omega) (by omega) (by omega)]
    exact decide_eq_false (by omega)
   rw [h6]
   simp only [nat_guess.j1]
   rw [if_neg (by decide)]
theorem guess_ev {u2 u1 u0 v1 v0 : Nat} (hu1 : u1 < 4294967296) (h0 : u0 < 4294967296) (h1 : v1 < 4294967296) (h1' : 2147483648 ≤ v1) (h2 : v0 < 4294967296) (hu2 : u2 ≤ v1) :
  ∃ r : Nat, r < 4294967296 ∧ r * (v1 * 4294967296 + v0) ≤ (u2 * 4294967296 + u1) * 4294967296 + u0 ∧ (∀ q, q < 4294967296 → q * (v1 * 4294967296 + v0) ≤ (u2 * 4294967296 + u1) * 4294967296 + u0 → q ≤ r) ∧
   Ev (fun k => nat_guess.f k (u2 : Int) (u1 : Int) (u0 : Int) (v1 : Int) (v0 : Int)) (r : Int) := by
 have hm : u2 * 4294967296 ≤ v1 * 4294967296 := Nat.mul_le_mul_right _ hu2
 obtain ⟨head, hhead⟩ : ∃ h, h = u2 * 4294967296 + u1 := ⟨_, rfl⟩
 have hd := Nat.div_add_mod head v1
 have hr := Nat.mod_lt head (show 0 < v1 by omega)
 obtain ⟨r, a1, a2, a3, a4⟩ := guess_loop u0 v1 v0 head h0 h1 h1' h2 (by omega) (4294967296 - head % v1) (head / v1) (head % v1) (Nat.le_refl _) (by rw [Nat.mul_comm]; exact hd) (by omega) (fun q hq1 hq2 => by
  rw [Nat.le_div_iff_mul_le (by omega)]
  have h3 : q * (v1 * 4294967296) ≤ q * (v1 * 4294967296 + v0) := Nat.mul_le_mul_left q (Nat.le_add_right _ _)
  have h4 : q * (v1 * 4294967296) = q * v1 * 4294967296 := by grind
  omega)
 refine ⟨r, a1, by rw [← hhead]; exact a2, by rw [← hhead]; exact a3, ?_⟩
 unfold nat_guess.f
 refine Ev.ite_neg (by rw [wrapu64_id (by omega) (by omega)]; omega) ?_
 have e1 : Go.bits .or .u64 (IntKind.u64.wrap ((IntKind.u64.wrap (u2 : Int)) * 4294967296)) (IntKind.u64.wrap (u1 : Int)) = (head : Int) := by
  rw [wrapu64_id (x := (u2 : Int)) (by omega) (by omega), wrapu64_id (x := (u2 : Int) * 4294967296) (by omega) (by omega), wrapu64_id (x := (u1 : Int)) (by omega) (by omega), or_high (by omega) (by omega) (by omega) (by omega)]
  omega
 have e2 : head / v1 ≤ head := Nat.div_le_self _ _
 have e3 : IntKind.u64.wrap (Int.tdiv (head : Int) (IntKind.u64.wrap (v1 : Int))) = ((head / v1 : Nat) : Int) := by
  rw [wrapu64_id (x := (v1 : Int)) (by omega) (by omega), Int.tdiv_eq_ediv_of_nonneg (by omega), ← Int.natCast_ediv, wrapu64_id (Int.natCast_nonneg _) (by omega)]
 have e4 : Int.tmod (head : Int) (IntKind.u64.wrap (v1 : Int)) = ((head % v1 : Nat) : Int) := by
  rw [wrapu64_id (x := (v1 : Int)) (by omega) (by omega), Int.tmod_eq_emod_of_nonneg (by omega), ← Int.natCast_emod]
 rw [e1, e3, e4]
 exact a4
theorem knuth {U v V2 U3 P vr ur r : Nat} (hP : 0 < P) (hv : v = V2 * P + vr) (hvr : vr < P) (hU : U = U3 * P + ur) (hur : ur < P) (hlt : U < v * 4294967296) (hbig : 2147483648 * 4294967296 ≤ V2)
  (hr : r < 4294967296) (hr1 : r * V2 ≤ U3) (hr2 : ∀ q, q < 4294967296 → q * V2 ≤ U3 → q ≤ r) : U / v ≤ r ∧ r ≤ U / v + 1 := by
 have hVP : 1 * P ≤ V2 * P := Nat.mul_le_mul_right _ (by omega)
 have hv0 : 0 < v := by omega
 have hd := Nat.div_add_mod U v
 have hm := Nat.mod_lt U hv0
 obtain ⟨q, hq⟩ : ∃ q, q = U / v := ⟨_, rfl⟩
 rw [← hq] at hd ⊢
 have hq1 : q < 4294967296 := by rw [hq, Nat.div_lt_iff_lt_mul hv0, Nat.mul_comm]; exact hlt
 refine ⟨hr2 q hq1 ?_, ?_⟩
 ·have h1 : q * V2 * P ≤ q * v := by rw [Nat.mul_assoc]; exact Nat.mul_le_mul_left _ (by omega)
  have h2 : q * V2 * P < (U3 + 1) * P := by rw [Nat.add_mul]; rw [Nat.mul_comm q v] at h1; omega
  have := Nat.lt_of_mul_lt_mul_right h2
  omega
 ·have h1 : r * V2 * P ≤ U3 * P := Nat.mul_le_mul_right _ hr1
  have h2 : r * v = r * V2 * P + r * vr := by rw [hv, Nat.mul_add, Nat.mul_assoc]
  have h3 : r * vr ≤ r * P := Nat.mul_le_mul_left _ (by omega)
  have h4 : r * P ≤ 4294967296 * P := Nat.mul_le_mul_right _ (by omega)
  have h5 : 4294967296 * P ≤ V2 * P := Nat.mul_le_mul_right _ (by omega)
  have h6 : r * v < (q + 2) * v := by rw [Nat.add_mul, Nat.mul_comm q v]; omega
  have := Nat.lt_of_mul_lt_mul_right h6
  omega
theorem drop_app {l w : List Int} {d m : Nat} (hd : d ≤ l.length) : ((l.take d) ++ w ++ l.drop m).drop d = w ++ l.drop m := by
 rw [List.append_assoc, List.drop_append, List.length_take, Nat.min_eq_left hd, Nat.sub_self, List.drop_of_length_le (by rw [List.length_take]; omega)]; rfl
theorem divmod_loop (v : List Int) (hv : okl v) (hlv : lenok v) (n : Nat) (hn : v.length = n) (hn2 : 2 ≤ n) (htop : 2147483648 ≤ v.getD (n - 1) 0) (s : Nat) (hs : s ≤ 31) (X : Nat) (d : Nat) :
  ∀ (u q : List Int), okl u → okl q → d + n ≤ u.length → lenok2 u → d ≤ q.length → lenok2 q → val (u.drop d) < val v → X = val (q.drop d) * (4294967296 ^ d * val v) + val u →
   Ev (fun k => nat_DivMod.l0 k (n : Int) (s : Int) u v q ((d : Int) - 1)) (limbs (X / val v), limbs (X % val v / 2 ^ s), true) := by
 have hvB : val v < 4294967296 ^ n := by have := val_lt hv; rwa [hn] at this
 unfold lenok at hlv
 induction d with
 | zero =>
  intro u q hu hq hul hlu hql hlq hlt hX
  rw [List.drop_zero] at hlt hX
  rw [Nat.pow_zero, Nat.one_mul] at hX
  unfold lenok2 at hlu hlq
  have hv0 : 0 < val v := by omega
  have e1 : X / val v = val q := by rw [hX]; exact Nat.div_eq_of_lt_le (by omega) (by rw [Nat.add_mul]; omega)
  have e2 : X % val v = val u := by rw [hX, Nat.mul_comm, Nat.mul_add_mod, Nat.mod_eq_of_lt hlt]
  have e3 : val (u.take n) = val u := by
   have h1 := val_take_drop u n (by omega)
   rcases Nat.eq_zero_or_pos (val (u.drop n)) with h | h
   ·rw [h] at h1; omega
   ·have : 4294967296 ^ n * 1 ≤ 4294967296 ^ n * val (u.drop n) := Nat.mul_le_mul_left _ h
    omega
  rw [e1, e2, ← e3]
  refine Ev.step (f := fun k => (nat_trim.f k q).bind fun t => if 0 ≤ (n : Int) then (if (n : Int) ≤ (u.length : Int) then ((nat_shiftDown.f k (u.take ((n : Int) : Int).toNat) (s : Int)).bind fun t2 => some (t, t2, true)) else none) else none) (fun k => ?_) ?_
  ·simp only [nat_DivMod.l0]
   rw [if_neg (by omega)]
  ·refine Ev.bind (f := fun k t => if 0 ≤ (n : Int) then (if (n : Int) ≤ (u.length : Int) then ((nat_shiftDown.f k (u.take ((n : Int) : Int).toNat) (s : Int)).bind fun t2 => some (t, t2, true)) else none) else none) (trim_ev2 hq (by unfold lenok2; omega)) ?_
   refine Ev.ite_pos (by omega) (Ev.ite_pos (by omega) ?_)
   rw [Int.toNat_natCast]
   exact Ev.bind (f := fun _ t2 => some (limbs (val q), t2, true)) (shiftDown_ev (okl_take hu n) (by unfold lenok2; rw [List.length_take]; omega) hs) (Ev.now _)
 | succ d ih =>
  intro u q hu hq hul hlu hql hlq hlt hX
  unfold lenok2 at hlu hlq
  have HX := Aside0.mk hX
  clear hX
  obtain ⟨m, rfl⟩ : ∃ m, n = m + 2 := ⟨n - 2, by omega⟩
  have hul2 : u.length < 17592186044417 := by omega
  have i1 := Aside0.mk (show wrap64 ((d : Int) + ((m + 2 : Nat) : Int)) = ((d + (m + 2) : Nat) : Int) by rw [wrap64_id (by omega) (by omega)]; omega)
  have i2 := Aside0.mk (show wrap64 (((d + (m + 2) : Nat) : Int) - 1) = ((d + (m + 1) : Nat) : Int) by rw [wrap64_id (by omega) (by omega)]; omega)
  have i3 := Aside0.mk (show wrap64 (((d + (m + 2) : Nat) : Int) - 2) = ((d + m : Nat) : Int) by rw [wrap64_id (by omega) (by omega)]; omega)
  have i4 := Aside0.mk (show wrap64 (((m + 2 : Nat) : Int) - 1) = ((m + 1 : Nat) : Int) by rw [wrap64_id (by omega) (by omega)]; omega)
  have i5 := Aside0.mk (show wrap64 (((m + 2 : Nat) : Int) - 2) = ((m : Nat) : Int) by rw [wrap64_id (by omega) (by omega)]; omega)
  have i6 := Aside0.mk (show wrap64 (((d + (m + 2) : Nat) : Int) + 1) = ((d + (m + 2) + 1 : Nat) : Int) by rw [wrap64_id (by omega) (by omega)]; omega)
  have i7 := Aside0.mk (show wrap64 ((d : Int) - 1) = (d : Int) - 1 from wrap64_id (by omega) (by omega))
  obtain ⟨W, hW⟩ : ∃ W, W = (u.drop d).take (m + 2 + 1) := ⟨_, rfl⟩
  have hWl : W.length = m + 2 + 1 := by rw [hW, List.length_take, List.length_drop]; omega
  have hWo : okl W := by rw [hW]; exact okl_take (okl_drop hu _) _
  have hWg : ∀ i, i < m + 2 + 1 → W.getD i 0 = u.getD (d + i) 0 := fun i hi => by
   rw [hW, List.getD_eq_getElem?_getD, List.getElem?_take_of_lt hi, List.getElem?_drop, ← List.getD_eq_getElem?_getD]
  have e1 := val_drop_one u d (by omega)
  have hud := getD_okl hu d
  have hBv : val (u.drop d) < val v * 4294967296 := by
   have : (val (u.drop (d + 1)) + 1) * 4294967296 ≤ val v * 4294967296 := Nat.mul_le_mul_right _ hlt
   omega
  obtain ⟨P, hP⟩ : ∃ P, P = 4294967296 ^ m := ⟨_, rfl⟩
  have hP0 : 0 < P := by rw [hP]; exact Nat.pow_pos (by decide)
  obtain ⟨T1, hT1⟩ : ∃ T, T = P * 4294967296 := ⟨_, rfl⟩
  obtain ⟨T2, hT2⟩ : ∃ T, T = T1 * 4294967296 := ⟨_, rfl⟩
  obtain ⟨T3, hT3⟩ : ∃ T, T = T2 * 4294967296 := ⟨_, rfl⟩
  have p1 := Aside0.mk (show (4294967296 : Nat) ^ (m + 1) = T1 by rw [Nat.pow_succ, ← hP, hT1])
  have p2 := Aside0.mk (show (4294967296 : Nat) ^ (m + 2) = T2 by rw [Nat.pow_succ, p1.out, hT2])
  have p3 := Aside0.mk (show (4294967296 : Nat) ^ (m + 2 + 1) = T3 by rw [Nat.pow_succ, p2.out, hT3])
  have HP := Aside0.mk hP
  clear hP
  rw [p2.out] at hvB
  have hWv : val (u.drop d) = val W ∧ val (u.drop (d + (m + 2) + 1)) = 0 := by
   have h1 := val_take_drop (u.drop d) (m + 2 + 1) (by rw [List.length_drop]; omega)
   rw [← hW, List.drop_drop, show d + (m + 2 + 1) = d + (m + 2) + 1 by omega, p3.out] at h1
   rcases Nat.eq_zero_or_pos (val (u.drop (d + (m + 2) + 1))) with h | h
   ·exact ⟨by rw [h1, h, Nat.mul_zero, Nat.add_zero], h⟩
   ·have : T3 * 1 ≤ T3 * val (u.drop (d + (m + 2) + 1)) := Nat.mul_le_mul_left T3 h
    omega
  obtain ⟨hWv, hz⟩ := hWv
  have w0 := val_take_succ W m (by omega)
  have w1 := val_take_succ W (m + 1) (by omega)
  have w2 := val_take_succ W (m + 2) (by omega)
  have hWt : W.take (m + 2 + 1) = W := List.take_of_length_le (by omega)
  rw [hWt] at w2
  have v0 := val_take_succ v m (by omega)
  have v1 := val_take_succ v (m + 1) (by omega)
  have hvt : v.take (m + 1 + 1) = v := List.take_of_length_le (by omega)
  rw [hvt] at v1
  have bu2 := getD_okl hWo (m + 2)
  have bu1 := getD_okl hWo (m + 1)
  have bu0 := getD_okl hWo m
  have bv1 := getD_okl hv (m + 1)
  have bv0 := getD_okl hv m
  have bur := val_lt (okl_take hWo m)
  have bvr := val_lt (okl_take hv m)
  rw [List.length_take, Nat.min_eq_left (by omega)] at bur bvr
  obtain ⟨u2, hu2⟩ := Int.eq_ofNat_of_zero_le bu2.1
  obtain ⟨u1, hu1⟩ := Int.eq_ofNat_of_zero_le bu1.1
  obtain ⟨u0, hu0⟩ := Int.eq_ofNat_of_zero_le bu0.1
  obtain ⟨y1, hy1⟩ := Int.eq_ofNat_of_zero_le bv1.1
  obtain ⟨y0, hy0⟩ := Int.eq_ofNat_of_zero_le bv0.1
  rw [show m + 2 - 1 = m + 1 by omega, hy1] at htop
  rw [hu2] at w2 bu2
  rw [hu1] at w1 bu1
  rw [hu0] at w0 bu0
  rw [hy1] at v1 bv1
  rw [hy0] at v0 bv0
  simp only [Int.toNat_natCast] at w0 w1 w2 v0 v1
  rw [p1.out] at w1 v1
  rw [p2.out] at w2
  rw [← HP.out] at w0 v0 bur bvr
  obtain ⟨V2, hV2⟩ : ∃ V, V = y1 * 4294967296 + y0 := ⟨_, rfl⟩
  obtain ⟨U3, hU3⟩ : ∃ V, V = (u2 * 4294967296 + u1) * 4294967296 + u0 := ⟨_, rfl⟩
  have eV : val v = V2 * P + val (v.take m) := by rw [v1, v0, hV2, hT1]; grind
  have eU : val W = U3 * P + val (W.take m) := by rw [w2, w1, w0, hU3, hT2, hT1]; grind
  have hU : val W < val v * 4294967296 := by omega
  have h2 : u2 ≤ y1 := by
   have h3 : T2 * u2 ≤ val W := by rw [w2]; omega
   have h4 : val v < T1 * (y1 + 1) := by
    rw [v1, v0, Nat.mul_add]
    have : P * y0 ≤ P * 4294967295 := Nat.mul_le_mul_left P (by omega)
    omega
   have h5 : val v * 4294967296 < T1 * (y1 + 1) * 4294967296 := by omega
   have h7 : T1 * (y1 + 1) * 4294967296 = T2 * (y1 + 1) := by rw [hT2]; grind
   have h6 : T2 * u2 < T2 * (y1 + 1) := by omega
   have := Nat.lt_of_mul_lt_mul_left h6
   omega
  obtain ⟨r, r1, r2, r3, r4⟩ := guess_ev (u2 := u2) (u1 := u1) (u0 := u0) (v1 := y1) (v0 := y0) (by omega) (by omega) (by omega) (by omega) (by omega) h2
  rw [← hV2, ← hU3] at r2
  have r3' : ∀ q, q < 4294967296 → q * V2 ≤ U3 → q ≤ r := by rw [hV2, hU3]; exact r3
  have hk := knuth hP0 eV bvr eU bur hU (by omega) r1 r2 r3'
  have hv0 : 0 < val v := by
   have : 1 * P ≤ V2 * P := Nat.mul_le_mul_right P (by omega)
   omega
  have hdm := Nat.div_add_mod (val W) (val v)
  have hml := Nat.mod_lt (val W) hv0
  obtain ⟨Q, hQ⟩ : ∃ Q, Q = val W / val v := ⟨_, rfl⟩
  obtain ⟨R, hR⟩ : ∃ R, R = val W % val v := ⟨_, rfl⟩
  rw [← hQ, ← hR] at hdm
  rw [← hQ] at hk
  rw [← hR] at hml
  clear w0 w1 w2 v0 v1 bu2 bu1 bu0 bv1 bv0 bur bvr eV eU h2 r2 r3 r3' hud e1 hWt hvt hV2 hU3
  have hQ1 : Q < 4294967296 := by omega
  have hlen : d + v.length + 1 ≤ u.length := by omega
  obtain ⟨neg, w, a1, a2, a3, a4⟩ := subtract_ev hu hv (by unfold lenok; omega) (q := (r : Int)) (by omega) (by omega) hlen
  rw [hn, ← hW, Int.toNat_natCast] at a3
  rw [hn] at a2 a4
  have rest : ∀ w' : List Int, okl w' → w'.length = m + 2 + 1 → val w' = R →
    Ev (fun k => nat_DivMod.l0 k ((m + 2 : Nat) : Int) (s : Int) (u.take d ++ w' ++ u.drop (d + (m + 2) + 1)) v (q.set d (Q : Int)) ((d : Int) - 1)) (limbs (X / val v), limbs (X % val v / 2 ^ s), true) := by
   intro w' b1 b2 b3
   have c1 : ((u.take d ++ w' ++ u.drop (d + (m + 2) + 1)).drop d) = w' ++ u.drop (d + (m + 2) + 1) := drop_app (by omega)
   have c2 : val (w' ++ u.drop (d + (m + 2) + 1)) = R := by rw [val_append, hz, b3]; omega
   refine ih _ _ (okl_append.2 ⟨okl_append.2 ⟨okl_take hu _, b1⟩, okl_drop hu _⟩) (okl_set hq _ (by omega) (by omega)) ?_ ?_ ?_ ?_ ?_ ?_
   ·simp only [List.length_append, List.length_take, List.length_drop]; omega
   ·unfold lenok2; simp only [List.length_append, List.length_take, List.length_drop]; omega
   ·rw [List.length_set]; omega
   ·unfold lenok2; rw [List.length_set]; omega
   ·rw [c1, c2]; exact hml
   ·have f1 : val (u.take d ++ w' ++ u.drop (d + (m + 2) + 1)) = val (u.take d) + 4294967296 ^ d * R := by
     rw [List.append_assoc, val_append, c2, List.length_take, Nat.min_eq_left (by omega)]
    have f2 := val_take_drop u d (by omega)
    have f3 : val ((q.set d (Q : Int)).drop d) = Q + 4294967296 * val (q.drop (d + 1)) := by
     rw [val_drop_one _ d (by rw [List.length_set]; omega), List.getD_eq_getElem?_getD, List.getElem?_set_self (by omega), List.drop_set_of_lt (by omega)]
     rfl
    rw [f1, f3, HX.out, f2, hWv, ← hdm, Nat.pow_succ]
    grind
  have g2 : rd u ((d + (m + 2) : Nat) : Int) = (u2 : Int) := by rw [rd_nat, ← hWg (m + 2) (by omega)]; exact hu2
  have g1 : rd u ((d + (m + 1) : Nat) : Int) = (u1 : Int) := by rw [rd_nat, ← hWg (m + 1) (by omega)]; exact hu1
  have g0 : rd u ((d + m : Nat) : Int) = (u0 : Int) := by rw [rd_nat, ← hWg m (by omega)]; exact hu0
  have k1 : rd v ((m + 1 : Nat) : Int) = (y1 : Int) := by rw [rd_nat]; exact hy1
  have k0 : rd v ((m : Nat) : Int) = (y0 : Int) := by rw [rd_nat]; exact hy0
  have e0 : ((d + 1 : Nat) : Int) - 1 = (d : Int) := by omega
  rw [e0]
  refine Ev.step (f := fun k => (nat_guess.f k (u2 : Int) (u1 : Int) (u0 : Int) (y1 : Int) (y0 : Int)).bind fun t223 => (nat_subtract.f k u (d : Int) ((d + (m + 2) + 1 : Nat) : Int) v t223).bind fun bt228 =>
   if bt228.1 = true then ((nat_addBack.f k bt228.2 (d : Int) ((d + (m + 2) + 1 : Nat) : Int) v).bind fun t234 => nat_DivMod.l0 k ((m + 2 : Nat) : Int) (s : Int) t234 v (q.set d ((IntKind.u64.wrap (t223 - 1)) % 4294967296)) ((d : Int) - 1))
   else nat_DivMod.l0 k ((m + 2 : Nat) : Int) (s : Int) bt228.2 v (q.set d (t223 % 4294967296)) ((d : Int) - 1)) (fun k => ?_) ?_
  ·simp only [nat_DivMod.l0]
   rw [if_pos (by omega), i1.out, if_pos (by omega), if_pos (by omega), i2.out, if_pos (by omega), if_pos (by omega), i3.out, if_pos (by omega), if_pos (by omega), i4.out, if_pos (by omega), if_pos (by omega), i5.out, if_pos (by omega), if_pos (by omega), i6.out, i7.out, g2, g1, g0, k1, k0]
   have t1 : (0 : Int) ≤ (d : Int) := by omega
   have t2 : (d : Int) ≤ ((d + (m + 2) + 1 : Nat) : Int) := by omega
   have t3 : ((d + (m + 2) + 1 : Nat) : Int) ≤ (u.length : Int) := by omega
   have t4 : (d : Int) < (q.length : Int) := by omega
   simp only [t1, t2, t3, t4, if_true, Int.toNat_natCast]
  ·refine Ev.bind (f := fun k t223 => (nat_subtract.f k u (d : Int) ((d + (m + 2) + 1 : Nat) : Int) v t223).bind fun bt228 =>
    if bt228.1 = true then ((nat_addBack.f k bt228.2 (d : Int) ((d + (m + 2) + 1 : Nat) : Int) v).bind fun t234 => nat_DivMod.l0 k ((m + 2 : Nat) : Int) (s : Int) t234 v (q.set d ((IntKind.u64.wrap (t223 - 1)) % 4294967296)) ((d : Int) - 1))
    else nat_DivMod.l0 k ((m + 2 : Nat) : Int) (s : Int) bt228.2 v (q.set d (t223 % 4294967296)) ((d : Int) - 1)) r4 ?_
   refine Ev.bind (f := fun k (bt228 : Bool × List Int) =>
    if bt228.1 = true then ((nat_addBack.f k bt228.2 (d : Int) ((d + (m + 2) + 1 : Nat) : Int) v).bind fun t234 => nat_DivMod.l0 k ((m + 2 : Nat) : Int) (s : Int) t234 v (q.set d ((IntKind.u64.wrap ((r : Int) - 1)) % 4294967296)) ((d : Int) - 1))
    else nat_DivMod.l0 k ((m + 2 : Nat) : Int) (s : Int) bt228.2 v (q.set d ((r : Int) % 4294967296)) ((d : Int) - 1)) a4 ?_
   have hQv : Q * val v = val v * Q := Nat.mul_comm _ _
   cases neg with
   | false =>
    refine Ev.ite_neg (by simp) ?_
    simp only [Bool.false_eq_true, if_false, Nat.add_zero] at a3
    have hrq : r = Q := by
     rcases Nat.lt_or_ge Q r with h | h
     ·have : (Q + 1) * val v ≤ r * val v := Nat.mul_le_mul_right _ h
      rw [Nat.add_mul] at this
      omega
     ·omega
    have e5 : (r : Int) % 4294967296 = (Q : Int) := by omega
    rw [e5]
    exact rest w a1 a2 (by rw [hrq] at a3; omega)
   | true =>
    refine Ev.ite_pos rfl ?_
    simp only [if_true] at a3
    have hwlt := val_lt a1
    rw [a2, p3.out] at hwlt
    rw [p3.out] at a3
    have hrq : r = Q + 1 := by
     rcases Nat.lt_or_ge Q r with h | h
     ·omega
     ·have : r * val v ≤ Q * val v := Nat.mul_le_mul_right _ h
      omega
    have hu' : okl (u.take d ++ w ++ u.drop (d + (m + 2) + 1)) := okl_append.2 ⟨okl_append.2 ⟨okl_take hu _, a1⟩, okl_drop hu _⟩
    have hul' : (u.take d ++ w ++ u.drop (d + (m + 2) + 1)).length = u.length := by simp only [List.length_append, List.length_take, List.length_drop]; omega
    obtain ⟨w', c1, c2, ⟨z, c3⟩, c4⟩ := addBack_ev hu' hv (by unfold lenok; omega) (lo := d) (by rw [hul']; omega)
    have c5 : ((u.take d ++ w ++ u.drop (d + (m + 2) + 1)).drop d).take (v.length + 1) = w := by
     rw [drop_app (by omega), List.take_append_of_le_length (by omega), List.take_of_length_le (by omega)]
    have c6 : (u.take d ++ w ++ u.drop (d + (m + 2) + 1)).take d = u.take d := by
     rw [List.append_assoc, List.take_append_of_le_length (by rw [List.length_take]; omega), List.take_of_length_le (by rw [List.length_take]; omega)]
    have c7 : (u.take d ++ w ++ u.drop (d + (m + 2) + 1)).drop (d + (m + 2) + 1) = u.drop (d + (m + 2) + 1) := by
     rw [List.drop_append, List.length_append, List.length_take, Nat.min_eq_left (by omega), a2, show d + (m + 2) + 1 - (d + (m + 2 + 1)) = 0 by omega, List.drop_of_length_le (by rw [List.length_append, List.length_take]; omega)]; rfl
    rw [c5] at c3
    rw [hn] at c2 c3 c4
    rw [c6, c7] at c4
    have hw'lt := val_lt c1
    rw [c2, p3.out] at hw'lt
    rw [p3.out] at c3
    have e5 : (IntKind.u64.wrap ((r : Int) - 1)) % 4294967296 = (Q : Int) := by rw [wrapu64_id (by omega) (by omega)]; omega
    rw [e5]
    refine Ev.bind (f := fun k t234 => nat_DivMod.l0 k ((m + 2 : Nat) : Int) (s : Int) t234 v (q.set d (Q : Int)) ((d : Int) - 1)) c4 (rest w' c1 c2 ?_)
    have h9 : val w' + z * T3 = R + T3 := by
     rw [hrq, Nat.add_mul, Nat.one_mul] at a3
     omega
    have hRlt : R < T3 := by omega
    rcases Nat.lt_or_ge z 1 with hz1 | hz1
    ·have : z = 0 := by omega
     rw [this] at h9; omega
    ·rcases Nat.lt_or_ge 1 z with hz2 | hz2
     ·have : 2 * T3 ≤ z * T3 := Nat.mul_le_mul_right T3 hz2
      omega
     ·have : z = 1 := by omega
      rw [this] at h9; omega
end Go.Proofs.Ythamhjmhgcpdgaa.Big
end
section
namespace Go.Proofs.Ythamhjmhgcpdgaa.Big
open Go.RowKit Go.Proofs.YthamhjmhgcpdgaaW.PrintWords Go.Proofs.YthamhjmhgcpdgaaW.PrintLast Go.Proofs.YthamhjmhgcpdgaaW.PrintMore Go.Proofs.Ythamhjmhgcpdgaa.Q Go.Proofs.Ythamhjmhgcpdgaa.Th
set_option linter.unusedVariables false
set_option linter.unusedSimpArgs false
set_option maxRecDepth 4000
def T8 : ByteArray := ⟨#[0, 1, 2, 2, 3, 3, 3, 3, 4, 4, 4, 4, 4, 4, 4, 4, 5, 5, 5, 5, 5, 5, 5, 5, 5, 5, 5, 5, 5, 5, 5, 5, 6, 6, 6, 6, 6, 6, 6, 6, 6, 6, 6, 6, 6, 6, 6, 6, 6, 6, 6, 6, 6, 6, 6, 6, 6, 6, 6, 6, 6, 6, 6, 6, 7, 7, 7, 7, 7, 7, 7, 7, 7, 7, 7, 7, 7, 7, 7, 7, 7, 7, 7, 7, 7, 7, 7, 7, 7, 7, 7, 7, 7, 7, 7, 7, 7, 7, 7, 7, 7, 7, 7, 7, 7, 7, 7, 7, 7, 7, 7, 7, 7, 7, 7, 7, 7, 7, 7, 7, 7, 7, 7, 7, 7, 7, 7, 7, 8, 8, 8, 8, 8, 8, 8, 8, 8, 8, 8, 8, 8, 8, 8, 8, 8, 8, 8, 8, 8, 8, 8, 8, 8, 8, 8, 8, 8, 8, 8, 8, 8, 8, 8, 8, 8, 8, 8, 8, 8, 8, 8, 8, 8, 8, 8, 8, 8, 8, 8, 8, 8, 8, 8, 8, 8, 8, 8, 8, 8, 8, 8, 8, 8, 8, 8, 8, 8, 8, 8, 8, 8, 8, 8, 8, 8, 8, 8, 8, 8, 8, 8, 8, 8, 8, 8, 8, 8, 8, 8, 8, 8, 8, 8, 8, 8, 8, 8, 8, 8, 8, 8, 8, 8, 8, 8, 8, 8, 8, 8, 8, 8, 8, 8, 8, 8, 8, 8, 8, 8, 8, 8, 8, 8, 8, 8, 8]⟩
def bl (n : Nat) : Nat := if n = 0 then 0 else Nat.log2 n + 1
theorem t8 : ∀ i : Fin 256, bt T8 ((i.val : Nat) : Int) = ((bl i.val : Nat) : Int) ∧ i.val < 2 ^ bl i.val ∧ (i.val ≠ 0 → 1 ≤ bl i.val ∧ 2 ^ (bl i.val - 1) ≤ i.val) ∧ bl i.val ≤ 8 := by decide +kernel
theorem len32 (a : Nat) (h : a < 4294967296) : ∃ L : Nat, bits_Len32.f (a : Int) = some (L : Int) ∧ L ≤ 32 ∧ a < 2 ^ L ∧ (a ≠ 0 → 1 ≤ L ∧ 2 ^ (L - 1) ≤ a) ∧ (a = 0 → L = 0) := by
 have key : ∀ (i s : Nat), i < 256 → i * 2 ^ s ≤ a → a < (i + 1) * 2 ^ s → (s = 0 ∨ i ≠ 0) → s ≤ 24 → ∃ L : Nat, ((s : Int) + bt T8 (i : Int)) = (L : Int) ∧ L ≤ 32 ∧ a < 2 ^ L ∧ (a ≠ 0 → 1 ≤ L ∧ 2 ^ (L - 1) ≤ a) ∧ (a = 0 → L = 0) := by
  intro i s hi h1 h2 h3 h4
  obtain ⟨q1, q2, q3, q4⟩ := t8 ⟨i, hi⟩
  simp only at q1 q2 q3 q4
  refine ⟨s + bl i, by rw [q1]; simp, by omega, ?_, ?_, ?_⟩
  ·rw [Nat.pow_add, Nat.mul_comm]
   have : (i + 1) * 2 ^ s ≤ 2 ^ bl i * 2 ^ s := Nat.mul_le_mul_right _ (by omega)
   omega
  ·intro ha
   have hi0 : i ≠ 0 := by
    rcases h3 with h3 | h3
    ·subst h3; simp at h1 h2; omega
    ·exact h3
   obtain ⟨q5, q6⟩ := q3 hi0
   refine ⟨by omega, ?_⟩
   rw [show s + bl i - 1 = (bl i - 1) + s by omega, Nat.pow_add]
   have : 2 ^ (bl i - 1) * 2 ^ s ≤ i * 2 ^ s := Nat.mul_le_mul_right _ q6
   omega
  ·intro ha
   have hp := Nat.two_pow_pos s
   have hi0 : i = 0 := by
    rcases Nat.eq_zero_or_pos i with h | h
    ·exact h
    ·have : 1 * 2 ^ s ≤ i * 2 ^ s := Nat.mul_le_mul_right _ h
     omega
   have hs0 : s = 0 := by
    rcases h3 with h3 | h3
    ·exact h3
    ·exact absurd hi0 h3
   subst hi0 hs0
   simp [bl]
 have hb : ∀ x : Int, ∀ L : Nat, ∀ s : Int, s + x = (L : Int) → 0 ≤ s → s ≤ 24 → L ≤ 32 → wrap64 (s + wrap64 x) = (L : Int) := by
  intro x L s h1 h2 h3 h4
  rw [wrap64_id (x := x) (by omega) (by omega), h1, wrap64_id (by omega) (by omega)]
 unfold bits_Len32.f
 change ∃ L : Nat, (if (a : Int) ≥ 65536 then (if ((a : Int) / 65536) ≥ 256 then (if 0 ≤ ((((a : Int) / 65536) / 256) % 256) then (if ((((a : Int) / 65536) / 256) % 256) < 256 then (some (wrap64 ((16 + 8) + (wrap64 (bt T8 ((((a : Int) / 65536) / 256) % 256)))))) else (none)) else (none)) else (if 0 ≤ (((a : Int) / 65536) % 256) then (if (((a : Int) / 65536) % 256) < 256 then (some (wrap64 (16 + (wrap64 (bt T8 (((a : Int) / 65536) % 256)))))) else (none)) else (none))) else (if (a : Int) ≥ 256 then (if 0 ≤ (((a : Int) / 256) % 256) then (if (((a : Int) / 256) % 256) < 256 then (some (wrap64 ((0 + 8) + (wrap64 (bt T8 (((a : Int) / 256) % 256)))))) else (none)) else (none)) else (if 0 ≤ (((a : Int)) % 256) then (if (((a : Int)) % 256) < 256 then (some (wrap64 (0 + (wrap64 (bt T8 (((a : Int)) % 256)))))) else (none)) else (none)))) = some (L : Int) ∧ _
 by_cases c1 : 65536 ≤ a
 ·rw [if_pos (by omega)]
  by_cases c2 : 16777216 ≤ a
  ·rw [if_pos (by omega), if_pos (by omega), if_pos (by omega)]
   obtain ⟨L, p1, p2, p3⟩ := key (a / 65536 / 256 % 256) 24 (by omega) (by simp; omega) (by simp; omega) (.inr (by omega)) (by omega)
   refine ⟨L, ?_, p2, p3⟩
   rw [show ((((a : Int) / 65536) / 256) % 256) = ((a / 65536 / 256 % 256 : Nat) : Int) by omega]
   exact congrArg some (hb _ L 24 p1 (by omega) (by omega) p2)
  ·rw [if_neg (by omega), if_pos (by omega), if_pos (by omega)]
   obtain ⟨L, p1, p2, p3⟩ := key (a / 65536 % 256) 16 (by omega) (by simp; omega) (by simp; omega) (.inr (by omega)) (by omega)
   refine ⟨L, ?_, p2, p3⟩
   rw [show (((a : Int) / 65536) % 256) = ((a / 65536 % 256 : Nat) : Int) by omega]
   exact congrArg some (hb _ L 16 p1 (by omega) (by omega) p2)
 ·rw [if_neg (by omega)]
  by_cases c2 : 256 ≤ a
  ·rw [if_pos (by omega), if_pos (by omega), if_pos (by omega)]
   obtain ⟨L, p1, p2, p3⟩ := key (a / 256 % 256) 8 (by omega) (by simp; omega) (by simp; omega) (.inr (by omega)) (by omega)
   refine ⟨L, ?_, p2, p3⟩
   rw [show (((a : Int) / 256) % 256) = ((a / 256 % 256 : Nat) : Int) by omega]
   exact congrArg some (hb _ L 8 p1 (by omega) (by omega) p2)
  ·rw [if_neg (by omega), if_pos (by omega), if_pos (by omega)]
   obtain ⟨L, p1, p2, p3⟩ := key (a % 256) 0 (by omega) (by simp; omega) (by simp; omega) (.inl rfl) (by omega)
   refine ⟨L, ?_, p2, p3⟩
   rw [show ((a : Int) % 256) = ((a % 256 : Nat) : Int) by omega]
   exact congrArg some (hb _ L 0 p1 (by omega) (by omega) p2)
theorem limbs_bounds {y n : Nat} (hn : (limbs y).length = n + 1) : ∃ top P : Nat, Aside0 (P = 4294967296 ^ n) ∧ (limbs y).getD n 0 = (top : Int) ∧ 1 ≤ top ∧ top < 4294967296 ∧ P * top ≤ y ∧ y < P * (top + 1) := by
 have h0 : y ≠ 0 := fun h => by rw [h, limbs_zero] at hn; simp at hn
 have h1 := limbs_top h0
 rw [hn, Nat.add_sub_cancel] at h1
 have h2 := getD_okl (okl_limbs y) n
 obtain ⟨top, ht⟩ := Int.eq_ofNat_of_zero_le h2.1
 have h3 := val_take_succ (limbs y) n (by omega)
 rw [List.take_of_length_le (by omega), val_limbs, ht, Int.toNat_natCast] at h3
 have h4 := val_lt (okl_take (okl_limbs y) n)
 rw [List.length_take, Nat.min_eq_left (by omega)] at h4
 obtain ⟨P, hP⟩ : ∃ P, P = 4294967296 ^ n := ⟨_, rfl⟩
 rw [← hP] at h3 h4
 refine ⟨top, P, ⟨hP⟩, ht, by omega, by omega, by omega, ?_⟩
 rw [Nat.mul_add]
 omega
theorem divmod_big (x y n : Nat) (hn : (limbs y).length = n + 2) (hx : (limbs x).length ≤ 1099511627776) (hxy : y ≤ x) :
  ∃ (s : Nat) (u v : List Int), bits_LeadingZeros32.f (rd (limbs y) ((n + 1 : Nat) : Int)) = some (s : Int) ∧ s ≤ 31 ∧ v.length = n + 3 ∧ Ev (fun k => nat_shiftUp.f k (limbs x) (s : Int)) u ∧ Ev (fun k => nat_shiftUp.f k (limbs y) (s : Int)) v ∧
   Ev (fun k => nat_DivMod.l0 k ((n + 2 : Nat) : Int) (s : Int) u (v.take (n + 2)) (List.replicate ((limbs x).length - (n + 2) + 1) 0) ((((limbs x).length - (n + 2) : Nat) : Int))) (limbs (x / y), limbs (x % y), true) := by
 obtain ⟨top, P, hP, ht, ht1, ht2, hy1, hy2⟩ := limbs_bounds hn
 obtain ⟨L, l1, l2, l3, l4, l5⟩ := len32 top ht2
 obtain ⟨l6, l7⟩ := l4 (by omega)
 have hlen := limbs_len_mono hxy
 obtain ⟨s, hs⟩ : ∃ s, s = 32 - L := ⟨_, rfl⟩
 have hs31 : s ≤ 31 := by omega
 have e1 : bits_LeadingZeros32.f (rd (limbs y) ((n + 1 : Nat) : Int)) = some (s : Int) := by
  unfold bits_LeadingZeros32.f
  rw [rd_nat, ht, l1]
  simp only [Option.bind_some]
  rw [wrap64_id (by omega) (by omega)]
  congr 1; omega
 obtain ⟨u, u1, u2, u3, u4⟩ := shiftUp_ev (okl_limbs x) (by unfold lenok; omega) hs31
 obtain ⟨v, v1, v2, v3, v4⟩ := shiftUp_ev (okl_limbs y) (by unfold lenok; omega) hs31
 rw [val_limbs] at u3 v3
 refine ⟨s, u, v, e1, hs31, by omega, u4, v4, ?_⟩
 have hs0 := Nat.two_pow_pos s
 obtain ⟨S, hS⟩ : ∃ S, S = 2 ^ s := ⟨_, rfl⟩
 have hPP := Aside0.mk (show 4294967296 ^ (n + 2) = P * 4294967296 by rw [hP.out, ← Nat.pow_succ])
 have hP0 : 0 < P := by rw [hP.out]; exact Nat.pow_pos (by decide)
 have hLS : 2 ^ (L - 1) * S = 2147483648 := by rw [hS, ← Nat.pow_add, show L - 1 + s = 31 by omega]
 have hLS2 : 2 ^ L * S = 4294967296 := by rw [hS, ← Nat.pow_add, show L + s = 32 by omega]
 have q1 : 2147483648 ≤ top * S := by rw [← hLS]; exact Nat.mul_le_mul_right _ l7
 have q2 : (top + 1) * S ≤ 4294967296 := by rw [← hLS2]; exact Nat.mul_le_mul_right _ l3
 rw [← hS] at u3 v3 hs0
 have hyS : y * S < P * 4294967296 := by
  have h1 : y * S < P * (top + 1) * S := Nat.mul_lt_mul_of_pos_right hy2 hs0
  have h2 : P * (top + 1) * S ≤ P * 4294967296 := by rw [Nat.mul_assoc]; exact Nat.mul_le_mul_left P q2
  omega
 have hyS2 : P * 2147483648 ≤ y * S := by
  have h1 : P * top * S ≤ y * S := Nat.mul_le_mul_right _ hy1
  have h2 : P * 2147483648 ≤ P * (top * S) := Nat.mul_le_mul_left P q1
  rw [Nat.mul_assoc] at h1
  omega
 have w1 : val (v.take (n + 2)) = y * S := by
  have h1 := val_take_drop v (n + 2) (by omega)
  obtain ⟨T, hT⟩ : ∃ T, T = P * 4294967296 := ⟨_, rfl⟩
  rw [hPP.out, ← hT] at h1
  rcases Nat.eq_zero_or_pos (val (v.drop (n + 2))) with h | h
  ·rw [h, Nat.mul_zero, Nat.add_zero] at h1; rw [← h1, v3]
  ·have h2 : T * 1 ≤ T * val (v.drop (n + 2)) := Nat.mul_le_mul_left T h
   rw [v3] at h1
   omega
 have w2 : (v.take (n + 2)).length = n + 2 := by rw [List.length_take]; omega
 have w3 : 2147483648 ≤ (v.take (n + 2)).getD (n + 2 - 1) 0 := by
  have h1 := val_take_succ (v.take (n + 2)) (n + 1) (by omega)
  rw [List.take_of_length_le (by omega), w1, ← hP.out] at h1
  have h2 := val_lt (okl_take (okl_take v1 (n + 2)) (n + 1))
  rw [List.length_take, Nat.min_eq_left (by omega), ← hP.out] at h2
  have h3 := getD_okl (okl_take v1 (n + 2)) (n + 1)
  obtain ⟨z, hz⟩ := Int.eq_ofNat_of_zero_le h3.1
  rw [show n + 2 - 1 = n + 1 by omega, hz]
  rw [hz, Int.toNat_natCast] at h1
  rcases Nat.lt_or_ge z 2147483648 with h4 | h4
  ·have h5 : P * (z + 1) ≤ P * 2147483648 := Nat.mul_le_mul_left P h4
   rw [Nat.mul_add] at h5
   omega
  ·omega
 obtain ⟨lx, hlx⟩ : ∃ lx, lx = (limbs x).length := ⟨_, rfl⟩
 rw [← hlx] at u2 hx hlen ⊢
 obtain ⟨d, hd⟩ : ∃ d, d = lx - (n + 2) + 1 := ⟨_, rfl⟩
 have hxlt := val_lt (okl_limbs x)
 rw [val_limbs, ← hlx, show lx = d + (n + 1) by omega, Nat.pow_add, ← hP.out] at hxlt
 have f1 : val (u.drop d) < y * S := by
  have h1 := val_take_drop u d (by omega)
  rw [u3] at h1
  obtain ⟨D, hD⟩ : ∃ D, D = 4294967296 ^ d := ⟨_, rfl⟩
  rw [← hD] at h1 hxlt
  have h2 : x * S < D * P * S := Nat.mul_lt_mul_of_pos_right hxlt hs0
  have h3 : D * val (u.drop d) < D * (P * S) := by rw [← Nat.mul_assoc]; omega
  have h4 := Nat.lt_of_mul_lt_mul_left h3
  have h5 : P * 1 * S ≤ y * S := Nat.mul_le_mul_right _ (by
   have : P * 1 ≤ P * top := Nat.mul_le_mul_left P ht1
   omega)
  rw [Nat.mul_one] at h5
  omega
 have := divmod_loop (v.take (n + 2)) (okl_take v1 _) (by unfold lenok; omega) (n + 2) w2 (by omega) w3 s hs31 (x * S) d u (List.replicate d 0) u1 (okl_replicate _) (by omega) (by unfold lenok2; omega) (by simp) (by unfold lenok2; rw [List.length_replicate]; omega) (by rw [w1]; exact f1) (by
  rw [List.drop_of_length_le (by simp), u3]; simp [val])
 have e9 : ((d : Int) - 1) = ((lx - (n + 2) : Nat) : Int) := by omega
 rw [w1, ← hS, Nat.mul_div_mul_right _ _ hs0, Nat.mul_mod_mul_right, Nat.mul_div_cancel _ hs0] at this
 rw [e9] at this
 rw [← hd]
 exact this
theorem divmod_ev {a b : List Int} (ha : okl a) (hb : okl b) (hla : lenok a) (hlb : lenok b) : Ev (fun k => nat_DivMod.f k a b) (if val b = 0 then ([], [], false) else (limbs (val a / val b), limbs (val a % val b), true)) := by
 have l1 := limbs_val_len ha
 have l2 := limbs_val_len hb
 unfold lenok at hla hlb
 have HA := trim_ev ha hla
 have HB := trim_ev hb hlb
 obtain ⟨x, hx⟩ : ∃ x, x = val a := ⟨_, rfl⟩
 obtain ⟨y, hy⟩ : ∃ y, y = val b := ⟨_, rfl⟩
 rw [← hx] at HA l1 ⊢
 rw [← hy] at HB l2 ⊢
 refine Ev.bind HA (Ev.bind HB ?_)
 by_cases h0 : y = 0
 ·rw [if_pos h0]
  subst h0
  exact Ev.ite_pos (by rw [limbs_zero]; rfl) (Ev.now _)
 ·rw [if_neg h0]
  have hpos := List.length_pos_iff.2 (limbs_ne_nil h0)
  refine Ev.ite_neg (by omega) ?_
  have hc := cmp_ev (okl_limbs x) (okl_limbs y) (by unfold lenok; omega) (by unfold lenok; omega)
  rw [val_limbs, val_limbs] at hc
  refine Ev.bind hc ?_
  by_cases h1 : x < y
  ·rw [Nat.div_eq_of_lt h1, Nat.mod_eq_of_lt h1, limbs_zero]
   refine Ev.ite_pos (by rw [cmpI, if_pos h1]; decide) ?_
   have hn := norm_ev (okl_limbs x) (by unfold lenok; omega)
   rw [val_limbs] at hn
   exact Ev.bind (f := fun _ t => some (([] : List Int), t, true)) hn (Ev.now _)
  ·refine Ev.ite_neg (by rw [cmpI, if_neg h1]; split <;> decide) ?_
   by_cases h2 : (limbs y).length = 1
   ·refine Ev.ite_pos (by omega) (Ev.ite_pos (by omega) ?_)
    obtain ⟨top, P, hP, t1, t2, t3, t4, t5⟩ := limbs_bounds (n := 0) h2
    have hP' := hP.out
    rw [Nat.pow_zero] at hP'
    subst hP'
    rw [Nat.one_mul] at t4 t5
    have hyt : top = y := by omega
    have e : rd (limbs y) 0 = (y : Int) := by have := rd_nat (limbs y) 0; rw [t1, hyt] at this; exact this
    rw [e]
    have hd := divSmall_ev (okl_limbs x) (by unfold lenok; omega) (d := (y : Int)) (by omega) (by omega)
    rw [val_limbs, Int.toNat_natCast] at hd
    refine Ev.bind hd ?_
    have hm := Nat.mod_lt x (show 0 < y by omega)
    have ho := of_ev (a := ((x % y : Nat) : Int)) (Int.natCast_nonneg _) (by omega)
    rw [Int.toNat_natCast] at ho
    refine Ev.congr (f := fun k => (nat_Of.f k ((x % y : Nat) : Int)).bind fun t => some (limbs (x / y), t, true)) (fun k => ?_) (Ev.bind (f := fun _ t => some (limbs (x / y), t, true)) ho (Ev.now _))
    rw [wrapu64_id (Int.natCast_nonneg _) (by omega)]
   ·refine Ev.ite_neg (by omega) ?_
    obtain ⟨n, hn⟩ : ∃ n, (limbs y).length = n + 2 := ⟨(limbs y).length - 2, by omega⟩
    have hlen := limbs_len_mono (show y ≤ x by omega)
    have i1 : wrap64 (((limbs y).length : Int) - 1) = ((n + 1 : Nat) : Int) := by rw [hn, wrap64_id (by omega) (by omega)]; omega
    have i2 : wrap64 (((limbs x).length : Int) - ((limbs y).length : Int)) = (((limbs x).length - (n + 2) : Nat) : Int) := by rw [hn, wrap64_id (by omega) (by omega)]; omega
    have i3 : wrap64 ((((limbs x).length - (n + 2) : Nat) : Int) + 1) = (((limbs x).length - (n + 2) + 1 : Nat) : Int) := by rw [wrap64_id (by omega) (by omega)]; omega
    have hb := divmod_big x y n hn (by omega) (by omega)
    rw [i1, i2, i3]
    clear i1 i2 i3
    obtain ⟨s, u, v, b1, b2, b3, b4, b5, b6⟩ := hb
    have e2 : IntKind.u64.wrap (s : Int) = (s : Int) := wrapu64_id (by omega) (by omega)
    refine Ev.ite_pos (by omega) (Ev.ite_pos (by omega) ?_)
    refine Ev.bind (a := (s : Int)) ⟨0, fun _ _ => b1⟩ ?_
    rw [e2]
    refine Ev.bind b4 (Ev.bind b5 ?_)
    refine Ev.ite_pos (by omega) (Ev.ite_pos (by omega) (Ev.ite_pos (by omega) (Ev.ite_pos (by omega) ?_)))
    rw [Int.toNat_natCast, Int.toNat_natCast, hn]
    exact b6
end Go.Proofs.Ythamhjmhgcpdgaa.Big
end
section
namespace Go.Proofs.Ythamhjmhgcpdgaa.Big
open Go.RowKit Go.Proofs.YthamhjmhgcpdgaaW.PrintWords Go.Proofs.YthamhjmhgcpdgaaW.PrintLast Go.Proofs.YthamhjmhgcpdgaaW.PrintMore Go.Proofs.Ythamhjmhgcpdgaa.Q Go.Proofs.Ythamhjmhgcpdgaa.Th
set_option linter.unusedVariables false
set_option linter.unusedSimpArgs false
theorem bits_ev {l : List Int} (h : okl l) (hl : lenok l) : ∃ n : Int, Ev (fun k => nat_Bits.f k l) n ∧ 0 ≤ n ∧ (n = 0 ↔ val l = 0) := by
 have h1 := limbs_val_len h
 unfold lenok at hl
 have HT := trim_ev h hl
 obtain ⟨x, hx⟩ : ∃ x, x = val l := ⟨_, rfl⟩
 rw [← hx] at HT h1 ⊢
 by_cases h0 : x = 0
 ·subst h0
  exact ⟨0, Ev.bind HT (Ev.ite_pos (by rw [limbs_zero]; rfl) (Ev.now _)), by omega, by simp⟩
 ·have hpos := List.length_pos_iff.2 (limbs_ne_nil h0)
  obtain ⟨n, hn⟩ : ∃ n, (limbs x).length = n + 1 := ⟨(limbs x).length - 1, by omega⟩
  obtain ⟨top, P, hP, t1, t2, t3, t4, t5⟩ := limbs_bounds hn
  obtain ⟨L, m1, m2, m3, m4, m5⟩ := len32 top t3
  obtain ⟨m6, m7⟩ := m4 (by omega)
  clear t4 t5 m7 m3 m4 m5 hP
  have i1 : wrap64 (((limbs x).length : Int) - 1) = (n : Int) := by rw [hn, wrap64_id (by omega) (by omega)]; omega
  have i2 : wrap64 (32 * (n : Int)) = 32 * (n : Int) := wrap64_id (by omega) (by omega)
  have i3 : wrap64 (32 * (n : Int) + (L : Int)) = 32 * (n : Int) + (L : Int) := wrap64_id (by omega) (by omega)
  refine ⟨32 * (n : Int) + (L : Int), Ev.bind HT ?_, by clear i1 i2 i3; omega, by clear i1 i2 i3; omega⟩
  refine Ev.ite_neg (by clear i1 i2 i3; omega) ?_
  rw [i1]
  refine Ev.ite_pos (by clear i1 i2 i3; omega) (Ev.ite_pos (by clear i1 i2 i3; omega) ?_)
  rw [rd_nat, t1]
  refine Ev.bind (a := (L : Int)) (f := fun _ t => some (wrap64 (wrap64 (32 * (n : Int)) + t))) ⟨0, fun _ _ => m1⟩ ?_
  rw [i2, i3]
  exact Ev.now _
theorem gcd_loop (m : Nat) : ∀ (x y : Nat), y ≤ m → (limbs x).length ≤ 1099511627776 → (limbs y).length ≤ 1099511627776 → Ev (fun k => nat_Gcd.l0 k (limbs x) (limbs y)) (limbs (Nat.gcd x y)) := by
 induction m with
 | zero =>
  intro x y hy _ _
  obtain rfl : y = 0 := by omega
  rw [Nat.gcd_zero_right]
  refine Ev.step (f := fun _ => some (limbs x)) (fun k => ?_) (Ev.now _)
  simp only [nat_Gcd.l0]
  rw [if_neg (by rw [limbs_zero]; decide)]
 | succ m ih =>
  intro x y hy hlx hly
  by_cases h0 : y = 0
  ·exact ih x y (by omega) hlx hly
  ·have hpos := List.length_pos_iff.2 (limbs_ne_nil h0)
   have hm := Nat.mod_lt x (show 0 < y by omega)
   have hd := divmod_ev (okl_limbs x) (okl_limbs y) hlx hly
   rw [val_limbs, val_limbs, if_neg h0] at hd
   refine Ev.step (f := fun k => (nat_DivMod.f k (limbs x) (limbs y)).bind fun b => nat_Gcd.l0 k (limbs y) b.2.1) (fun k => ?_) (Ev.bind (f := fun k b => nat_Gcd.l0 k (limbs y) b.2.1) hd ?_)
   ·simp only [nat_Gcd.l0]
    rw [if_pos (by omega)]
   ·rw [Nat.gcd_comm x y, Nat.gcd_rec y x, Nat.gcd_comm]
    exact ih y (x % y) (by omega) hly (by have := limbs_len_mono (show x % y ≤ y by omega); omega)
theorem gcd_ev {a b : List Int} (ha : okl a) (hb : okl b) (hla : lenok a) (hlb : lenok b) : Ev (fun k => nat_Gcd.f k a b) (limbs (Nat.gcd (val a) (val b))) := by
 have l1 := limbs_val_len ha
 have l2 := limbs_val_len hb
 unfold lenok at *
 exact Ev.bind (norm_ev ha hla) (Ev.bind (norm_ev hb hlb) (gcd_loop (val b) _ _ (Nat.le_refl _) (by omega) (by omega)))
def sI (neg : Bool) (l : List Int) : Int := if neg then -(val l : Int) else (val l : Int)
def eI (z : Int) : Bool × List Int := (decide (z < 0), limbs z.natAbs)
theorem sI_natAbs (neg : Bool) (l : List Int) : (sI neg l).natAbs = val l := by unfold sI; cases neg <;> simp
theorem sI_eI (z : Int) : sI (eI z).1 (eI z).2 = z := by
 unfold sI eI
 simp only [val_limbs, decide_eq_true_eq]
 split <;> omega
theorem imake_ev (neg : Bool) {l : List Int} (h : okl l) (hl : lenok l) : Ev (fun k => integer_Make.f k neg l) (eI (sI neg l)) := by
 refine Ev.bind (norm_ev h hl) ?_
 unfold eI
 rw [sI_natAbs]
 cases neg with
 | true =>
  refine Ev.ite_pos rfl ?_
  have e : decide (0 < (limbs (val l)).length) = decide (sI true l < 0) := by
   unfold sI
   simp only [if_true]
   by_cases h0 : val l = 0
   ·rw [h0, limbs_zero]; simp
   ·have := List.length_pos_iff.2 (limbs_ne_nil h0)
    rw [decide_eq_true this]
    exact (decide_eq_true (by omega)).symm
  rw [e]
  exact Ev.now _
 | false =>
  refine Ev.ite_neg (by decide) ?_
  have e : decide (sI false l < 0) = false := decide_eq_false (by unfold sI; simp)
  rw [e]
  exact Ev.now _
theorem iof_ev {a : Int} (h0 : -9223372036854775808 ≤ a) (h1 : a < 9223372036854775808) : Ev (fun k => integer_Of.f k a) (eI a) := by
 unfold eI
 by_cases hn : a < 0
 ·refine Ev.ite_pos hn ?_
  have e : IntKind.u64.wrap ((IntKind.u64.wrap (wrap64 (-(wrap64 (a + 1))))) + 1) = (a.natAbs : Int) := by
   rw [wrap64_id (x := a + 1) (by omega) (by omega), wrap64_id (x := -(a + 1)) (by omega) (by omega), wrapu64_id (x := -(a + 1)) (by omega) (by omega), wrapu64_id (by omega) (by omega)]
   omega
  rw [e, decide_eq_true hn]
  have ho := of_ev (a := (a.natAbs : Int)) (by omega) (by omega)
  rw [Int.toNat_natCast] at ho
  exact Ev.bind (f := fun _ t => some (true, t)) ho (Ev.now _)
 ·refine Ev.ite_neg hn ?_
  rw [wrapu64_id (by omega) (by omega), decide_eq_false hn]
  have ho := of_ev (a := a) (by omega) (by omega)
  rw [show a.toNat = a.natAbs by omega] at ho
  exact Ev.bind (f := fun _ t => some (false, t)) ho (Ev.now _)
theorem isign_ev (neg : Bool) {l : List Int} (h : okl l) (hl : lenok l) : Ev (fun k => integer_Sign.f k neg l) (Int.sign (sI neg l)) := by
 obtain ⟨n, hn, hn0, hz⟩ := bits_ev h hl
 refine Ev.bind hn ?_
 by_cases h0 : val l = 0
 ·rw [show sI neg l = 0 by unfold sI; rw [h0]; cases neg <;> rfl]
  exact Ev.ite_pos (hz.2 h0) (Ev.now _)
 ·refine Ev.ite_neg (fun e => h0 (hz.1 e)) ?_
  cases neg with
  | true =>
   rw [Int.sign_eq_neg_one_of_neg (by unfold sI; simp only [if_true]; omega)]
   exact Ev.ite_pos rfl (Ev.now _)
  | false =>
   rw [Int.sign_eq_one_of_pos (by unfold sI; simp; omega)]
   exact Ev.ite_neg (by decide) (Ev.now _)
def cmpZ (a b : Int) : Int := if a < b then -1 else if b < a then 1 else 0
theorem icmp_ev (n1 : Bool) {l1 : List Int} (h1 : okl l1) (hl1 : lenok l1) (n2 : Bool) {l2 : List Int} (h2 : okl l2) (hl2 : lenok l2) : Ev (fun k => integer_Cmp.f k n1 l1 n2 l2) (cmpZ (sI n1 l1) (sI n2 l2)) := by
 refine Ev.bind (isign_ev n1 h1 hl1) (Ev.bind (isign_ev n2 h2 hl2) ?_)
 have a1 := sI_natAbs n1 l1
 have a2 := sI_natAbs n2 l2
 have c12 := cmp_ev h1 h2 hl1 hl2
 have c21 := cmp_ev h2 h1 hl2 hl1
 generalize sI n1 l1 = z1 at *
 generalize sI n2 l2 = z2 at *
 rw [← a1, ← a2] at c12 c21
 have s1 : Int.sign z1 = if z1 < 0 then -1 else if 0 < z1 then 1 else 0 := by
  rcases Int.lt_trichotomy z1 0 with h | h | h
  ·rw [Int.sign_eq_neg_one_of_neg h, if_pos h]
  ·subst h; rfl
  ·rw [Int.sign_eq_one_of_pos h, if_neg (by omega), if_pos h]
 have s2 : Int.sign z2 = if z2 < 0 then -1 else if 0 < z2 then 1 else 0 := by
  rcases Int.lt_trichotomy z2 0 with h | h | h
  ·rw [Int.sign_eq_neg_one_of_neg h, if_pos h]
  ·subst h; rfl
  ·rw [Int.sign_eq_one_of_pos h, if_neg (by omega), if_pos h]
 by_cases q1 : Int.sign z1 < Int.sign z2
 ·rw [cmpZ, if_pos (by rw [s1, s2] at q1; split at q1 <;> split at q1 <;> (try split at q1) <;> (try split at q1) <;> omega)]
  exact Ev.ite_pos q1 (Ev.now _)
 ·refine Ev.ite_neg q1 ?_
  by_cases q2 : Int.sign z1 > Int.sign z2
  ·have : z2 < z1 := by rw [s1, s2] at q2; split at q2 <;> split at q2 <;> (try split at q2) <;> (try split at q2) <;> omega
   rw [cmpZ, if_neg (by omega), if_pos this]
   exact Ev.ite_pos q2 (Ev.now _)
  ·refine Ev.ite_neg q2 ?_
   by_cases q3 : Int.sign z1 < 0
   ·refine Ev.ite_pos q3 ?_
    have e : cmpI z2.natAbs z1.natAbs = cmpZ z1 z2 := by
     have h3 : z1 < 0 := by rw [s1] at q3; split at q3 <;> (try split at q3) <;> omega
     have h4 : z2 < 0 := by rw [s1, s2, if_pos h3] at q1; split at q1 <;> (try split at q1) <;> omega
     unfold cmpI cmpZ
     split <;> split <;> (try split) <;> (try split) <;> omega
    rw [← e]
    exact Ev.bind (f := fun _ t => some t) c21 (Ev.now _)
   ·refine Ev.ite_neg q3 ?_
    have e : cmpI z1.natAbs z2.natAbs = cmpZ z1 z2 := by
     have h3 : 0 ≤ z1 := by rw [s1] at q3; split at q3 <;> (try split at q3) <;> omega
     have h4 : 0 ≤ z2 := by rw [s1, s2, if_neg (by omega)] at q2; split at q2 <;> (try split at q2) <;> (try split at q2) <;> omega
     unfold cmpI cmpZ
     split <;> split <;> (try split) <;> (try split) <;> omega
    rw [← e]
    exact Ev.bind (f := fun _ t => some t) c12 (Ev.now _)
theorem sI_mul (n1 n2 : Bool) (l1 l2 : List Int) : sI (n1 != n2) (limbs (val l1 * val l2)) = sI n1 l1 * sI n2 l2 := by
 unfold sI
 rw [val_limbs]
 cases n1 <;> cases n2 <;> simp [Int.neg_mul, Int.mul_neg]
theorem imul_ev (n1 : Bool) {l1 : List Int} (h1 : okl l1) (hl1 : lenok l1) (n2 : Bool) {l2 : List Int} (h2 : okl l2) (hl2 : lenok l2) (hl : l1.length + l2.length ≤ 1099511627776) : Ev (fun k => integer_Mul.f k n1 l1 n2 l2) (eI (sI n1 l1 * sI n2 l2)) := by
 refine Ev.bind (mul_ev h1 h2 hl1 hl2) ?_
 rw [← sI_mul]
 refine Ev.bind (f := fun _ b => some (b.1, b.2)) (imake_ev (n1 != n2) (okl_limbs _) ?_) (Ev.now _)
 unfold lenok
 refine Nat.le_trans (limbs_len_le (k := l1.length + l2.length) ?_) hl
 rw [Nat.pow_add]
 exact Nat.mul_lt_mul'' (val_lt h1) (val_lt h2)
def encR (p : Int) (q : Nat) : Bool × List Int × List Int := (decide (p < 0), limbs (p.natAbs / Nat.gcd p.natAbs q), limbs (q / Nat.gcd p.natAbs q))
def numR (neg : Bool) (ln ld : List Int) : Int := if val ld = 0 then 0 else sI neg ln
def denR (ld : List Int) : Nat := if val ld = 0 then 1 else val ld
theorem denR_pos (ld : List Int) : 0 < denR ld := by unfold denR; split <;> omega
abbrev smallR (l : List Int) : Prop := l.length ≤ 17179869184
theorem limbs_one_len : (limbs 1).length = 1 := by rw [limbs_pos (by decide), limbs_zero]; rfl
theorem iwhole_ev {l : List Int} (h : okl l) (hl : lenok l) : Ev (fun k => ratio_whole.f k l) (false, limbs (val l)) := by
 have h1 := imake_ev false h hl
 have e : eI (sI false l) = (false, limbs (val l)) := by
  unfold eI
  rw [sI_natAbs, decide_eq_false (by unfold sI; simp)]
 rw [e] at h1
 exact Ev.bind (f := fun _ b => some (b.1, b.2)) h1 (Ev.now _)
theorem parts_ev (neg : Bool) {ln ld : List Int} (hn : okl ln) (hd : okl ld) (hln : smallR ln) (hld : smallR ld) :
  ∃ n' l', Ev (fun k => ratio_parts.f k neg ln ld) (n', l', false, limbs (denR ld)) ∧ okl l' ∧ smallR l' ∧ sI n' l' = numR neg ln ld ∧ smallR (limbs (denR ld)) := by
 unfold smallR at *
 obtain ⟨b, hb, hb0, hbz⟩ := bits_ev hd (by unfold lenok; omega)
 have l1 := limbs_val_len hd
 have l2 := limbs_one_len
 by_cases h0 : val ld = 0
 ·refine ⟨false, [], Ev.bind hb (Ev.ite_pos (hbz.2 h0) ?_), okl_nil, by simp, by unfold numR sI; rw [if_pos h0]; rfl, by unfold denR; rw [if_pos h0]; omega⟩
  unfold denR
  rw [if_pos h0]
  have ho := of_ev (a := 1) (by omega) (by omega)
  have hw := iwhole_ev (okl_limbs 1) (by unfold lenok; omega)
  rw [val_limbs] at hw
  exact Ev.bind (a := limbs 1) (f := fun k t => (ratio_whole.f k t).bind fun b => some (false, ([] : List Int), b.1, b.2)) ho (Ev.bind (f := fun _ b => some (false, ([] : List Int), b.1, b.2)) hw (Ev.now _))
 ·refine ⟨neg, ln, Ev.bind hb (Ev.ite_neg (fun e => h0 (hbz.1 e)) ?_), hn, hln, by unfold numR; rw [if_neg h0], by unfold denR; rw [if_neg h0]; omega⟩
  unfold denR
  rw [if_neg h0]
  exact Ev.bind (f := fun _ b => some (neg, ln, b.1, b.2)) (iwhole_ev hd (by unfold lenok; omega)) (Ev.now _)
theorem zero_ev : Ev (fun k => ratio_zero.f k) (encR 0 1) := by
 have ho := of_ev (a := 1) (by omega) (by omega)
 have e : encR 0 1 = (false, [], limbs 1) := by unfold encR; simp [limbs_zero]
 rw [e]
 exact Ev.bind (a := limbs 1) (f := fun _ t => some (false, ([] : List Int), t)) ho (Ev.now _)
theorem lowest_ev (neg : Bool) {ln ld : List Int} (hn : okl ln) (hd : okl ld) (hln : lenok ln) (hld : lenok ld) :
  Ev (fun k => ratio_lowest.f k neg ln ld) (if val ld = 0 then encR 0 1 else encR (sI neg ln) (val ld)) := by
 have hg := gcd_ev hn hd hln hld
 obtain ⟨b, hb, hb0, hbz⟩ := bits_ev hd hld
 obtain ⟨c, hc, hc0, hcz⟩ := bits_ev hn hln
 refine Ev.bind hg (Ev.bind hb ?_)
 have hz : Ev (fun k => ratio_lowest.j0 k ld (limbs (Nat.gcd (val ln) (val ld))) true neg ln) (encR 0 1) := by
  refine Ev.step (f := fun k => (ratio_zero.f k).bind fun b => some (b.1, b.2.1, b.2.2)) (fun k => ?_) (Ev.bind (f := fun _ b => some (b.1, b.2.1, b.2.2)) zero_ev (Ev.now _))
  simp only [ratio_lowest.j0, if_true]
 by_cases h0 : val ld = 0
 ·rw [if_pos h0]
  exact Ev.ite_pos (hbz.2 h0) hz
 ·rw [if_neg h0]
  refine Ev.ite_neg (fun e => h0 (hbz.1 e)) (Ev.bind hc ?_)
  by_cases h1 : val ln = 0
  ·have e1 : encR (sI neg ln) (val ld) = encR 0 1 := by
    have : sI neg ln = 0 := by unfold sI; rw [h1]; cases neg <;> rfl
    rw [this]
    unfold encR
    simp [Nat.div_self (Nat.pos_of_ne_zero h0)]
   rw [e1, show (c == 0) = true by rw [hcz.2 h1]; rfl]
   exact hz
  ·rw [show (c == 0) = false by simp only [beq_eq_false_iff_ne]; exact fun e => h1 (hcz.1 e)]
   obtain ⟨g, hgg⟩ : ∃ g, g = Nat.gcd (val ln) (val ld) := ⟨_, rfl⟩
   have hg0 : 0 < g := by rw [hgg]; exact Nat.gcd_pos_of_pos_left _ (by omega)
   rw [← hgg]
   have hgl : (limbs g).length ≤ ln.length := by
    have h2 : g ≤ val ln := by rw [hgg]; exact Nat.gcd_le_left _ (by omega)
    have := limbs_len_mono h2
    have := limbs_val_len hn
    omega
   have d1 := divmod_ev hn (okl_limbs g) hln (by unfold lenok at *; omega)
   have d2 := divmod_ev hd (okl_limbs g) hld (by unfold lenok at *; omega)
   rw [val_limbs, if_neg (by omega)] at d1 d2
   have hql : (limbs (val ln / g)).length ≤ ln.length := by
    have := limbs_len_mono (Nat.div_le_self (val ln) g)
    have := limbs_val_len hn
    omega
   have hm := imake_ev neg (okl_limbs (val ln / g)) (by unfold lenok at *; omega)
   have hgd : g ∣ val ln := by rw [hgg]; exact Nat.gcd_dvd_left _ _
   have hq0 : 0 < val ln / g := Nat.div_pos (Nat.le_of_dvd (by omega) hgd) hg0
   have e2 : eI (sI neg (limbs (val ln / g))) = (decide (sI neg ln < 0), limbs (val ln / g)) := by
    unfold eI
    rw [sI_natAbs, val_limbs]
    congr 1
    unfold sI
    rw [val_limbs]
    cases neg
    ·simp only [Bool.false_eq_true, if_false]
     rw [decide_eq_false (by omega), decide_eq_false (by omega)]
    ·simp only [if_true]
     rw [decide_eq_true (by omega), decide_eq_true (by omega)]
   rw [e2] at hm
   have e3 : encR (sI neg ln) (val ld) = (decide (sI neg ln < 0), limbs (val ln / g), limbs (val ld / g)) := by
    unfold encR
    rw [sI_natAbs, ← hgg]
   rw [e3]
   refine Ev.step (f := fun k => (nat_DivMod.f k ln (limbs g)).bind fun bt264 => ((nat_DivMod.f k ld (limbs g)).bind fun bt271 => ((integer_Make.f k neg bt264.1).bind fun bt278 => (some (bt278.1, bt278.2, bt271.1))))) (fun k => ?_) ?_
   ·simp only [ratio_lowest.j0]
    rw [if_neg (by decide)]
   ·exact Ev.bind (f := fun k bt264 => ((nat_DivMod.f k ld (limbs g)).bind fun bt271 => ((integer_Make.f k neg bt264.1).bind fun bt278 => (some (bt278.1, bt278.2, bt271.1))))) d1 (Ev.bind (f := fun k bt271 => ((integer_Make.f k neg (limbs (val ln / g))).bind fun bt278 => (some (bt278.1, bt278.2, bt271.1)))) d2 (Ev.bind (f := fun _ bt278 => some (bt278.1, bt278.2, limbs (val ld / g))) hm (Ev.now _)))
theorem encR_eq {p1 p2 : Int} {q1 q2 : Nat} (h1 : 0 < q1) (h2 : 0 < q2) (h : p1 * q2 = p2 * q1) : encR p1 q1 = encR p2 q2 := by
 have hn : p1.natAbs * q2 = p2.natAbs * q1 := by
  have := congrArg Int.natAbs h
  rw [Int.natAbs_mul, Int.natAbs_mul] at this
  simpa using this
 have hs : decide (p1 < 0) = decide (p2 < 0) := by
  have a1 : (0 : Int) < q2 := by omega
  have a2 : (0 : Int) < q1 := by omega
  by_cases c : p1 < 0
  ·have : p1 * q2 < 0 := Int.mul_neg_of_neg_of_pos c a1
   rw [h] at this
   have : p2 < 0 := by
    rcases Int.lt_or_le p2 0 with h3 | h3
    ·exact h3
    ·have := Int.mul_nonneg h3 (Int.le_of_lt a2); omega
   rw [decide_eq_true c, decide_eq_true this]
  ·have : 0 ≤ p1 * q2 := Int.mul_nonneg (by omega) (Int.le_of_lt a1)
   rw [h] at this
   have : ¬ p2 < 0 := fun h3 => by
    have := Int.mul_neg_of_neg_of_pos h3 a2; omega
   rw [decide_eq_false c, decide_eq_false this]
 have key : ∀ (a b : Nat) (c d : Nat), 0 < b → 0 < d → a * d = c * b → a / Nat.gcd a b = c / Nat.gcd c d ∧ b / Nat.gcd a b = d / Nat.gcd c d := by
  intro a b c d hb hd he
  have g1 : 0 < Nat.gcd a b := Nat.gcd_pos_of_pos_right _ hb
  have g2 : 0 < Nat.gcd c d := Nat.gcd_pos_of_pos_right _ hd
  have e1 : d * Nat.gcd a b = b * Nat.gcd c d := by
   rw [← Nat.gcd_mul_left, ← Nat.gcd_mul_left, Nat.mul_comm d a, he, Nat.mul_comm c b, Nat.mul_comm d b]
  have e2 : b / Nat.gcd a b = d / Nat.gcd c d := by
   have x1 := Nat.div_mul_cancel (Nat.gcd_dvd_right a b)
   have x2 := Nat.div_mul_cancel (Nat.gcd_dvd_right c d)
   have : b / Nat.gcd a b * (Nat.gcd a b * Nat.gcd c d) = d / Nat.gcd c d * (Nat.gcd a b * Nat.gcd c d) := by
    rw [← Nat.mul_assoc, x1, Nat.mul_comm (Nat.gcd a b), ← Nat.mul_assoc, x2, e1]
   exact Nat.eq_of_mul_eq_mul_right (Nat.mul_pos g1 g2) this
  refine ⟨?_, e2⟩
  have x1 := Nat.div_mul_cancel (Nat.gcd_dvd_left a b)
  have x2 := Nat.div_mul_cancel (Nat.gcd_dvd_left c d)
  have x3 := Nat.div_mul_cancel (Nat.gcd_dvd_right a b)
  have hb' : 0 < b := hb
  have : a / Nat.gcd a b * (Nat.gcd a b * d) = c / Nat.gcd c d * (Nat.gcd a b * d) := by
   rw [← Nat.mul_assoc, x1, he, Nat.mul_comm (Nat.gcd a b) d, e1, Nat.mul_comm b, ← Nat.mul_assoc, x2]
  exact Nat.eq_of_mul_eq_mul_right (Nat.mul_pos g1 hd) this
 obtain ⟨k1, k2⟩ := key p1.natAbs q1 p2.natAbs q2 h1 h2 hn
 unfold encR
 rw [hs, k1, k2]
theorem prod_len {a b : List Int} (ha : okl a) (hb : okl b) : (limbs (val a * val b)).length ≤ a.length + b.length := by
 refine limbs_len_le (k := a.length + b.length) ?_
 rw [Nat.pow_add]
 exact Nat.mul_lt_mul'' (val_lt ha) (val_lt hb)
theorem sI_abs_len {l : List Int} (h : okl l) (neg : Bool) : (limbs (sI neg l).natAbs).length ≤ l.length := by
 rw [sI_natAbs]; exact limbs_val_len h
theorem sI_false_limbs (n : Nat) : sI false (limbs n) = (n : Int) := by unfold sI; rw [val_limbs]; rfl
theorem imulp {n1 n2 : Bool} {l1 l2 : List Int} (h1 : okl l1) (h2 : okl l2) (hl1 : smallR l1) (hl2 : smallR l2) :
  Ev (fun k => integer_Mul.f k n1 l1 n2 l2) (eI (sI n1 l1 * sI n2 l2)) ∧ (limbs (sI n1 l1 * sI n2 l2).natAbs).length ≤ 34359738368 := by
 unfold smallR at *
 refine ⟨imul_ev n1 h1 (by unfold lenok; omega) n2 h2 (by unfold lenok; omega) (by omega), ?_⟩
 rw [Int.natAbs_mul, sI_natAbs, sI_natAbs]
 have := prod_len h1 h2
 omega
theorem rmake_ev (n1 : Bool) {l1 : List Int} (h1 : okl l1) (hl1 : lenok l1) (n2 : Bool) {l2 : List Int} (h2 : okl l2) (hl2 : lenok l2) :
  Ev (fun k => ratio_Make.f k n1 l1 n2 l2) (if val l2 = 0 then (false, [], limbs 1, false) else ((encR (sI (n1 != n2) l1) (val l2)).1, (encR (sI (n1 != n2) l1) (val l2)).2.1, (encR (sI (n1 != n2) l1) (val l2)).2.2, true)) := by
 obtain ⟨b, hb, hb0, hbz⟩ := bits_ev h2 hl2
 have e : encR 0 1 = (false, [], limbs 1) := by unfold encR; simp [limbs_zero]
 refine Ev.bind hb ?_
 by_cases h0 : val l2 = 0
 ·rw [if_pos h0]
  have hz := zero_ev
  rw [e] at hz
  exact Ev.ite_pos (hbz.2 h0) (Ev.bind (f := fun _ b => some (b.1, b.2.1, b.2.2, false)) hz (Ev.now _))
 ·rw [if_neg h0]
  have hw := lowest_ev (n1 != n2) h1 h2 hl1 hl2
  rw [if_neg h0] at hw
  exact Ev.ite_neg (fun e => h0 (hbz.1 e)) (Ev.bind (f := fun _ b => some (b.1, b.2.1, b.2.2, true)) hw (Ev.now _))
theorem rof_ev {a b : Int} (ha0 : -9223372036854775808 ≤ a) (ha1 : a < 9223372036854775808) (hb0 : -9223372036854775808 ≤ b) (hb1 : b < 9223372036854775808) :
  Ev (fun k => ratio_Of.f k a b) (if b = 0 then (false, [], limbs 1, false) else ((encR (a * b.sign) b.natAbs).1, (encR (a * b.sign) b.natAbs).2.1, (encR (a * b.sign) b.natAbs).2.2, true)) := by
 have ia := iof_ev ha0 ha1
 have ib := iof_ev hb0 hb1
 have la : lenok (limbs a.natAbs) := by
  unfold lenok
  have : (limbs a.natAbs).length ≤ 2 := limbs_len_le (by omega)
  omega
 have lb : lenok (limbs b.natAbs) := by
  unfold lenok
  have : (limbs b.natAbs).length ≤ 2 := limbs_len_le (by omega)
  omega
 have hm := rmake_ev (decide (a < 0)) (okl_limbs a.natAbs) la (decide (b < 0)) (okl_limbs b.natAbs) lb
 rw [val_limbs] at hm
 have e : b.natAbs ≠ 0 → sI (decide (a < 0) != decide (b < 0)) (limbs a.natAbs) = a * b.sign := by
  intro hb
  unfold sI
  rw [val_limbs]
  rcases Int.lt_or_le b 0 with c | c
  ·rw [Int.sign_eq_neg_one_of_neg c, decide_eq_true (p := b < 0) c]
   by_cases d : a < 0
   ·rw [decide_eq_true d, if_neg (by decide)]; omega
   ·rw [decide_eq_false d, if_pos (by decide)]; omega
  ·rw [Int.sign_eq_one_of_pos (by omega), decide_eq_false (p := b < 0) (by omega)]
   by_cases d : a < 0
   ·rw [decide_eq_true d, if_pos (by decide)]; omega
   ·rw [decide_eq_false d, if_neg (by decide)]; omega
 refine Ev.bind ia (Ev.bind (f := fun k bt312 => ((ratio_Make.f k (eI a).1 (eI a).2 bt312.1 bt312.2).bind fun bt316 => (some (bt316.1, bt316.2.1, bt316.2.2.1, bt316.2.2.2)))) ib ?_)
 by_cases h0 : b = 0
 ·rw [if_pos h0]
  rw [if_pos (by omega)] at hm
  exact Ev.bind (f := fun _ b => some (b.1, b.2.1, b.2.2.1, b.2.2.2)) hm (Ev.now _)
 ·rw [if_neg h0]
  rw [if_neg (by omega), e (by omega)] at hm
  exact Ev.bind (f := fun _ b => some (b.1, b.2.1, b.2.2.1, b.2.2.2)) hm (Ev.now _)
theorem rcmp_ev (n1 n2 : Bool) {ln1 ld1 ln2 ld2 : List Int} (h1 : okl ln1) (h2 : okl ld1) (h3 : okl ln2) (h4 : okl ld2) (s1 : smallR ln1) (s2 : smallR ld1) (s3 : smallR ln2) (s4 : smallR ld2) :
  Ev (fun k => ratio_Cmp.f k n1 ln1 ld1 n2 ln2 ld2) (cmpZ (numR n1 ln1 ld1 * denR ld2) (numR n2 ln2 ld2 * denR ld1)) := by
 obtain ⟨m1, l1, p1, o1, q1, e1, r1⟩ := parts_ev n1 h1 h2 s1 s2
 obtain ⟨m2, l2, p2, o2, q2, e2, r2⟩ := parts_ev n2 h3 h4 s3 s4
 obtain ⟨x1, y1⟩ := imulp (n1 := m1) (n2 := false) o1 (okl_limbs (denR ld2)) q1 r2
 obtain ⟨x2, y2⟩ := imulp (n1 := m2) (n2 := false) o2 (okl_limbs (denR ld1)) q2 r1
 rw [sI_false_limbs, e1] at x1 y1
 rw [sI_false_limbs, e2] at x2 y2
 generalize hz1 : numR n1 ln1 ld1 * (denR ld2 : Int) = z1 at *
 generalize hz2 : numR n2 ln2 ld2 * (denR ld1 : Int) = z2 at *
 have c := icmp_ev (eI z1).1 (okl_limbs z1.natAbs) (by unfold lenok; omega) (eI z2).1 (okl_limbs z2.natAbs) (by unfold lenok; omega)
 have c1 : sI (eI z1).1 (limbs z1.natAbs) = z1 := sI_eI z1
 have c2 : sI (eI z2).1 (limbs z2.natAbs) = z2 := sI_eI z2
 rw [c1, c2] at c
 replace c : Ev (fun k => integer_Cmp.f k (eI z1).1 (eI z1).2 (eI z2).1 (eI z2).2) (cmpZ z1 z2) := c
 exact Ev.bind p1 (Ev.bind (f := fun k bt391 => ((integer_Mul.f k m1 l1 bt391.2.2.1 bt391.2.2.2).bind fun bt401 => ((integer_Mul.f k bt391.1 bt391.2.1 false (limbs (denR ld1))).bind fun bt405 => ((integer_Cmp.f k bt401.1 bt401.2 bt405.1 bt405.2).bind fun t409 => (some t409))))) p2 (Ev.bind x1 (Ev.bind (f := fun k bt405 => ((integer_Cmp.f k (eI z1).1 (eI z1).2 bt405.1 bt405.2).bind fun t409 => (some t409))) x2 (Ev.bind (f := fun _ t => some t) c (Ev.now _)))))
theorem rmul_ev (n1 n2 : Bool) {ln1 ld1 ln2 ld2 : List Int} (h1 : okl ln1) (h2 : okl ld1) (h3 : okl ln2) (h4 : okl ld2) (s1 : smallR ln1) (s2 : smallR ld1) (s3 : smallR ln2) (s4 : smallR ld2) :
  Ev (fun k => ratio_Mul.f k n1 ln1 ld1 n2 ln2 ld2) (encR (numR n1 ln1 ld1 * numR n2 ln2 ld2) (denR ld1 * denR ld2)) := by
 obtain ⟨m1, l1, p1, o1, q1, e1, r1⟩ := parts_ev n1 h1 h2 s1 s2
 obtain ⟨m2, l2, p2, o2, q2, e2, r2⟩ := parts_ev n2 h3 h4 s3 s4
 obtain ⟨x1, y1⟩ := imulp (n1 := m1) (n2 := m2) o1 o2 q1 q2
 rw [e1, e2] at x1 y1
 unfold smallR at r1 r2
 have x2 := mul_ev (okl_limbs (denR ld1)) (okl_limbs (denR ld2)) (by unfold lenok; omega) (by unfold lenok; omega)
 have y2 := prod_len (okl_limbs (denR ld1)) (okl_limbs (denR ld2))
 rw [val_limbs, val_limbs] at x2 y2
 have d0 : denR ld1 * denR ld2 ≠ 0 := Nat.pos_iff_ne_zero.mp (Nat.mul_pos (denR_pos _) (denR_pos _))
 generalize numR n1 ln1 ld1 * numR n2 ln2 ld2 = z1 at *
 generalize hd : denR ld1 * denR ld2 = d1 at *
 have c := lowest_ev (eI z1).1 (okl_limbs z1.natAbs) (okl_limbs d1) (by unfold lenok; omega) (by unfold lenok; omega)
 have c1 : sI (eI z1).1 (limbs z1.natAbs) = z1 := sI_eI z1
 rw [c1, val_limbs, if_neg d0] at c
 replace c : Ev (fun k => ratio_lowest.f k (eI z1).1 (eI z1).2 (limbs d1)) (encR z1 d1) := c
 exact Ev.bind p1 (Ev.bind (f := fun k bt826 => ((integer_Mul.f k m1 l1 bt826.1 bt826.2.1).bind fun bt836 => ((nat_Mul.f k (limbs (denR ld1)) bt826.2.2.2).bind fun t840 => ((ratio_lowest.f k bt836.1 bt836.2 t840).bind fun bt843 => (some (bt843.1, bt843.2.1, bt843.2.2)))))) p2 (Ev.bind (f := fun k bt836 => ((nat_Mul.f k (limbs (denR ld1)) (limbs (denR ld2))).bind fun t840 => ((ratio_lowest.f k bt836.1 bt836.2 t840).bind fun bt843 => (some (bt843.1, bt843.2.1, bt843.2.2))))) x1 (Ev.bind (f := fun k t840 => ((ratio_lowest.f k (eI z1).1 (eI z1).2 t840).bind fun bt843 => (some (bt843.1, bt843.2.1, bt843.2.2)))) x2 (Ev.bind (f := fun _ b => some (b.1, b.2.1, b.2.2)) c (Ev.now _)))))
theorem rnorm_loop (l : List Int) (n : Nat) (hn : n ≤ l.length) (hl : lenok2 l) : Ev (fun k => examboardref01_Norm.l0 k l n) (l.take (tl l n)) := by
 unfold lenok2 at hl
 induction n with
 | zero =>
  refine Ev.step (f := fun _ => some (l.take 0)) (fun k => ?_) (Ev.now _)
  simp only [examboardref01_Norm.l0]
  rw [if_neg (by omega), if_pos (by omega), if_pos (by omega), if_pos (by omega)]
  rfl
 | succ n ih =>
  have hw : wrap64 (((n + 1 : Nat) : Int) - 1) = (n : Int) := by rw [wrap64_id (by omega) (by omega)]; omega
  unfold tl
  by_cases h0 : l.getD n 0 = 0
  ·rw [if_pos h0]
   refine Ev.step (fun k => ?_) (ih (by omega))
   simp only [examboardref01_Norm.l0]
   rw [if_pos (by omega), hw, if_pos (by omega), if_pos (by omega), rd_nat, if_pos h0]
  ·rw [if_neg h0]
   refine Ev.step (f := fun _ => some (l.take (n + 1))) (fun k => ?_) (Ev.now _)
   simp only [examboardref01_Norm.l0]
   rw [if_pos (by omega), hw, if_pos (by omega), if_pos (by omega), rd_nat, if_neg h0, if_pos (by omega), if_pos (by omega), if_pos (by omega)]
   rfl
theorem rnorm_ev2 {l : List Int} (h : okl l) (hl : lenok2 l) : Ev (fun k => examboardref01_Norm.f k l) (limbs (val l)) := by
 rw [← limbs_tl h]
 exact rnorm_loop l l.length (Nat.le_refl _) hl
theorem rnorm_ev {l : List Int} (h : okl l) (hl : lenok l) : Ev (fun k => examboardref01_Norm.f k l) (limbs (val l)) := rnorm_ev2 h (by unfold lenok at hl; unfold lenok2; omega)
theorem r1of_ev {a : Int} (h0 : 0 ≤ a) (h1 : a < 18446744073709551616) : Ev (fun k => examboardref01_Of.f k a) (limbs a.toNat) := by
 obtain ⟨h2, h3⟩ := of_two h0 h1
 rw [← h3]
 exact Ev.bind (f := fun _ t => some t) (rnorm_ev h2 (by unfold lenok; simp)) (Ev.now _)
theorem getD_beyond (l : List Int) (n : Nat) (h : l.length ≤ n) : l.getD n 0 = 0 := by
 rw [List.getD_eq_getElem?_getD, List.getElem?_eq_none h]; rfl
theorem rlimb {l : List Int} (h : okl l) (n : Nat) : examboardref01_limb.f l (n : Int) = some (l.getD n 0) := by
 have := getD_okl h n
 unfold examboardref01_limb.f
 by_cases c : n < l.length
 ·rw [if_pos (by omega), if_pos (by omega), rd_nat, wrapu64_id (by omega) (by omega)]
 ·rw [if_neg (by omega), getD_beyond l n (by omega)]
theorem val_drop' (l : List Int) (n : Nat) : val (l.drop n) = (l.getD n 0).toNat + 4294967296 * val (l.drop (n + 1)) := by
 by_cases c : n < l.length
 ·exact val_drop_one l n c
 ·rw [List.drop_eq_nil_of_le (by omega), List.drop_eq_nil_of_le (by omega), getD_beyond l n (by omega)]; rfl
theorem val_split (l : List Int) (n : Nat) : val l = val (l.take n) + 4294967296 ^ n * val (l.drop n) := by
 by_cases c : n ≤ l.length
 ·exact val_take_drop l n c
 ·rw [List.drop_eq_nil_of_le (by omega), List.take_of_length_le (by omega)]; simp [val]
theorem val_take_lt {l : List Int} (h : okl l) (n : Nat) : val (l.take n) < 4294967296 ^ n := by
 have h1 := val_lt (okl_take h n)
 have h2 : 4294967296 ^ (l.take n).length ≤ 4294967296 ^ n := pow_mono (by rw [List.length_take]; omega)
 omega
theorem val_take' (l : List Int) (n : Nat) : val (l.take (n + 1)) = val (l.take n) + 4294967296 ^ n * (l.getD n 0).toNat := by
 by_cases c : n < l.length
 ·exact val_take_succ l n c
 ·rw [List.take_of_length_le (by omega), List.take_of_length_le (by omega), getD_beyond l n (by omega)]; simp
theorem rcmp_loop (a b : List Int) (ha : okl a) (hb : okl b) (n : Nat) (hn : n ≤ 1099511627776) (he : val (a.drop n) = val (b.drop n)) :
  Ev (fun k => examboardref01_Cmp.l0 k a b ((n : Int) - 1)) (cmpI (val a) (val b)) := by
 induction n with
 | zero =>
  refine Ev.step (f := fun _ => some 0) (fun k => ?_) (by
   rw [List.drop_zero, List.drop_zero] at he
   rw [he, cmpI, if_neg (by omega), if_neg (by omega)]; exact Ev.now _)
  simp only [examboardref01_Cmp.l0]
  rw [if_neg (by omega)]
 | succ n ih =>
  have e1 : ((n + 1 : Nat) : Int) - 1 = n := by omega
  have e2 := val_drop' a n
  have e3 := val_drop' b n
  have v1 := val_split a n
  have v2 := val_split b n
  have b1 := val_take_lt ha n
  have b2 := val_take_lt hb n
  have r1 := getD_okl ha n
  have r2 := getD_okl hb n
  rw [e1]
  by_cases h1 : a.getD n 0 < b.getD n 0
  ·refine Ev.step (f := fun _ => some (-1)) (fun k => ?_) ?_
   ·simp only [examboardref01_Cmp.l0]
    rw [if_pos (by omega), rlimb ha, rlimb hb]
    simp only [Option.bind_some]
    rw [if_pos h1]
   ·have : val (a.drop n) + 1 ≤ val (b.drop n) := by omega
    have h2 : 4294967296 ^ n * (val (a.drop n) + 1) ≤ 4294967296 ^ n * val (b.drop n) := Nat.mul_le_mul_left _ this
    rw [Nat.mul_add] at h2
    rw [cmpI, if_pos (by omega)]
    exact Ev.now _
  ·by_cases h2 : b.getD n 0 < a.getD n 0
   ·refine Ev.step (f := fun _ => some 1) (fun k => ?_) ?_
    ·simp only [examboardref01_Cmp.l0]
     rw [if_pos (by omega), rlimb ha, rlimb hb]
     simp only [Option.bind_some]
     rw [if_neg h1, if_pos (by omega)]
    ·have : val (b.drop n) + 1 ≤ val (a.drop n) := by omega
     have h3 : 4294967296 ^ n * (val (b.drop n) + 1) ≤ 4294967296 ^ n * val (a.drop n) := Nat.mul_le_mul_left _ this
     rw [Nat.mul_add] at h3
     rw [cmpI, if_neg (by omega), if_pos (by omega)]
     exact Ev.now _
   ·refine Ev.step (fun k => ?_) (ih (by omega) (by omega))
    simp only [examboardref01_Cmp.l0]
    rw [if_pos (by omega), rlimb ha, rlimb hb]
    simp only [Option.bind_some]
    rw [if_neg h1, if_neg (by omega), wrap64_id (by omega) (by omega)]
theorem r1cmp_ev {a b : List Int} (ha : okl a) (hb : okl b) (hla : lenok a) (hlb : lenok b) : Ev (fun k => examboardref01_Cmp.f k a b) (cmpI (val a) (val b)) := by
 unfold lenok at hla hlb
 have e : wrap64 (mx (a.length : Int) (b.length : Int) - 1) = ((max a.length b.length : Nat) : Int) - 1 := by
  have : mx (a.length : Int) (b.length : Int) = ((max a.length b.length : Nat) : Int) := by unfold mx; split <;> omega
  rw [this, wrap64_id (by omega) (by omega)]
 refine Ev.congr (fun k => ?_) (rcmp_loop a b ha hb (max a.length b.length) (by omega) (by rw [List.drop_eq_nil_of_le (by omega), List.drop_eq_nil_of_le (by omega)]))
 unfold examboardref01_Cmp.f
 rw [e]
theorem rmul_inner (a b : List Int) (ha : okl a) (hb : okl b) (hla : lenok a) (hlb : lenok b) (i : Nat) (hi : i < a.length) {r : List Int} (V : Nat)
  (K : ∀ P : List Int, okl P → P.length = a.length + b.length → (∀ m, i + 1 + b.length ≤ m → P.getD m 0 = 0) → val P = V + 4294967296 ^ i * ((a.getD i 0).toNat * val b) → Ev (fun k => examboardref01_Mul.l0 k a b P ((i + 1 : Nat) : Int)) r)
  (d : Nat) : ∀ (j : Nat) (P : List Int) (c : Int), j + d = b.length → okl P → P.length = a.length + b.length → (∀ m, i + b.length ≤ m → P.getD m 0 = 0) → 0 ≤ c → c < 4294967296 →
   val P + 4294967296 ^ (i + j) * c.toNat = V + 4294967296 ^ i * ((a.getD i 0).toNat * val (b.take j)) →
   Ev (fun k => examboardref01_Mul.l1 k a b P (i : Int) c (j : Int)) r := by
 unfold lenok at hla hlb
 have hx := getD_okl ha i
 induction d with
 | zero =>
  intro j P c hj hP hPl hz hc0 hc1 hv
  obtain rfl : j = b.length := by omega
  have hs := val_set P (i + b.length) (by omega) c
  rw [hz _ (Nat.le_refl _)] at hs
  have e : b.take b.length = b := List.take_length
  rw [e] at hv
  refine Ev.step (fun k => ?_) (K (P.set (i + b.length) c) (okl_set hP _ hc0 hc1) (by rw [List.length_set]; exact hPl) ?_ (by simp at hs; omega))
  ·simp only [examboardref01_Mul.l1]
   rw [if_neg (by omega), wrap64_id (x := (i : Int) + (b.length : Int)) (by omega) (by omega), if_pos (by omega), if_pos (by omega), wrap64_id (x := (i : Int) + 1) (by omega) (by omega), show c % 4294967296 = c by omega,
    show ((i : Int) + (b.length : Int)).toNat = i + b.length by omega]
   rfl
  ·intro m hm
   rw [List.getD_eq_getElem?_getD, List.getElem?_set_ne (by omega), ← List.getD_eq_getElem?_getD]
   exact hz m (by omega)
 | succ d ih =>
  intro j P c hj hP hPl hz hc0 hc1 hv
  have hq := getD_okl hb j
  obtain ⟨t, ht⟩ : ∃ t, t = c + a.getD i 0 * b.getD j 0 + P.getD (i + j) 0 := ⟨_, rfl⟩
  obtain ⟨h1, h2, h3, h4, h5, h6, h7, h8⟩ := mul_step hP (n := i + j) (by omega) hx.1 hx.2 hq.1 hq.2 hc0 hc1 ht
  have hP2 := getD_okl hP (i + j)
  have ht2 : P.getD (i + j) 0 + a.getD i 0 * b.getD j 0 + c = t := by rw [ht]; omega
  have e1 : val (b.take (j + 1)) = val (b.take j) + 4294967296 ^ j * (b.getD j 0).toNat := val_take_succ b j (by omega)
  refine Ev.step (fun k => ?_) (ih (j + 1) (P.set (i + j) (t % 4294967296)) (t / 4294967296) (by omega) h5 (by rw [List.length_set]; exact hPl) ?_ h6 h7 ?_)
  ·simp only [examboardref01_Mul.l1]
   rw [if_pos (by omega), wrap64_id (x := (i : Int) + (j : Int)) (by omega) (by omega), if_pos (by omega), if_pos (by omega), if_pos (by omega), if_pos (by omega), if_pos (by omega), rd_nat, rd_nat, show (i : Int) + (j : Int) = ((i + j : Nat) : Int) by omega, rd_nat,
    wrapu64_id (x := a.getD i 0) (by omega) (by omega), wrapu64_id (x := b.getD j 0) (by omega) (by omega), wrapu64_id (x := P.getD (i + j) 0) (by omega) (by omega),
    wrapu64_id (x := a.getD i 0 * b.getD j 0) h1 (by omega), wrapu64_id (x := P.getD (i + j) 0 + a.getD i 0 * b.getD j 0) (by omega) (by omega),
    ht2, wrapu64_id (x := t) h3 h4, wrap64_id (x := (j : Int) + 1) (by omega) (by omega), Int.toNat_natCast]
   rfl
  ·intro m hm
   rw [List.getD_eq_getElem?_getD, List.getElem?_set_ne (by omega), ← List.getD_eq_getElem?_getD]
   exact hz m hm
  ·rw [show i + (j + 1) = i + j + 1 by omega, h8, e1, Nat.mul_add (4294967296 ^ (i + j)), ← Nat.add_assoc, hv]
   have e2 : 4294967296 ^ (i + j) = 4294967296 ^ i * 4294967296 ^ j := Nat.pow_add _ _ _
   rw [e2]
   grind
theorem rmul_outer (a b : List Int) (ha : okl a) (hb : okl b) (hla : lenok a) (hlb : lenok b) (d : Nat) : ∀ (i : Nat) (P : List Int), i + d = a.length → okl P → P.length = a.length + b.length →
  (∀ m, i + b.length ≤ m → P.getD m 0 = 0) → val P = val (a.take i) * val b → Ev (fun k => examboardref01_Mul.l0 k a b P (i : Int)) (limbs (val a * val b)) := by
 induction d with
 | zero =>
  intro i P hi hP hPl hz hv
  obtain rfl : i = a.length := by omega
  rw [List.take_length] at hv
  unfold lenok at hla hlb
  rw [← hv]
  refine Ev.step (f := fun k => (examboardref01_Norm.f k P).bind fun t => some t) (fun k => ?_) (Ev.bind (f := fun _ t => some t) (rnorm_ev2 hP (by unfold lenok2; omega)) (Ev.now _))
  simp only [examboardref01_Mul.l0]
  rw [if_neg (by omega)]
 | succ d ih =>
  intro i P hi hP hPl hz hv
  have hla' := hla
  unfold lenok at hla'
  refine Ev.step (fun k => ?_) (rmul_inner a b ha hb hla hlb i (by omega) (val (a.take i) * val b) (fun P' h1 h2 h3 h4 => ih (i + 1) P' (by omega) h1 h2 h3 (by rw [h4, val_take_succ a i (by omega)]; grind)) b.length 0 P 0 (by omega) hP hPl hz (by omega) (by omega) (by simp [val, hv]))
  simp only [examboardref01_Mul.l0]
  rw [if_pos (by omega)]
  rfl
theorem r1mul_ev {a b : List Int} (ha : okl a) (hb : okl b) (hla : lenok a) (hlb : lenok b) : Ev (fun k => examboardref01_Mul.f k a b) (limbs (val a * val b)) := by
 have h := rmul_outer a b ha hb hla hlb a.length 0 (List.replicate (a.length + b.length) 0) (by omega) (okl_replicate _) (by simp) (fun m _ => by
      rw [List.getD_eq_getElem?_getD, List.getElem?_replicate]; split <;> rfl) (by simp [val, val_replicate])
 unfold lenok at hla hlb
 have w : wrap64 ((a.length : Int) + (b.length : Int)) = (a.length + b.length : Nat) := by rw [wrap64_id (by omega) (by omega)]; omega
 refine Ev.congr (fun k => ?_) h
 unfold examboardref01_Mul.f
 rw [w, if_pos (by omega), if_pos (by omega), Int.toNat_natCast]
 rfl
theorem rsub_loop (a b : List Int) (ha : okl a) (hb : okl b) (hla : lenok a) (hab : val b ≤ val a) (d : Nat) : ∀ (i : Nat) (R : List Int) (c : Nat), i + d = a.length → okl R → R.length = a.length → (∀ m, i ≤ m → R.getD m 0 = 0) → c ≤ 1 →
  val R + val (b.take i) = val (a.take i) + 4294967296 ^ i * c → Ev (fun k => examboardref01_Sub.l0 k a b R (c : Int) (i : Int)) (limbs (val a - val b), true) := by
 unfold lenok at hla
 induction d with
 | zero =>
  intro i R c hi hR hRl hz hc hv
  obtain rfl : i = a.length := by omega
  have h1 := val_split b a.length
  have h2 := val_lt ha
  have h3 := val_lt hR
  rw [hRl] at h3
  rw [List.take_length] at hv
  obtain ⟨P, hP⟩ : ∃ P, P = 4294967296 ^ a.length := ⟨_, rfl⟩
  rw [← hP] at h1 h2 h3 hv
  have h4 : val (b.drop a.length) = 0 := by
   rcases Nat.eq_zero_or_pos (val (b.drop a.length)) with h | h
   ·exact h
   ·have := Nat.mul_le_mul_left P (show 1 ≤ val (b.drop a.length) from h); omega
  rw [h4] at h1
  have h5 : val R = val a - val b := by
   rcases Nat.lt_or_ge c 1 with h | h
   ·obtain rfl : c = 0 := by omega
    omega
   ·obtain rfl : c = 1 := by omega
    omega
  rw [← h5]
  refine Ev.step (f := fun k => (examboardref01_Norm.f k R).bind fun t => some (t, true)) (fun k => ?_) (Ev.bind (f := fun _ t => some (t, true)) (rnorm_ev hR (by unfold lenok; omega)) (Ev.now _))
  simp only [examboardref01_Sub.l0]
  rw [if_neg (by omega)]
 | succ d ih =>
  intro i R c hi hR hRl hz hc hv
  have r1 := getD_okl ha i
  have r2 := getD_okl hb i
  have e2 := val_take' a i
  have e3 := val_take' b i
  have hz0 := hz i (Nat.le_refl _)
  obtain ⟨x, hx⟩ := Int.eq_ofNat_of_zero_le r1.1
  obtain ⟨y, hy⟩ := Int.eq_ofNat_of_zero_le r2.1
  rw [hx] at r1 e2
  rw [hy] at r2 e3
  rw [Int.toNat_natCast] at e2 e3
  by_cases h1 : x < y + c
  ·have s1 := val_set R i (by omega) ((x + 4294967296 - (y + c) : Nat) : Int)
   rw [hz0] at s1
   refine Ev.step (fun k => ?_) (ih (i + 1) (R.set i ((x + 4294967296 - (y + c) : Nat) : Int)) 1 (by omega) (okl_set hR _ (by omega) (by omega)) (by rw [List.length_set]; exact hRl) ?_ (by omega) ?_)
   ·simp only [examboardref01_Sub.l0]
    rw [if_pos (by omega), rlimb ha, rlimb hb]
    simp only [Option.bind_some]
    rw [hx, hy, wrapu64_id (x := (y : Int) + (c : Int)) (by omega) (by omega), if_pos (by omega), if_pos (by omega), if_pos (by omega), wrapu64_id (x := (x : Int) + 4294967296) (by omega) (by omega), wrapu64_id (x := (x : Int) + 4294967296 - ((y : Int) + (c : Int))) (by omega) (by omega),
     show ((x : Int) + 4294967296 - ((y : Int) + (c : Int))) % 4294967296 = ((x + 4294967296 - (y + c) : Nat) : Int) by omega, wrap64_id (x := (i : Int) + 1) (by omega) (by omega), Int.toNat_natCast]
    rfl
   ·intro m hm
    rw [List.getD_eq_getElem?_getD, List.getElem?_set_ne (by omega), ← List.getD_eq_getElem?_getD]
    exact hz m (by omega)
   ·obtain ⟨z, hzz⟩ : ∃ z, z = x + 4294967296 - (y + c) := ⟨_, rfl⟩
    have h2 : z + y + c = x + 4294967296 := by omega
    rw [← hzz] at s1 ⊢
    rw [e2, e3, Nat.pow_succ]
    rw [Int.toNat_natCast] at s1
    have s2 : val (R.set i (z : Int)) = val R + 4294967296 ^ i * z := by simpa using s1
    rw [s2]
    grind
  ·have s1 := val_set R i (by omega) ((x - (y + c) : Nat) : Int)
   rw [hz0] at s1
   refine Ev.step (fun k => ?_) (ih (i + 1) (R.set i ((x - (y + c) : Nat) : Int)) 0 (by omega) (okl_set hR _ (by omega) (by omega)) (by rw [List.length_set]; exact hRl) ?_ (by omega) ?_)
   ·simp only [examboardref01_Sub.l0]
    rw [if_pos (by omega), rlimb ha, rlimb hb]
    simp only [Option.bind_some]
    rw [hx, hy, wrapu64_id (x := (y : Int) + (c : Int)) (by omega) (by omega), if_neg (by omega), if_pos (by omega), if_pos (by omega), wrapu64_id (x := (x : Int) - ((y : Int) + (c : Int))) (by omega) (by omega),
     show ((x : Int) - ((y : Int) + (c : Int))) % 4294967296 = ((x - (y + c) : Nat) : Int) by omega, wrap64_id (x := (i : Int) + 1) (by omega) (by omega), Int.toNat_natCast]
    rfl
   ·intro m hm
    rw [List.getD_eq_getElem?_getD, List.getElem?_set_ne (by omega), ← List.getD_eq_getElem?_getD]
    exact hz m (by omega)
   ·obtain ⟨z, hzz⟩ : ∃ z, z = x - (y + c) := ⟨_, rfl⟩
    have h2 : z + y + c = x := by omega
    rw [← hzz] at s1 ⊢
    rw [e2, e3, Nat.pow_succ]
    rw [Int.toNat_natCast] at s1
    have s2 : val (R.set i (z : Int)) = val R + 4294967296 ^ i * z := by simpa using s1
    rw [s2]
    grind
theorem r1sub_ev {a b : List Int} (ha : okl a) (hb : okl b) (hla : lenok a) (hlb : lenok b) (hab : val b ≤ val a) : Ev (fun k => examboardref01_Sub.f k a b) (limbs (val a - val b), true) := by
 have h := rsub_loop a b ha hb hla hab a.length 0 (List.replicate a.length 0) 0 (by omega) (okl_replicate _) (by simp) (fun m _ => by
      rw [List.getD_eq_getElem?_getD, List.getElem?_replicate]; split <;> rfl) (by omega) (by simp [val, val_replicate])
 have hc := r1cmp_ev ha hb hla hlb
 unfold lenok at hla hlb
 refine Ev.bind hc (Ev.ite_neg (by unfold cmpI; split <;> (try split) <;> omega) (Ev.ite_pos (by omega) (Ev.ite_pos (by omega) ?_)))
 exact h
theorem rshort_loop (a : List Int) (ha : okl a) (hla : lenok a) (d : Int) (hd0 : 0 < d) (hd1 : d < 4294967296) (n : Nat) (hn : n ≤ a.length) (q : List Int) (hq : okl q) (hql : q.length = a.length) (r : Int) (hr0 : 0 ≤ r) (hr1 : r < d)
  (hv : val (a.drop n) = val (q.drop n) * d.toNat + r.toNat) :
  ∃ q' r', okl q' ∧ q'.length = a.length ∧ 0 ≤ r' ∧ r' < d ∧ val a = val q' * d.toNat + r'.toNat ∧ Ev (fun k => examboardref01_short.l0 k a d q r ((n : Int) - 1)) (limbs (val q'), r') := by
 induction n generalizing q r with
 | zero =>
  refine ⟨q, r, hq, hql, hr0, hr1, by simpa using hv, ?_⟩
  refine Ev.step (f := fun k => (examboardref01_Norm.f k q).bind fun t => some (t, r)) (fun k => ?_) (Ev.bind (f := fun _ t => some (t, r)) (rnorm_ev hq (by unfold lenok at *; omega)) (Ev.now _))
  simp only [examboardref01_short.l0]
  rw [if_neg (by omega)]
 | succ n ih =>
  unfold lenok at hla
  have r1 := okl_rd ha n
  rw [rd_nat] at r1
  have e1 : ((n + 1 : Nat) : Int) - 1 = n := by omega
  obtain ⟨x, hx⟩ : ∃ x, x = r * 4294967296 + a.getD n 0 := ⟨_, rfl⟩
  have hx0 : 0 ≤ x := by omega
  have hx1 : x < d * 4294967296 := by omega
  have hdiv0 : 0 ≤ x / d := Int.ediv_nonneg hx0 (by omega)
  have hdiv1 : x / d < 4294967296 := Int.ediv_lt_of_lt_mul hd0 (by rw [Int.mul_comm]; exact hx1)
  have hm0 := Int.emod_nonneg x (show d ≠ 0 by omega)
  have hm1 := Int.emod_lt_of_pos x hd0
  have hmd := Int.mul_ediv_add_emod x d
  have e2 := val_drop_one a n (by omega)
  have e3 : val ((q.set n (x / d)).drop n) = (x / d).toNat + 4294967296 * val (q.drop (n + 1)) := by
   rw [val_drop_one _ n (by rw [List.length_set]; omega), List.getD_eq_getElem?_getD, List.getElem?_set_self (by omega), List.drop_set_of_lt (by omega)]
   rfl
  obtain ⟨q', r', h1, h2, h3, h4, h5, h6⟩ := ih (by omega) (q.set n (x / d)) (okl_set hq n hdiv0 hdiv1) (by rw [List.length_set]; exact hql) (x % d) hm0 hm1 (by
   rw [e2, hv, e3]
   have hc : (x / d).toNat * d.toNat + (x % d).toNat = r.toNat * 4294967296 + (a.getD n 0).toNat := by
    have h7 : (((x / d).toNat * d.toNat + (x % d).toNat : Nat) : Int) = ((r.toNat * 4294967296 + (a.getD n 0).toNat : Nat) : Int) := by
     rw [Int.natCast_add, Int.natCast_mul, Int.natCast_add, Int.natCast_mul, Int.toNat_of_nonneg hdiv0, Int.toNat_of_nonneg (show (0:Int) ≤ d by omega), Int.toNat_of_nonneg hm0, Int.toNat_of_nonneg hr0, Int.toNat_of_nonneg r1.1]
     rw [Int.mul_comm (x / d) d]; omega
    exact Int.ofNat.inj h7
   grind)
  refine ⟨q', r', h1, h2, h3, h4, h5, ?_⟩
  rw [e1]
  refine Ev.step (fun k => ?_) h6
  simp only [examboardref01_short.l0]
  rw [if_pos (by omega), if_pos (by omega), if_pos (by omega), if_neg (by omega), if_pos (by omega), rd_nat, wrapu64_id (x := a.getD n 0) (by omega) (by omega), wrapu64_id (x := r * 4294967296) (by omega) (by omega), ← hx, wrapu64_id (x := x) hx0 (by omega), Int.tdiv_eq_ediv_of_nonneg hx0, Int.tmod_eq_emod_of_nonneg hx0, wrapu64_id (x := x / d) hdiv0 (by omega), show x / d % 4294967296 = x / d by omega, wrap64_id (by omega) (by omega), Int.toNat_natCast]
theorem rshort_ev {a : List Int} (ha : okl a) (hla : lenok a) {d : Int} (hd0 : 0 < d) (hd1 : d < 4294967296) : Ev (fun k => examboardref01_short.f k a d) (limbs (val a / d.toNat), ((val a % d.toNat : Nat) : Int)) := by
 unfold lenok at hla
 obtain ⟨q', r', h1, h2, h3, h4, h5, h6⟩ := rshort_loop a ha hla d hd0 hd1 a.length (Nat.le_refl _) (List.replicate a.length 0) (okl_replicate _) (by simp) 0 (by omega) hd0 (by
  rw [List.drop_length, List.drop_of_length_le (by simp)]; simp [val])
 have hq : val a / d.toNat = val q' := by
  rw [h5]
  exact Nat.div_eq_of_lt_le (by omega) (by rw [Nat.add_mul]; omega)
 have hr : val a % d.toNat = r'.toNat := by
  rw [h5, Nat.mul_comm, Nat.mul_add_mod, Nat.mod_eq_of_lt (by omega)]
 rw [hq, hr, Int.toNat_of_nonneg h3]
 refine Ev.ite_pos (by omega) (Ev.ite_pos (by omega) ?_)
 rw [Int.toNat_natCast, wrap64_id (by omega) (by omega)]
 exact h6
theorem half_num2 {x y : Nat} (hx : x < 4294967296) : 2 * ((y * 4294967296 + x) / 2 % 4294967296) + x % 2 = x + 4294967296 * (y % 2) := by
 have h1 := Nat.div_add_mod y 2
 have h2 := Nat.div_add_mod x 2
 have hs : y % 2 < 2 := Nat.mod_lt _ (by decide)
 have ht : x % 2 < 2 := Nat.mod_lt _ (by decide)
 generalize y / 2 = q at *
 generalize y % 2 = s at *
 generalize x / 2 = u at *
 generalize x % 2 = t at *
 have e : (y * 4294967296 + x) / 2 = u + 2147483648 * s + 4294967296 * q := by
  subst h1 h2
  rw [show (2 * q + s) * 4294967296 + (2 * u + t) = t + 2 * (u + 2147483648 * s + 4294967296 * q) by grind, Nat.add_mul_div_left _ _ (by decide), Nat.div_eq_of_lt ht, Nat.zero_add]
 rw [e, Nat.add_mul_mod_self_left]
 have h3 : u + 2147483648 * s < 4294967296 := by
  have : s ≤ 1 := by omega
  have : 2147483648 * s ≤ 2147483648 * 1 := Nat.mul_le_mul_left _ this
  omega
 rw [Nat.mod_eq_of_lt h3]
 grind
theorem half_cast (x y : Nat) : ((y : Int) * 4294967296 + (x : Int)) / 2 % 4294967296 = (((y * 4294967296 + x) / 2 % 4294967296 : Nat) : Int) := by
 rw [Int.natCast_emod, Int.natCast_ediv, Int.natCast_add, Int.natCast_mul]
 rfl
theorem half_lt (v : Nat) : ((v % 4294967296 : Nat) : Int) < 4294967296 := by
 have := Nat.mod_lt v (show 0 < 4294967296 by decide)
 generalize v % 4294967296 = z at *
 omega
theorem half_limb {x y : Nat} (hx : (x : Int) < 4294967296) (hy : (y : Int) < 4294967296) :
  IntKind.u64.wrap (IntKind.u64.wrap ((y : Int) * 4294967296) + IntKind.u64.wrap (x : Int)) = (y : Int) * 4294967296 + (x : Int) := by
 rw [wrapu64_id (x := (y : Int) * 4294967296) (by omega) (by omega), wrapu64_id (x := (x : Int)) (by omega) (by omega), wrapu64_id (x := (y : Int) * 4294967296 + (x : Int)) (by omega) (by omega)]
theorem half_both {x y : Nat} (hx : (x : Int) < 4294967296) (hy : (y : Int) < 4294967296) : ∃ z : Nat, (z : Int) < 4294967296 ∧
  Aside0 (IntKind.u64.wrap (IntKind.u64.wrap ((y : Int) * 4294967296) + IntKind.u64.wrap (x : Int)) / 2 % 4294967296 = (z : Int)) ∧ Aside0 (2 * z + x % 2 = x + 4294967296 * (y % 2)) := by
 refine ⟨(y * 4294967296 + x) / 2 % 4294967296, half_lt _, ⟨?_⟩, ⟨half_num2 (by omega)⟩⟩
 rw [half_limb hx hy]
 exact half_cast x y
theorem half_ring {R T P s p q x z : Nat} (hv : 2 * R + s = T + P * p) (h2 : 2 * z + p = x + 4294967296 * q) : 2 * (R + P * z) + s = T + P * x + P * 4294967296 * q := by
 have h4 : P * (2 * z + p) = P * (x + 4294967296 * q) := by rw [h2]
 rw [Nat.mul_add, Nat.mul_add, Nat.mul_left_comm, ← Nat.mul_assoc P 4294967296 q] at h4
 clear h2
 generalize P * 4294967296 * q = W at *
 generalize P * z = Z at *
 generalize P * x = X at *
 generalize P * p = Y at *
 omega
theorem rhalf_loop (a : List Int) (ha : okl a) (hla : lenok a) (d : Nat) : ∀ (i : Nat) (R : List Int), i + d = a.length → okl R → R.length = a.length → (∀ m, i ≤ m → R.getD m 0 = 0) →
  2 * val R + (a.getD 0 0).toNat % 2 = val (a.take i) + 4294967296 ^ i * ((a.getD i 0).toNat % 2) → Ev (fun k => examboardref01_half.l0 k a R (i : Int)) (limbs (val a / 2)) := by
 unfold lenok at hla
 induction d with
 | zero =>
  intro i R hi hR hRl hz hv
  obtain rfl : i = a.length := by omega
  rw [List.take_length, getD_beyond a a.length (Nat.le_refl _)] at hv
  have h5 : val R = val a / 2 := by simp at hv; omega
  rw [← h5]
  refine Ev.step (f := fun k => (examboardref01_Norm.f k R).bind fun t => some t) (fun k => ?_) (Ev.bind (f := fun _ t => some t) (rnorm_ev hR (by unfold lenok; omega)) (Ev.now _))
  simp only [examboardref01_half.l0]
  rw [if_neg (by omega)]
 | succ d ih =>
  intro i R hi hR hRl hz hv
  have r1 := getD_okl ha i
  have r2 := getD_okl ha (i + 1)
  have e2 := val_take' a i
  have hz0 := hz i (Nat.le_refl _)
  obtain ⟨x, hx⟩ := Int.eq_ofNat_of_zero_le r1.1
  obtain ⟨y, hy⟩ := Int.eq_ofNat_of_zero_le r2.1
  rw [hx] at r1 e2 hv
  rw [hy] at r2
  rw [Int.toNat_natCast] at e2 hv
  obtain ⟨z, hz4, h3, h2⟩ := half_both r1.2 r2.2
  have s1 := val_set R i (by omega) (z : Int)
  rw [hz0] at s1
  replace s1 := Aside0.mk s1
  replace hv := Aside0.mk hv
  replace e2 := Aside0.mk e2
  refine Ev.step (fun k => ?_) (ih (i + 1) (R.set i (z : Int)) (by omega) (okl_set hR _ (Int.natCast_nonneg _) hz4) (by rw [List.length_set]; exact hRl) ?_ ?_)
  ·have w1 : Aside0 (wrap64 ((i : Int) + 1) = ((i + 1 : Nat) : Int)) := ⟨by rw [wrap64_id (by omega) (by omega)]; omega⟩
   have hil : (i : Int) < (a.length : Int) := by omega
   simp only [examboardref01_half.l0]
   rw [if_pos hil, w1.out, rlimb ha]
   simp only [Option.bind_some]
   rw [hy, if_pos (by omega), if_pos (by omega), rd_nat, hx, h3.out, Int.toNat_natCast]
  ·intro m hm
   rw [List.getD_eq_getElem?_getD, List.getElem?_set_ne (by omega), ← List.getD_eq_getElem?_getD]
   exact hz m (by omega)
  ·rw [hy, Int.toNat_natCast, e2.out, Nat.pow_succ]
   replace s1 := s1.out
   replace hv := hv.out
   rw [Int.toNat_natCast] at s1
   have s2 : val (R.set i (z : Int)) = val R + 4294967296 ^ i * z := by simpa using s1
   rw [s2]
   have h2 := h2.out
   obtain ⟨p, hp⟩ : ∃ p, p = x % 2 := ⟨_, rfl⟩
   obtain ⟨q, hq⟩ : ∃ q, q = y % 2 := ⟨_, rfl⟩
   obtain ⟨s, hs⟩ : ∃ s, s = (a.getD 0 0).toNat % 2 := ⟨_, rfl⟩
   rw [← hp, ← hq] at h2
   rw [← hp, ← hs] at hv
   rw [← hq, ← hs]
   exact half_ring hv h2
theorem rhalf_ev {a : List Int} (ha : okl a) (hla : lenok a) : Ev (fun k => examboardref01_half.f k a) (limbs (val a / 2)) := by
 have h := rhalf_loop a ha hla a.length 0 (List.replicate a.length 0) (by omega) (okl_replicate _) (by simp) (fun m _ => by
      rw [List.getD_eq_getElem?_getD, List.getElem?_replicate]; split <;> rfl) (by simp [val, val_replicate])
 unfold lenok at hla
 exact Ev.ite_pos (by omega) (Ev.ite_pos (by omega) h)
theorem rbits_loop (d : Nat) : ∀ (v n : Nat), v < 2 ^ d → v < 4294967296 → n + d ≤ 1152921504606846976 →
  ∃ L : Nat, L ≤ d ∧ v < 2 ^ L ∧ (v ≠ 0 → 1 ≤ L ∧ 2 ^ (L - 1) ≤ v) ∧ (v = 0 → L = 0) ∧ Ev (fun k => examboardref01_Bits.l0 k (n : Int) (v : Int)) ((n + L : Nat) : Int) := by
 induction d with
 | zero =>
  intro v n hv hv2 hn
  obtain rfl : v = 0 := by simpa using hv
  refine ⟨0, Nat.le_refl _, by decide, fun h => absurd rfl h, fun _ => rfl, ?_⟩
  refine Ev.step (f := fun _ => some (n : Int)) (fun k => ?_) (Ev.now _)
  simp only [examboardref01_Bits.l0]
  rw [if_neg (by omega)]
 | succ d ih =>
  intro v n hv hv2 hn
  by_cases h0 : v = 0
  ·subst h0
   refine ⟨0, by omega, by decide, fun h => absurd rfl h, fun _ => rfl, ?_⟩
   refine Ev.step (f := fun _ => some (n : Int)) (fun k => ?_) (Ev.now _)
   simp only [examboardref01_Bits.l0]
   rw [if_neg (by omega)]
  ·rw [Nat.pow_succ] at hv
   obtain ⟨L, h1, h2, h3, h4, h5⟩ := ih (v / 2) (n + 1) (by omega) (by omega) (by omega)
   refine ⟨L + 1, by omega, by rw [Nat.pow_succ]; omega, fun _ => ⟨by omega, ?_⟩, fun h => absurd h h0, ?_⟩
   ·rw [Nat.add_sub_cancel]
    by_cases hq : v / 2 = 0
    ·rw [h4 hq]; simp; omega
    ·obtain ⟨h6, h7⟩ := h3 hq
     have : 2 ^ L = 2 ^ (L - 1) * 2 := by rw [← Nat.pow_succ]; congr 1; omega
     omega
   ·refine Ev.step (fun k => ?_) (by rw [show n + (L + 1) = n + 1 + L by omega]; exact h5)
    simp only [examboardref01_Bits.l0]
    rw [if_pos (by omega), wrap64_id (x := (n : Int) + 1) (by omega) (by omega), Int.tdiv_eq_ediv_of_nonneg (by omega), show (v : Int) / 2 % 4294967296 = ((v / 2 : Nat) : Int) by omega]
    rfl
theorem pow32 (n : Nat) : 4294967296 ^ n = 2 ^ (32 * n) := by rw [Nat.pow_mul]
theorem r1bits_ev {a : List Int} (ha : okl a) (hla : lenok a) :
  ∃ L : Nat, Ev (fun k => examboardref01_Bits.f k a) ((L : Nat) : Int) ∧ L ≤ 32 * a.length ∧ val a < 2 ^ L ∧ (val a ≠ 0 → 1 ≤ L ∧ 2 ^ (L - 1) ≤ val a) ∧ (val a = 0 → L = 0) := by
 have hn := rnorm_ev ha hla
 have hl := limbs_val_len ha
 unfold lenok at hla
 by_cases h0 : val a = 0
 ·refine ⟨0, Ev.bind hn (Ev.ite_pos ?_ (Ev.now _)), by omega, by rw [h0]; decide, fun h => absurd h0 h, fun _ => rfl⟩
  rw [h0, limbs_zero]; rfl
 ·obtain ⟨m, hm⟩ : ∃ m, (limbs (val a)).length = m + 1 := ⟨(limbs (val a)).length - 1, by
   have := List.length_pos_iff.2 (limbs_ne_nil h0); omega⟩
  have ht := limbs_top h0
  rw [hm, Nat.add_sub_cancel] at ht
  have hr := getD_okl (okl_limbs (val a)) m
  obtain ⟨x, hx⟩ := Int.eq_ofNat_of_zero_le hr.1
  rw [hx] at hr ht
  have hx0 : x ≠ 0 := by omega
  obtain ⟨L, h1, h2, h3, h4, h5⟩ := rbits_loop 32 x (32 * m) (by omega) (by omega) (by omega)
  obtain ⟨h6, h7⟩ := h3 hx0
  have hv := val_split (limbs (val a)) m
  have hd := val_drop' (limbs (val a)) m
  rw [List.drop_eq_nil_of_le (i := m + 1) (by omega), hx] at hd
  have hb := val_take_lt (okl_limbs (val a)) m
  rw [val_limbs, hd] at hv
  simp only [val, Int.toNat_natCast, Nat.mul_zero, Nat.add_zero] at hv
  rw [pow32] at hv hb
  refine ⟨32 * m + L, Ev.bind hn (Ev.ite_neg (by rw [hm]; omega) (Ev.ite_pos ?_ (Ev.ite_pos ?_ ?_))), by omega, ?_, fun _ => ⟨by omega, ?_⟩, fun h => absurd h h0⟩
  ·rw [hm, wrap64_id (by omega) (by omega)]; omega
  ·rw [hm, wrap64_id (by omega) (by omega)]; omega
  ·rw [hm, wrap64_id (x := ((m + 1 : Nat) : Int) - 1) (by omega) (by omega), show ((m + 1 : Nat) : Int) - 1 = (m : Int) by omega, rd_nat, hx, wrap64_id (x := 32 * (m : Int)) (by omega) (by omega)]
   exact h5
  ·rw [hv, Nat.pow_add]
   have : 2 ^ (32 * m) * (x + 1) ≤ 2 ^ (32 * m) * 2 ^ L := Nat.mul_le_mul_left _ h2
   rw [Nat.mul_add] at this
   generalize 2 ^ (32 * m) * x = u at *
   generalize 2 ^ (32 * m) * 2 ^ L = v at *
   omega
  ·rw [hv, show 32 * m + L - 1 = 32 * m + (L - 1) by omega, Nat.pow_add]
   have := Nat.mul_le_mul_left (2 ^ (32 * m)) h7
   omega
theorem wrapu32_id {x : Int} (h0 : 0 ≤ x) (h1 : x < 4294967296) : IntKind.u32.wrap x = x := by
 have : IntKind.u32.wrap x = x % 4294967296 := by simp [IntKind.wrap, IntKind.bits, IntKind.signed]
 rw [this]; omega
theorem or_sum32 {c m n : Nat} (hc : c < 2 ^ n) (h : 2 ^ n * m < 4294967296) (hc2 : c < 4294967296) : Go.bits .or .u32 (c : Int) ((2 ^ n * m : Nat) : Int) = ((c + 2 ^ n * m : Nat) : Int) := by
 rw [(bits_nat .u32 32 (by decide) (fun n a b => wrapu32_id a b) c (2 ^ n * m) (by omega) (by omega)).2, Nat.or_comm, ← Nat.two_pow_add_eq_or_of_lt hc, Nat.add_comm]
theorem shift_limb {x c r : Nat} (hr : r ≤ 31) (hx : x < 4294967296) (hc : c < 2 ^ r) : ∃ lo hi : Nat, x * 2 ^ r / 4294967296 % 4294967296 = hi ∧ (∃ m, x * 2 ^ r % 4294967296 = 2 ^ r * m) ∧ lo = c + x * 2 ^ r % 4294967296 ∧ lo < 4294967296 ∧ hi < 2 ^ r ∧ lo + 4294967296 * hi = c + x * 2 ^ r := by
 obtain ⟨p1, p2⟩ := pow_le31 hr
 have hd : 2 ^ r ∣ 4294967296 := ⟨2 ^ (32 - r), by rw [← Nat.pow_add, show r + (32 - r) = 32 by omega]⟩
 obtain ⟨e, he⟩ := hd
 have hm : x * 2 ^ r % 4294967296 = 2 ^ r * (x % e) := by rw [he, Nat.mul_comm x, Nat.mul_mod_mul_left]
 have hlt : x * 2 ^ r < 4294967296 * 2 ^ r := Nat.mul_lt_mul_of_pos_right hx p2
 have hh : x * 2 ^ r / 4294967296 < 2 ^ r := Nat.div_lt_of_lt_mul hlt
 have hmd := Nat.div_add_mod (x * 2 ^ r) 4294967296
 have he0 : 0 < e := by
  rcases Nat.eq_zero_or_pos e with h | h
  ·rw [h] at he; omega
  ·exact h
 have hxe : x % e + 1 ≤ e := Nat.mod_lt _ he0
 have hb := Nat.mul_le_mul_left (2 ^ r) hxe
 rw [← he, Nat.mul_add, ← hm] at hb
 refine ⟨c + x * 2 ^ r % 4294967296, x * 2 ^ r / 4294967296, Nat.mod_eq_of_lt (by omega), ⟨_, hm⟩, rfl, by omega, hh, by omega⟩
theorem shift_ring {A0 A1 A2 U V lo hi c X : Nat} (s1 : A1 + U * c = A0 + U * lo) (s2 : A2 = A1 + U * 4294967296 * hi) (q : lo + 4294967296 * hi = c + X) (hV : U * X = V) : A2 = A0 + V := by
 have h4 : U * (lo + 4294967296 * hi) = U * (c + X) := by rw [q]
 rw [Nat.mul_add, Nat.mul_add, hV, ← Nat.mul_assoc] at h4
 clear q hV
 generalize U * 4294967296 * hi = W at *
 generalize U * lo = Z at *
 generalize U * c = Y at *
 omega
theorem rshift_loop (a : List Int) (ha : okl a) (hla : lenok a) (w r : Nat) (hr : r ≤ 31) (hw : w ≤ 1099511627776) (d : Nat) : ∀ (i : Nat) (P : List Int), i + d = a.length → okl P → P.length = a.length + w + 1 → (∀ m, i + w < m → P.getD m 0 = 0) → P.getD (i + w) 0 < (2 ^ r : Nat) →
  val P = 4294967296 ^ w * (val (a.take i) * 2 ^ r) → Ev (fun k => examboardref01_Shift.l0 k a ((32 * w + r : Nat) : Int) P (i : Int)) (limbs (4294967296 ^ w * (val a * 2 ^ r))) := by
 unfold lenok at hla
 induction d with
 | zero =>
  intro i P hi hP hPl hz hc hv
  obtain rfl : i = a.length := by omega
  rw [List.take_length] at hv
  rw [← hv]
  refine Ev.step (f := fun k => (examboardref01_Norm.f k P).bind fun t => some t) (fun k => ?_) (Ev.bind (f := fun _ t => some t) (rnorm_ev2 hP (by unfold lenok2; omega)) (Ev.now _))
  simp only [examboardref01_Shift.l0]
  rw [if_neg (by omega)]
 | succ d ih =>
  intro i P hi hP hPl hz hc hv
  have r1 := getD_okl ha i
  have r2 := getD_okl hP (i + w)
  have e2 := val_take' a i
  obtain ⟨x, hx⟩ := Int.eq_ofNat_of_zero_le r1.1
  obtain ⟨c, hcc⟩ := Int.eq_ofNat_of_zero_le r2.1
  rw [hx] at r1 e2
  rw [hcc] at r2 hc
  rw [Int.toNat_natCast] at e2
  obtain ⟨lo, hi2, q1, ⟨m, q2⟩, q3, q4, q5, q6⟩ := shift_limb (x := x) (c := c) hr (by omega) (by omega)
  obtain ⟨p1, p2⟩ := pow_le31 hr
  have t1 : Aside0 (IntKind.u64.wrap (Int.tmod ((32 * w + r : Nat) : Int) 32) = (r : Int)) := ⟨by rw [Int.tmod_eq_emod_of_nonneg (by omega), wrapu64_id (by omega) (by omega)]; omega⟩
  have t2 : Aside0 (wrap64 (Int.tdiv ((32 * w + r : Nat) : Int) 32) = (w : Int)) := ⟨by rw [Int.tdiv_eq_ediv_of_nonneg (by omega), wrap64_id (by omega) (by omega)]; omega⟩
  have t3 : Aside0 (wrap64 ((i : Int) + (w : Int)) = ((i + w : Nat) : Int)) := ⟨by rw [wrap64_id (by omega) (by omega)]; omega⟩
  have t4 : Aside0 (wrap64 (((i + w : Nat) : Int) + 1) = ((i + w + 1 : Nat) : Int)) := ⟨by rw [wrap64_id (by omega) (by omega)]; omega⟩
  have t5 : Aside0 (shl .u64 (IntKind.u64.wrap (x : Int)) (r : Int) = ((x * 2 ^ r : Nat) : Int)) := ⟨by rw [wrapu64_id (by omega) (by omega), shl_u64 (by omega) (by omega) hr]; simp⟩
  have t6 : Aside0 (Go.bits .or .u32 (c : Int) (((x * 2 ^ r : Nat) : Int) % 4294967296) = (lo : Int)) := ⟨by
   rw [show (((x * 2 ^ r : Nat) : Int) % 4294967296) = ((x * 2 ^ r % 4294967296 : Nat) : Int) from rfl, q2, or_sum32 (by omega) (by omega) (by omega), q3, q2]⟩
  have t7 : Aside0 (((x * 2 ^ r : Nat) : Int) / 4294967296 % 4294967296 = (hi2 : Int)) := ⟨by rw [← q1]; rfl⟩
  have hz1 := hz (i + w + 1) (by omega)
  have s1 := Aside0.mk (val_set P (i + w) (by omega) (lo : Int))
  have s2 := Aside0.mk (val_set (P.set (i + w) (lo : Int)) (i + w + 1) (by rw [List.length_set]; omega) (hi2 : Int))
  have g1 : (P.set (i + w) (lo : Int)).getD (i + w + 1) 0 = 0 := by
   rw [List.getD_eq_getElem?_getD, List.getElem?_set_ne (by omega), ← List.getD_eq_getElem?_getD]; exact hz1
  replace hv := Aside0.mk hv
  replace e2 := Aside0.mk e2
  replace q6 := Aside0.mk q6
  have hil : (i : Int) < (a.length : Int) := by omega
  have hhi : (hi2 : Int) < 4294967296 := by omega
  have hlo : (lo : Int) < 4294967296 := by omega
  clear q1 q2 q3
  refine Ev.step (fun k => ?_) (ih (i + 1) ((P.set (i + w) (lo : Int)).set (i + w + 1) (hi2 : Int)) (by omega) (okl_set (okl_set hP _ (Int.natCast_nonneg _) hlo) _ (Int.natCast_nonneg _) hhi) (by rw [List.length_set, List.length_set]; exact hPl) ?_ ?_ ?_)
  ·simp only [examboardref01_Shift.l0]
   rw [if_pos hil, if_pos (by omega), t1.out, if_pos (by omega), t2.out, t3.out, if_pos (by omega), if_pos (by omega), t4.out, if_pos (by omega), if_pos (by omega), rd_nat, rd_nat, hx, hcc, t5.out, t6.out, t7.out, Int.toNat_natCast, Int.toNat_natCast, wrap64_id (x := (i : Int) + 1) (by omega) (by omega)]
   rfl
  ·intro m hm
   rw [List.getD_eq_getElem?_getD, List.getElem?_set_ne (by omega), List.getElem?_set_ne (by omega), ← List.getD_eq_getElem?_getD]
   exact hz m (by omega)
  ·rw [show i + 1 + w = i + w + 1 by omega, List.getD_eq_getElem?_getD, List.getElem?_set_self (by rw [List.length_set]; omega)]
   exact Int.ofNat_lt.2 q5
  ·have s1 := s1.out
   have s2 := s2.out
   rw [g1] at s2
   rw [hcc] at s1
   simp only [Int.toNat_natCast] at s1 s2
   rw [e2.out, Nat.add_mul, Nat.mul_add, ← hv.out]
   have q6 := q6.out
   clear t1 t2 t3 t4 t5 t6 t7 hv e2 ih hz
   rw [Nat.pow_succ, show Int.toNat 0 = 0 from rfl, Nat.mul_zero, Nat.add_zero] at s2
   have hpw : 4294967296 ^ (i + w) = 4294967296 ^ i * 4294967296 ^ w := Nat.pow_add _ _ _
   rw [Nat.mul_assoc (4294967296 ^ i) x (2 ^ r)]
   generalize 4294967296 ^ (i + w) = U at *
   generalize 4294967296 ^ i = I at *
   generalize 4294967296 ^ w = W at *
   generalize x * 2 ^ r = X at *
   refine shift_ring s1 s2 q6 ?_
   rw [hpw, Nat.mul_comm I W, Nat.mul_assoc]
theorem r1shift_ev {a : List Int} (ha : okl a) (hla : lenok a) {n : Nat} (hn : n ≤ 35184372088832) : Ev (fun k => examboardref01_Shift.f k a (n : Int)) (limbs (val a * 2 ^ n)) := by
 obtain ⟨w, r, hr, rfl⟩ : ∃ w r, r ≤ 31 ∧ n = 32 * w + r := ⟨n / 32, n % 32, by omega, by omega⟩
 have h := rshift_loop a ha hla w r hr (by omega) a.length 0 (List.replicate (a.length + w + 1) 0) (by omega) (okl_replicate _) (by simp) (fun m _ => by
      rw [List.getD_eq_getElem?_getD, List.getElem?_replicate]; split <;> rfl) (by
      have : (List.replicate (a.length + w + 1) (0 : Int)).getD (0 + w) 0 = 0 := by rw [List.getD_eq_getElem?_getD, List.getElem?_replicate]; split <;> rfl
      rw [this]; have := (pow_le31 hr).2; omega) (by simp [val, val_replicate])
 unfold lenok at hla
 have e : 4294967296 ^ w * (val a * 2 ^ r) = val a * 2 ^ (32 * w + r) := by
  rw [pow32, Nat.pow_add, Nat.mul_left_comm]
 rw [e] at h
 have t2 : wrap64 (Int.tdiv ((32 * w + r : Nat) : Int) 32) = (w : Int) := by rw [Int.tdiv_eq_ediv_of_nonneg (by omega), wrap64_id (by omega) (by omega)]; omega
 have t3 : wrap64 ((a.length : Int) + (w : Int)) = ((a.length + w : Nat) : Int) := by rw [wrap64_id (by omega) (by omega)]; omega
 have t4 : wrap64 (((a.length + w : Nat) : Int) + 1) = ((a.length + w + 1 : Nat) : Int) := by rw [wrap64_id (by omega) (by omega)]; omega
 refine Ev.congr (fun k => ?_) h
 unfold examboardref01_Shift.f
 rw [t2, t3, t4]
 clear t2 t3 t4 h e
 rw [if_pos (by omega), if_pos (by omega), Int.toNat_natCast]
 rfl
theorem shl_one {r : Nat} (hr : r ≤ 31) : shl .u32 1 (r : Int) = ((2 ^ r : Nat) : Int) := by
 obtain ⟨p1, p2⟩ := pow_le31 hr
 unfold shl
 rw [Int.toNat_natCast, Nat.min_eq_left (by simp [IntKind.bits]; omega), Int.one_mul, show (2 : Int) ^ r = ((2 ^ r : Nat) : Int) by simp, wrapu32_id (by omega) (by omega)]
theorem or_bit {q r m : Nat} (hr : r ≤ 31) (hq : q = 2 ^ (r + 1) * m) (h : q < 4294967296) : Go.bits .or .u32 (q : Int) ((2 ^ r : Nat) : Int) = ((q + 2 ^ r : Nat) : Int) := by
 obtain ⟨p1, p2⟩ := pow_le31 hr
 have h2 : 2 ^ r < 2 ^ (r + 1) := by rw [Nat.pow_succ]; omega
 rw [(bits_nat .u32 32 (by decide) (fun n a b => wrapu32_id a b) q (2 ^ r) (by omega) (by omega)).2, hq, ← Nat.two_pow_add_eq_or_of_lt h2]
theorem bit_clear {Q : List Int} (hQ : okl Q) {w r : Nat} (hr : r ≤ 31) (hd : 2 ^ (32 * w + r + 1) ∣ val Q) : ∃ q m : Nat, Q.getD w 0 = (q : Int) ∧ q = 2 ^ (r + 1) * m ∧ q + 2 ^ r < 4294967296 := by
 obtain ⟨p1, p2⟩ := pow_le31 hr
 have r1 := getD_okl hQ w
 obtain ⟨q, hq⟩ := Int.eq_ofNat_of_zero_le r1.1
 have hv := val_split Q w
 have hdr := val_drop' Q w
 have hb := val_take_lt hQ w
 rw [hq, Int.toNat_natCast] at hdr
 rw [hq] at r1
 rw [pow32] at hv hb
 have e : 32 * w + r + 1 = 32 * w + (r + 1) := by omega
 rw [e, Nat.pow_add] at hd
 have hd1 : 2 ^ (32 * w) ∣ val Q := Nat.dvd_trans (Nat.dvd_mul_right _ _) hd
 have h0 : val (Q.take w) = 0 := by
  rw [hv, Nat.dvd_add_left (Nat.dvd_mul_right _ _)] at hd1
  exact Nat.eq_zero_of_dvd_of_lt hd1 hb
 rw [hv, h0, Nat.zero_add] at hd
 have hd2 : 2 ^ (r + 1) ∣ val (Q.drop w) := Nat.dvd_of_mul_dvd_mul_left (Nat.two_pow_pos _) hd
 have hB : 2 ^ (r + 1) ∣ 4294967296 := ⟨2 ^ (31 - r), by rw [← Nat.pow_add, show r + 1 + (31 - r) = 32 by omega]⟩
 rw [hdr, Nat.dvd_add_left (Nat.dvd_trans hB (Nat.dvd_mul_right _ _))] at hd2
 obtain ⟨m, hm⟩ := hd2
 obtain ⟨e, he⟩ := hB
 refine ⟨q, m, hq, hm, ?_⟩
 have h1 : m < e := by
  rcases Nat.lt_or_ge m e with h | h
  ·exact h
  ·have := Nat.mul_le_mul_left (2 ^ (r + 1)) h; omega
 have h2 : 2 ^ (r + 1) * (m + 1) ≤ 2 ^ (r + 1) * e := Nat.mul_le_mul_left _ h1
 rw [← he, Nat.mul_add, ← hm, Nat.mul_one, Nat.pow_succ] at h2
 omega
theorem set_bit {Q : List Int} (hQ : okl Q) {j : Nat} (hj : j < 32 * Q.length) (hd : 2 ^ (j + 1) ∣ val Q) :
  ∃ Q', okl Q' ∧ Q'.length = Q.length ∧ val Q' = val Q + 2 ^ j ∧ Q' = Q.set (j / 32) (Go.bits .or .u32 (Q.getD (j / 32) 0) (shl .u32 1 ((j % 32 : Nat) : Int))) := by
 have hr : j % 32 ≤ 31 := by omega
 obtain ⟨p1, p2⟩ := pow_le31 hr
 have hw : j / 32 < Q.length := by omega
 have e : j + 1 = 32 * (j / 32) + j % 32 + 1 := by omega
 rw [e] at hd
 obtain ⟨q, m, h1, h2, h3⟩ := bit_clear hQ hr hd
 rw [h1, shl_one hr, or_bit hr h2 (by omega)]
 have hs := val_set Q (j / 32) hw ((q + 2 ^ (j % 32) : Nat) : Int)
 rw [h1, Int.toNat_natCast, Int.toNat_natCast, Nat.mul_add] at hs
 refine ⟨_, okl_set hQ _ (Int.natCast_nonneg _) (by omega), by rw [List.length_set], ?_, rfl⟩
 have e2 : 4294967296 ^ (j / 32) * 2 ^ (j % 32) = 2 ^ j := by rw [pow32, ← Nat.pow_add]; congr 1; omega
 rw [e2] at hs
 generalize 4294967296 ^ (j / 32) * q = u at *
 omega
theorem dm_ring {v p y s r A : Nat} (h : v * y + r = A) (hs : s = y * p) (hle : s ≤ r) : (v + p) * y + (r - s) = A := by
 rw [Nat.add_mul, Nat.mul_comm p y, ← hs]; omega
theorem dm_end {v y r A : Nat} (h : v * y + r = A) (hr : r < y) : v = A / y ∧ r = A % y := by
 subst h
 rw [Nat.mul_comm, Nat.mul_add_div (by omega), Nat.mul_add_mod, Nat.div_eq_of_lt hr, Nat.mod_eq_of_lt hr]
 exact ⟨rfl, rfl⟩
theorem tdiv32 (j : Nat) (hj : j < 9000000000000000000) : wrap64 (Int.tdiv (j : Int) 32) = ((j / 32 : Nat) : Int) := by
 rw [Int.tdiv_eq_ediv_of_nonneg (by omega), wrap64_id (by omega) (by omega)]; omega
theorem tmod32 (j : Nat) : IntKind.u64.wrap (Int.tmod (j : Int) 32) = ((j % 32 : Nat) : Int) := by
 rw [Int.tmod_eq_emod_of_nonneg (by omega), wrapu64_id (by omega) (by omega)]; omega
theorem rdm_step (k : Nat) (r d Q : List Int) (j : Nat) (hj : j / 32 < Q.length) (hQ : Q.length ≤ 1099511627776) :
  examboardref01_DivMod.l0 (k + 1) r Q d (j : Int) = (examboardref01_Cmp.f k r d).bind fun t => if t ≥ 0 then ((examboardref01_Sub.f k r d).bind fun bt => (examboardref01_half.f k d).bind fun t2 => examboardref01_DivMod.l0 k bt.1 (Q.set (j / 32) (Go.bits .or .u32 (Q.getD (j / 32) 0) (shl .u32 1 ((j % 32 : Nat) : Int)))) t2 ((j : Int) - 1)) else ((examboardref01_half.f k d).bind fun t2 => examboardref01_DivMod.l0 k r Q t2 ((j : Int) - 1)) := by
 simp only [examboardref01_DivMod.l0]
 have w2 : Aside0 (wrap64 ((j : Int) - 1) = (j : Int) - 1) := ⟨by rw [wrap64_id (by omega) (by omega)]⟩
 have h0 : (j : Int) ≥ 0 := Int.natCast_nonneg _
 have h32 : ((j / 32 : Nat) : Int) < (Q.length : Int) := by omega
 rw [if_pos h0, w2.out, tdiv32 j (by omega), tmod32 j]
 have h1 : (0 : Int) ≤ ((j / 32 : Nat) : Int) := Int.natCast_nonneg _
 have h2 : (0 : Int) ≤ ((j % 32 : Nat) : Int) := Int.natCast_nonneg _
 simp only [if_pos h1, if_pos h32, if_pos h2, rd_nat, Int.toNat_natCast]
theorem rdm_loop (y A : Nat) (hy : 0 < y) (j : Nat) : ∀ (s rem : Nat) (Q : List Int), okl Q → Q.length ≤ 1099511627776 → j ≤ 32 * Q.length → (limbs s).length ≤ 1099511627776 → (limbs rem).length ≤ 1099511627776 →
  (∀ i, j = i + 1 → s = y * 2 ^ i) → rem < y * 2 ^ j → val Q * y + rem = A → 2 ^ j ∣ val Q → Ev (fun k => examboardref01_DivMod.l0 k (limbs rem) Q (limbs s) ((j : Int) - 1)) (limbs (A / y), limbs (A % y), true) := by
 induction j with
 | zero =>
  intro s rem Q hQ hQl hj hsl hrl hs hr hv hd
  rw [Nat.pow_zero, Nat.mul_one] at hr
  obtain ⟨e1, e2⟩ := dm_end hv hr
  rw [← e1, ← e2]
  refine Ev.step (f := fun k => (examboardref01_Norm.f k Q).bind fun t => some (t, limbs rem, true)) (fun k => ?_) (Ev.bind (f := fun _ t => some (t, limbs rem, true)) (rnorm_ev hQ hQl) (Ev.now _))
  simp only [examboardref01_DivMod.l0]
  rw [if_neg (by omega)]
 | succ j ih =>
  intro s rem Q hQ hQl hj hsl hrl hs hr hv hd
  have e := hs j rfl
  have hc := r1cmp_ev (okl_limbs rem) (okl_limbs s) hrl hsl
  have hh := rhalf_ev (okl_limbs s) hsl
  rw [val_limbs, val_limbs] at hc
  rw [val_limbs] at hh
  have w1 : ((j + 1 : Nat) : Int) - 1 = (j : Int) := by omega
  have w2 : Aside0 (wrap64 ((j : Int) - 1) = (j : Int) - 1) := ⟨by rw [wrap64_id (by omega) (by omega)]⟩
  have hs2l : (limbs (s / 2)).length ≤ 1099511627776 := Nat.le_trans (limbs_len_mono (Nat.div_le_self _ _)) hsl
  have hs2 : ∀ i, j = i + 1 → s / 2 = y * 2 ^ i := by
   rintro i rfl
   rw [e, Nat.pow_succ, ← Nat.mul_assoc, Nat.mul_div_cancel _ (by decide)]
  have hj2 : j ≤ 32 * Q.length := by omega
  rw [w1]
  by_cases hle : s ≤ rem
  ·obtain ⟨Q', h1, h2, h3, h4⟩ := set_bit hQ (j := j) (by omega) hd
   have hsub := r1sub_ev (okl_limbs rem) (okl_limbs s) hrl hsl (by rw [val_limbs, val_limbs]; exact hle)
   rw [val_limbs, val_limbs] at hsub
   have hr2 : rem - s < y * 2 ^ j := by
    rw [Nat.pow_succ, ← Nat.mul_assoc, ← e] at hr; omega
   have hv2 : val Q' * y + (rem - s) = A := by rw [h3]; exact dm_ring hv e hle
   have hd2 : 2 ^ j ∣ val Q' := by
    rw [h3]
    exact Nat.dvd_add (Nat.dvd_trans (Nat.pow_dvd_pow 2 (Nat.le_succ j)) hd) (Nat.dvd_refl _)
   have hi := ih (s / 2) (rem - s) Q' h1 (by rw [h2]; exact hQl) (by rw [h2]; exact hj2) hs2l (Nat.le_trans (limbs_len_mono (Nat.sub_le _ _)) hrl) hs2 hr2 hv2 hd2
   rw [h4] at hi
   refine Ev.step (fun k => rdm_step k _ _ _ _ (by omega) hQl) (Ev.bind hc (Ev.ite_pos ?_ (Ev.bind hsub (Ev.bind hh hi))))
   unfold cmpI
   rw [if_neg (by omega)]
   split <;> decide
  ·have hr2 : rem < y * 2 ^ j := by omega
   have hi := ih (s / 2) rem Q hQ hQl hj2 hs2l hrl hs2 hr2 hv (Nat.dvd_trans (Nat.pow_dvd_pow 2 (Nat.le_succ j)) hd)
   refine Ev.step (fun k => rdm_step k _ _ _ _ (by omega) hQl) (Ev.bind hc (Ev.ite_neg ?_ (Ev.bind hh hi)))
   unfold cmpI
   rw [if_pos (by omega)]
   decide
theorem dm_low {A y a b : Nat} (h1 : A < 2 ^ a) (h2 : 2 ^ (b - 1) ≤ y) (h : a < b) : A < y :=
 Nat.lt_of_lt_of_le h1 (Nat.le_trans (Nat.pow_le_pow_right (by decide) (by omega)) h2)
theorem dm_high {A y a b n : Nat} (h1 : A < 2 ^ a) (h2 : 2 ^ (b - 1) ≤ y) (hb : 1 ≤ b) (h : a = b + n) : A < y * 2 ^ (n + 1) := by
 have h3 : 2 ^ (b - 1) * 2 ^ (n + 1) ≤ y * 2 ^ (n + 1) := Nat.mul_le_mul_right _ h2
 rw [← Nat.pow_add, show b - 1 + (n + 1) = a by omega] at h3
 omega
theorem dm_len {y b n N : Nat} (h1 : y < 2 ^ b) (h : b + n ≤ 32 * N) : (limbs (y * 2 ^ n)).length ≤ N := by
 refine limbs_len_le ?_
 rw [pow32]
 have h2 : y * 2 ^ n < 2 ^ b * 2 ^ n := Nat.mul_lt_mul_of_pos_right h1 (Nat.two_pow_pos n)
 rw [← Nat.pow_add] at h2
 exact Nat.lt_of_lt_of_le h2 (Nat.pow_le_pow_right (by decide) h)
theorem r1divmod_ev {a b : List Int} (ha : okl a) (hb : okl b) (hla : lenok a) (hlb : lenok b) :
  Ev (fun k => examboardref01_DivMod.f k a b) (if val b = 0 then ([], [], false) else (limbs (val a / val b), limbs (val a % val b), true)) := by
 have l1 := limbs_val_len ha
 have l2 := limbs_val_len hb
 have hna := rnorm_ev ha hla
 have hnb := rnorm_ev hb hlb
 unfold lenok at hla hlb
 refine Ev.bind hna (Ev.bind hnb ?_)
 generalize hA : val a = A at *
 generalize hY : val b = y at *
 have kA : (limbs A).length ≤ 1099511627776 := by omega
 have kY : (limbs y).length ≤ 1099511627776 := by omega
 clear hna hnb l1 l2 hla hlb ha hb hA hY a b
 by_cases h0 : y = 0
 ·subst h0
  rw [if_pos rfl]
  exact Ev.ite_pos (by rw [limbs_zero]; rfl) (Ev.now _)
 rw [if_neg h0]
 have hpos := List.length_pos_iff.2 (limbs_ne_nil h0)
 refine Ev.ite_neg (by omega) ?_
 by_cases h1 : (limbs y).length = 1
 ·have e1 : limbs y = [(y : Int)] := by
   rw [limbs_pos h0] at h1 ⊢
   have : limbs (y / 4294967296) = [] := List.eq_nil_of_length_eq_zero (by simpa using h1)
   rw [this]
   have := limbs_eq_nil.1 this
   congr 1
   omega
  have hy4 : y < 4294967296 := by
   have := val_lt (okl_limbs y)
   rw [val_limbs, h1] at this
   omega
  have hr : IntKind.u64.wrap (rd (limbs y) 0) = (y : Int) := by
   rw [e1, show rd [(y : Int)] 0 = (y : Int) from rfl, wrapu64_id (by omega) (by omega)]
  rw [hr]
  have hs := rshort_ev (okl_limbs A) kA (d := (y : Int)) (by omega) (by omega)
  rw [val_limbs, Int.toNat_natCast] at hs
  have hm := Nat.mod_lt A (show 0 < y by omega)
  have ho := r1of_ev (a := ((A % y : Nat) : Int)) (by omega) (by omega)
  rw [Int.toNat_natCast] at ho
  exact Ev.ite_pos (by omega) (Ev.ite_pos (by omega) (Ev.bind hs (Ev.bind ho (Ev.now _))))
 refine Ev.ite_neg (by omega) ?_
 obtain ⟨m, b1, b2, b3, b4, b5⟩ := r1bits_ev (okl_limbs A) kA
 obtain ⟨n, c1, c2, c3, c4, c5⟩ := r1bits_ev (okl_limbs y) kY
 rw [val_limbs] at b3 b4 b5 c3 c4 c5
 obtain ⟨c6, c7⟩ := c4 h0
 refine Ev.bind b1 (Ev.bind c1 ?_)
 have w1 : wrap64 ((m : Int) - (n : Int)) = (m : Int) - (n : Int) := wrap64_id (by omega) (by omega)
 rw [w1]
 clear w1
 by_cases hmn : m < n
 ·have := dm_low b3 c7 hmn
  rw [Nat.div_eq_of_lt this, Nat.mod_eq_of_lt this, limbs_zero]
  exact Ev.ite_pos (by omega) (Ev.now _)
 refine Ev.ite_neg (by omega) ?_
 obtain ⟨j, rfl⟩ : ∃ j, m = n + j := ⟨m - n, by omega⟩
 have e : ((n + j : Nat) : Int) - (n : Int) = (j : Int) := by omega
 rw [e, tdiv32 j (by omega)]
 have w2 : wrap64 (((j / 32 : Nat) : Int) + 1) = ((j / 32 + 1 : Nat) : Int) := by rw [wrap64_id (by omega) (by omega)]; omega
 rw [w2, Int.toNat_natCast]
 clear w2
 have hsh := r1shift_ev (okl_limbs y) kY (n := j) (by omega)
 rw [val_limbs] at hsh
 have hhi := dm_high b3 c7 c6 rfl
 have hlen := dm_len c3 b2
 refine Ev.ite_pos (by omega) (Ev.ite_pos (by omega) (Ev.bind hsh ?_))
 have hl := rdm_loop y A (by omega) (j + 1) (y * 2 ^ j) A (List.replicate (j / 32 + 1) 0) (okl_replicate _) (by rw [List.length_replicate]; omega) (by rw [List.length_replicate]; omega) (by omega) kA (fun i hi => by rw [Nat.succ.inj hi]) hhi (by rw [val_replicate]; omega) (by rw [val_replicate]; exact Nat.dvd_zero _)
 rw [show ((j + 1 : Nat) : Int) - 1 = (j : Int) by omega] at hl
 exact hl
theorem rgcd_loop (m : Nat) : ∀ (x y : Nat), y ≤ m → (limbs x).length ≤ 1099511627776 → (limbs y).length ≤ 1099511627776 → Ev (fun k => examboardref01_Gcd.l0 k (limbs x) (limbs y)) (limbs (Nat.gcd x y)) := by
 induction m with
 | zero =>
  intro x y hy _ _
  obtain rfl : y = 0 := by omega
  rw [Nat.gcd_zero_right]
  refine Ev.step (f := fun _ => some (limbs x)) (fun k => ?_) (Ev.now _)
  simp only [examboardref01_Gcd.l0]
  rw [if_neg (by rw [limbs_zero]; decide)]
 | succ m ih =>
  intro x y hy hlx hly
  by_cases h0 : y = 0
  ·exact ih x y (by omega) hlx hly
  ·have hpos := List.length_pos_iff.2 (limbs_ne_nil h0)
   have hm := Nat.mod_lt x (show 0 < y by omega)
   have hd := r1divmod_ev (okl_limbs x) (okl_limbs y) hlx hly
   rw [val_limbs, val_limbs, if_neg h0] at hd
   refine Ev.step (f := fun k => (examboardref01_DivMod.f k (limbs x) (limbs y)).bind fun b => examboardref01_Gcd.l0 k (limbs y) b.2.1) (fun k => ?_) (Ev.bind (f := fun k b => examboardref01_Gcd.l0 k (limbs y) b.2.1) hd ?_)
   ·simp only [examboardref01_Gcd.l0]
    rw [if_pos (by omega)]
   ·rw [Nat.gcd_comm x y, Nat.gcd_rec y x, Nat.gcd_comm]
    exact ih y (x % y) (by omega) hly (by have := limbs_len_mono (show x % y ≤ y by omega); omega)
theorem rgcd_ev {a b : List Int} (ha : okl a) (hb : okl b) (hla : lenok a) (hlb : lenok b) : Ev (fun k => examboardref01_Gcd.f k a b) (limbs (Nat.gcd (val a) (val b))) := by
 have l1 := limbs_val_len ha
 have l2 := limbs_val_len hb
 unfold lenok at *
 exact Ev.bind (rnorm_ev ha hla) (Ev.bind (rnorm_ev hb hlb) (rgcd_loop (val b) _ _ (Nat.le_refl _) (by omega) (by omega)))
theorem r2norm_ev (neg : Bool) {l : List Int} (h : okl l) (hl : lenok l) : Ev (fun k => examboardref02_Norm.f k neg l) (eI (sI neg l)) := by
 refine Ev.bind (rnorm_ev h hl) ?_
 unfold eI
 rw [sI_natAbs]
 cases neg with
 | true =>
  refine Ev.ite_pos rfl ?_
  have e : decide (0 < (limbs (val l)).length) = decide (sI true l < 0) := by
   unfold sI
   simp only [if_true]
   by_cases h0 : val l = 0
   ·rw [h0, limbs_zero]; simp
   ·have := List.length_pos_iff.2 (limbs_ne_nil h0)
    rw [decide_eq_true this]
    exact (decide_eq_true (by omega)).symm
  rw [e]
  exact Ev.now _
 | false =>
  refine Ev.ite_neg (by decide) ?_
  have e : decide (sI false l < 0) = false := decide_eq_false (by unfold sI; simp)
  rw [e]
  exact Ev.now _
theorem r2make_ev (neg : Bool) {l : List Int} (h : okl l) (hl : lenok l) : Ev (fun k => examboardref02_Make.f k neg l) (eI (sI neg l)) :=
 Ev.bind (a := eI (sI neg l)) (f := fun (_ : Nat) (b : Bool × List Int) => some (b.1, b.2)) (r2norm_ev neg h hl) (Ev.now _)
theorem sI_abs (neg : Bool) (n : Nat) : sI neg (limbs n) = if neg then -(n : Int) else (n : Int) := by unfold sI; rw [val_limbs]
theorem limbs2 {n : Nat} (h : n < 18446744073709551616) : (limbs n).length ≤ 2 := limbs_len_le (by omega)
theorem r2of_ev {a : Int} (h0 : -9223372036854775808 ≤ a) (h1 : a < 9223372036854775808) : Ev (fun k => examboardref02_Of.f k a) (eI a) := by
 have hl := limbs2 (n := a.natAbs) (by omega)
 by_cases hn : a < 0
 ·refine Ev.ite_pos hn ?_
  have e : IntKind.u64.wrap ((IntKind.u64.wrap (wrap64 (-(wrap64 (a + 1))))) + 1) = (a.natAbs : Int) := by
   rw [wrap64_id (x := a + 1) (by omega) (by omega), wrap64_id (x := -(a + 1)) (by omega) (by omega), wrapu64_id (x := -(a + 1)) (by omega) (by omega), wrapu64_id (by omega) (by omega)]
   omega
  rw [e]
  clear e
  have ho := r1of_ev (a := (a.natAbs : Int)) (by omega) (by omega)
  rw [Int.toNat_natCast] at ho
  have hm := r2make_ev true (okl_limbs a.natAbs) (by unfold lenok; omega)
  rw [sI_abs, if_pos rfl, show -(a.natAbs : Int) = a by omega] at hm
  exact Ev.bind (f := fun k t => (examboardref02_Make.f k true t).bind fun b => some (b.1, b.2)) ho (Ev.bind (f := fun _ b => some (b.1, b.2)) hm (Ev.now _))
 ·refine Ev.ite_neg hn ?_
  rw [wrapu64_id (by omega) (by omega)]
  have ho := r1of_ev (a := a) (by omega) (by omega)
  rw [show a.toNat = a.natAbs by omega] at ho
  have hm := r2make_ev false (okl_limbs a.natAbs) (by unfold lenok; omega)
  rw [sI_abs, if_neg (by decide), show (a.natAbs : Int) = a by omega] at hm
  exact Ev.bind (f := fun k t => (examboardref02_Make.f k false t).bind fun b => some (b.1, b.2)) ho (Ev.bind (f := fun _ b => some (b.1, b.2)) hm (Ev.now _))
theorem r2sign_ev (neg : Bool) {l : List Int} (h : okl l) (hl : lenok l) : Ev (fun k => examboardref02_Sign.f k neg l) (Int.sign (sI neg l)) := by
 refine Ev.bind (r2norm_ev neg h hl) ?_
 generalize sI neg l = z
 by_cases h0 : z = 0
 ·subst h0
  exact Ev.ite_pos (by show ((limbs 0).length : Int) = 0; rw [limbs_zero]; rfl) (Ev.now _)
 ·have h1 := List.length_pos_iff.2 (limbs_ne_nil (n := z.natAbs) (by omega))
  refine Ev.ite_neg (by show ¬ ((limbs z.natAbs).length : Int) = 0; omega) ?_
  by_cases h2 : z < 0
  ·rw [Int.sign_eq_neg_one_of_neg h2]
   exact Ev.ite_pos (by show decide (z < 0) = true; exact decide_eq_true h2) (Ev.now _)
  ·rw [Int.sign_eq_one_of_pos (by omega)]
   exact Ev.ite_neg (by show ¬ decide (z < 0) = true; rw [decide_eq_false h2]; decide) (Ev.now _)
theorem r2cmp_ev (n1 : Bool) {l1 : List Int} (h1 : okl l1) (hl1 : lenok l1) (n2 : Bool) {l2 : List Int} (h2 : okl l2) (hl2 : lenok l2) : Ev (fun k => examboardref02_Cmp.f k n1 l1 n2 l2) (cmpZ (sI n1 l1) (sI n2 l2)) := by
 refine Ev.bind (r2sign_ev n1 h1 hl1) (Ev.bind (r2sign_ev n2 h2 hl2) ?_)
 have a1 := sI_natAbs n1 l1
 have a2 := sI_natAbs n2 l2
 have c12 := r1cmp_ev h1 h2 hl1 hl2
 have c21 := r1cmp_ev h2 h1 hl2 hl1
 generalize sI n1 l1 = z1 at *
 generalize sI n2 l2 = z2 at *
 rw [← a1, ← a2] at c12 c21
 have s1 : Int.sign z1 = if z1 < 0 then -1 else if 0 < z1 then 1 else 0 := by
  rcases Int.lt_trichotomy z1 0 with h | h | h
  ·rw [Int.sign_eq_neg_one_of_neg h, if_pos h]
  ·subst h; rfl
  ·rw [Int.sign_eq_one_of_pos h, if_neg (by omega), if_pos h]
 have s2 : Int.sign z2 = if z2 < 0 then -1 else if 0 < z2 then 1 else 0 := by
  rcases Int.lt_trichotomy z2 0 with h | h | h
  ·rw [Int.sign_eq_neg_one_of_neg h, if_pos h]
  ·subst h; rfl
  ·rw [Int.sign_eq_one_of_pos h, if_neg (by omega), if_pos h]
 by_cases q1 : Int.sign z1 < Int.sign z2
 ·rw [cmpZ, if_pos (by rw [s1, s2] at q1; split at q1 <;> split at q1 <;> (try split at q1) <;> (try split at q1) <;> omega)]
  exact Ev.ite_pos q1 (Ev.now _)
 ·refine Ev.ite_neg q1 ?_
  by_cases q2 : Int.sign z1 > Int.sign z2
  ·have : z2 < z1 := by rw [s1, s2] at q2; split at q2 <;> split at q2 <;> (try split at q2) <;> (try split at q2) <;> omega
   rw [cmpZ, if_neg (by omega), if_pos this]
   exact Ev.ite_pos q2 (Ev.now _)
  ·refine Ev.ite_neg q2 ?_
   by_cases q3 : Int.sign z1 < 0
   ·refine Ev.ite_pos q3 ?_
    have e : cmpI z2.natAbs z1.natAbs = cmpZ z1 z2 := by
     have h3 : z1 < 0 := by rw [s1] at q3; split at q3 <;> (try split at q3) <;> omega
     have h4 : z2 < 0 := by rw [s1, s2, if_pos h3] at q1; split at q1 <;> (try split at q1) <;> omega
     unfold cmpI cmpZ
     split <;> split <;> (try split) <;> (try split) <;> omega
    rw [← e]
    exact Ev.bind (f := fun _ t => some t) c21 (Ev.now _)
   ·refine Ev.ite_neg q3 ?_
    have e : cmpI z1.natAbs z2.natAbs = cmpZ z1 z2 := by
     have h3 : 0 ≤ z1 := by rw [s1] at q3; split at q3 <;> (try split at q3) <;> omega
     have h4 : 0 ≤ z2 := by rw [s1, s2, if_neg (by omega)] at q2; split at q2 <;> (try split at q2) <;> (try split at q2) <;> omega
     unfold cmpI cmpZ
     split <;> split <;> (try split) <;> (try split) <;> omega
    rw [← e]
    exact Ev.bind (f := fun _ t => some t) c12 (Ev.now _)
theorem r2mulp {n1 n2 : Bool} {l1 l2 : List Int} (h1 : okl l1) (h2 : okl l2) (hl1 : smallR l1) (hl2 : smallR l2) :
  Ev (fun k => examboardref02_Mul.f k n1 l1 n2 l2) (eI (sI n1 l1 * sI n2 l2)) ∧ (limbs (sI n1 l1 * sI n2 l2).natAbs).length ≤ 34359738368 := by
 have hp := prod_len h1 h2
 unfold smallR at *
 refine ⟨?_, by rw [Int.natAbs_mul, sI_natAbs, sI_natAbs]; omega⟩
 refine Ev.bind (r1mul_ev h1 h2 (by unfold lenok; omega) (by unfold lenok; omega)) ?_
 rw [← sI_mul]
 exact Ev.bind (f := fun _ b => some (b.1, b.2)) (r2make_ev (n1 != n2) (okl_limbs (val l1 * val l2)) (by unfold lenok; omega)) (Ev.now _)
theorem r2neg_ev (neg : Bool) {l : List Int} (h : okl l) (hl : lenok l) : Ev (fun k => examboardref02_Neg.f k neg l) (eI (-(sI neg l))) := by
 have e : -(sI neg l) = sI (!neg) l := by unfold sI; cases neg <;> simp
 rw [e]
 exact Ev.bind (f := fun _ b => some (b.1, b.2)) (r2make_ev (!neg) h hl) (Ev.now _)
theorem r3zero_ev : Ev (fun k => examboardref03_zero.f k) (encR 0 1) := by
 have ho := r1of_ev (a := 1) (by omega) (by omega)
 have e : encR 0 1 = (false, [], limbs 1) := by unfold encR; simp [limbs_zero]
 rw [e]
 exact Ev.bind (a := limbs 1) (f := fun _ t => some (false, ([] : List Int), t)) ho (Ev.now _)
theorem top_ev (neg : Bool) {ln ld : List Int} (hn : okl ln) (hd : okl ld) (hln : lenok ln) (hld : lenok ld) : Ev (fun k => examboardref03_top.f k neg ln ld) (eI (numR neg ln ld)) := by
 obtain ⟨m, b1, b2, b3, b4, b5⟩ := r1bits_ev hd hld
 refine Ev.bind b1 ?_
 unfold numR
 by_cases h0 : val ld = 0
 ·rw [if_pos h0]
  exact Ev.ite_pos (by rw [b5 h0]; rfl) (Ev.bind (f := fun _ b => some (b.1, b.2)) (r2of_ev (a := 0) (by decide) (by decide)) (Ev.now _))
 ·rw [if_neg h0]
  have := (b4 h0).1
  exact Ev.ite_neg (by omega) (Ev.bind (f := fun _ b => some (b.1, b.2)) (r2norm_ev neg hn hln) (Ev.now _))
theorem low_ev (neg : Bool) {ln ld : List Int} (hd : okl ld) (hld : lenok ld) : Ev (fun k => examboardref03_low.f k neg ln ld) (limbs (denR ld)) := by
 obtain ⟨m, b1, b2, b3, b4, b5⟩ := r1bits_ev hd hld
 refine Ev.bind b1 ?_
 unfold denR
 by_cases h0 : val ld = 0
 ·rw [if_pos h0]
  have ho := r1of_ev (a := 1) (by omega) (by omega)
  exact Ev.ite_pos (by rw [b5 h0]; rfl) (Ev.bind (a := limbs 1) (f := fun _ t => some t) ho (Ev.now _))
 ·rw [if_neg h0]
  have := (b4 h0).1
  exact Ev.ite_neg (by omega) (Ev.bind (f := fun _ t => some t) (rnorm_ev hd hld) (Ev.now _))
theorem numR_len (neg : Bool) {ln ld : List Int} (hn : okl ln) : (limbs (numR neg ln ld).natAbs).length ≤ ln.length := by
 unfold numR
 split
 ·simp [limbs_zero]
 ·rw [sI_natAbs]; exact limbs_val_len hn
theorem denR_len {ld : List Int} (hd : okl ld) : (limbs (denR ld)).length ≤ ld.length + 1 := by
 unfold denR
 split
 ·rw [limbs_one_len]; omega
 ·exact Nat.le_trans (limbs_val_len hd) (Nat.le_succ _)
theorem reduce_ev (neg : Bool) {ln ld : List Int} (hn : okl ln) (hd : okl ld) (hln : lenok ln) (hld : lenok ld) (h0 : val ld ≠ 0) :
  Ev (fun k => examboardref03_reduce.f k neg ln ld) (encR (sI neg ln) (val ld)) := by
 have hx : (limbs (sI neg ln).natAbs).length ≤ ln.length := sI_abs_len hn neg
 refine Ev.bind (r2norm_ev neg hn hln) ?_
 generalize sI neg ln = z at *
 have hzl : lenok (limbs z.natAbs) := Nat.le_trans hx hln
 obtain ⟨m, b1, b2, b3, b4, b5⟩ := r1bits_ev (okl_limbs z.natAbs) hzl
 rw [val_limbs] at b3 b4 b5
 refine Ev.bind (f := fun k t550 => (if t550 = 0 then ((examboardref03_zero.f k).bind fun bt551 => (some (bt551.1, bt551.2.1, bt551.2.2))) else ((examboardref01_Gcd.f k (limbs z.natAbs) ld).bind fun t558 => ((examboardref01_DivMod.f k (limbs z.natAbs) t558).bind fun bt561 => ((examboardref01_DivMod.f k ld t558).bind fun bt568 => ((examboardref02_Make.f k (decide (z < 0)) bt561.1).bind fun bt575 => (some (bt575.1, bt575.2, bt568.1)))))))) b1 ?_
 by_cases hz : z = 0
 ·have e : encR z (val ld) = encR 0 1 := encR_eq (Nat.pos_of_ne_zero h0) (by decide) (by rw [hz, Int.zero_mul, Int.zero_mul])
  rw [e]
  exact Ev.ite_pos (by rw [b5 (by omega)]; rfl) (Ev.bind (f := fun _ b => some (b.1, b.2.1, b.2.2)) r3zero_ev (Ev.now _))
 ·have := (b4 (by omega)).1
  refine Ev.ite_neg (by omega) ?_
  have hg := rgcd_ev (okl_limbs z.natAbs) hd hzl hld
  rw [val_limbs] at hg
  unfold encR
  have hgd := Nat.gcd_dvd_left z.natAbs (val ld)
  have hg0 : 0 < Nat.gcd z.natAbs (val ld) := Nat.gcd_pos_of_pos_right _ (Nat.pos_of_ne_zero h0)
  generalize Nat.gcd z.natAbs (val ld) = g at *
  have hgl : lenok (limbs g) := Nat.le_trans (limbs_len_mono (Nat.le_of_dvd (by omega) hgd)) hzl
  have d1 := r1divmod_ev (okl_limbs z.natAbs) (okl_limbs g) hzl hgl
  have d2 := r1divmod_ev hd (okl_limbs g) hld hgl
  rw [val_limbs, val_limbs, if_neg (by omega)] at d1
  rw [val_limbs, if_neg (by omega)] at d2
  have hm := r2make_ev (decide (z < 0)) (okl_limbs (z.natAbs / g)) (Nat.le_trans (limbs_len_mono (Nat.div_le_self _ _)) hzl)
  have hq0 : 0 < z.natAbs / g := Nat.div_pos (Nat.le_of_dvd (by omega) hgd) hg0
  have e2 : eI (sI (decide (z < 0)) (limbs (z.natAbs / g))) = (decide (z < 0), limbs (z.natAbs / g)) := by
   unfold eI
   rw [sI_natAbs, val_limbs]
   congr 1
   rw [sI_abs]
   by_cases c : z < 0
   ·rw [decide_eq_true c, if_pos rfl, decide_eq_true (by omega)]
   ·rw [decide_eq_false c, if_neg (by decide), decide_eq_false (by omega)]
  rw [e2] at hm
  exact Ev.bind hg (Ev.bind (f := fun k bt264 => ((examboardref01_DivMod.f k ld (limbs g)).bind fun bt271 => ((examboardref02_Make.f k (decide (z < 0)) bt264.1).bind fun bt278 => (some (bt278.1, bt278.2, bt271.1))))) d1 (Ev.bind (f := fun k bt271 => ((examboardref02_Make.f k (decide (z < 0)) (limbs (z.natAbs / g))).bind fun bt278 => (some (bt278.1, bt278.2, bt271.1)))) d2 (Ev.bind (f := fun _ bt278 => some (bt278.1, bt278.2, limbs (val ld / g))) hm (Ev.now _))))
theorem r3mul_ev (n1 n2 : Bool) {ln1 ld1 ln2 ld2 : List Int} (h1 : okl ln1) (h2 : okl ld1) (h3 : okl ln2) (h4 : okl ld2) (s1 : smallR ln1) (s2 : ld1.length < 17179869184) (s3 : smallR ln2) (s4 : ld2.length < 17179869184) :
  Ev (fun k => examboardref03_Mul.f k n1 ln1 ld1 n2 ln2 ld2) (encR (numR n1 ln1 ld1 * numR n2 ln2 ld2) (denR ld1 * denR ld2)) := by
 have t1 := top_ev n1 h1 h2 (by unfold lenok; unfold smallR at s1; omega) (by unfold lenok; omega)
 have t2 := top_ev n2 h3 h4 (by unfold lenok; unfold smallR at s3; omega) (by unfold lenok; omega)
 have l1 := low_ev n1 (ln := ln1) h2 (by unfold lenok; omega)
 have l2 := low_ev n2 (ln := ln2) h4 (by unfold lenok; omega)
 have k1 := numR_len n1 (ld := ld1) h1
 have k2 := numR_len n2 (ld := ld2) h3
 have k3 := denR_len h2
 have k4 := denR_len h4
 have p1 := denR_pos ld1
 have p2 := denR_pos ld2
 unfold smallR at *
 generalize numR n1 ln1 ld1 = z1 at *
 generalize numR n2 ln2 ld2 = z2 at *
 generalize denR ld1 = d1 at *
 generalize denR ld2 = d2 at *
 obtain ⟨x1, y1⟩ := r2mulp (n1 := (eI z1).1) (n2 := (eI z2).1) (okl_limbs z1.natAbs) (okl_limbs z2.natAbs) (by unfold smallR; omega) (by unfold smallR; omega)
 rw [show sI (eI z1).1 (limbs z1.natAbs) = z1 from sI_eI z1, show sI (eI z2).1 (limbs z2.natAbs) = z2 from sI_eI z2] at x1 y1
 have x2 := r1mul_ev (okl_limbs d1) (okl_limbs d2) (by unfold lenok; omega) (by unfold lenok; omega)
 have y2 := prod_len (okl_limbs d1) (okl_limbs d2)
 rw [val_limbs, val_limbs] at x2 y2
 have d0 : d1 * d2 ≠ 0 := Nat.pos_iff_ne_zero.mp (Nat.mul_pos p1 p2)
 generalize z1 * z2 = z at *
 generalize d1 * d2 = d at *
 have c := reduce_ev (eI z).1 (okl_limbs z.natAbs) (okl_limbs d) (by unfold lenok; omega) (by unfold lenok; omega) (by rw [val_limbs]; exact d0)
 rw [show sI (eI z).1 (limbs z.natAbs) = z from sI_eI z, val_limbs] at c
 replace c : Ev (fun k => examboardref03_reduce.f k (eI z).1 (eI z).2 (limbs d)) (encR z d) := c
 exact Ev.bind t1 (Ev.bind t2 (Ev.bind x1 (Ev.bind l1 (Ev.bind l2 (Ev.bind x2 (Ev.bind (a := encR z d) (f := fun (_ : Nat) (b : Bool × List Int × List Int) => some (b.1, b.2.1, b.2.2)) c (Ev.now _)))))))
theorem r3cmp_ev (n1 n2 : Bool) {ln1 ld1 ln2 ld2 : List Int} (h1 : okl ln1) (h2 : okl ld1) (h3 : okl ln2) (h4 : okl ld2) (s1 : smallR ln1) (s2 : ld1.length < 17179869184) (s3 : smallR ln2) (s4 : ld2.length < 17179869184) :
  Ev (fun k => examboardref03_Cmp.f k n1 ln1 ld1 n2 ln2 ld2) (cmpZ (numR n1 ln1 ld1 * denR ld2) (numR n2 ln2 ld2 * denR ld1)) := by
 have t1 := top_ev n1 h1 h2 (by unfold lenok; unfold smallR at s1; omega) (by unfold lenok; omega)
 have t2 := top_ev n2 h3 h4 (by unfold lenok; unfold smallR at s3; omega) (by unfold lenok; omega)
 have l1 := low_ev n1 (ln := ln1) h2 (by unfold lenok; omega)
 have l2 := low_ev n2 (ln := ln2) h4 (by unfold lenok; omega)
 have k1 := numR_len n1 (ld := ld1) h1
 have k2 := numR_len n2 (ld := ld2) h3
 have k3 := denR_len h2
 have k4 := denR_len h4
 unfold smallR at *
 generalize numR n1 ln1 ld1 = z1 at *
 generalize numR n2 ln2 ld2 = z2 at *
 generalize denR ld1 = d1 at *
 generalize denR ld2 = d2 at *
 have m1 := r2make_ev false (okl_limbs d1) (by unfold lenok; omega)
 have m2 := r2make_ev false (okl_limbs d2) (by unfold lenok; omega)
 rw [sI_false_limbs] at m1 m2
 obtain ⟨x1, y1⟩ := r2mulp (n1 := (eI z1).1) (n2 := (eI (d2 : Int)).1) (okl_limbs z1.natAbs) (okl_limbs (d2 : Int).natAbs) (by unfold smallR; omega) (by unfold smallR; rw [Int.natAbs_natCast]; omega)
 obtain ⟨x2, y2⟩ := r2mulp (n1 := (eI z2).1) (n2 := (eI (d1 : Int)).1) (okl_limbs z2.natAbs) (okl_limbs (d1 : Int).natAbs) (by unfold smallR; omega) (by unfold smallR; rw [Int.natAbs_natCast]; omega)
 rw [show sI (eI z1).1 (limbs z1.natAbs) = z1 from sI_eI z1, show sI (eI (d2 : Int)).1 (limbs (d2 : Int).natAbs) = d2 from sI_eI d2] at x1 y1
 rw [show sI (eI z2).1 (limbs z2.natAbs) = z2 from sI_eI z2, show sI (eI (d1 : Int)).1 (limbs (d1 : Int).natAbs) = d1 from sI_eI d1] at x2 y2
 generalize ha : z1 * (d2 : Int) = a at *
 generalize hb : z2 * (d1 : Int) = b at *
 have c := r2cmp_ev (eI a).1 (okl_limbs a.natAbs) (by unfold lenok; omega) (eI b).1 (okl_limbs b.natAbs) (by unfold lenok; omega)
 rw [show sI (eI a).1 (limbs a.natAbs) = a from sI_eI a, show sI (eI b).1 (limbs b.natAbs) = b from sI_eI b] at c
 replace c : Ev (fun k => examboardref02_Cmp.f k (eI a).1 (eI a).2 (eI b).1 (eI b).2) (cmpZ a b) := c
 exact Ev.bind t1 (Ev.bind l2 (Ev.bind m2 (Ev.bind x1 (Ev.bind t2 (Ev.bind l1 (Ev.bind m1 (Ev.bind x2 (Ev.bind (a := cmpZ a b) (f := fun (_ : Nat) (t : Int) => some t) c (Ev.now _)))))))))
theorem sI_neg_iff {n2 : Bool} {l2 : List Int} (h0 : val l2 ≠ 0) : decide (sI n2 l2 < 0) = n2 := by
 unfold sI
 cases n2
 ·exact decide_eq_false (by simp)
 ·exact decide_eq_true (by simp only [if_true]; omega)
theorem r3make_ev (n1 : Bool) {l1 : List Int} (h1 : okl l1) (hl1 : lenok l1) (n2 : Bool) {l2 : List Int} (h2 : okl l2) (hl2 : lenok l2) :
  Ev (fun k => examboardref03_Make.f k n1 l1 n2 l2) (if val l2 = 0 then (false, [], limbs 1, false) else ((encR (sI (n1 != n2) l1) (val l2)).1, (encR (sI (n1 != n2) l1) (val l2)).2.1, (encR (sI (n1 != n2) l1) (val l2)).2.2, true)) := by
 have e : encR 0 1 = (false, [], limbs 1) := by unfold encR; simp [limbs_zero]
 have e2 : eI (sI n2 l2) = (decide (sI n2 l2 < 0), limbs (val l2)) := by unfold eI; rw [sI_natAbs]
 have hn2 := r2norm_ev n2 h2 hl2
 rw [e2] at hn2
 have l2v := Nat.le_trans (limbs_val_len h2) hl2
 obtain ⟨m, b1, b2, b3, b4, b5⟩ := r1bits_ev (okl_limbs (val l2)) l2v
 rw [val_limbs] at b3 b4 b5
 refine Ev.bind hn2 (Ev.bind b1 ?_)
 by_cases h0 : val l2 = 0
 ·rw [if_pos h0]
  have hz := r3zero_ev
  rw [e] at hz
  exact Ev.ite_pos (by rw [b5 h0]; rfl) (Ev.bind (f := fun (_ : Nat) (b : Bool × List Int × List Int) => some (b.1, b.2.1, b.2.2, false)) hz (Ev.now _))
 ·rw [if_neg h0]
  have := (b4 h0).1
  refine Ev.ite_neg (by omega) (Ev.bind (r2norm_ev n1 h1 hl1) ?_)
  rw [sI_neg_iff h0]
  have hx := sI_abs_len h1 n1
  cases n2 with
  | true =>
   have es : sI (n1 != true) l1 = -(sI n1 l1) := by unfold sI; cases n1 <;> simp
   rw [es]
   generalize sI n1 l1 = z at *
   have hn := r2neg_ev (eI z).1 (okl_limbs z.natAbs) (by unfold lenok at *; omega)
   rw [show sI (eI z).1 (limbs z.natAbs) = z from sI_eI z] at hn
   have hr := reduce_ev (eI (-z)).1 (okl_limbs (-z).natAbs) (okl_limbs (val l2)) (by unfold lenok at *; rw [Int.natAbs_neg]; omega) l2v (by rw [val_limbs]; exact h0)
   rw [show sI (eI (-z)).1 (limbs (-z).natAbs) = -z from sI_eI (-z), val_limbs] at hr
   replace hr : Ev (fun k => examboardref03_reduce.f k (eI (-z)).1 (eI (-z)).2 (limbs (val l2))) (encR (-z) (val l2)) := hr
   replace hn : Ev (fun k => examboardref02_Neg.f k (eI z).1 (eI z).2) (eI (-z)) := hn
   exact Ev.ite_pos rfl (Ev.bind hn (Ev.bind (f := fun (_ : Nat) (b : Bool × List Int × List Int) => some (b.1, b.2.1, b.2.2, true)) hr (Ev.now _)))
  | false =>
   have es : sI (n1 != false) l1 = sI n1 l1 := by cases n1 <;> rfl
   rw [es]
   generalize sI n1 l1 = z at *
   have hr := reduce_ev (eI z).1 (okl_limbs z.natAbs) (okl_limbs (val l2)) (by unfold lenok at *; omega) l2v (by rw [val_limbs]; exact h0)
   rw [show sI (eI z).1 (limbs z.natAbs) = z from sI_eI z, val_limbs] at hr
   replace hr : Ev (fun k => examboardref03_reduce.f k (eI z).1 (eI z).2 (limbs (val l2))) (encR z (val l2)) := hr
   exact Ev.ite_neg Bool.false_ne_true (Ev.bind (f := fun (_ : Nat) (b : Bool × List Int × List Int) => some (b.1, b.2.1, b.2.2, true)) hr (Ev.now _))
theorem r3of_ev {a b : Int} (ha0 : -9223372036854775808 ≤ a) (ha1 : a < 9223372036854775808) (hb0 : -9223372036854775808 ≤ b) (hb1 : b < 9223372036854775808) :
  Ev (fun k => examboardref03_Of.f k a b) (if b = 0 then (false, [], limbs 1, false) else ((encR (a * b.sign) b.natAbs).1, (encR (a * b.sign) b.natAbs).2.1, (encR (a * b.sign) b.natAbs).2.2, true)) := by
 have ia := r2of_ev ha0 ha1
 have ib := r2of_ev hb0 hb1
 have la : lenok (limbs a.natAbs) := by
  unfold lenok
  have : (limbs a.natAbs).length ≤ 2 := limbs_len_le (by omega)
  omega
 have lb : lenok (limbs b.natAbs) := by
  unfold lenok
  have : (limbs b.natAbs).length ≤ 2 := limbs_len_le (by omega)
  omega
 have hm := r3make_ev (decide (a < 0)) (okl_limbs a.natAbs) la (decide (b < 0)) (okl_limbs b.natAbs) lb
 rw [val_limbs] at hm
 have e : b.natAbs ≠ 0 → sI (decide (a < 0) != decide (b < 0)) (limbs a.natAbs) = a * b.sign := by
  intro hb
  unfold sI
  rw [val_limbs]
  rcases Int.lt_or_le b 0 with c | c
  ·rw [Int.sign_eq_neg_one_of_neg c, decide_eq_true (p := b < 0) c]
   by_cases d : a < 0
   ·rw [decide_eq_true d, if_neg (by decide)]; omega
   ·rw [decide_eq_false d, if_pos (by decide)]; omega
  ·rw [Int.sign_eq_one_of_pos (by omega), decide_eq_false (p := b < 0) (by omega)]
   by_cases d : a < 0
   ·rw [decide_eq_true d, if_pos (by decide)]; omega
   ·rw [decide_eq_false d, if_neg (by decide)]; omega
 refine Ev.bind ia (Ev.bind (f := fun k bt312 => ((examboardref03_Make.f k (eI a).1 (eI a).2 bt312.1 bt312.2).bind fun bt316 => (some (bt316.1, bt316.2.1, bt316.2.2.1, bt316.2.2.2)))) ib ?_)
 by_cases h0 : b = 0
 ·rw [if_pos h0]
  rw [if_pos (by omega)] at hm
  exact Ev.bind (f := fun _ b => some (b.1, b.2.1, b.2.2.1, b.2.2.2)) hm (Ev.now _)
 ·rw [if_neg h0]
  rw [if_neg (by omega), e (by omega)] at hm
  exact Ev.bind (f := fun _ b => some (b.1, b.2.1, b.2.2.1, b.2.2.2)) hm (Ev.now _)
theorem cmpZ_mul {a b g : Int} (hg : 0 < g) : cmpZ (a * g) (b * g) = cmpZ a b := by
 unfold cmpZ
 by_cases h : a < b
 ·rw [if_pos h, if_pos (Int.mul_lt_mul_of_pos_right h hg)]
 ·have h2 : ¬ a * g < b * g := fun h3 => h (Int.lt_of_mul_lt_mul_right h3 (Int.le_of_lt hg))
  rw [if_neg h, if_neg h2]
  by_cases h4 : b < a
  ·rw [if_pos h4, if_pos (Int.mul_lt_mul_of_pos_right h4 hg)]
  ·have h5 : ¬ b * g < a * g := fun h3 => h4 (Int.lt_of_mul_lt_mul_right h3 (Int.le_of_lt hg))
   rw [if_neg h4, if_neg h5]
theorem enc_parts (p : Int) {q : Nat} (hq : 0 < q) : ∃ g : Nat, 0 < g ∧ numR (encR p q).1 (encR p q).2.1 (encR p q).2.2 * (g : Int) = p ∧ denR (encR p q).2.2 * g = q := by
 have g0 : 0 < Nat.gcd p.natAbs q := Nat.gcd_pos_of_pos_right _ hq
 have d1 := Nat.gcd_dvd_left p.natAbs q
 have d2 := Nat.gcd_dvd_right p.natAbs q
 refine ⟨Nat.gcd p.natAbs q, g0, ?_, ?_⟩
 ·unfold numR encR
  simp only [val_limbs]
  generalize Nat.gcd p.natAbs q = g at *
  have h1 : q / g ≠ 0 := Nat.pos_iff_ne_zero.mp (Nat.div_pos (Nat.le_of_dvd hq d2) g0)
  rw [if_neg h1, sI_abs]
  have h2 : ((p.natAbs / g : Nat) : Int) * (g : Int) = (p.natAbs : Int) := by rw [← Int.natCast_mul, Nat.div_mul_cancel d1]
  by_cases c : p < 0
  ·rw [decide_eq_true c, if_pos rfl, Int.neg_mul, h2]; omega
  ·rw [decide_eq_false c, if_neg Bool.false_ne_true, h2]; omega
 ·unfold denR encR
  simp only [val_limbs]
  generalize Nat.gcd p.natAbs q = g at *
  have h1 : q / g ≠ 0 := Nat.pos_iff_ne_zero.mp (Nat.div_pos (Nat.le_of_dvd hq d2) g0)
  rw [if_neg h1, Nat.div_mul_cancel d2]
theorem enc_ok (p : Int) (q : Nat) : okl (encR p q).2.1 ∧ okl (encR p q).2.2 ∧ (encR p q).2.1.length ≤ (limbs p.natAbs).length ∧ (encR p q).2.2.length ≤ (limbs q).length :=
 ⟨okl_limbs _, okl_limbs _, limbs_len_mono (Nat.div_le_self _ _), limbs_len_mono (Nat.div_le_self _ _)⟩
theorem enc_cmp_right (p : Int) {q : Nat} (hq : 0 < q) (N : Int) (D : Nat) : cmpZ (N * (denR (encR p q).2.2 : Int)) (numR (encR p q).1 (encR p q).2.1 (encR p q).2.2 * (D : Int)) = cmpZ (N * q) (p * D) := by
 obtain ⟨g, g0, h1, h2⟩ := enc_parts p hq
 generalize numR (encR p q).1 (encR p q).2.1 (encR p q).2.2 = a at *
 generalize denR (encR p q).2.2 = b at *
 subst h1 h2
 rw [Int.natCast_mul, ← Int.mul_assoc N, Int.mul_right_comm a, cmpZ_mul (by omega)]
theorem enc_one (z : Int) : numR (encR z 1).1 (encR z 1).2.1 (encR z 1).2.2 = z ∧ denR (encR z 1).2.2 = 1 := by
 obtain ⟨g, g0, h1, h2⟩ := enc_parts z (q := 1) (by decide)
 have hg : g = 1 := Nat.eq_one_of_mul_eq_one_left h2
 subst hg
 exact ⟨by simpa using h1, by simpa using h2⟩
theorem numR_len20 (neg : Bool) {ln ld : List Int} (hn : okl ln) (h : ln.length ≤ 20) : (limbs (numR neg ln ld).natAbs).length ≤ 20 := Nat.le_trans (numR_len neg hn) h
theorem rofk {a b : Int} (ha0 : -9223372036854775808 ≤ a) (ha1 : a < 9223372036854775808) (hb0 : 0 < b) (hb1 : b < 9223372036854775808) :
  Ev (fun k => ratio_Of.f k a b) ((encR a b.toNat).1, (encR a b.toNat).2.1, (encR a b.toNat).2.2, true) := by
 have h := rof_ev ha0 ha1 (by omega) hb1
 rw [if_neg (by omega), Int.sign_eq_one_of_pos hb0, Int.mul_one, show b.natAbs = b.toNat by omega] at h
 exact h
theorem r3ofk {a b : Int} (ha0 : -9223372036854775808 ≤ a) (ha1 : a < 9223372036854775808) (hb0 : 0 < b) (hb1 : b < 9223372036854775808) :
  Ev (fun k => examboardref03_Of.f k a b) ((encR a b.toNat).1, (encR a b.toNat).2.1, (encR a b.toNat).2.2, true) := by
 have h := r3of_ev ha0 ha1 (by omega) hb1
 rw [if_neg (by omega), Int.sign_eq_one_of_pos hb0, Int.mul_one, show b.natAbs = b.toNat by omega] at h
 exact h
theorem large_eq (neg : Bool) (ln ld : List Int) : examboardlaw37_large.f neg ln ld = some (decide (20 < ln.length ∨ 20 < ld.length)) := by
 unfold examboardlaw37_large.f
 by_cases h : ln.length > 20
 ·rw [if_pos (by omega), decide_eq_true (by omega)]
 ·rw [if_neg (by omega)]
  congr 1
  by_cases h2 : ld.length > 20
  ·rw [decide_eq_true (by omega), decide_eq_true (by omega)]
  ·rw [decide_eq_false (by omega), decide_eq_false (by omega)]
def bd (a : Int) : Int := if a < 0 then 0 else if a > 1000000 then 1000000 else a
theorem bd_bounds (a : Int) : 0 ≤ bd a ∧ bd a ≤ 1000000 := by unfold bd; split <;> (try split) <;> omega
theorem bounded_eq (a : Int) : exposure_bounded.f a = some (bd a) := by
 unfold exposure_bounded.f bd mn mx
 congr 1
 split <;> split <;> (try split) <;> (try split) <;> omega
theorem limited_eq (a : Int) : examboardref37_limited.f a = some (bd a) := by
 unfold examboardref37_limited.f bd
 split <;> (try split) <;> rfl
def eligV (a0 a1 : Int) (N : Int) (D : Nat) (a3 : Int) : Bool := decide (cmpZ ((bd a0 + 1) * D) (N * (bd a1 + 1 + bd a3)) ≤ 0)
theorem fraction_ev {a b : Int} (ha0 : -9223372036854775808 ≤ a) (ha1 : a < 9223372036854775808) (hb0 : 0 < b) (hb1 : b < 9223372036854775808) : Ev (fun k => exposure_fraction.f k a b) (encR a b.toNat) :=
 Ev.bind (a := ((encR a b.toNat).1, (encR a b.toNat).2.1, (encR a b.toNat).2.2, true)) (f := fun (_ : Nat) (b : Bool × List Int × List Int × Bool) => some (b.1, b.2.1, b.2.2.1)) (rofk ha0 ha1 hb0 hb1) (Ev.now _)
theorem whole_ev {a : Int} (ha0 : -9223372036854775808 ≤ a) (ha1 : a < 9223372036854775808) : Ev (fun k => examboardref37_whole.f k a) (encR a 1) :=
 Ev.bind (a := ((encR a 1).1, (encR a 1).2.1, (encR a 1).2.2, true)) (f := fun (_ : Nat) (b : Bool × List Int × List Int × Bool) => some (b.1, b.2.1, b.2.2.1)) (r3ofk (b := 1) ha0 ha1 (by decide) (by decide)) (Ev.now _)
theorem elig_nums (neg : Bool) {ln ld : List Int} (hn : okl ln) (hd : okl ld) (h1 : ln.length ≤ 20) (h2 : ld.length ≤ 20) {S c : Int} (hS0 : 0 ≤ S) (hS1 : S ≤ 4000000) (hc0 : 0 ≤ c) (hc1 : c ≤ 4000000) :
  (encR (numR neg ln ld * S) (denR ld)).2.1.length ≤ 22 ∧ (encR (numR neg ln ld * S) (denR ld)).2.2.length ≤ 21 ∧ (encR S 1).2.1.length ≤ 2 ∧ (encR S 1).2.2.length ≤ 2 ∧ (encR c 1).2.1.length ≤ 2 ∧ (encR c 1).2.2.length ≤ 2 := by
 have k1 := numR_len20 neg (ld := ld) hn h1
 have k2 := denR_len hd
 obtain ⟨_, _, m3, m4⟩ := enc_ok (numR neg ln ld * S) (denR ld)
 obtain ⟨_, _, n3, n4⟩ := enc_ok S 1
 obtain ⟨_, _, q3, q4⟩ := enc_ok c 1
 have l4 := prod_len (okl_limbs (numR neg ln ld).natAbs) (okl_limbs S.natAbs)
 rw [val_limbs, val_limbs] at l4
 rw [Int.natAbs_mul] at m3
 have l1 := limbs2 (n := S.natAbs) (by omega)
 have l2 := limbs2 (n := 1) (by decide)
 have l3 := limbs2 (n := c.natAbs) (by omega)
 omega
theorem elig_ev (a0 a1 a3 : Int) (neg : Bool) {ln ld : List Int} (hn : okl ln) (hd : okl ld) (h1 : ln.length ≤ 20) (h2 : ld.length ≤ 20) :
  Ev (fun k => exposure_Eligible.f k a0 a1 neg ln ld a3) (eligV a0 a1 (numR neg ln ld) (denR ld) a3) := by
 unfold exposure_Eligible.f eligV
 rw [bounded_eq, bounded_eq, bounded_eq]
 simp only [Option.bind_some]
 obtain ⟨x0, x1⟩ := bd_bounds a0
 obtain ⟨y0, y1⟩ := bd_bounds a1
 obtain ⟨z0, z1⟩ := bd_bounds a3
 have w1 : wrap64 (wrap64 (bd a1 + 1) + bd a3) = bd a1 + 1 + bd a3 := by rw [wrap64_id (x := bd a1 + 1) (by omega) (by omega), wrap64_id (by omega) (by omega)]
 have w2 : wrap64 (bd a0 + 1) = bd a0 + 1 := wrap64_id (by omega) (by omega)
 rw [w1, w2]
 clear w1 w2
 have hS0 : 0 ≤ bd a1 + 1 + bd a3 := by omega
 have hS1 : bd a1 + 1 + bd a3 ≤ 4000000 := by omega
 generalize bd a1 + 1 + bd a3 = S at *
 have hc0 : 0 ≤ bd a0 + 1 := by omega
 have hc1 : bd a0 + 1 ≤ 4000000 := by omega
 generalize bd a0 + 1 = c at *
 clear x0 x1 y0 y1 z0 z1
 have f1 := fraction_ev (a := S) (b := 1) (by omega) (by omega) (by omega) (by omega)
 have f2 := fraction_ev (a := c) (b := 1) (by omega) (by omega) (by omega) (by omega)
 rw [show (1 : Int).toNat = 1 from rfl] at f1 f2
 obtain ⟨e1, e2⟩ := enc_one S
 obtain ⟨g1, g2⟩ := enc_one c
 obtain ⟨k1, k2, k3, k4, k5, k6⟩ := elig_nums neg hn hd h1 h2 hS0 hS1 hc0 hc1
 have hm := rmul_ev neg (encR S 1).1 hn hd (okl_limbs _) (okl_limbs _) (by unfold smallR; omega) (by unfold smallR; omega) (show smallR (encR S 1).2.1 by unfold smallR; omega) (show smallR (encR S 1).2.2 by unfold smallR; omega)
 replace hm : Ev (fun k => ratio_Mul.f k neg ln ld (encR S 1).1 (encR S 1).2.1 (encR S 1).2.2) (encR (numR neg ln ld * numR (encR S 1).1 (encR S 1).2.1 (encR S 1).2.2) (denR ld * denR (encR S 1).2.2)) := hm
 rw [e1, e2, Nat.mul_one] at hm
 have hc := rcmp_ev (encR c 1).1 (encR (numR neg ln ld * S) (denR ld)).1 (enc_ok c 1).1 (enc_ok c 1).2.1 (enc_ok (numR neg ln ld * S) (denR ld)).1 (enc_ok (numR neg ln ld * S) (denR ld)).2.1 (by unfold smallR; omega) (by unfold smallR; omega) (by unfold smallR; omega) (by unfold smallR; omega)
 rw [g1, g2, enc_cmp_right _ (denR_pos ld), Int.natCast_one, Int.mul_one] at hc
 exact Ev.bind f1 (Ev.bind f2 (Ev.bind hm (Ev.bind (a := cmpZ (c * denR ld) (numR neg ln ld * S)) (f := fun (_ : Nat) (t : Int) => some (decide (t ≤ 0))) hc (Ev.now _))))
theorem elig37_ev (a0 a1 a3 : Int) (neg : Bool) {ln ld : List Int} (hn : okl ln) (hd : okl ld) (h1 : ln.length ≤ 20) (h2 : ld.length ≤ 20) :
  Ev (fun k => examboardref37_Eligible.f k a0 a1 neg ln ld a3) (eligV a0 a1 (numR neg ln ld) (denR ld) a3) := by
 unfold examboardref37_Eligible.f eligV
 rw [limited_eq, limited_eq, limited_eq]
 simp only [Option.bind_some]
 obtain ⟨x0, x1⟩ := bd_bounds a0
 obtain ⟨y0, y1⟩ := bd_bounds a1
 obtain ⟨z0, z1⟩ := bd_bounds a3
 have w1 : wrap64 (wrap64 (bd a1 + 1) + bd a3) = bd a1 + 1 + bd a3 := by rw [wrap64_id (x := bd a1 + 1) (by omega) (by omega), wrap64_id (by omega) (by omega)]
 have w2 : wrap64 (bd a0 + 1) = bd a0 + 1 := wrap64_id (by omega) (by omega)
 rw [w1, w2]
 clear w1 w2
 have hS0 : 0 ≤ bd a1 + 1 + bd a3 := by omega
 have hS1 : bd a1 + 1 + bd a3 ≤ 4000000 := by omega
 generalize bd a1 + 1 + bd a3 = S at *
 have hc0 : 0 ≤ bd a0 + 1 := by omega
 have hc1 : bd a0 + 1 ≤ 4000000 := by omega
 generalize bd a0 + 1 = c at *
 clear x0 x1 y0 y1 z0 z1
 have f1 := whole_ev (a := S) (by omega) (by omega)
 have f2 := whole_ev (a := c) (by omega) (by omega)
 obtain ⟨e1, e2⟩ := enc_one S
 obtain ⟨g1, g2⟩ := enc_one c
 obtain ⟨k1, k2, k3, k4, k5, k6⟩ := elig_nums neg hn hd h1 h2 hS0 hS1 hc0 hc1
 have hm := r3mul_ev neg (encR S 1).1 hn hd (okl_limbs _) (okl_limbs _) (by unfold smallR; omega) (by omega) (show smallR (encR S 1).2.1 by unfold smallR; omega) (show (encR S 1).2.2.length < 17179869184 by omega)
 replace hm : Ev (fun k => examboardref03_Mul.f k neg ln ld (encR S 1).1 (encR S 1).2.1 (encR S 1).2.2) (encR (numR neg ln ld * numR (encR S 1).1 (encR S 1).2.1 (encR S 1).2.2) (denR ld * denR (encR S 1).2.2)) := hm
 rw [e1, e2, Nat.mul_one] at hm
 have hc := r3cmp_ev (encR c 1).1 (encR (numR neg ln ld * S) (denR ld)).1 (enc_ok c 1).1 (enc_ok c 1).2.1 (enc_ok (numR neg ln ld * S) (denR ld)).1 (enc_ok (numR neg ln ld * S) (denR ld)).2.1 (by unfold smallR; omega) (by omega) (by unfold smallR; omega) (by omega)
 rw [g1, g2, enc_cmp_right _ (denR_pos ld), Int.natCast_one, Int.mul_one] at hc
 exact Ev.bind f1 (Ev.bind hm (Ev.bind f2 (Ev.bind (a := cmpZ (c * denR ld) (numR neg ln ld * S)) (f := fun (_ : Nat) (t : Int) => some (decide (t ≤ 0))) hc (Ev.now _))))
theorem bd_id {a : Int} (h0 : 0 ≤ a) (h1 : a ≤ 1000000) : bd a = a := by unfold bd; rw [if_neg (by omega), if_neg (by omega)]
end Go.Proofs.Ythamhjmhgcpdgaa.Big
end
section
namespace Go.Proofs.Ythamhjmhgcpdgaa.Lp
open Go.RowKit Go.Proofs.YthamhjmhgcpdgaaW.PrintWords
set_option linter.unusedVariables false
theorem wrap64_id {x : Int} (h0 : -9223372036854775808 ≤ x) (h1 : x < 9223372036854775808) : wrap64 x = x := by unfold wrap64; omega
theorem wrap_next {i n : Nat} (h : i < n) (hn : n ≤ 9223372036854775807) : wrap64 ((i : Int) + 1) = ((i + 1 : Nat) : Int) := by rw [wrap64_id (by omega) (by omega)]; omega
theorem Ev.ite_pos {α : Type} {p : Prop} [Decidable p] {a b : Nat → Option α} {r : α} (h : p) (k : Ev a r) : Ev (fun n => if p then a n else b n) r := Ev.congr (fun n => if_pos h) k
theorem Ev.ite_neg {α : Type} {p : Prop} [Decidable p] {a b : Nat → Option α} {r : α} (h : ¬ p) (k : Ev b r) : Ev (fun n => if p then a n else b n) r := Ev.congr (fun n => if_neg h) k
theorem Ev.last {α : Type} {g : Nat → Option α} {r : α} (h : ∀ k, g (k + 1) = some r) : Ev g r := Ev.step (f := fun _ => some r) h (Ev.now r)
theorem getD_drop {α : Type} (l : List α) (z : α) (i : Nat) (h : i < l.length) : l.drop i = l.getD i z :: l.drop (i + 1) := by
 rw [List.drop_eq_getElem_cons h, List.getD_eq_getElem?_getD, List.getElem?_eq_getElem h]
 rfl
theorem take_snoc {α : Type} (l : List α) (z : α) (i : Nat) (h : i < l.length) : l.take (i + 1) = l.take i ++ [l.getD i z] := by
 rw [List.take_add_one, List.getElem?_eq_getElem h, List.getD_eq_getElem?_getD, List.getElem?_eq_getElem h]
 rfl
end Go.Proofs.Ythamhjmhgcpdgaa.Lp
end
