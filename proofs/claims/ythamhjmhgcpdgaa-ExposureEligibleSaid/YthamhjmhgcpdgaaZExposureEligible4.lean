/- Lemmas and contracts for the law ExposureEligible: words of the print, contracts of the functions that the law reaches, and what these compute, as far as the law needs them; packed by a program of this session. -/
import Derived.Test.YthamhjmhgcpdgaaZExposureEligible3
section
namespace Go.Proofs.Ythamhjmhgcpdgaa.Q
open Go.RowKit Go.Proofs.YthamhjmhgcpdgaaW.PrintWords Go.Proofs.YthamhjmhgcpdgaaW.PrintLast Go.Proofs.YthamhjmhgcpdgaaW.PrintMore Go.Proofs.Ythamhjmhgcpdgaa.MyWords
attribute [local go_sem] max2_int min2_int max_two min_two
set_option linter.unusedVariables false
set_option linter.unusedSimpArgs false
set_option maxHeartbeats 8000000 in
set_option maxRecDepth 100000 in
theorem examboardref02_Cmp.calls (k : Nat) (a0_0 : Bool) (A0_1 : Option Addr) (c0_1 : Nat) (l0_1 : List Int) (a1_0 : Bool) (A1_1 : Option Addr) (c1_1 : Nat) (l1_1 : List Int) (r : Int) (w : World) (hr0_1 : Kd.C (Kd.int .u32) w A0_1 l0_1.length l0_1) (hc0_1 : l0_1.length ≤ c0_1) (hr1_1 : Kd.C (Kd.int .u32) w A1_1 l1_1.length l1_1) (hc1_1 : l1_1.length ≤ c1_1) (h : examboardref02_Cmp.f k a0_0 l0_1 a1_0 l1_1 = some r) :
  Calls Try.prog 63 #[.agg #[.bool a0_0, .slice A0_1 l0_1.length c0_1], .agg #[.bool a1_0, .slice A1_1 l1_1.length c1_1]] w fun e w' => e = .returned (.int .i64 r) ∧ Below w.heap.size w w' := by
 have hu27 := Try.underlying27
 have HR0_1 := mk0 hr0_1
 have HC0_1 := mk0 hc0_1
 clear hr0_1 hc0_1
 have HR1_1 := mk0 hr1_1
 have HC1_1 := mk0 hc1_1
 clear hr1_1 hc1_1
 have HB := mk0 (Below.refl w.heap.size w)
 have H : ((examboardref02_Sign.f k a0_0 l0_1).bind fun t673 => ((examboardref02_Sign.f k a1_0 l1_1).bind fun t674 => (if t673 < t674 then (some (-1)) else (if t673 > t674 then (some 1) else (if t673 < 0 then ((examboardref01_Cmp.f k l1_1 l0_1).bind fun t675 => (some t675)) else ((examboardref01_Cmp.f k l0_1 l1_1).bind fun t676 => (some t676))))))) = some r := h
 clear h
 obtain ⟨t673, A3, H⟩ := bindA H
 obtain ⟨t674, A4, H⟩ := bindA H
 by_cases c5 : t673 < t674
 ·rw [if_pos c5] at H
  have c5b0 : decide (t673 < t674) = true := decide_eq_true c5
  clear c5
  obtain rfl := Option.some.inj H
  go_enter Try.func63, Try.ntmps63
  go_wp2_with (first | ((with_reducible refine gate_dst (N := 2) rfl ?_); refine box_event rfl (N := 2) rfl (cs := #[.bool a0_0, .slice A0_1 l0_1.length c0_1]) (t := 27) (by go_simp <;> rfl) ?_; intro gb671 hg w6 hbox hb; have BK671 := mk0 (hbox); have GE671 := geB hg HB; replace HB := hbS HB hb; clear hb hbox hg) | ((with_reducible refine gate_dst (N := 3) rfl ?_); refine box_event rfl (N := 3) rfl (cs := #[.bool a1_0, .slice A1_1 l1_1.length c1_1]) (t := 27) (by go_simp <;> rfl) ?_; intro gb672 hg w7 hbox hb; have BK672 := mk0 (hbox); have GE672 := geB hg HB; replace HB := hbS HB hb; have NB671_672 := nbA hg BK671; have NB672_671 := nbB hg BK671; replace BK671 := bkB BK671 hb; clear hb hbox hg; have hnb8 := NB671_672.out; have hnc8 := NB672_671.out; obtain ⟨hcz9_0, hcz9_1, hfz9_0, hfz9_1⟩ := cz2 BK671) | ((with_reducible refine gate_callee (f := 91) rfl ?_); refine goesL_ (some 8) rfl rfl Try.func91 (by kernel_rfl) rfl #[.agg #[.bool a0_0, .slice A0_1 l0_1.length c0_1]] rfl (by go_simp <;> rfl) ?_; (with_reducible refine (examboardref02_Sign.calls k a0_0 _ _ l0_1 t673 _ (by exact Kd.C_below HR0_1.out HB.out) HC0_1.out A3.out).mono ?_); rintro e w10 ⟨rfl, hb⟩; refine ⟨_, rfl, ?_⟩; replace BK671 := bkB BK671 hb; replace BK672 := bkB BK672 hb; replace HB := hbS HB hb; obtain ⟨hcz11_0, hcz11_1, hfz11_0, hfz11_1⟩ := cz2 BK672) | ((with_reducible refine gate_callee (f := 91) rfl ?_); refine goesL_ (some 10) rfl rfl Try.func91 (by kernel_rfl) rfl #[.agg #[.bool a1_0, .slice A1_1 l1_1.length c1_1]] rfl (by go_simp <;> rfl) ?_; (with_reducible refine (examboardref02_Sign.calls k a1_0 _ _ l1_1 t674 _ (by exact Kd.C_below HR1_1.out HB.out) HC1_1.out A4.out).mono ?_); rintro e w12 ⟨rfl, hb⟩; refine ⟨_, rfl, ?_⟩; replace BK671 := bkB BK671 hb; replace BK672 := bkB BK672 hb; replace HB := hbS HB hb))
  go_ret
  exact ⟨by first | rfl | (simp [errW_none, errW_some] <;> rfl) | (simp [*, errW_none, errW_some] <;> rfl), by repeat (first | exact HB.out | apply pw_below_drewN | apply below_drew1 | apply below_alloc | refine below_set ?_ GE671.out | refine below_set ?_ GE672.out)⟩
 ·rw [if_neg c5] at H
  have c5b0 : decide (t673 < t674) = false := decide_eq_false c5
  clear c5
  by_cases c13 : t673 > t674
  ·rw [if_pos c13] at H
   have c13b0 : decide (t674 < t673) = true := decide_eq_true c13
   clear c13
   obtain rfl := Option.some.inj H
   go_enter Try.func63, Try.ntmps63
   go_wp2_with (first | ((with_reducible refine gate_dst (N := 2) rfl ?_); refine box_event rfl (N := 2) rfl (cs := #[.bool a0_0, .slice A0_1 l0_1.length c0_1]) (t := 27) (by go_simp <;> rfl) ?_; intro gb671 hg w14 hbox hb; have BK671 := mk0 (hbox); have GE671 := geB hg HB; replace HB := hbS HB hb; clear hb hbox hg) | ((with_reducible refine gate_dst (N := 3) rfl ?_); refine box_event rfl (N := 3) rfl (cs := #[.bool a1_0, .slice A1_1 l1_1.length c1_1]) (t := 27) (by go_simp <;> rfl) ?_; intro gb672 hg w15 hbox hb; have BK672 := mk0 (hbox); have GE672 := geB hg HB; replace HB := hbS HB hb; have NB671_672 := nbA hg BK671; have NB672_671 := nbB hg BK671; replace BK671 := bkB BK671 hb; clear hb hbox hg; have hnb16 := NB671_672.out; have hnc16 := NB672_671.out; obtain ⟨hcz17_0, hcz17_1, hfz17_0, hfz17_1⟩ := cz2 BK671) | ((with_reducible refine gate_callee (f := 91) rfl ?_); refine goesL_ (some 8) rfl rfl Try.func91 (by kernel_rfl) rfl #[.agg #[.bool a0_0, .slice A0_1 l0_1.length c0_1]] rfl (by go_simp <;> rfl) ?_; (with_reducible refine (examboardref02_Sign.calls k a0_0 _ _ l0_1 t673 _ (by exact Kd.C_below HR0_1.out HB.out) HC0_1.out A3.out).mono ?_); rintro e w18 ⟨rfl, hb⟩; refine ⟨_, rfl, ?_⟩; replace BK671 := bkB BK671 hb; replace BK672 := bkB BK672 hb; replace HB := hbS HB hb; obtain ⟨hcz19_0, hcz19_1, hfz19_0, hfz19_1⟩ := cz2 BK672) | ((with_reducible refine gate_callee (f := 91) rfl ?_); refine goesL_ (some 10) rfl rfl Try.func91 (by kernel_rfl) rfl #[.agg #[.bool a1_0, .slice A1_1 l1_1.length c1_1]] rfl (by go_simp <;> rfl) ?_; (with_reducible refine (examboardref02_Sign.calls k a1_0 _ _ l1_1 t674 _ (by exact Kd.C_below HR1_1.out HB.out) HC1_1.out A4.out).mono ?_); rintro e w20 ⟨rfl, hb⟩; refine ⟨_, rfl, ?_⟩; replace BK671 := bkB BK671 hb; replace BK672 := bkB BK672 hb; replace HB := hbS HB hb))
   go_ret
   exact ⟨by first | rfl | (simp [errW_none, errW_some] <;> rfl) | (simp [*, errW_none, errW_some] <;> rfl), by repeat (first | exact HB.out | apply pw_below_drewN | apply below_drew1 | apply below_alloc | refine below_set ?_ GE671.out | refine below_set ?_ GE672.out)⟩
  ·rw [if_neg c13] at H
   have c13b0 : decide (t674 < t673) = false := decide_eq_false c13
   clear c13
   by_cases c21 : t673 < 0
   ·rw [if_pos c21] at H
    have c21b0 : decide (t673 < 0) = true := decide_eq_true c21
    clear c21
    obtain ⟨t675, A22, H⟩ := bindA H
    obtain rfl := Option.some.inj H
    go_enter Try.func63, Try.ntmps63
    go_wp2_with (first | ((with_reducible refine gate_dst (N := 2) rfl ?_); refine box_event rfl (N := 2) rfl (cs := #[.bool a0_0, .slice A0_1 l0_1.length c0_1]) (t := 27) (by go_simp <;> rfl) ?_; intro gb671 hg w23 hbox hb; have BK671 := mk0 (hbox); have GE671 := geB hg HB; replace HB := hbS HB hb; clear hb hbox hg) | ((with_reducible refine gate_dst (N := 3) rfl ?_); refine box_event rfl (N := 3) rfl (cs := #[.bool a1_0, .slice A1_1 l1_1.length c1_1]) (t := 27) (by go_simp <;> rfl) ?_; intro gb672 hg w24 hbox hb; have BK672 := mk0 (hbox); have GE672 := geB hg HB; replace HB := hbS HB hb; have NB671_672 := nbA hg BK671; have NB672_671 := nbB hg BK671; replace BK671 := bkB BK671 hb; clear hb hbox hg; have hnb25 := NB671_672.out; have hnc25 := NB672_671.out; obtain ⟨hcz26_0, hcz26_1, hfz26_0, hfz26_1⟩ := cz2 BK671) | ((with_reducible refine gate_callee (f := 91) rfl ?_); refine goesL_ (some 8) rfl rfl Try.func91 (by kernel_rfl) rfl #[.agg #[.bool a0_0, .slice A0_1 l0_1.length c0_1]] rfl (by go_simp <;> rfl) ?_; (with_reducible refine (examboardref02_Sign.calls k a0_0 _ _ l0_1 t673 _ (by exact Kd.C_below HR0_1.out HB.out) HC0_1.out A3.out).mono ?_); rintro e w27 ⟨rfl, hb⟩; refine ⟨_, rfl, ?_⟩; replace BK671 := bkB BK671 hb; replace BK672 := bkB BK672 hb; replace HB := hbS HB hb; obtain ⟨hcz28_0, hcz28_1, hfz28_0, hfz28_1⟩ := cz2 BK672) | ((with_reducible refine gate_callee (f := 91) rfl ?_); refine goesL_ (some 10) rfl rfl Try.func91 (by kernel_rfl) rfl #[.agg #[.bool a1_0, .slice A1_1 l1_1.length c1_1]] rfl (by go_simp <;> rfl) ?_; (with_reducible refine (examboardref02_Sign.calls k a1_0 _ _ l1_1 t674 _ (by exact Kd.C_below HR1_1.out HB.out) HC1_1.out A4.out).mono ?_); rintro e w29 ⟨rfl, hb⟩; refine ⟨_, rfl, ?_⟩; replace BK671 := bkB BK671 hb; replace BK672 := bkB BK672 hb; replace HB := hbS HB hb; obtain ⟨hcz30_0, hcz30_1, hfz30_0, hfz30_1⟩ := cz2 BK672; obtain ⟨hcz31_0, hcz31_1, hfz31_0, hfz31_1⟩ := cz2 BK671) | ((with_reducible refine gate_callee (f := 92) rfl ?_); refine goesL_ (some 23) rfl rfl Try.func92 (by kernel_rfl) rfl #[.slice A1_1 l1_1.length c1_1, .slice A0_1 l0_1.length c0_1] rfl (by go_simp <;> rfl) ?_; (with_reducible refine (examboardref01_Cmp.calls k _ _ l1_1 _ _ l0_1 t675 _ (by exact Kd.C_below HR1_1.out HB.out) HC1_1.out (by exact Kd.C_below HR0_1.out HB.out) HC0_1.out A22.out).mono ?_); rintro e w32 ⟨rfl, hb⟩; refine ⟨_, rfl, ?_⟩; replace BK671 := bkB BK671 hb; replace BK672 := bkB BK672 hb; replace HB := hbS HB hb))
    go_ret
    exact ⟨by first | rfl | (simp [errW_none, errW_some] <;> rfl) | (simp [*, errW_none, errW_some] <;> rfl), by repeat (first | exact HB.out | apply pw_below_drewN | apply below_drew1 | apply below_alloc | refine below_set ?_ GE671.out | refine below_set ?_ GE672.out)⟩
   ·rw [if_neg c21] at H
    have c21b0 : decide (t673 < 0) = false := decide_eq_false c21
    clear c21
    obtain ⟨t676, A33, H⟩ := bindA H
    obtain rfl := Option.some.inj H
    go_enter Try.func63, Try.ntmps63
    go_wp2_with (first | ((with_reducible refine gate_dst (N := 2) rfl ?_); refine box_event rfl (N := 2) rfl (cs := #[.bool a0_0, .slice A0_1 l0_1.length c0_1]) (t := 27) (by go_simp <;> rfl) ?_; intro gb671 hg w34 hbox hb; have BK671 := mk0 (hbox); have GE671 := geB hg HB; replace HB := hbS HB hb; clear hb hbox hg) | ((with_reducible refine gate_dst (N := 3) rfl ?_); refine box_event rfl (N := 3) rfl (cs := #[.bool a1_0, .slice A1_1 l1_1.length c1_1]) (t := 27) (by go_simp <;> rfl) ?_; intro gb672 hg w35 hbox hb; have BK672 := mk0 (hbox); have GE672 := geB hg HB; replace HB := hbS HB hb; have NB671_672 := nbA hg BK671; have NB672_671 := nbB hg BK671; replace BK671 := bkB BK671 hb; clear hb hbox hg; have hnb36 := NB671_672.out; have hnc36 := NB672_671.out; obtain ⟨hcz37_0, hcz37_1, hfz37_0, hfz37_1⟩ := cz2 BK671) | ((with_reducible refine gate_callee (f := 91) rfl ?_); refine goesL_ (some 8) rfl rfl Try.func91 (by kernel_rfl) rfl #[.agg #[.bool a0_0, .slice A0_1 l0_1.length c0_1]] rfl (by go_simp <;> rfl) ?_; (with_reducible refine (examboardref02_Sign.calls k a0_0 _ _ l0_1 t673 _ (by exact Kd.C_below HR0_1.out HB.out) HC0_1.out A3.out).mono ?_); rintro e w38 ⟨rfl, hb⟩; refine ⟨_, rfl, ?_⟩; replace BK671 := bkB BK671 hb; replace BK672 := bkB BK672 hb; replace HB := hbS HB hb; obtain ⟨hcz39_0, hcz39_1, hfz39_0, hfz39_1⟩ := cz2 BK672) | ((with_reducible refine gate_callee (f := 91) rfl ?_); refine goesL_ (some 10) rfl rfl Try.func91 (by kernel_rfl) rfl #[.agg #[.bool a1_0, .slice A1_1 l1_1.length c1_1]] rfl (by go_simp <;> rfl) ?_; (with_reducible refine (examboardref02_Sign.calls k a1_0 _ _ l1_1 t674 _ (by exact Kd.C_below HR1_1.out HB.out) HC1_1.out A4.out).mono ?_); rintro e w40 ⟨rfl, hb⟩; refine ⟨_, rfl, ?_⟩; replace BK671 := bkB BK671 hb; replace BK672 := bkB BK672 hb; replace HB := hbS HB hb; obtain ⟨hcz41_0, hcz41_1, hfz41_0, hfz41_1⟩ := cz2 BK671; obtain ⟨hcz42_0, hcz42_1, hfz42_0, hfz42_1⟩ := cz2 BK672) | ((with_reducible refine gate_callee (f := 92) rfl ?_); refine goesL_ (some 28) rfl rfl Try.func92 (by kernel_rfl) rfl #[.slice A0_1 l0_1.length c0_1, .slice A1_1 l1_1.length c1_1] rfl (by go_simp <;> rfl) ?_; (with_reducible refine (examboardref01_Cmp.calls k _ _ l0_1 _ _ l1_1 t676 _ (by exact Kd.C_below HR0_1.out HB.out) HC0_1.out (by exact Kd.C_below HR1_1.out HB.out) HC1_1.out A33.out).mono ?_); rintro e w43 ⟨rfl, hb⟩; refine ⟨_, rfl, ?_⟩; replace BK671 := bkB BK671 hb; replace BK672 := bkB BK672 hb; replace HB := hbS HB hb))
    go_ret
    exact ⟨by first | rfl | (simp [errW_none, errW_some] <;> rfl) | (simp [*, errW_none, errW_some] <;> rfl), by repeat (first | exact HB.out | apply pw_below_drewN | apply below_drew1 | apply below_alloc | refine below_set ?_ GE671.out | refine below_set ?_ GE672.out)⟩
def examboardref03_Cmp.T1 : Bool × List (List Nat × List Nat) := (true, [([], []), ([0], [0]), ([], []), ([2, 1], [2]), ([3, 3], [3]), ([1, 4, 4], [1, 4]), ([], []), ([6, 5, 5, 0, 1, 2, 3, 4, 5, 6], [5, 6])])
def examboardref03_Cmp.B1 : List Nat := [0, 1, 0, 7, 15, 31, 0, 127]
theorem examboardref03_Cmp.tab1 : rtab .any (opsOf Try.f35 1) = examboardref03_Cmp.T1 := by kernel_rfl
theorem examboardref03_Cmp.bits1 : waitsOk examboardref03_Cmp.T1.2 examboardref03_Cmp.B1 = true := by kernel_rfl
def examboardref03_Cmp.T2 : Bool × List (List Nat × List Nat) := (true, [([], []), ([0], [0]), ([], []), ([2, 1], [2]), ([3, 3], [3]), ([1, 4, 4], [1, 4]), ([], []), ([6, 5, 5, 0, 1, 2, 3, 4, 5, 6], [5, 6])])
def examboardref03_Cmp.B2 : List Nat := [0, 1, 0, 7, 15, 31, 0, 127]
theorem examboardref03_Cmp.tab2 : rtab .any (opsOf Try.f35 2) = examboardref03_Cmp.T2 := by kernel_rfl
theorem examboardref03_Cmp.bits2 : waitsOk examboardref03_Cmp.T2.2 examboardref03_Cmp.B2 = true := by kernel_rfl
set_option maxHeartbeats 8000000 in
set_option maxRecDepth 100000 in
theorem examboardref03_Cmp.calls (k : Nat) (a0_0 : Bool) (A0_1 : Option Addr) (c0_1 : Nat) (l0_1 : List Int) (A0_2 : Option Addr) (c0_2 : Nat) (l0_2 : List Int) (a1_0 : Bool) (A1_1 : Option Addr) (c1_1 : Nat) (l1_1 : List Int) (A1_2 : Option Addr) (c1_2 : Nat) (l1_2 : List Int) (r : Int) (w : World) (hr0_1 : Kd.C (Kd.int .u32) w A0_1 l0_1.length l0_1) (hc0_1 : l0_1.length ≤ c0_1) (hr0_2 : Kd.C (Kd.int .u32) w A0_2 l0_2.length l0_2) (hc0_2 : l0_2.length ≤ c0_2) (hr1_1 : Kd.C (Kd.int .u32) w A1_1 l1_1.length l1_1) (hc1_1 : l1_1.length ≤ c1_1) (hr1_2 : Kd.C (Kd.int .u32) w A1_2 l1_2.length l1_2) (hc1_2 : l1_2.length ≤ c1_2) (h : examboardref03_Cmp.f k a0_0 l0_1 l0_2 a1_0 l1_1 l1_2 = some r) :
  Calls Try.prog 35 #[.agg #[.bool a0_0, .slice A0_1 l0_1.length c0_1, .slice A0_2 l0_2.length c0_2], .agg #[.bool a1_0, .slice A1_1 l1_1.length c1_1, .slice A1_2 l1_2.length c1_2]] w fun e w' => e = .returned (.int .i64 r) ∧ Below w.heap.size w w' := by
 have hu29 := Try.underlying29
 have hu27 := Try.underlying27
 have HR0_1 := mk0 hr0_1
 have HC0_1 := mk0 hc0_1
 clear hr0_1 hc0_1
 have HR0_2 := mk0 hr0_2
 have HC0_2 := mk0 hc0_2
 clear hr0_2 hc0_2
 have HR1_1 := mk0 hr1_1
 have HC1_1 := mk0 hc1_1
 clear hr1_1 hc1_1
 have HR1_2 := mk0 hr1_2
 have HC1_2 := mk0 hc1_2
 clear hr1_2 hc1_2
 have HB := mk0 (Below.refl w.heap.size w)
 have H : ((examboardref03_top.f k a0_0 l0_1 l0_2).bind fun bt679 => ((examboardref03_low.f k a1_0 l1_1 l1_2).bind fun t683 => ((examboardref02_Make.f k false t683).bind fun bt686 => ((examboardref02_Mul.f k bt679.1 bt679.2 bt686.1 bt686.2).bind fun bt690 => ((examboardref03_top.f k a1_0 l1_1 l1_2).bind fun bt695 => ((examboardref03_low.f k a0_0 l0_1 l0_2).bind fun t699 => ((examboardref02_Make.f k false t699).bind fun bt702 => ((examboardref02_Mul.f k bt695.1 bt695.2 bt702.1 bt702.2).bind fun bt706 => ((examboardref02_Cmp.f k bt690.1 bt690.2 bt706.1 bt706.2).bind fun t711 => (some t711)))))))))) = some r := h
 clear h
 obtain ⟨⟨t679, t680⟩, A3, H⟩ := bindA H
 obtain ⟨t683, A4, H⟩ := bindA H
 obtain ⟨⟨t686, t687⟩, A5, H⟩ := bindA H
 obtain ⟨⟨t690, t691⟩, A6, H⟩ := bindA H
 obtain ⟨⟨t695, t696⟩, A7, H⟩ := bindA H
 obtain ⟨t699, A8, H⟩ := bindA H
 obtain ⟨⟨t702, t703⟩, A9, H⟩ := bindA H
 obtain ⟨⟨t706, t707⟩, A10, H⟩ := bindA H
 obtain ⟨t711, A11, H⟩ := bindA H
 obtain rfl := Option.some.inj H
 go_enter Try.func35, Try.ntmps35
 try go_wp2_with (first | ((with_reducible refine gate_dst (N := 2) rfl ?_); refine box_event rfl (N := 2) rfl (cs := #[.bool a0_0, .slice A0_1 l0_1.length c0_1, .slice A0_2 l0_2.length c0_2]) (t := 29) (by go_simp <;> rfl) ?_; intro gb677 hg w12 hbox hb; have BK677 := mk0 (hbox); have GE677 := geB hg HB; replace HB := hbS HB hb; clear hb hbox hg) | ((with_reducible refine gate_dst (N := 3) rfl ?_); refine box_event rfl (N := 3) rfl (cs := #[.bool a1_0, .slice A1_1 l1_1.length c1_1, .slice A1_2 l1_2.length c1_2]) (t := 29) (by go_simp <;> rfl) ?_; intro gb678 hg w13 hbox hb; have BK678 := mk0 (hbox); have GE678 := geB hg HB; replace HB := hbS HB hb; replace BK677 := bkB BK677 hb; clear hb hbox hg))
 replace BK677 := mk0 (blk_drew BK677.out)
 replace BK678 := mk0 (blk_drew BK678.out)
 replace HB := mk0 (below_drew1 HB.out)
 refine start_ (n := 8) (S := fun w' => True) (ds := []) (bv 8 0) (by kernel_rfl) rfl rfl trivial (fun hHeld => ?_); refine with_tabW examboardref03_Cmp.tab1 examboardref03_Cmp.bits1 (fun HT_ HW_ => ?_)
 generalize w13.drew = w14 at BK677 BK678 HB hHeld ⊢
 refine inv_at [0, 1, 2, 3, 4, 5, 6, 7] (fun a0_ b a w' => ∃ (v681 : Value) (v684 : Value) (v688 : Value) (v692 : Value) (gb694 : Nat) (m1_ : Value) (m4_ : Value) (m5_ : Value) (m6_ : Value), a = putSel a0_ b [(0, 7, .agg #[.bool a0_0, .slice A0_1 l0_1.length c0_1, .slice A0_2 l0_2.length c0_2]), (1, 8, m1_), (2, 9, .agg #[.bool a1_0, .slice A1_1 l1_1.length c1_1, .slice A1_2 l1_2.length c1_2]), (3, 10, v684), (4, 11, m4_), (5, 12, m5_), (6, 5, m6_)] ∧ (w'.heap[gb677]? = some (.cells #[.bool a0_0, .slice A0_1 l0_1.length c0_1, .slice A0_2 l0_2.length c0_2] 29 (0, 0))) ∧ (w'.heap[gb678]? = some (.cells #[.bool a1_0, .slice A1_1 l1_1.length c1_1, .slice A1_2 l1_2.length c1_2] 29 (0, 0))) ∧ (Below w.heap.size w w') ∧ (b 1 = true → Kd.R (Kd.int .u32) 87 w' w.heap.size (fun _ => True) v681 t680) ∧ (b 3 = true → Kd.R (Kd.int .u32) 87 w' w.heap.size (fun _ => True) v684 t683) ∧ (b 4 = true → Kd.R (Kd.int .u32) 87 w' w.heap.size (fun _ => True) v688 t687) ∧ (b 5 = true → Kd.R (Kd.int .u32) 87 w' w.heap.size (fun _ => True) v692 t691) ∧ (b 6 = true → b 7 = false → w'.heap[gb694]? = some (.cells #[.bool false, .slice none 0 0] 27 (0, 0))) ∧ (b 6 = true → w.heap.size ≤ gb694) ∧ (b 6 = true → w.heap.size ≤ gb694) ∧ (b 6 = true → gb677 ≠ gb694) ∧ (b 6 = true → gb694 ≠ gb677) ∧ (b 6 = true → gb678 ≠ gb694) ∧ (b 6 = true → gb694 ≠ gb678) ∧ (b 7 = true → w'.heap[gb694]? = some (.cells #[.bool t690, v692] 27 (0, 0))) ∧ (b 1 = true → (m1_ : Value) = .agg #[.bool t679, v681]) ∧ (b 4 = true → (m4_ : Value) = .agg #[.bool t686, v688]) ∧ (b 5 = true → (m5_ : Value) = .agg #[.bool t690, v692]) ∧ (b 6 = true → (m6_ : Value) = .pointer (some ⟨gb694, 0, none⟩))) HT_.out HW_.out (by kernel_rfl) (by kernel_rfl) ?_ ?_ ?_
 ·exact ⟨.bool false, .bool false, .bool false, .bool false, 0, .bool false, .bool false, .bool false, .bool false, by simp only [putSel, Bool.false_eq_true, if_false], BK677.out, BK678.out, HB.out, fun h_ => absurd h_ (by decide), fun h_ => absurd h_ (by decide), fun h_ => absurd h_ (by decide), fun h_ => absurd h_ (by decide), fun h_ => absurd h_ (by decide), fun h_ => absurd h_ (by decide), fun h_ => absurd h_ (by decide), fun h_ => absurd h_ (by decide), fun h_ => absurd h_ (by decide), fun h_ => absurd h_ (by decide), fun h_ => absurd h_ (by decide), fun h_ => absurd h_ (by decide), fun h_ => absurd h_ (by decide), fun h_ => absurd h_ (by decide), fun h_ => absurd h_ (by decide), fun h_ => absurd h_ (by decide)⟩
 ·skip
  clear BK677 BK678 HB
  refine steps_cons ?_ ?_
  ·rintro b a w' ⟨v681, v684, v688, v692, gb694, m1_, m4_, m5_, m6_, ha, Q_BK677, Q_BK678, Q_HB, Q_HO682, Q_HO685, Q_HO689, Q_HO693, Q_BK694, Q_GW694, Q_GE694, Q_NB677_694, Q_NB694_677, Q_NB678_694, Q_NB694_678, Q_BK694_e7, Q_X1_, Q_X4_, Q_X5_, Q_X6_⟩ hb_ hon hoff
   refine ⟨_, rfl, fun K hK => ?_⟩
   have e2 : a.tmps[2]? = some (.pointer (some ⟨gb677, 0, none⟩)) := by rw [ha]; exact (putSel_off rfl).trans rfl
   replace ha := mk0 ha
   have BK677 := mk0 Q_BK677
   have BK678 := mk0 Q_BK678
   have HB := mk0 Q_HB
   have hc0_ : w'.cell? ⟨gb677, 0, none⟩ = some (.bool a0_0) := (blk_cell BK677.out 0).trans rfl
   have hc1_ : w'.cell? ⟨gb677, 1, none⟩ = some (.slice A0_1 l0_1.length c0_1) := (blk_cell BK677.out 1).trans rfl
   have hc2_ : w'.cell? ⟨gb677, 2, none⟩ = some (.slice A0_2 l0_2.length c0_2) := (blk_cell BK677.out 2).trans rfl
   refine value_ (w1 := w') (v := .agg #[.bool a0_0, .slice A0_1 l0_1.length c0_1, .slice A0_2 l0_2.length c0_2]) (by rfl) rfl ?_ ?_
   ·go_simp
    (try simp only [i64_w])
    try rfl
   refine hK.out _ _ ⟨v681, v684, v688, v692, gb694, m1_, m4_, m5_, m6_, (by rw [ha.out]; exact putSel_upk 0 hb_ rfl rfl rfl), Q_BK677, Q_BK678, Q_HB, fun h0_ => absurd ((hoff 1 (by kernel_rfl)).symm.trans h0_) (by decide), fun h0_ => absurd ((hoff 3 (by kernel_rfl)).symm.trans h0_) (by decide), fun h0_ => absurd ((hoff 4 (by kernel_rfl)).symm.trans h0_) (by decide), fun h0_ => absurd ((hoff 5 (by kernel_rfl)).symm.trans h0_) (by decide), Q_BK694, Q_GW694, Q_GE694, Q_NB677_694, Q_NB694_677, Q_NB678_694, Q_NB694_678, fun h0_ => absurd ((hoff 7 (by kernel_rfl)).symm.trans h0_) (by decide), fun h0_ => absurd ((hoff 1 (by kernel_rfl)).symm.trans h0_) (by decide), fun h0_ => absurd ((hoff 4 (by kernel_rfl)).symm.trans h0_) (by decide), fun h0_ => absurd ((hoff 5 (by kernel_rfl)).symm.trans h0_) (by decide), Q_X6_⟩
  refine steps_cons ?_ ?_
  ·rintro b a w' ⟨v681, v684, v688, v692, gb694, m1_, m4_, m5_, m6_, ha, Q_BK677, Q_BK678, Q_HB, Q_HO682, Q_HO685, Q_HO689, Q_HO693, Q_BK694, Q_GW694, Q_GE694, Q_NB677_694, Q_NB694_677, Q_NB678_694, Q_NB694_678, Q_BK694_e7, Q_X1_, Q_X4_, Q_X5_, Q_X6_⟩ hb_ hon hoff
   refine ⟨_, rfl, fun K hK => ?_⟩
   have e7 : a.tmps[7]? = some (.agg #[.bool a0_0, .slice A0_1 l0_1.length c0_1, .slice A0_2 l0_2.length c0_2]) := by rw [ha]; exact putSel_on (e := (0, 7, .agg #[.bool a0_0, .slice A0_1 l0_1.length c0_1, .slice A0_2 l0_2.length c0_2])) 0 rfl rfl (hon 0 (by kernel_rfl)) rfl
   replace ha := mk0 ha
   have BK677 := mk0 Q_BK677
   have BK678 := mk0 Q_BK678
   have HB := mk0 Q_HB
   refine goes_ Try.func59 (by kernel_rfl) rfl #[.agg #[.bool a0_0, .slice A0_1 l0_1.length c0_1, .slice A0_2 l0_2.length c0_2]] (by rfl) rfl rfl (by first | (simp only [mA, mC, mN, Act.eval, Array.getD_eq_getD_getElem?, Option.getD_some, e7]; done) | (simp only [mA, mC, mN, Act.eval, Array.getD_eq_getD_getElem?, Option.getD_some, e7]; rfl)) ?_
   with_reducible refine (examboardref03_top.calls k a0_0 _ _ l0_1 _ _ l0_2 t679 t680 _ ?side1 ?side2 ?side3 ?side4 A3.out).mono ?_
   (case side1 => repeat (first | exact (Kd.C_below HR0_1.out HB.out) | (with_reducible refine Kd.C_alloc ?_ _) | (with_reducible refine Kd.C_drewN ?_ _) | (with_reducible refine Kd.C_drew ?_)))
   (case side2 => exact HC0_1.out)
   (case side3 => repeat (first | exact (Kd.C_below HR0_2.out HB.out) | (with_reducible refine Kd.C_alloc ?_ _) | (with_reducible refine Kd.C_drewN ?_ _) | (with_reducible refine Kd.C_drew ?_)))
   (case side4 => exact HC0_2.out)
   rintro e w15 ⟨v681, rfl, ho0, hb⟩
   refine ⟨_, rfl, ?_⟩
   have n0_ := mk0 (Kd.R_lower ho0 (below_size (by repeat (first | exact HB.out | apply pw_below_drewN | apply below_drew1 | apply below_alloc | refine below_set ?_ GE677.out | refine below_set ?_ GE678.out))))
   have n1_ := bkB BK677 hb
   have n2_ := bkB BK678 hb
   have n3_ := mk0 (below_step (by repeat (first | exact HB.out | apply pw_below_drewN | apply below_drew1 | apply below_alloc | refine below_set ?_ GE677.out | refine below_set ?_ GE678.out)) hb)
   have z_BK694 := fun (h0_ : b 6 = true) (h1_ : b 7 = false) => (show w15.heap[gb694]? = some (.cells #[.bool false, .slice none 0 0] 27 (0, 0)) from by first | exact (blk_below (g := gb694) (o := .cells #[.bool false, .slice none 0 0] 27 (0, 0)) ((Q_BK694 h0_ h1_)) hb))
   clear BK677
   clear BK678
   clear HB
   have HO682 := n0_
   have BK677 := n1_
   have BK678 := n2_
   have HB := n3_
   clear n0_ n1_ n2_ n3_
   refine hK.out _ _ ⟨v681, v684, v688, v692, gb694, (.agg #[.bool t679, v681]), m4_, m5_, m6_, (by rw [ha.out]; exact putSel_upk 1 hb_ rfl rfl rfl), BK677.out, BK678.out, (by repeat (first | exact HB.out | apply pw_below_drewN | apply below_drew1 | apply below_alloc | refine below_set ?_ GE677.out | refine below_set ?_ GE678.out)), fun _ => HO682.out, fun h0_ => absurd ((hoff 3 (by kernel_rfl)).symm.trans h0_) (by decide), fun h0_ => absurd ((hoff 4 (by kernel_rfl)).symm.trans h0_) (by decide), fun h0_ => absurd ((hoff 5 (by kernel_rfl)).symm.trans h0_) (by decide), z_BK694, Q_GW694, Q_GE694, Q_NB677_694, Q_NB694_677, Q_NB678_694, Q_NB694_678, fun h0_ => absurd ((hoff 7 (by kernel_rfl)).symm.trans h0_) (by decide), fun _ => rfl, fun h0_ => absurd ((hoff 4 (by kernel_rfl)).symm.trans h0_) (by decide), fun h0_ => absurd ((hoff 5 (by kernel_rfl)).symm.trans h0_) (by decide), Q_X6_⟩
  refine steps_cons ?_ ?_
  ·rintro b a w' ⟨v681, v684, v688, v692, gb694, m1_, m4_, m5_, m6_, ha, Q_BK677, Q_BK678, Q_HB, Q_HO682, Q_HO685, Q_HO689, Q_HO693, Q_BK694, Q_GW694, Q_GE694, Q_NB677_694, Q_NB694_677, Q_NB678_694, Q_NB694_678, Q_BK694_e7, Q_X1_, Q_X4_, Q_X5_, Q_X6_⟩ hb_ hon hoff
   refine ⟨_, rfl, fun K hK => ?_⟩
   have e3 : a.tmps[3]? = some (.pointer (some ⟨gb678, 0, none⟩)) := by rw [ha]; exact (putSel_off rfl).trans rfl
   replace ha := mk0 ha
   have BK677 := mk0 Q_BK677
   have BK678 := mk0 Q_BK678
   have HB := mk0 Q_HB
   have hc0_ : w'.cell? ⟨gb678, 0, none⟩ = some (.bool a1_0) := (blk_cell BK678.out 0).trans rfl
   have hc1_ : w'.cell? ⟨gb678, 1, none⟩ = some (.slice A1_1 l1_1.length c1_1) := (blk_cell BK678.out 1).trans rfl
   have hc2_ : w'.cell? ⟨gb678, 2, none⟩ = some (.slice A1_2 l1_2.length c1_2) := (blk_cell BK678.out 2).trans rfl
   refine value_ (w1 := w') (v := .agg #[.bool a1_0, .slice A1_1 l1_1.length c1_1, .slice A1_2 l1_2.length c1_2]) (by rfl) rfl ?_ ?_
   ·go_simp
    (try simp only [i64_w])
    try rfl
   refine hK.out _ _ ⟨v681, v684, v688, v692, gb694, m1_, m4_, m5_, m6_, (by rw [ha.out]; exact putSel_upk 2 hb_ rfl rfl rfl), Q_BK677, Q_BK678, Q_HB, Q_HO682, fun h0_ => absurd ((hoff 3 (by kernel_rfl)).symm.trans h0_) (by decide), fun h0_ => absurd ((hoff 4 (by kernel_rfl)).symm.trans h0_) (by decide), fun h0_ => absurd ((hoff 5 (by kernel_rfl)).symm.trans h0_) (by decide), Q_BK694, Q_GW694, Q_GE694, Q_NB677_694, Q_NB694_677, Q_NB678_694, Q_NB694_678, fun h0_ => absurd ((hoff 7 (by kernel_rfl)).symm.trans h0_) (by decide), Q_X1_, fun h0_ => absurd ((hoff 4 (by kernel_rfl)).symm.trans h0_) (by decide), fun h0_ => absurd ((hoff 5 (by kernel_rfl)).symm.trans h0_) (by decide), Q_X6_⟩
  refine steps_cons ?_ ?_
  ·rintro b a w' ⟨v681, v684, v688, v692, gb694, m1_, m4_, m5_, m6_, ha, Q_BK677, Q_BK678, Q_HB, Q_HO682, Q_HO685, Q_HO689, Q_HO693, Q_BK694, Q_GW694, Q_GE694, Q_NB677_694, Q_NB694_677, Q_NB678_694, Q_NB694_678, Q_BK694_e7, Q_X1_, Q_X4_, Q_X5_, Q_X6_⟩ hb_ hon hoff
   refine ⟨_, rfl, fun K hK => ?_⟩
   have e9 : a.tmps[9]? = some (.agg #[.bool a1_0, .slice A1_1 l1_1.length c1_1, .slice A1_2 l1_2.length c1_2]) := by rw [ha]; exact putSel_on (e := (2, 9, .agg #[.bool a1_0, .slice A1_1 l1_1.length c1_1, .slice A1_2 l1_2.length c1_2])) 2 rfl rfl (hon 2 (by kernel_rfl)) rfl
   replace ha := mk0 ha
   have BK677 := mk0 Q_BK677
   have BK678 := mk0 Q_BK678
   have HB := mk0 Q_HB
   have HO682 := mk0 (Q_HO682 (hon 1 (by kernel_rfl)))
   refine goes_ Try.func61 (by kernel_rfl) rfl #[.agg #[.bool a1_0, .slice A1_1 l1_1.length c1_1, .slice A1_2 l1_2.length c1_2]] (by rfl) rfl rfl (by first | (simp only [mA, mC, mN, Act.eval, Array.getD_eq_getD_getElem?, Option.getD_some, e9]; done) | (simp only [mA, mC, mN, Act.eval, Array.getD_eq_getD_getElem?, Option.getD_some, e9]; rfl)) ?_
   with_reducible refine (examboardref03_low.calls k a1_0 _ _ l1_1 _ _ l1_2 t683 _ ?side1 ?side2 ?side3 ?side4 A4.out).mono ?_
   (case side1 => repeat (first | exact (Kd.C_below HR1_1.out HB.out) | (with_reducible refine Kd.C_alloc ?_ _) | (with_reducible refine Kd.C_drewN ?_ _) | (with_reducible refine Kd.C_drew ?_)))
   (case side2 => exact HC1_1.out)
   (case side3 => repeat (first | exact (Kd.C_below HR1_2.out HB.out) | (with_reducible refine Kd.C_alloc ?_ _) | (with_reducible refine Kd.C_drewN ?_ _) | (with_reducible refine Kd.C_drew ?_)))
   (case side4 => exact HC1_2.out)
   rintro e w17 ⟨v684, rfl, ho0, hb⟩
   refine ⟨_, rfl, ?_⟩
   have n0_ := mk0 (Kd.R_elder' HO682.out (Kd.R_base ho0) hb)
   have n1_ := mk0 (Kd.R_lower (Kd.R_new' ho0 (Kd.R_lt HO682.out)) (below_size (by repeat (first | exact HB.out | apply pw_below_drewN | apply below_drew1 | apply below_alloc | refine below_set ?_ GE677.out | refine below_set ?_ GE678.out))))
   have n2_ := bkB BK677 hb
   have n3_ := bkB BK678 hb
   have n4_ := mk0 (below_step (by repeat (first | exact HB.out | apply pw_below_drewN | apply below_drew1 | apply below_alloc | refine below_set ?_ GE677.out | refine below_set ?_ GE678.out)) hb)
   have z_BK694 := fun (h0_ : b 6 = true) (h1_ : b 7 = false) => (show w17.heap[gb694]? = some (.cells #[.bool false, .slice none 0 0] 27 (0, 0)) from by first | exact (blk_below (g := gb694) (o := .cells #[.bool false, .slice none 0 0] 27 (0, 0)) ((Q_BK694 h0_ h1_)) hb))
   clear HO682
   clear BK677
   clear BK678
   clear HB
   have HO682 := n0_
   have HO685 := n1_
   have BK677 := n2_
   have BK678 := n3_
   have HB := n4_
   clear n0_ n1_ n2_ n3_ n4_
   refine hK.out _ _ ⟨v681, v684, v688, v692, gb694, m1_, m4_, m5_, m6_, (by rw [ha.out]; exact putSel_upk 3 hb_ rfl rfl rfl), BK677.out, BK678.out, (by repeat (first | exact HB.out | apply pw_below_drewN | apply below_drew1 | apply below_alloc | refine below_set ?_ GE677.out | refine below_set ?_ GE678.out)), fun _ => (Kd.R_mono HO682.out (fun _ _ => trivial)), fun _ => (Kd.R_mono HO685.out (fun _ _ => trivial)), fun h0_ => absurd ((hoff 4 (by kernel_rfl)).symm.trans h0_) (by decide), fun h0_ => absurd ((hoff 5 (by kernel_rfl)).symm.trans h0_) (by decide), z_BK694, Q_GW694, Q_GE694, Q_NB677_694, Q_NB694_677, Q_NB678_694, Q_NB694_678, fun h0_ => absurd ((hoff 7 (by kernel_rfl)).symm.trans h0_) (by decide), Q_X1_, fun h0_ => absurd ((hoff 4 (by kernel_rfl)).symm.trans h0_) (by decide), fun h0_ => absurd ((hoff 5 (by kernel_rfl)).symm.trans h0_) (by decide), Q_X6_⟩
  refine steps_cons ?_ ?_
  ·rintro b a w' ⟨v681, v684, v688, v692, gb694, m1_, m4_, m5_, m6_, ha, Q_BK677, Q_BK678, Q_HB, Q_HO682, Q_HO685, Q_HO689, Q_HO693, Q_BK694, Q_GW694, Q_GE694, Q_NB677_694, Q_NB694_677, Q_NB678_694, Q_NB694_678, Q_BK694_e7, Q_X1_, Q_X4_, Q_X5_, Q_X6_⟩ hb_ hon hoff
   refine ⟨_, rfl, fun K hK => ?_⟩
   have e10 : a.tmps[10]? = some (v684) := by rw [ha]; exact putSel_on (e := (3, 10, v684)) 3 rfl rfl (hon 3 (by kernel_rfl)) rfl
   replace ha := mk0 ha
   have BK677 := mk0 Q_BK677
   have BK678 := mk0 Q_BK678
   have HB := mk0 Q_HB
   have HO682 := mk0 (Q_HO682 (hon 1 (by kernel_rfl)))
   have HO685 := mk0 (Q_HO685 (hon 3 (by kernel_rfl)))
   obtain ⟨Ao18, co18, eo18⟩ := Kd.R_slice HO685.out
   (first | subst eo18 | (injection eo18 with f1_ f2_ f3_; have f4_ := f1_.symm; have f5_ := f3_.symm; clear f1_ f2_ f3_; subst f4_; subst f5_))
   refine goes_ Try.func62 (by kernel_rfl) rfl #[.bool false, .slice Ao18 t683.length co18] (by rfl) rfl rfl (by first | (simp only [mA, mC, mN, Act.eval, Array.getD_eq_getD_getElem?, Option.getD_some, e10]; done) | (simp only [mA, mC, mN, Act.eval, Array.getD_eq_getD_getElem?, Option.getD_some, e10]; rfl)) ?_
   with_reducible refine (examboardref02_Make.calls k false _ _ t683 t686 t687 _ ?side1 ?side2 A5.out).mono ?_
   (case side1 => repeat (first | exact (Kd.R_reads' HO685.out).2.2 | (with_reducible refine Kd.C_alloc ?_ _) | (with_reducible refine Kd.C_drewN ?_ _) | (with_reducible refine Kd.C_drew ?_)))
   (case side2 => exact (Kd.R_reads' HO685.out).2.1)
   rintro e w19 ⟨v688, rfl, ho0, hb⟩
   refine ⟨_, rfl, ?_⟩
   have n0_ := mk0 (Kd.R_elder' HO682.out (Kd.R_base ho0) hb)
   have n1_ := mk0 (Kd.R_elder' HO685.out (Kd.R_base ho0) hb)
   have n2_ := mk0 (Kd.R_lower (Kd.R_new' (Kd.R_new' ho0 (Kd.R_lt HO682.out)) (Kd.R_lt HO685.out)) (below_size (by repeat (first | exact HB.out | apply pw_below_drewN | apply below_drew1 | apply below_alloc | refine below_set ?_ GE677.out | refine below_set ?_ GE678.out))))
   have n3_ := bkB BK677 hb
   have n4_ := bkB BK678 hb
   have n5_ := mk0 (below_step (by repeat (first | exact HB.out | apply pw_below_drewN | apply below_drew1 | apply below_alloc | refine below_set ?_ GE677.out | refine below_set ?_ GE678.out)) hb)
   have z_BK694 := fun (h0_ : b 6 = true) (h1_ : b 7 = false) => (show w19.heap[gb694]? = some (.cells #[.bool false, .slice none 0 0] 27 (0, 0)) from by first | exact (blk_below (g := gb694) (o := .cells #[.bool false, .slice none 0 0] 27 (0, 0)) ((Q_BK694 h0_ h1_)) hb))
   clear HO682
   clear HO685
   clear BK677
   clear BK678
   clear HB
   have HO682 := n0_
   have HO685 := n1_
   have HO689 := n2_
   have BK677 := n3_
   have BK678 := n4_
   have HB := n5_
   clear n0_ n1_ n2_ n3_ n4_ n5_
   refine hK.out _ _ ⟨v681, .slice Ao18 t683.length co18, v688, v692, gb694, m1_, (.agg #[.bool t686, v688]), m5_, m6_, (by rw [ha.out]; exact putSel_upk 4 hb_ rfl rfl rfl), BK677.out, BK678.out, (by repeat (first | exact HB.out | apply pw_below_drewN | apply below_drew1 | apply below_alloc | refine below_set ?_ GE677.out | refine below_set ?_ GE678.out)), fun _ => (Kd.R_mono HO682.out (fun _ _ => trivial)), fun _ => (Kd.R_mono HO685.out (fun _ _ => trivial)), fun _ => (Kd.R_mono HO689.out (fun _ _ => trivial)), fun h0_ => absurd ((hoff 5 (by kernel_rfl)).symm.trans h0_) (by decide), z_BK694, Q_GW694, Q_GE694, Q_NB677_694, Q_NB694_677, Q_NB678_694, Q_NB694_678, fun h0_ => absurd ((hoff 7 (by kernel_rfl)).symm.trans h0_) (by decide), Q_X1_, fun _ => rfl, fun h0_ => absurd ((hoff 5 (by kernel_rfl)).symm.trans h0_) (by decide), Q_X6_⟩
  refine steps_cons ?_ ?_
  ·rintro b a w' ⟨v681, v684, v688, v692, gb694, m1_, m4_, m5_, m6_, ha, Q_BK677, Q_BK678, Q_HB, Q_HO682, Q_HO685, Q_HO689, Q_HO693, Q_BK694, Q_GW694, Q_GE694, Q_NB677_694, Q_NB694_677, Q_NB678_694, Q_NB694_678, Q_BK694_e7, Q_X1_, Q_X4_, Q_X5_, Q_X6_⟩ hb_ hon hoff
   refine ⟨_, rfl, fun K hK => ?_⟩
   have e8 : a.tmps[8]? = some (m1_) := by rw [ha]; exact putSel_on (e := (1, 8, m1_)) 1 rfl rfl (hon 1 (by kernel_rfl)) rfl
   rw [Q_X1_ (hon 1 (by kernel_rfl))] at e8
   have e11 : a.tmps[11]? = some (m4_) := by rw [ha]; exact putSel_on (e := (4, 11, m4_)) 4 rfl rfl (hon 4 (by kernel_rfl)) rfl
   rw [Q_X4_ (hon 4 (by kernel_rfl))] at e11
   replace ha := mk0 ha
   have BK677 := mk0 Q_BK677
   have BK678 := mk0 Q_BK678
   have HB := mk0 Q_HB
   have HO682 := mk0 (Q_HO682 (hon 1 (by kernel_rfl)))
   have HO685 := mk0 (Q_HO685 (hon 3 (by kernel_rfl)))
   have HO689 := mk0 (Q_HO689 (hon 4 (by kernel_rfl)))
   obtain ⟨Ao20, co20, eo20⟩ := Kd.R_slice HO682.out
   (first | subst eo20 | (injection eo20 with f1_ f2_ f3_; have f4_ := f1_.symm; have f5_ := f3_.symm; clear f1_ f2_ f3_; subst f4_; subst f5_))
   obtain ⟨Ao21, co21, eo21⟩ := Kd.R_slice HO689.out
   (first | subst eo21 | (injection eo21 with f1_ f2_ f3_; have f4_ := f1_.symm; have f5_ := f3_.symm; clear f1_ f2_ f3_; subst f4_; subst f5_))
   refine goes_ Try.func58 (by kernel_rfl) rfl #[.agg #[.bool t679, .slice Ao20 t680.length co20], .agg #[.bool t686, .slice Ao21 t687.length co21]] (by rfl) rfl rfl (by first | (simp only [mA, mC, mN, Act.eval, Array.getD_eq_getD_getElem?, Option.getD_some, e8, e11]; done) | (simp only [mA, mC, mN, Act.eval, Array.getD_eq_getD_getElem?, Option.getD_some, e8, e11]; rfl)) ?_
   with_reducible refine (examboardref02_Mul.calls k t679 _ _ t680 t686 _ _ t687 t690 t691 _ ?side1 ?side2 ?side3 ?side4 A6.out).mono ?_
   (case side1 => repeat (first | exact (Kd.R_reads' HO682.out).2.2 | (with_reducible refine Kd.C_alloc ?_ _) | (with_reducible refine Kd.C_drewN ?_ _) | (with_reducible refine Kd.C_drew ?_)))
   (case side2 => exact (Kd.R_reads' HO682.out).2.1)
   (case side3 => repeat (first | exact (Kd.R_reads' HO689.out).2.2 | (with_reducible refine Kd.C_alloc ?_ _) | (with_reducible refine Kd.C_drewN ?_ _) | (with_reducible refine Kd.C_drew ?_)))
   (case side4 => exact (Kd.R_reads' HO689.out).2.1)
   rintro e w22 ⟨v692, rfl, ho0, hb⟩
   refine ⟨_, rfl, ?_⟩
   have n0_ := mk0 (Kd.R_elder' HO682.out (Kd.R_base ho0) hb)
   have n1_ := mk0 (Kd.R_elder' HO685.out (Kd.R_base ho0) hb)
   have n2_ := mk0 (Kd.R_elder' HO689.out (Kd.R_base ho0) hb)
   have n3_ := mk0 (Kd.R_lower (Kd.R_new' (Kd.R_new' (Kd.R_new' ho0 (Kd.R_lt HO682.out)) (Kd.R_lt HO685.out)) (Kd.R_lt HO689.out)) (below_size (by repeat (first | exact HB.out | apply pw_below_drewN | apply below_drew1 | apply below_alloc | refine below_set ?_ GE677.out | refine below_set ?_ GE678.out))))
   have n4_ := bkB BK677 hb
   have n5_ := bkB BK678 hb
   have n6_ := mk0 (below_step (by repeat (first | exact HB.out | apply pw_below_drewN | apply below_drew1 | apply below_alloc | refine below_set ?_ GE677.out | refine below_set ?_ GE678.out)) hb)
   have z_BK694 := fun (h0_ : b 6 = true) (h1_ : b 7 = false) => (show w22.heap[gb694]? = some (.cells #[.bool false, .slice none 0 0] 27 (0, 0)) from by first | exact (blk_below (g := gb694) (o := .cells #[.bool false, .slice none 0 0] 27 (0, 0)) ((Q_BK694 h0_ h1_)) hb))
   clear HO682
   clear HO685
   clear HO689
   clear BK677
   clear BK678
   clear HB
   have HO682 := n0_
   have HO685 := n1_
   have HO689 := n2_
   have HO693 := n3_
   have BK677 := n4_
   have BK678 := n5_
   have HB := n6_
   clear n0_ n1_ n2_ n3_ n4_ n5_ n6_
   refine hK.out _ _ ⟨.slice Ao20 t680.length co20, v684, .slice Ao21 t687.length co21, v692, gb694, m1_, m4_, (.agg #[.bool t690, v692]), m6_, (by rw [ha.out]; exact putSel_upk 5 hb_ rfl rfl rfl), BK677.out, BK678.out, (by repeat (first | exact HB.out | apply pw_below_drewN | apply below_drew1 | apply below_alloc | refine below_set ?_ GE677.out | refine below_set ?_ GE678.out)), fun _ => (Kd.R_mono HO682.out (fun _ _ => trivial)), fun _ => (Kd.R_mono HO685.out (fun _ _ => trivial)), fun _ => (Kd.R_mono HO689.out (fun _ _ => trivial)), fun _ => (Kd.R_mono HO693.out (fun _ _ => trivial)), z_BK694, Q_GW694, Q_GE694, Q_NB677_694, Q_NB694_677, Q_NB678_694, Q_NB694_678, fun h0_ => absurd ((hoff 7 (by kernel_rfl)).symm.trans h0_) (by decide), Q_X1_, Q_X4_, fun _ => rfl, Q_X6_⟩
  refine steps_cons ?_ ?_
  ·rintro b a w' ⟨v681, v684, v688, v692, gb694, m1_, m4_, m5_, m6_, ha, Q_BK677, Q_BK678, Q_HB, Q_HO682, Q_HO685, Q_HO689, Q_HO693, Q_BK694, Q_GW694, Q_GE694, Q_NB677_694, Q_NB694_677, Q_NB678_694, Q_NB694_678, Q_BK694_e7, Q_X1_, Q_X4_, Q_X5_, Q_X6_⟩ hb_ hon hoff
   refine ⟨_, rfl, fun K hK => ?_⟩
   replace ha := mk0 ha
   have BK677 := mk0 Q_BK677
   have BK678 := mk0 Q_BK678
   have HB := mk0 Q_HB
   refine box_step ?hg (N := 5) ?hd (cs := #[.bool false, .slice none 0 0]) (t := 27) ?hr ?_; (case hd => rfl); (case hg => rfl); (case hr => go_simp <;> rfl)
   intro gb694 hg w15 hbox hb
   have n0_ := bkB BK677 hb
   have n1_ := bkB BK678 hb
   have n2_ := mk0 (below_step (by repeat (first | exact HB.out | apply pw_below_drewN | apply below_drew1 | apply below_alloc | refine below_set ?_ GE677.out | refine below_set ?_ GE678.out)) hb)
   have n3_ := mk0 (hbox)
   have n4_ := mk0 ((by rw [hg]; exact (below_size (by repeat (first | exact HB.out | apply pw_below_drewN | apply below_drew1 | apply below_alloc | refine below_set ?_ GE677.out | refine below_set ?_ GE678.out))) : w.heap.size ≤ gb694))
   have n5_ := mk0 ((by rw [hg]; exact (below_size (by repeat (first | exact HB.out | apply pw_below_drewN | apply below_drew1 | apply below_alloc | refine below_set ?_ GE677.out | refine below_set ?_ GE678.out))) : w.heap.size ≤ gb694))
   have n6_ := nbA hg BK677
   have n7_ := nbB hg BK677
   have n8_ := nbA hg BK678
   have n9_ := nbB hg BK678
   have z_HO682 := fun (h0_ : b 1 = true) => (show Kd.R (Kd.int .u32) 87 w15 w.heap.size (fun _ => True) v681 t680 from by first | exact (Kd.R_below ((Q_HO682 h0_)) hb) | exact Kd.R_mono (Kd.R_below ((Q_HO682 h0_)) hb) (fun _ _ => trivial))
   have z_HO685 := fun (h0_ : b 3 = true) => (show Kd.R (Kd.int .u32) 87 w15 w.heap.size (fun _ => True) v684 t683 from by first | exact (Kd.R_below ((Q_HO685 h0_)) hb) | exact Kd.R_mono (Kd.R_below ((Q_HO685 h0_)) hb) (fun _ _ => trivial))
   have z_HO689 := fun (h0_ : b 4 = true) => (show Kd.R (Kd.int .u32) 87 w15 w.heap.size (fun _ => True) v688 t687 from by first | exact (Kd.R_below ((Q_HO689 h0_)) hb) | exact Kd.R_mono (Kd.R_below ((Q_HO689 h0_)) hb) (fun _ _ => trivial))
   have z_HO693 := fun (h0_ : b 5 = true) => (show Kd.R (Kd.int .u32) 87 w15 w.heap.size (fun _ => True) v692 t691 from by first | exact (Kd.R_below ((Q_HO693 h0_)) hb) | exact Kd.R_mono (Kd.R_below ((Q_HO693 h0_)) hb) (fun _ _ => trivial))
   clear BK677
   clear BK678
   clear HB
   have BK677 := n0_
   have BK678 := n1_
   have HB := n2_
   have BK694 := n3_
   have GW694 := n4_
   have GE694 := n5_
   have NB677_694 := n6_
   have NB694_677 := n7_
   have NB678_694 := n8_
   have NB694_678 := n9_
   clear n0_ n1_ n2_ n3_ n4_ n5_ n6_ n7_ n8_ n9_
   clear hb hbox hg
   refine hK.out _ _ ⟨v681, v684, v688, v692, gb694, m1_, m4_, m5_, (.pointer (some ⟨gb694, 0, none⟩)), (by rw [ha.out]; exact putSel_upk 6 hb_ rfl rfl rfl), BK677.out, BK678.out, (by repeat (first | exact HB.out | apply pw_below_drewN | apply below_drew1 | apply below_alloc | refine below_set ?_ GE677.out | refine below_set ?_ GE678.out | refine below_set ?_ GE694.out)), z_HO682, z_HO685, z_HO689, z_HO693, fun _ _ => BK694.out, fun _ => GW694.out, fun _ => GE694.out, fun _ => NB677_694.out, fun _ => NB694_677.out, fun _ => NB678_694.out, fun _ => NB694_678.out, fun h0_ => absurd ((hoff 7 (by kernel_rfl)).symm.trans h0_) (by decide), Q_X1_, Q_X4_, Q_X5_, fun _ => rfl⟩
  refine steps_cons ?_ ?_
  ·rintro b a w' ⟨v681, v684, v688, v692, gb694, m1_, m4_, m5_, m6_, ha, Q_BK677, Q_BK678, Q_HB, Q_HO682, Q_HO685, Q_HO689, Q_HO693, Q_BK694, Q_GW694, Q_GE694, Q_NB677_694, Q_NB694_677, Q_NB678_694, Q_NB694_678, Q_BK694_e7, Q_X1_, Q_X4_, Q_X5_, Q_X6_⟩ hb_ hon hoff
   refine ⟨_, rfl, fun K hK => ?_⟩
   have e5 : a.tmps[5]? = some (m6_) := by rw [ha]; exact putSel_on (e := (6, 5, m6_)) 6 rfl rfl (hon 6 (by kernel_rfl)) rfl
   rw [Q_X6_ (hon 6 (by kernel_rfl))] at e5
   have e12 : a.tmps[12]? = some (m5_) := by rw [ha]; exact putSel_on (e := (5, 12, m5_)) 5 rfl rfl (hon 5 (by kernel_rfl)) rfl
   rw [Q_X5_ (hon 5 (by kernel_rfl))] at e12
   replace ha := mk0 ha
   have BK677 := mk0 Q_BK677
   have BK678 := mk0 Q_BK678
   have HB := mk0 Q_HB
   have HO682 := mk0 (Q_HO682 (hon 1 (by kernel_rfl)))
   have HO685 := mk0 (Q_HO685 (hon 3 (by kernel_rfl)))
   have HO689 := mk0 (Q_HO689 (hon 4 (by kernel_rfl)))
   have HO693 := mk0 (Q_HO693 (hon 5 (by kernel_rfl)))
   have BK694 := mk0 (Q_BK694 (hon 6 (by kernel_rfl)) hb_)
   have GW694 := mk0 (Q_GW694 (hon 6 (by kernel_rfl)))
   have GE694 := mk0 (Q_GE694 (hon 6 (by kernel_rfl)))
   have NB677_694 := mk0 (Q_NB677_694 (hon 6 (by kernel_rfl)))
   have NB694_677 := mk0 (Q_NB694_677 (hon 6 (by kernel_rfl)))
   have NB678_694 := mk0 (Q_NB678_694 (hon 6 (by kernel_rfl)))
   have NB694_678 := mk0 (Q_NB694_678 (hon 6 (by kernel_rfl)))
   obtain ⟨Ao25, co25, eo25⟩ := Kd.R_slice HO693.out
   (first | subst eo25 | (injection eo25 with f1_ f2_ f3_; have f4_ := f1_.symm; have f5_ := f3_.symm; clear f1_ f2_ f3_; subst f4_; subst f5_))
   have hs24 : w'.cell? ⟨gb694, 0, none⟩ = some (.bool false) := (blk_cell BK694.out 0).trans rfl
   have hfs24 := blk_frozen BK694.out 0
   have hns24_0 := NB677_694.out
   have hns24_1 := NB678_694.out
   have hms24_0 := NB694_677.out
   have hms24_1 := NB694_678.out
   have hs26 : w'.cell? ⟨gb694, 1, none⟩ = some (.slice none 0 0) := (blk_cell BK694.out 1).trans rfl
   have hfs26 := blk_frozen BK694.out 1
   have hns26_0 := NB677_694.out
   have hns26_1 := NB678_694.out
   have hms26_0 := NB694_677.out
   have hms26_1 := NB694_678.out
   refine skip_ (w1 := ?_) (by rfl) rfl ?_ ?_
   rotate_left
   ·go_simp
    rfl
   refine hK.out _ _ ⟨v681, v684, v688, .slice Ao25 t691.length co25, gb694, m1_, m4_, m5_, m6_, (by rw [ha.out]; exact putSel_none (v := undef) rfl), (by refine blk_far ?_ NB677_694.out _; refine blk_far ?_ NB677_694.out _; exact BK677.out), (by refine blk_far ?_ NB678_694.out _; refine blk_far ?_ NB678_694.out _; exact BK678.out), (by repeat (first | exact HB.out | apply pw_below_drewN | apply below_drew1 | apply below_alloc | refine below_set ?_ GE677.out | refine below_set ?_ GE678.out | refine below_set ?_ GE694.out)), fun _ => (Kd.R_mono (Kd.R_far (p := ⟨gb694, 1, none⟩) (Kd.R_far (p := ⟨gb694, 0, none⟩) (Kd.R_types HO682.out BK694.out (by decide)) (fun _ hk => hk.2) (.bool t690)) (fun _ hk => hk.2) (.slice Ao25 t691.length co25)) (fun _ _ => trivial)), fun _ => (Kd.R_mono (Kd.R_far (p := ⟨gb694, 1, none⟩) (Kd.R_far (p := ⟨gb694, 0, none⟩) (Kd.R_types HO685.out BK694.out (by decide)) (fun _ hk => hk.2) (.bool t690)) (fun _ hk => hk.2) (.slice Ao25 t691.length co25)) (fun _ _ => trivial)), fun _ => (Kd.R_mono (Kd.R_far (p := ⟨gb694, 1, none⟩) (Kd.R_far (p := ⟨gb694, 0, none⟩) (Kd.R_types HO689.out BK694.out (by decide)) (fun _ hk => hk.2) (.bool t690)) (fun _ hk => hk.2) (.slice Ao25 t691.length co25)) (fun _ _ => trivial)), fun _ => (Kd.R_mono (Kd.R_far (p := ⟨gb694, 1, none⟩) (Kd.R_far (p := ⟨gb694, 0, none⟩) (Kd.R_types HO693.out BK694.out (by decide)) (fun _ hk => hk.2) (.bool t690)) (fun _ hk => hk.2) (.slice Ao25 t691.length co25)) (fun _ _ => trivial)), fun _ h1_ => absurd ((up_self b 7).symm.trans h1_) (by decide), fun _ => GW694.out, fun _ => GE694.out, fun _ => NB677_694.out, fun _ => NB694_677.out, fun _ => NB678_694.out, fun _ => NB694_678.out, fun _ => (by refine blk_put (cs := #[.bool t690, .slice none 0 0]) ?_ 1 _ rfl; refine blk_put (cs := #[.bool false, .slice none 0 0]) ?_ 0 _ rfl; exact BK694.out), Q_X1_, Q_X4_, Q_X5_, Q_X6_⟩
  exact steps_nil
 rintro b a w26 hall ⟨v681, v684, v688, v692, gb694, m1_, m4_, m5_, m6_, ha, Q_BK677, Q_BK678, Q_HB, Q_HO682, Q_HO685, Q_HO689, Q_HO693, Q_BK694, Q_GW694, Q_GE694, Q_NB677_694, Q_NB694_677, Q_NB678_694, Q_NB694_678, Q_BK694_e7, Q_X1_, Q_X4_, Q_X5_, Q_X6_⟩
 clear BK677 BK678 HB
 have hb0_ := hall 0 (by kernel_rfl)
 have hb1_ := hall 1 (by kernel_rfl)
 have hb2_ := hall 2 (by kernel_rfl)
 have hb3_ := hall 3 (by kernel_rfl)
 have hb4_ := hall 4 (by kernel_rfl)
 have hb5_ := hall 5 (by kernel_rfl)
 have hb6_ := hall 6 (by kernel_rfl)
 have hb7_ := hall 7 (by kernel_rfl)
 subst ha
 obtain rfl := Q_X1_ hb1_
 obtain rfl := Q_X4_ hb4_
 obtain rfl := Q_X5_ hb5_
 obtain rfl := Q_X6_ hb6_
 simp only [putSel, hb0_, hb1_, hb2_, hb3_, hb4_, hb5_, hb6_, hb7_, if_true, Act.put, sA, sZ, sS]
 have BK677 := mk0 Q_BK677
 clear Q_BK677
 have BK678 := mk0 Q_BK678
 clear Q_BK678
 have HB := mk0 Q_HB
 clear Q_HB
 have HO682 := mk0 (Q_HO682 hb1_)
 clear Q_HO682
 have HO685 := mk0 (Q_HO685 hb3_)
 clear Q_HO685
 have HO689 := mk0 (Q_HO689 hb4_)
 clear Q_HO689
 have HO693 := mk0 (Q_HO693 hb5_)
 clear Q_HO693
 clear Q_BK694
 have GW694 := mk0 (Q_GW694 hb6_)
 clear Q_GW694
 have GE694 := mk0 (Q_GE694 hb6_)
 clear Q_GE694
 have NB677_694 := mk0 (Q_NB677_694 hb6_)
 clear Q_NB677_694
 have NB694_677 := mk0 (Q_NB694_677 hb6_)
 clear Q_NB694_677
 have NB678_694 := mk0 (Q_NB678_694 hb6_)
 clear Q_NB678_694
 have NB694_678 := mk0 (Q_NB694_678 hb6_)
 clear Q_NB694_678
 have BK694 := mk0 (Q_BK694_e7 hb7_)
 clear Q_BK694_e7
 clear hall hb0_ hb1_ hb2_ hb3_ hb4_ hb5_ hb6_ hb7_
 try go_wp2
 replace HO682 := mk0 (Kd.R_drew HO682.out)
 replace HO685 := mk0 (Kd.R_drew HO685.out)
 replace HO689 := mk0 (Kd.R_drew HO689.out)
 replace HO693 := mk0 (Kd.R_drew HO693.out)
 replace BK677 := mk0 (blk_drew BK677.out)
 replace BK678 := mk0 (blk_drew BK678.out)
 replace BK694 := mk0 (blk_drew BK694.out)
 replace HB := mk0 (below_drew1 HB.out)
 refine start_ (n := 8) (S := fun w' => True) (ds := []) (bv 8 0) (by kernel_rfl) rfl rfl trivial (fun hHeld => ?_); refine with_tabW examboardref03_Cmp.tab2 examboardref03_Cmp.bits2 (fun HT_ HW_ => ?_)
 generalize w26.drew = w27 at HO682 HO685 HO689 HO693 BK677 BK678 BK694 HB hHeld ⊢
 refine inv_at [0, 1, 2, 3, 4, 5, 6, 7] (fun a0_ b a w' => ∃ (v697 : Value) (v700 : Value) (v704 : Value) (v708 : Value) (gb710 : Nat) (m1_ : Value) (m4_ : Value) (m5_ : Value) (m6_ : Value), a = putSel a0_ b [(0, 13, .agg #[.bool a1_0, .slice A1_1 l1_1.length c1_1, .slice A1_2 l1_2.length c1_2]), (1, 14, m1_), (2, 15, .agg #[.bool a0_0, .slice A0_1 l0_1.length c0_1, .slice A0_2 l0_2.length c0_2]), (3, 16, v700), (4, 17, m4_), (5, 18, m5_), (6, 6, m6_)] ∧ (Kd.R (Kd.int .u32) 87 w' w.heap.size (fun _ => True) v681 t680) ∧ (Kd.R (Kd.int .u32) 87 w' w.heap.size (fun _ => True) v684 t683) ∧ (Kd.R (Kd.int .u32) 87 w' w.heap.size (fun _ => True) v688 t687) ∧ (Kd.R (Kd.int .u32) 87 w' w.heap.size (fun _ => True) v692 t691) ∧ (w'.heap[gb677]? = some (.cells #[.bool a0_0, .slice A0_1 l0_1.length c0_1, .slice A0_2 l0_2.length c0_2] 29 (0, 0))) ∧ (w'.heap[gb678]? = some (.cells #[.bool a1_0, .slice A1_1 l1_1.length c1_1, .slice A1_2 l1_2.length c1_2] 29 (0, 0))) ∧ (w'.heap[gb694]? = some (.cells #[.bool t690, v692] 27 (0, 0))) ∧ (Below w.heap.size w w') ∧ (b 1 = true → Kd.R (Kd.int .u32) 87 w' w.heap.size (fun _ => True) v697 t696) ∧ (b 3 = true → Kd.R (Kd.int .u32) 87 w' w.heap.size (fun _ => True) v700 t699) ∧ (b 4 = true → Kd.R (Kd.int .u32) 87 w' w.heap.size (fun _ => True) v704 t703) ∧ (b 5 = true → Kd.R (Kd.int .u32) 87 w' w.heap.size (fun _ => True) v708 t707) ∧ (b 6 = true → b 7 = false → w'.heap[gb710]? = some (.cells #[.bool false, .slice none 0 0] 27 (0, 0))) ∧ (b 6 = true → w.heap.size ≤ gb710) ∧ (b 6 = true → w.heap.size ≤ gb710) ∧ (b 6 = true → gb677 ≠ gb710) ∧ (b 6 = true → gb710 ≠ gb677) ∧ (b 6 = true → gb678 ≠ gb710) ∧ (b 6 = true → gb710 ≠ gb678) ∧ (b 6 = true → gb694 ≠ gb710) ∧ (b 6 = true → gb710 ≠ gb694) ∧ (b 7 = true → w'.heap[gb710]? = some (.cells #[.bool t706, v708] 27 (0, 0))) ∧ (b 1 = true → (m1_ : Value) = .agg #[.bool t695, v697]) ∧ (b 4 = true → (m4_ : Value) = .agg #[.bool t702, v704]) ∧ (b 5 = true → (m5_ : Value) = .agg #[.bool t706, v708]) ∧ (b 6 = true → (m6_ : Value) = .pointer (some ⟨gb710, 0, none⟩))) HT_.out HW_.out (by kernel_rfl) (by kernel_rfl) ?_ ?_ ?_
 ·exact ⟨.bool false, .bool false, .bool false, .bool false, 0, .bool false, .bool false, .bool false, .bool false, by simp only [putSel, Bool.false_eq_true, if_false], HO682.out, HO685.out, HO689.out, HO693.out, BK677.out, BK678.out, BK694.out, HB.out, fun h_ => absurd h_ (by decide), fun h_ => absurd h_ (by decide), fun h_ => absurd h_ (by decide), fun h_ => absurd h_ (by decide), fun h_ => absurd h_ (by decide), fun h_ => absurd h_ (by decide), fun h_ => absurd h_ (by decide), fun h_ => absurd h_ (by decide), fun h_ => absurd h_ (by decide), fun h_ => absurd h_ (by decide), fun h_ => absurd h_ (by decide), fun h_ => absurd h_ (by decide), fun h_ => absurd h_ (by decide), fun h_ => absurd h_ (by decide), fun h_ => absurd h_ (by decide), fun h_ => absurd h_ (by decide), fun h_ => absurd h_ (by decide), fun h_ => absurd h_ (by decide)⟩
 ·skip
  clear BK677 BK678 BK694 HB HO682 HO685 HO689 HO693
  refine steps_cons ?_ ?_
  ·rintro b a w' ⟨v697, v700, v704, v708, gb710, m1_, m4_, m5_, m6_, ha, Q_HO682, Q_HO685, Q_HO689, Q_HO693, Q_BK677, Q_BK678, Q_BK694, Q_HB, Q_HO698, Q_HO701, Q_HO705, Q_HO709, Q_BK710, Q_GW710, Q_GE710, Q_NB677_710, Q_NB710_677, Q_NB678_710, Q_NB710_678, Q_NB694_710, Q_NB710_694, Q_BK710_e7, Q_X1_, Q_X4_, Q_X5_, Q_X6_⟩ hb_ hon hoff
   refine ⟨_, rfl, fun K hK => ?_⟩
   have e3 : a.tmps[3]? = some (.pointer (some ⟨gb678, 0, none⟩)) := by rw [ha]; exact (putSel_off rfl).trans rfl
   replace ha := mk0 ha
   have HO682 := mk0 Q_HO682
   have HO685 := mk0 Q_HO685
   have HO689 := mk0 Q_HO689
   have HO693 := mk0 Q_HO693
   have BK677 := mk0 Q_BK677
   have BK678 := mk0 Q_BK678
   have BK694 := mk0 Q_BK694
   have HB := mk0 Q_HB
   have hc0_ : w'.cell? ⟨gb678, 0, none⟩ = some (.bool a1_0) := (blk_cell BK678.out 0).trans rfl
   have hc1_ : w'.cell? ⟨gb678, 1, none⟩ = some (.slice A1_1 l1_1.length c1_1) := (blk_cell BK678.out 1).trans rfl
   have hc2_ : w'.cell? ⟨gb678, 2, none⟩ = some (.slice A1_2 l1_2.length c1_2) := (blk_cell BK678.out 2).trans rfl
   refine value_ (w1 := w') (v := .agg #[.bool a1_0, .slice A1_1 l1_1.length c1_1, .slice A1_2 l1_2.length c1_2]) (by rfl) rfl ?_ ?_
   ·go_simp
    (try simp only [i64_w])
    try rfl
   refine hK.out _ _ ⟨v697, v700, v704, v708, gb710, m1_, m4_, m5_, m6_, (by rw [ha.out]; exact putSel_upk 0 hb_ rfl rfl rfl), Q_HO682, Q_HO685, Q_HO689, Q_HO693, Q_BK677, Q_BK678, Q_BK694, Q_HB, fun h0_ => absurd ((hoff 1 (by kernel_rfl)).symm.trans h0_) (by decide), fun h0_ => absurd ((hoff 3 (by kernel_rfl)).symm.trans h0_) (by decide), fun h0_ => absurd ((hoff 4 (by kernel_rfl)).symm.trans h0_) (by decide), fun h0_ => absurd ((hoff 5 (by kernel_rfl)).symm.trans h0_) (by decide), Q_BK710, Q_GW710, Q_GE710, Q_NB677_710, Q_NB710_677, Q_NB678_710, Q_NB710_678, Q_NB694_710, Q_NB710_694, fun h0_ => absurd ((hoff 7 (by kernel_rfl)).symm.trans h0_) (by decide), fun h0_ => absurd ((hoff 1 (by kernel_rfl)).symm.trans h0_) (by decide), fun h0_ => absurd ((hoff 4 (by kernel_rfl)).symm.trans h0_) (by decide), fun h0_ => absurd ((hoff 5 (by kernel_rfl)).symm.trans h0_) (by decide), Q_X6_⟩
  refine steps_cons ?_ ?_
  ·rintro b a w' ⟨v697, v700, v704, v708, gb710, m1_, m4_, m5_, m6_, ha, Q_HO682, Q_HO685, Q_HO689, Q_HO693, Q_BK677, Q_BK678, Q_BK694, Q_HB, Q_HO698, Q_HO701, Q_HO705, Q_HO709, Q_BK710, Q_GW710, Q_GE710, Q_NB677_710, Q_NB710_677, Q_NB678_710, Q_NB710_678, Q_NB694_710, Q_NB710_694, Q_BK710_e7, Q_X1_, Q_X4_, Q_X5_, Q_X6_⟩ hb_ hon hoff
   refine ⟨_, rfl, fun K hK => ?_⟩
   have e13 : a.tmps[13]? = some (.agg #[.bool a1_0, .slice A1_1 l1_1.length c1_1, .slice A1_2 l1_2.length c1_2]) := by rw [ha]; exact putSel_on (e := (0, 13, .agg #[.bool a1_0, .slice A1_1 l1_1.length c1_1, .slice A1_2 l1_2.length c1_2])) 0 rfl rfl (hon 0 (by kernel_rfl)) rfl
   replace ha := mk0 ha
   have HO682 := mk0 Q_HO682
   have HO685 := mk0 Q_HO685
   have HO689 := mk0 Q_HO689
   have HO693 := mk0 Q_HO693
   have BK677 := mk0 Q_BK677
   have BK678 := mk0 Q_BK678
   have BK694 := mk0 Q_BK694
   have HB := mk0 Q_HB
   refine goes_ Try.func59 (by kernel_rfl) rfl #[.agg #[.bool a1_0, .slice A1_1 l1_1.length c1_1, .slice A1_2 l1_2.length c1_2]] (by rfl) rfl rfl (by first | (simp only [mA, mC, mN, Act.eval, Array.getD_eq_getD_getElem?, Option.getD_some, e13]; done) | (simp only [mA, mC, mN, Act.eval, Array.getD_eq_getD_getElem?, Option.getD_some, e13]; rfl)) ?_
   with_reducible refine (examboardref03_top.calls k a1_0 _ _ l1_1 _ _ l1_2 t695 t696 _ ?side1 ?side2 ?side3 ?side4 A7.out).mono ?_
   (case side1 => repeat (first | exact (Kd.C_below HR1_1.out HB.out) | (with_reducible refine Kd.C_alloc ?_ _) | (with_reducible refine Kd.C_drewN ?_ _) | (with_reducible refine Kd.C_drew ?_)))
   (case side2 => exact HC1_1.out)
   (case side3 => repeat (first | exact (Kd.C_below HR1_2.out HB.out) | (with_reducible refine Kd.C_alloc ?_ _) | (with_reducible refine Kd.C_drewN ?_ _) | (with_reducible refine Kd.C_drew ?_)))
   (case side4 => exact HC1_2.out)
   rintro e w28 ⟨v697, rfl, ho0, hb⟩
   refine ⟨_, rfl, ?_⟩
   have n0_ := mk0 (Kd.R_elder' HO682.out (Kd.R_base ho0) hb)
   have n1_ := mk0 (Kd.R_elder' HO685.out (Kd.R_base ho0) hb)
   have n2_ := mk0 (Kd.R_elder' HO689.out (Kd.R_base ho0) hb)
   have n3_ := mk0 (Kd.R_elder' HO693.out (Kd.R_base ho0) hb)
   have n4_ := mk0 (Kd.R_lower (Kd.R_new' (Kd.R_new' (Kd.R_new' (Kd.R_new' ho0 (Kd.R_lt HO682.out)) (Kd.R_lt HO685.out)) (Kd.R_lt HO689.out)) (Kd.R_lt HO693.out)) (below_size (by repeat (first | exact HB.out | apply pw_below_drewN | apply below_drew1 | apply below_alloc | refine below_set ?_ GE677.out | refine below_set ?_ GE678.out | refine below_set ?_ GE694.out))))
   have n5_ := bkB BK677 hb
   have n6_ := bkB BK678 hb
   have n7_ := bkB BK694 hb
   have n8_ := mk0 (below_step (by repeat (first | exact HB.out | apply pw_below_drewN | apply below_drew1 | apply below_alloc | refine below_set ?_ GE677.out | refine below_set ?_ GE678.out | refine below_set ?_ GE694.out)) hb)
   have z_BK710 := fun (h0_ : b 6 = true) (h1_ : b 7 = false) => (show w28.heap[gb710]? = some (.cells #[.bool false, .slice none 0 0] 27 (0, 0)) from by first | exact (blk_below (g := gb710) (o := .cells #[.bool false, .slice none 0 0] 27 (0, 0)) ((Q_BK710 h0_ h1_)) hb))
   clear HO682
   clear HO685
   clear HO689
   clear HO693
   clear BK677
   clear BK678
   clear BK694
   clear HB
   have HO682 := n0_
   have HO685 := n1_
   have HO689 := n2_
   have HO693 := n3_
   have HO698 := n4_
   have BK677 := n5_
   have BK678 := n6_
   have BK694 := n7_
   have HB := n8_
   clear n0_ n1_ n2_ n3_ n4_ n5_ n6_ n7_ n8_
   refine hK.out _ _ ⟨v697, v700, v704, v708, gb710, (.agg #[.bool t695, v697]), m4_, m5_, m6_, (by rw [ha.out]; exact putSel_upk 1 hb_ rfl rfl rfl), (Kd.R_mono HO682.out (fun _ _ => trivial)), (Kd.R_mono HO685.out (fun _ _ => trivial)), (Kd.R_mono HO689.out (fun _ _ => trivial)), (Kd.R_mono HO693.out (fun _ _ => trivial)), BK677.out, BK678.out, BK694.out, (by repeat (first | exact HB.out | apply pw_below_drewN | apply below_drew1 | apply below_alloc | refine below_set ?_ GE677.out | refine below_set ?_ GE678.out | refine below_set ?_ GE694.out)), fun _ => (Kd.R_mono HO698.out (fun _ _ => trivial)), fun h0_ => absurd ((hoff 3 (by kernel_rfl)).symm.trans h0_) (by decide), fun h0_ => absurd ((hoff 4 (by kernel_rfl)).symm.trans h0_) (by decide), fun h0_ => absurd ((hoff 5 (by kernel_rfl)).symm.trans h0_) (by decide), z_BK710, Q_GW710, Q_GE710, Q_NB677_710, Q_NB710_677, Q_NB678_710, Q_NB710_678, Q_NB694_710, Q_NB710_694, fun h0_ => absurd ((hoff 7 (by kernel_rfl)).symm.trans h0_) (by decide), fun _ => rfl, fun h0_ => absurd ((hoff 4 (by kernel_rfl)).symm.trans h0_) (by decide), fun h0_ => absurd ((hoff 5 (by kernel_rfl)).symm.trans h0_) (by decide), Q_X6_⟩
  refine steps_cons ?_ ?_
  ·rintro b a w' ⟨v697, v700, v704, v708, gb710, m1_, m4_, m5_, m6_, ha, Q_HO682, Q_HO685, Q_HO689, Q_HO693, Q_BK677, Q_BK678, Q_BK694, Q_HB, Q_HO698, Q_HO701, Q_HO705, Q_HO709, Q_BK710, Q_GW710, Q_GE710, Q_NB677_710, Q_NB710_677, Q_NB678_710, Q_NB710_678, Q_NB694_710, Q_NB710_694, Q_BK710_e7, Q_X1_, Q_X4_, Q_X5_, Q_X6_⟩ hb_ hon hoff
   refine ⟨_, rfl, fun K hK => ?_⟩
   have e2 : a.tmps[2]? = some (.pointer (some ⟨gb677, 0, none⟩)) := by rw [ha]; exact (putSel_off rfl).trans rfl
   replace ha := mk0 ha
   have HO682 := mk0 Q_HO682
   have HO685 := mk0 Q_HO685
   have HO689 := mk0 Q_HO689
   have HO693 := mk0 Q_HO693
   have BK677 := mk0 Q_BK677
   have BK678 := mk0 Q_BK678
   have BK694 := mk0 Q_BK694
   have HB := mk0 Q_HB
   have hc0_ : w'.cell? ⟨gb677, 0, none⟩ = some (.bool a0_0) := (blk_cell BK677.out 0).trans rfl
   have hc1_ : w'.cell? ⟨gb677, 1, none⟩ = some (.slice A0_1 l0_1.length c0_1) := (blk_cell BK677.out 1).trans rfl
   have hc2_ : w'.cell? ⟨gb677, 2, none⟩ = some (.slice A0_2 l0_2.length c0_2) := (blk_cell BK677.out 2).trans rfl
   refine value_ (w1 := w') (v := .agg #[.bool a0_0, .slice A0_1 l0_1.length c0_1, .slice A0_2 l0_2.length c0_2]) (by rfl) rfl ?_ ?_
   ·go_simp
    (try simp only [i64_w])
    try rfl
   refine hK.out _ _ ⟨v697, v700, v704, v708, gb710, m1_, m4_, m5_, m6_, (by rw [ha.out]; exact putSel_upk 2 hb_ rfl rfl rfl), Q_HO682, Q_HO685, Q_HO689, Q_HO693, Q_BK677, Q_BK678, Q_BK694, Q_HB, Q_HO698, fun h0_ => absurd ((hoff 3 (by kernel_rfl)).symm.trans h0_) (by decide), fun h0_ => absurd ((hoff 4 (by kernel_rfl)).symm.trans h0_) (by decide), fun h0_ => absurd ((hoff 5 (by kernel_rfl)).symm.trans h0_) (by decide), Q_BK710, Q_GW710, Q_GE710, Q_NB677_710, Q_NB710_677, Q_NB678_710, Q_NB710_678, Q_NB694_710, Q_NB710_694, fun h0_ => absurd ((hoff 7 (by kernel_rfl)).symm.trans h0_) (by decide), Q_X1_, fun h0_ => absurd ((hoff 4 (by kernel_rfl)).symm.trans h0_) (by decide), fun h0_ => absurd ((hoff 5 (by kernel_rfl)).symm.trans h0_) (by decide), Q_X6_⟩
  refine steps_cons ?_ ?_
  ·rintro b a w' ⟨v697, v700, v704, v708, gb710, m1_, m4_, m5_, m6_, ha, Q_HO682, Q_HO685, Q_HO689, Q_HO693, Q_BK677, Q_BK678, Q_BK694, Q_HB, Q_HO698, Q_HO701, Q_HO705, Q_HO709, Q_BK710, Q_GW710, Q_GE710, Q_NB677_710, Q_NB710_677, Q_NB678_710, Q_NB710_678, Q_NB694_710, Q_NB710_694, Q_BK710_e7, Q_X1_, Q_X4_, Q_X5_, Q_X6_⟩ hb_ hon hoff
   refine ⟨_, rfl, fun K hK => ?_⟩
   have e15 : a.tmps[15]? = some (.agg #[.bool a0_0, .slice A0_1 l0_1.length c0_1, .slice A0_2 l0_2.length c0_2]) := by rw [ha]; exact putSel_on (e := (2, 15, .agg #[.bool a0_0, .slice A0_1 l0_1.length c0_1, .slice A0_2 l0_2.length c0_2])) 2 rfl rfl (hon 2 (by kernel_rfl)) rfl
   replace ha := mk0 ha
   have HO682 := mk0 Q_HO682
   have HO685 := mk0 Q_HO685
   have HO689 := mk0 Q_HO689
   have HO693 := mk0 Q_HO693
   have BK677 := mk0 Q_BK677
   have BK678 := mk0 Q_BK678
   have BK694 := mk0 Q_BK694
   have HB := mk0 Q_HB
   have HO698 := mk0 (Q_HO698 (hon 1 (by kernel_rfl)))
   refine goes_ Try.func61 (by kernel_rfl) rfl #[.agg #[.bool a0_0, .slice A0_1 l0_1.length c0_1, .slice A0_2 l0_2.length c0_2]] (by rfl) rfl rfl (by first | (simp only [mA, mC, mN, Act.eval, Array.getD_eq_getD_getElem?, Option.getD_some, e15]; done) | (simp only [mA, mC, mN, Act.eval, Array.getD_eq_getD_getElem?, Option.getD_some, e15]; rfl)) ?_
   with_reducible refine (examboardref03_low.calls k a0_0 _ _ l0_1 _ _ l0_2 t699 _ ?side1 ?side2 ?side3 ?side4 A8.out).mono ?_
   (case side1 => repeat (first | exact (Kd.C_below HR0_1.out HB.out) | (with_reducible refine Kd.C_alloc ?_ _) | (with_reducible refine Kd.C_drewN ?_ _) | (with_reducible refine Kd.C_drew ?_)))
   (case side2 => exact HC0_1.out)
   (case side3 => repeat (first | exact (Kd.C_below HR0_2.out HB.out) | (with_reducible refine Kd.C_alloc ?_ _) | (with_reducible refine Kd.C_drewN ?_ _) | (with_reducible refine Kd.C_drew ?_)))
   (case side4 => exact HC0_2.out)
   rintro e w30 ⟨v700, rfl, ho0, hb⟩
   refine ⟨_, rfl, ?_⟩
   have n0_ := mk0 (Kd.R_elder' HO682.out (Kd.R_base ho0) hb)
   have n1_ := mk0 (Kd.R_elder' HO685.out (Kd.R_base ho0) hb)
   have n2_ := mk0 (Kd.R_elder' HO689.out (Kd.R_base ho0) hb)
   have n3_ := mk0 (Kd.R_elder' HO693.out (Kd.R_base ho0) hb)
   have n4_ := mk0 (Kd.R_elder' HO698.out (Kd.R_base ho0) hb)
   have n5_ := mk0 (Kd.R_lower (Kd.R_new' (Kd.R_new' (Kd.R_new' (Kd.R_new' (Kd.R_new' ho0 (Kd.R_lt HO682.out)) (Kd.R_lt HO685.out)) (Kd.R_lt HO689.out)) (Kd.R_lt HO693.out)) (Kd.R_lt HO698.out)) (below_size (by repeat (first | exact HB.out | apply pw_below_drewN | apply below_drew1 | apply below_alloc | refine below_set ?_ GE677.out | refine below_set ?_ GE678.out | refine below_set ?_ GE694.out))))
   have n6_ := bkB BK677 hb
   have n7_ := bkB BK678 hb
   have n8_ := bkB BK694 hb
   have n9_ := mk0 (below_step (by repeat (first | exact HB.out | apply pw_below_drewN | apply below_drew1 | apply below_alloc | refine below_set ?_ GE677.out | refine below_set ?_ GE678.out | refine below_set ?_ GE694.out)) hb)
   have z_BK710 := fun (h0_ : b 6 = true) (h1_ : b 7 = false) => (show w30.heap[gb710]? = some (.cells #[.bool false, .slice none 0 0] 27 (0, 0)) from by first | exact (blk_below (g := gb710) (o := .cells #[.bool false, .slice none 0 0] 27 (0, 0)) ((Q_BK710 h0_ h1_)) hb))
   clear HO682
   clear HO685
   clear HO689
   clear HO693
   clear HO698
   clear BK677
   clear BK678
   clear BK694
   clear HB
   have HO682 := n0_
   have HO685 := n1_
   have HO689 := n2_
   have HO693 := n3_
   have HO698 := n4_
   have HO701 := n5_
   have BK677 := n6_
   have BK678 := n7_
   have BK694 := n8_
   have HB := n9_
   clear n0_ n1_ n2_ n3_ n4_ n5_ n6_ n7_ n8_ n9_
   refine hK.out _ _ ⟨v697, v700, v704, v708, gb710, m1_, m4_, m5_, m6_, (by rw [ha.out]; exact putSel_upk 3 hb_ rfl rfl rfl), (Kd.R_mono HO682.out (fun _ _ => trivial)), (Kd.R_mono HO685.out (fun _ _ => trivial)), (Kd.R_mono HO689.out (fun _ _ => trivial)), (Kd.R_mono HO693.out (fun _ _ => trivial)), BK677.out, BK678.out, BK694.out, (by repeat (first | exact HB.out | apply pw_below_drewN | apply below_drew1 | apply below_alloc | refine below_set ?_ GE677.out | refine below_set ?_ GE678.out | refine below_set ?_ GE694.out)), fun _ => (Kd.R_mono HO698.out (fun _ _ => trivial)), fun _ => (Kd.R_mono HO701.out (fun _ _ => trivial)), fun h0_ => absurd ((hoff 4 (by kernel_rfl)).symm.trans h0_) (by decide), fun h0_ => absurd ((hoff 5 (by kernel_rfl)).symm.trans h0_) (by decide), z_BK710, Q_GW710, Q_GE710, Q_NB677_710, Q_NB710_677, Q_NB678_710, Q_NB710_678, Q_NB694_710, Q_NB710_694, fun h0_ => absurd ((hoff 7 (by kernel_rfl)).symm.trans h0_) (by decide), Q_X1_, fun h0_ => absurd ((hoff 4 (by kernel_rfl)).symm.trans h0_) (by decide), fun h0_ => absurd ((hoff 5 (by kernel_rfl)).symm.trans h0_) (by decide), Q_X6_⟩
  refine steps_cons ?_ ?_
  ·rintro b a w' ⟨v697, v700, v704, v708, gb710, m1_, m4_, m5_, m6_, ha, Q_HO682, Q_HO685, Q_HO689, Q_HO693, Q_BK677, Q_BK678, Q_BK694, Q_HB, Q_HO698, Q_HO701, Q_HO705, Q_HO709, Q_BK710, Q_GW710, Q_GE710, Q_NB677_710, Q_NB710_677, Q_NB678_710, Q_NB710_678, Q_NB694_710, Q_NB710_694, Q_BK710_e7, Q_X1_, Q_X4_, Q_X5_, Q_X6_⟩ hb_ hon hoff
   refine ⟨_, rfl, fun K hK => ?_⟩
   have e16 : a.tmps[16]? = some (v700) := by rw [ha]; exact putSel_on (e := (3, 16, v700)) 3 rfl rfl (hon 3 (by kernel_rfl)) rfl
   replace ha := mk0 ha
   have HO682 := mk0 Q_HO682
   have HO685 := mk0 Q_HO685
   have HO689 := mk0 Q_HO689
   have HO693 := mk0 Q_HO693
   have BK677 := mk0 Q_BK677
   have BK678 := mk0 Q_BK678
   have BK694 := mk0 Q_BK694
   have HB := mk0 Q_HB
   have HO698 := mk0 (Q_HO698 (hon 1 (by kernel_rfl)))
   have HO701 := mk0 (Q_HO701 (hon 3 (by kernel_rfl)))
   obtain ⟨Ao31, co31, eo31⟩ := Kd.R_slice HO701.out
   (first | subst eo31 | (injection eo31 with f1_ f2_ f3_; have f4_ := f1_.symm; have f5_ := f3_.symm; clear f1_ f2_ f3_; subst f4_; subst f5_))
   refine goes_ Try.func62 (by kernel_rfl) rfl #[.bool false, .slice Ao31 t699.length co31] (by rfl) rfl rfl (by first | (simp only [mA, mC, mN, Act.eval, Array.getD_eq_getD_getElem?, Option.getD_some, e16]; done) | (simp only [mA, mC, mN, Act.eval, Array.getD_eq_getD_getElem?, Option.getD_some, e16]; rfl)) ?_
   with_reducible refine (examboardref02_Make.calls k false _ _ t699 t702 t703 _ ?side1 ?side2 A9.out).mono ?_
   (case side1 => repeat (first | exact (Kd.R_reads' HO701.out).2.2 | (with_reducible refine Kd.C_alloc ?_ _) | (with_reducible refine Kd.C_drewN ?_ _) | (with_reducible refine Kd.C_drew ?_)))
   (case side2 => exact (Kd.R_reads' HO701.out).2.1)
   rintro e w32 ⟨v704, rfl, ho0, hb⟩
   refine ⟨_, rfl, ?_⟩
   have n0_ := mk0 (Kd.R_elder' HO682.out (Kd.R_base ho0) hb)
   have n1_ := mk0 (Kd.R_elder' HO685.out (Kd.R_base ho0) hb)
   have n2_ := mk0 (Kd.R_elder' HO689.out (Kd.R_base ho0) hb)
   have n3_ := mk0 (Kd.R_elder' HO693.out (Kd.R_base ho0) hb)
   have n4_ := mk0 (Kd.R_elder' HO698.out (Kd.R_base ho0) hb)
   have n5_ := mk0 (Kd.R_elder' HO701.out (Kd.R_base ho0) hb)
   have n6_ := mk0 (Kd.R_lower (Kd.R_new' (Kd.R_new' (Kd.R_new' (Kd.R_new' (Kd.R_new' (Kd.R_new' ho0 (Kd.R_lt HO682.out)) (Kd.R_lt HO685.out)) (Kd.R_lt HO689.out)) (Kd.R_lt HO693.out)) (Kd.R_lt HO698.out)) (Kd.R_lt HO701.out)) (below_size (by repeat (first | exact HB.out | apply pw_below_drewN | apply below_drew1 | apply below_alloc | refine below_set ?_ GE677.out | refine below_set ?_ GE678.out | refine below_set ?_ GE694.out))))
   have n7_ := bkB BK677 hb
   have n8_ := bkB BK678 hb
   have n9_ := bkB BK694 hb
   have n10_ := mk0 (below_step (by repeat (first | exact HB.out | apply pw_below_drewN | apply below_drew1 | apply below_alloc | refine below_set ?_ GE677.out | refine below_set ?_ GE678.out | refine below_set ?_ GE694.out)) hb)
   have z_BK710 := fun (h0_ : b 6 = true) (h1_ : b 7 = false) => (show w32.heap[gb710]? = some (.cells #[.bool false, .slice none 0 0] 27 (0, 0)) from by first | exact (blk_below (g := gb710) (o := .cells #[.bool false, .slice none 0 0] 27 (0, 0)) ((Q_BK710 h0_ h1_)) hb))
   clear HO682
   clear HO685
   clear HO689
   clear HO693
   clear HO698
   clear HO701
   clear BK677
   clear BK678
   clear BK694
   clear HB
   have HO682 := n0_
   have HO685 := n1_
   have HO689 := n2_
   have HO693 := n3_
   have HO698 := n4_
   have HO701 := n5_
   have HO705 := n6_
   have BK677 := n7_
   have BK678 := n8_
   have BK694 := n9_
   have HB := n10_
   clear n0_ n1_ n2_ n3_ n4_ n5_ n6_ n7_ n8_ n9_ n10_
   refine hK.out _ _ ⟨v697, .slice Ao31 t699.length co31, v704, v708, gb710, m1_, (.agg #[.bool t702, v704]), m5_, m6_, (by rw [ha.out]; exact putSel_upk 4 hb_ rfl rfl rfl), (Kd.R_mono HO682.out (fun _ _ => trivial)), (Kd.R_mono HO685.out (fun _ _ => trivial)), (Kd.R_mono HO689.out (fun _ _ => trivial)), (Kd.R_mono HO693.out (fun _ _ => trivial)), BK677.out, BK678.out, BK694.out, (by repeat (first | exact HB.out | apply pw_below_drewN | apply below_drew1 | apply below_alloc | refine below_set ?_ GE677.out | refine below_set ?_ GE678.out | refine below_set ?_ GE694.out)), fun _ => (Kd.R_mono HO698.out (fun _ _ => trivial)), fun _ => (Kd.R_mono HO701.out (fun _ _ => trivial)), fun _ => (Kd.R_mono HO705.out (fun _ _ => trivial)), fun h0_ => absurd ((hoff 5 (by kernel_rfl)).symm.trans h0_) (by decide), z_BK710, Q_GW710, Q_GE710, Q_NB677_710, Q_NB710_677, Q_NB678_710, Q_NB710_678, Q_NB694_710, Q_NB710_694, fun h0_ => absurd ((hoff 7 (by kernel_rfl)).symm.trans h0_) (by decide), Q_X1_, fun _ => rfl, fun h0_ => absurd ((hoff 5 (by kernel_rfl)).symm.trans h0_) (by decide), Q_X6_⟩
  refine steps_cons ?_ ?_
  ·rintro b a w' ⟨v697, v700, v704, v708, gb710, m1_, m4_, m5_, m6_, ha, Q_HO682, Q_HO685, Q_HO689, Q_HO693, Q_BK677, Q_BK678, Q_BK694, Q_HB, Q_HO698, Q_HO701, Q_HO705, Q_HO709, Q_BK710, Q_GW710, Q_GE710, Q_NB677_710, Q_NB710_677, Q_NB678_710, Q_NB710_678, Q_NB694_710, Q_NB710_694, Q_BK710_e7, Q_X1_, Q_X4_, Q_X5_, Q_X6_⟩ hb_ hon hoff
   refine ⟨_, rfl, fun K hK => ?_⟩
   have e14 : a.tmps[14]? = some (m1_) := by rw [ha]; exact putSel_on (e := (1, 14, m1_)) 1 rfl rfl (hon 1 (by kernel_rfl)) rfl
   rw [Q_X1_ (hon 1 (by kernel_rfl))] at e14
   have e17 : a.tmps[17]? = some (m4_) := by rw [ha]; exact putSel_on (e := (4, 17, m4_)) 4 rfl rfl (hon 4 (by kernel_rfl)) rfl
   rw [Q_X4_ (hon 4 (by kernel_rfl))] at e17
   replace ha := mk0 ha
   have HO682 := mk0 Q_HO682
   have HO685 := mk0 Q_HO685
   have HO689 := mk0 Q_HO689
   have HO693 := mk0 Q_HO693
   have BK677 := mk0 Q_BK677
   have BK678 := mk0 Q_BK678
   have BK694 := mk0 Q_BK694
   have HB := mk0 Q_HB
   have HO698 := mk0 (Q_HO698 (hon 1 (by kernel_rfl)))
   have HO701 := mk0 (Q_HO701 (hon 3 (by kernel_rfl)))
   have HO705 := mk0 (Q_HO705 (hon 4 (by kernel_rfl)))
   obtain ⟨Ao33, co33, eo33⟩ := Kd.R_slice HO698.out
   (first | subst eo33 | (injection eo33 with f1_ f2_ f3_; have f4_ := f1_.symm; have f5_ := f3_.symm; clear f1_ f2_ f3_; subst f4_; subst f5_))
   obtain ⟨Ao34, co34, eo34⟩ := Kd.R_slice HO705.out
   (first | subst eo34 | (injection eo34 with f1_ f2_ f3_; have f4_ := f1_.symm; have f5_ := f3_.symm; clear f1_ f2_ f3_; subst f4_; subst f5_))
   refine goes_ Try.func58 (by kernel_rfl) rfl #[.agg #[.bool t695, .slice Ao33 t696.length co33], .agg #[.bool t702, .slice Ao34 t703.length co34]] (by rfl) rfl rfl (by first | (simp only [mA, mC, mN, Act.eval, Array.getD_eq_getD_getElem?, Option.getD_some, e14, e17]; done) | (simp only [mA, mC, mN, Act.eval, Array.getD_eq_getD_getElem?, Option.getD_some, e14, e17]; rfl)) ?_
   with_reducible refine (examboardref02_Mul.calls k t695 _ _ t696 t702 _ _ t703 t706 t707 _ ?side1 ?side2 ?side3 ?side4 A10.out).mono ?_
   (case side1 => repeat (first | exact (Kd.R_reads' HO698.out).2.2 | (with_reducible refine Kd.C_alloc ?_ _) | (with_reducible refine Kd.C_drewN ?_ _) | (with_reducible refine Kd.C_drew ?_)))
   (case side2 => exact (Kd.R_reads' HO698.out).2.1)
   (case side3 => repeat (first | exact (Kd.R_reads' HO705.out).2.2 | (with_reducible refine Kd.C_alloc ?_ _) | (with_reducible refine Kd.C_drewN ?_ _) | (with_reducible refine Kd.C_drew ?_)))
   (case side4 => exact (Kd.R_reads' HO705.out).2.1)
   rintro e w35 ⟨v708, rfl, ho0, hb⟩
   refine ⟨_, rfl, ?_⟩
   have n0_ := mk0 (Kd.R_elder' HO682.out (Kd.R_base ho0) hb)
   have n1_ := mk0 (Kd.R_elder' HO685.out (Kd.R_base ho0) hb)
   have n2_ := mk0 (Kd.R_elder' HO689.out (Kd.R_base ho0) hb)
   have n3_ := mk0 (Kd.R_elder' HO693.out (Kd.R_base ho0) hb)
   have n4_ := mk0 (Kd.R_elder' HO698.out (Kd.R_base ho0) hb)
   have n5_ := mk0 (Kd.R_elder' HO701.out (Kd.R_base ho0) hb)
   have n6_ := mk0 (Kd.R_elder' HO705.out (Kd.R_base ho0) hb)
   have n7_ := mk0 (Kd.R_lower (Kd.R_new' (Kd.R_new' (Kd.R_new' (Kd.R_new' (Kd.R_new' (Kd.R_new' (Kd.R_new' ho0 (Kd.R_lt HO682.out)) (Kd.R_lt HO685.out)) (Kd.R_lt HO689.out)) (Kd.R_lt HO693.out)) (Kd.R_lt HO698.out)) (Kd.R_lt HO701.out)) (Kd.R_lt HO705.out)) (below_size (by repeat (first | exact HB.out | apply pw_below_drewN | apply below_drew1 | apply below_alloc | refine below_set ?_ GE677.out | refine below_set ?_ GE678.out | refine below_set ?_ GE694.out))))
   have n8_ := bkB BK677 hb
   have n9_ := bkB BK678 hb
   have n10_ := bkB BK694 hb
   have n11_ := mk0 (below_step (by repeat (first | exact HB.out | apply pw_below_drewN | apply below_drew1 | apply below_alloc | refine below_set ?_ GE677.out | refine below_set ?_ GE678.out | refine below_set ?_ GE694.out)) hb)
   have z_BK710 := fun (h0_ : b 6 = true) (h1_ : b 7 = false) => (show w35.heap[gb710]? = some (.cells #[.bool false, .slice none 0 0] 27 (0, 0)) from by first | exact (blk_below (g := gb710) (o := .cells #[.bool false, .slice none 0 0] 27 (0, 0)) ((Q_BK710 h0_ h1_)) hb))
   clear HO682
   clear HO685
   clear HO689
   clear HO693
   clear HO698
   clear HO701
   clear HO705
   clear BK677
   clear BK678
   clear BK694
   clear HB
   have HO682 := n0_
   have HO685 := n1_
   have HO689 := n2_
   have HO693 := n3_
   have HO698 := n4_
   have HO701 := n5_
   have HO705 := n6_
   have HO709 := n7_
   have BK677 := n8_
   have BK678 := n9_
   have BK694 := n10_
   have HB := n11_
   clear n0_ n1_ n2_ n3_ n4_ n5_ n6_ n7_ n8_ n9_ n10_ n11_
   refine hK.out _ _ ⟨.slice Ao33 t696.length co33, v700, .slice Ao34 t703.length co34, v708, gb710, m1_, m4_, (.agg #[.bool t706, v708]), m6_, (by rw [ha.out]; exact putSel_upk 5 hb_ rfl rfl rfl), (Kd.R_mono HO682.out (fun _ _ => trivial)), (Kd.R_mono HO685.out (fun _ _ => trivial)), (Kd.R_mono HO689.out (fun _ _ => trivial)), (Kd.R_mono HO693.out (fun _ _ => trivial)), BK677.out, BK678.out, BK694.out, (by repeat (first | exact HB.out | apply pw_below_drewN | apply below_drew1 | apply below_alloc | refine below_set ?_ GE677.out | refine below_set ?_ GE678.out | refine below_set ?_ GE694.out)), fun _ => (Kd.R_mono HO698.out (fun _ _ => trivial)), fun _ => (Kd.R_mono HO701.out (fun _ _ => trivial)), fun _ => (Kd.R_mono HO705.out (fun _ _ => trivial)), fun _ => (Kd.R_mono HO709.out (fun _ _ => trivial)), z_BK710, Q_GW710, Q_GE710, Q_NB677_710, Q_NB710_677, Q_NB678_710, Q_NB710_678, Q_NB694_710, Q_NB710_694, fun h0_ => absurd ((hoff 7 (by kernel_rfl)).symm.trans h0_) (by decide), Q_X1_, Q_X4_, fun _ => rfl, Q_X6_⟩
  refine steps_cons ?_ ?_
  ·rintro b a w' ⟨v697, v700, v704, v708, gb710, m1_, m4_, m5_, m6_, ha, Q_HO682, Q_HO685, Q_HO689, Q_HO693, Q_BK677, Q_BK678, Q_BK694, Q_HB, Q_HO698, Q_HO701, Q_HO705, Q_HO709, Q_BK710, Q_GW710, Q_GE710, Q_NB677_710, Q_NB710_677, Q_NB678_710, Q_NB710_678, Q_NB694_710, Q_NB710_694, Q_BK710_e7, Q_X1_, Q_X4_, Q_X5_, Q_X6_⟩ hb_ hon hoff
   refine ⟨_, rfl, fun K hK => ?_⟩
   replace ha := mk0 ha
   have HO682 := mk0 Q_HO682
   have HO685 := mk0 Q_HO685
   have HO689 := mk0 Q_HO689
   have HO693 := mk0 Q_HO693
   have BK677 := mk0 Q_BK677
   have BK678 := mk0 Q_BK678
   have BK694 := mk0 Q_BK694
   have HB := mk0 Q_HB
   refine box_step ?hg (N := 6) ?hd (cs := #[.bool false, .slice none 0 0]) (t := 27) ?hr ?_; (case hd => rfl); (case hg => rfl); (case hr => go_simp <;> rfl)
   intro gb710 hg w28 hbox hb
   have n0_ := rB HO682 hb
   have n1_ := rB HO685 hb
   have n2_ := rB HO689 hb
   have n3_ := rB HO693 hb
   have n4_ := bkB BK677 hb
   have n5_ := bkB BK678 hb
   have n6_ := bkB BK694 hb
   have n7_ := mk0 (below_step (by repeat (first | exact HB.out | apply pw_below_drewN | apply below_drew1 | apply below_alloc | refine below_set ?_ GE677.out | refine below_set ?_ GE678.out | refine below_set ?_ GE694.out)) hb)
   have n8_ := mk0 (hbox)
   have n9_ := mk0 ((by rw [hg]; exact (below_size (by repeat (first | exact HB.out | apply pw_below_drewN | apply below_drew1 | apply below_alloc | refine below_set ?_ GE677.out | refine below_set ?_ GE678.out | refine below_set ?_ GE694.out))) : w.heap.size ≤ gb710))
   have n10_ := mk0 ((by rw [hg]; exact (below_size (by repeat (first | exact HB.out | apply pw_below_drewN | apply below_drew1 | apply below_alloc | refine below_set ?_ GE677.out | refine below_set ?_ GE678.out | refine below_set ?_ GE694.out))) : w.heap.size ≤ gb710))
   have n11_ := nbA hg BK677
   have n12_ := nbB hg BK677
   have n13_ := nbA hg BK678
   have n14_ := nbB hg BK678
   have n15_ := nbA hg BK694
   have n16_ := nbB hg BK694
   have z_HO698 := fun (h0_ : b 1 = true) => (show Kd.R (Kd.int .u32) 87 w28 w.heap.size (fun _ => True) v697 t696 from by first | exact (Kd.R_below ((Q_HO698 h0_)) hb) | exact Kd.R_mono (Kd.R_below ((Q_HO698 h0_)) hb) (fun _ _ => trivial))
   have z_HO701 := fun (h0_ : b 3 = true) => (show Kd.R (Kd.int .u32) 87 w28 w.heap.size (fun _ => True) v700 t699 from by first | exact (Kd.R_below ((Q_HO701 h0_)) hb) | exact Kd.R_mono (Kd.R_below ((Q_HO701 h0_)) hb) (fun _ _ => trivial))
   have z_HO705 := fun (h0_ : b 4 = true) => (show Kd.R (Kd.int .u32) 87 w28 w.heap.size (fun _ => True) v704 t703 from by first | exact (Kd.R_below ((Q_HO705 h0_)) hb) | exact Kd.R_mono (Kd.R_below ((Q_HO705 h0_)) hb) (fun _ _ => trivial))
   have z_HO709 := fun (h0_ : b 5 = true) => (show Kd.R (Kd.int .u32) 87 w28 w.heap.size (fun _ => True) v708 t707 from by first | exact (Kd.R_below ((Q_HO709 h0_)) hb) | exact Kd.R_mono (Kd.R_below ((Q_HO709 h0_)) hb) (fun _ _ => trivial))
   clear HO682
   clear HO685
   clear HO689
   clear HO693
   clear BK677
   clear BK678
   clear BK694
   clear HB
   have HO682 := n0_
   have HO685 := n1_
   have HO689 := n2_
   have HO693 := n3_
   have BK677 := n4_
   have BK678 := n5_
   have BK694 := n6_
   have HB := n7_
   have BK710 := n8_
   have GW710 := n9_
   have GE710 := n10_
   have NB677_710 := n11_
   have NB710_677 := n12_
   have NB678_710 := n13_
   have NB710_678 := n14_
   have NB694_710 := n15_
   have NB710_694 := n16_
   clear n0_ n1_ n2_ n3_ n4_ n5_ n6_ n7_ n8_ n9_ n10_ n11_ n12_ n13_ n14_ n15_ n16_
   clear hb hbox hg
   refine hK.out _ _ ⟨v697, v700, v704, v708, gb710, m1_, m4_, m5_, (.pointer (some ⟨gb710, 0, none⟩)), (by rw [ha.out]; exact putSel_upk 6 hb_ rfl rfl rfl), HO682.out, HO685.out, HO689.out, HO693.out, BK677.out, BK678.out, BK694.out, (by repeat (first | exact HB.out | apply pw_below_drewN | apply below_drew1 | apply below_alloc | refine below_set ?_ GE677.out | refine below_set ?_ GE678.out | refine below_set ?_ GE694.out | refine below_set ?_ GE710.out)), z_HO698, z_HO701, z_HO705, z_HO709, fun _ _ => BK710.out, fun _ => GW710.out, fun _ => GE710.out, fun _ => NB677_710.out, fun _ => NB710_677.out, fun _ => NB678_710.out, fun _ => NB710_678.out, fun _ => NB694_710.out, fun _ => NB710_694.out, fun h0_ => absurd ((hoff 7 (by kernel_rfl)).symm.trans h0_) (by decide), Q_X1_, Q_X4_, Q_X5_, fun _ => rfl⟩
  refine steps_cons ?_ ?_
  ·rintro b a w' ⟨v697, v700, v704, v708, gb710, m1_, m4_, m5_, m6_, ha, Q_HO682, Q_HO685, Q_HO689, Q_HO693, Q_BK677, Q_BK678, Q_BK694, Q_HB, Q_HO698, Q_HO701, Q_HO705, Q_HO709, Q_BK710, Q_GW710, Q_GE710, Q_NB677_710, Q_NB710_677, Q_NB678_710, Q_NB710_678, Q_NB694_710, Q_NB710_694, Q_BK710_e7, Q_X1_, Q_X4_, Q_X5_, Q_X6_⟩ hb_ hon hoff
   refine ⟨_, rfl, fun K hK => ?_⟩
   have e6 : a.tmps[6]? = some (m6_) := by rw [ha]; exact putSel_on (e := (6, 6, m6_)) 6 rfl rfl (hon 6 (by kernel_rfl)) rfl
   rw [Q_X6_ (hon 6 (by kernel_rfl))] at e6
   have e18 : a.tmps[18]? = some (m5_) := by rw [ha]; exact putSel_on (e := (5, 18, m5_)) 5 rfl rfl (hon 5 (by kernel_rfl)) rfl
   rw [Q_X5_ (hon 5 (by kernel_rfl))] at e18
   replace ha := mk0 ha
   have HO682 := mk0 Q_HO682
   have HO685 := mk0 Q_HO685
   have HO689 := mk0 Q_HO689
   have HO693 := mk0 Q_HO693
   have BK677 := mk0 Q_BK677
   have BK678 := mk0 Q_BK678
   have BK694 := mk0 Q_BK694
   have HB := mk0 Q_HB
   have HO698 := mk0 (Q_HO698 (hon 1 (by kernel_rfl)))
   have HO701 := mk0 (Q_HO701 (hon 3 (by kernel_rfl)))
   have HO705 := mk0 (Q_HO705 (hon 4 (by kernel_rfl)))
   have HO709 := mk0 (Q_HO709 (hon 5 (by kernel_rfl)))
   have BK710 := mk0 (Q_BK710 (hon 6 (by kernel_rfl)) hb_)
   have GW710 := mk0 (Q_GW710 (hon 6 (by kernel_rfl)))
   have GE710 := mk0 (Q_GE710 (hon 6 (by kernel_rfl)))
   have NB677_710 := mk0 (Q_NB677_710 (hon 6 (by kernel_rfl)))
   have NB710_677 := mk0 (Q_NB710_677 (hon 6 (by kernel_rfl)))
   have NB678_710 := mk0 (Q_NB678_710 (hon 6 (by kernel_rfl)))
   have NB710_678 := mk0 (Q_NB710_678 (hon 6 (by kernel_rfl)))
   have NB694_710 := mk0 (Q_NB694_710 (hon 6 (by kernel_rfl)))
   have NB710_694 := mk0 (Q_NB710_694 (hon 6 (by kernel_rfl)))
   obtain ⟨Ao38, co38, eo38⟩ := Kd.R_slice HO709.out
   (first | subst eo38 | (injection eo38 with f1_ f2_ f3_; have f4_ := f1_.symm; have f5_ := f3_.symm; clear f1_ f2_ f3_; subst f4_; subst f5_))
   have hs37 : w'.cell? ⟨gb710, 0, none⟩ = some (.bool false) := (blk_cell BK710.out 0).trans rfl
   have hfs37 := blk_frozen BK710.out 0
   have hns37_0 := NB677_710.out
   have hns37_1 := NB678_710.out
   have hns37_2 := NB694_710.out
   have hms37_0 := NB710_677.out
   have hms37_1 := NB710_678.out
   have hms37_2 := NB710_694.out
   have hs39 : w'.cell? ⟨gb710, 1, none⟩ = some (.slice none 0 0) := (blk_cell BK710.out 1).trans rfl
   have hfs39 := blk_frozen BK710.out 1
   have hns39_0 := NB677_710.out
   have hns39_1 := NB678_710.out
   have hns39_2 := NB694_710.out
   have hms39_0 := NB710_677.out
   have hms39_1 := NB710_678.out
   have hms39_2 := NB710_694.out
   refine skip_ (w1 := ?_) (by rfl) rfl ?_ ?_
   rotate_left
   ·go_simp
    rfl
   refine hK.out _ _ ⟨v697, v700, v704, .slice Ao38 t707.length co38, gb710, m1_, m4_, m5_, m6_, (by rw [ha.out]; exact putSel_none (v := undef) rfl), (Kd.R_mono (Kd.R_far (p := ⟨gb710, 1, none⟩) (Kd.R_far (p := ⟨gb710, 0, none⟩) (Kd.R_types HO682.out BK710.out (by decide)) (fun _ hk => hk.2) (.bool t706)) (fun _ hk => hk.2) (.slice Ao38 t707.length co38)) (fun _ _ => trivial)), (Kd.R_mono (Kd.R_far (p := ⟨gb710, 1, none⟩) (Kd.R_far (p := ⟨gb710, 0, none⟩) (Kd.R_types HO685.out BK710.out (by decide)) (fun _ hk => hk.2) (.bool t706)) (fun _ hk => hk.2) (.slice Ao38 t707.length co38)) (fun _ _ => trivial)), (Kd.R_mono (Kd.R_far (p := ⟨gb710, 1, none⟩) (Kd.R_far (p := ⟨gb710, 0, none⟩) (Kd.R_types HO689.out BK710.out (by decide)) (fun _ hk => hk.2) (.bool t706)) (fun _ hk => hk.2) (.slice Ao38 t707.length co38)) (fun _ _ => trivial)), (Kd.R_mono (Kd.R_far (p := ⟨gb710, 1, none⟩) (Kd.R_far (p := ⟨gb710, 0, none⟩) (Kd.R_types HO693.out BK710.out (by decide)) (fun _ hk => hk.2) (.bool t706)) (fun _ hk => hk.2) (.slice Ao38 t707.length co38)) (fun _ _ => trivial)), (by refine blk_far ?_ NB677_710.out _; refine blk_far ?_ NB677_710.out _; exact BK677.out), (by refine blk_far ?_ NB678_710.out _; refine blk_far ?_ NB678_710.out _; exact BK678.out), (by refine blk_far ?_ NB694_710.out _; refine blk_far ?_ NB694_710.out _; exact BK694.out), (by repeat (first | exact HB.out | apply pw_below_drewN | apply below_drew1 | apply below_alloc | refine below_set ?_ GE677.out | refine below_set ?_ GE678.out | refine below_set ?_ GE694.out | refine below_set ?_ GE710.out)), fun _ => (Kd.R_mono (Kd.R_far (p := ⟨gb710, 1, none⟩) (Kd.R_far (p := ⟨gb710, 0, none⟩) (Kd.R_types HO698.out BK710.out (by decide)) (fun _ hk => hk.2) (.bool t706)) (fun _ hk => hk.2) (.slice Ao38 t707.length co38)) (fun _ _ => trivial)), fun _ => (Kd.R_mono (Kd.R_far (p := ⟨gb710, 1, none⟩) (Kd.R_far (p := ⟨gb710, 0, none⟩) (Kd.R_types HO701.out BK710.out (by decide)) (fun _ hk => hk.2) (.bool t706)) (fun _ hk => hk.2) (.slice Ao38 t707.length co38)) (fun _ _ => trivial)), fun _ => (Kd.R_mono (Kd.R_far (p := ⟨gb710, 1, none⟩) (Kd.R_far (p := ⟨gb710, 0, none⟩) (Kd.R_types HO705.out BK710.out (by decide)) (fun _ hk => hk.2) (.bool t706)) (fun _ hk => hk.2) (.slice Ao38 t707.length co38)) (fun _ _ => trivial)), fun _ => (Kd.R_mono (Kd.R_far (p := ⟨gb710, 1, none⟩) (Kd.R_far (p := ⟨gb710, 0, none⟩) (Kd.R_types HO709.out BK710.out (by decide)) (fun _ hk => hk.2) (.bool t706)) (fun _ hk => hk.2) (.slice Ao38 t707.length co38)) (fun _ _ => trivial)), fun _ h1_ => absurd ((up_self b 7).symm.trans h1_) (by decide), fun _ => GW710.out, fun _ => GE710.out, fun _ => NB677_710.out, fun _ => NB710_677.out, fun _ => NB678_710.out, fun _ => NB710_678.out, fun _ => NB694_710.out, fun _ => NB710_694.out, fun _ => (by refine blk_put (cs := #[.bool t706, .slice none 0 0]) ?_ 1 _ rfl; refine blk_put (cs := #[.bool false, .slice none 0 0]) ?_ 0 _ rfl; exact BK710.out), Q_X1_, Q_X4_, Q_X5_, Q_X6_⟩
  exact steps_nil
 rintro b a w39 hall ⟨v697, v700, v704, v708, gb710, m1_, m4_, m5_, m6_, ha, Q_HO682, Q_HO685, Q_HO689, Q_HO693, Q_BK677, Q_BK678, Q_BK694, Q_HB, Q_HO698, Q_HO701, Q_HO705, Q_HO709, Q_BK710, Q_GW710, Q_GE710, Q_NB677_710, Q_NB710_677, Q_NB678_710, Q_NB710_678, Q_NB694_710, Q_NB710_694, Q_BK710_e7, Q_X1_, Q_X4_, Q_X5_, Q_X6_⟩
 clear BK677 BK678 BK694 HB HO682 HO685 HO689 HO693
 have hb0_ := hall 0 (by kernel_rfl)
 have hb1_ := hall 1 (by kernel_rfl)
 have hb2_ := hall 2 (by kernel_rfl)
 have hb3_ := hall 3 (by kernel_rfl)
 have hb4_ := hall 4 (by kernel_rfl)
 have hb5_ := hall 5 (by kernel_rfl)
 have hb6_ := hall 6 (by kernel_rfl)
 have hb7_ := hall 7 (by kernel_rfl)
 subst ha
 obtain rfl := Q_X1_ hb1_
 obtain rfl := Q_X4_ hb4_
 obtain rfl := Q_X5_ hb5_
 obtain rfl := Q_X6_ hb6_
 simp only [putSel, hb0_, hb1_, hb2_, hb3_, hb4_, hb5_, hb6_, hb7_, if_true, Act.put, sA, sZ, sS]
 have HO682 := mk0 Q_HO682
 clear Q_HO682
 have HO685 := mk0 Q_HO685
 clear Q_HO685
 have HO689 := mk0 Q_HO689
 clear Q_HO689
 have HO693 := mk0 Q_HO693
 clear Q_HO693
 have BK677 := mk0 Q_BK677
 clear Q_BK677
 have BK678 := mk0 Q_BK678
 clear Q_BK678
 have BK694 := mk0 Q_BK694
 clear Q_BK694
 have HB := mk0 Q_HB
 clear Q_HB
 have HO698 := mk0 (Q_HO698 hb1_)
 clear Q_HO698
 have HO701 := mk0 (Q_HO701 hb3_)
 clear Q_HO701
 have HO705 := mk0 (Q_HO705 hb4_)
 clear Q_HO705
 have HO709 := mk0 (Q_HO709 hb5_)
 clear Q_HO709
 clear Q_BK710
 have GW710 := mk0 (Q_GW710 hb6_)
 clear Q_GW710
 have GE710 := mk0 (Q_GE710 hb6_)
 clear Q_GE710
 have NB677_710 := mk0 (Q_NB677_710 hb6_)
 clear Q_NB677_710
 have NB710_677 := mk0 (Q_NB710_677 hb6_)
 clear Q_NB710_677
 have NB678_710 := mk0 (Q_NB678_710 hb6_)
 clear Q_NB678_710
 have NB710_678 := mk0 (Q_NB710_678 hb6_)
 clear Q_NB710_678
 have NB694_710 := mk0 (Q_NB694_710 hb6_)
 clear Q_NB694_710
 have NB710_694 := mk0 (Q_NB710_694 hb6_)
 clear Q_NB710_694
 have BK710 := mk0 (Q_BK710_e7 hb7_)
 clear Q_BK710_e7
 clear hall hb0_ hb1_ hb2_ hb3_ hb4_ hb5_ hb6_ hb7_
 have hnb40 := NB694_677.out
 have hnc40 := NB677_694.out
 have hnb41 := NB694_678.out
 have hnc41 := NB678_694.out
 have hnb42 := NB694_710.out
 have hnc42 := NB710_694.out
 obtain ⟨hcz43_0, hcz43_1, hfz43_0, hfz43_1⟩ := cz2 BK694
 have hnb44 := NB710_677.out
 have hnc44 := NB677_710.out
 have hnb45 := NB710_678.out
 have hnc45 := NB678_710.out
 obtain ⟨hcz46_0, hcz46_1, hfz46_0, hfz46_1⟩ := cz2 BK710
 obtain ⟨Ao47, co47, eo47⟩ := Kd.R_slice HO693.out
 subst eo47
 obtain ⟨Ao48, co48, eo48⟩ := Kd.R_slice HO709.out
 subst eo48
 try go_wp2_with (first | ((with_reducible refine gate_callee (f := 63) rfl ?_); refine goesL_ (some 21) rfl rfl Try.func63 (by kernel_rfl) rfl #[.agg #[.bool t690, .slice Ao47 t691.length co47], .agg #[.bool t706, .slice Ao48 t707.length co48]] rfl (by go_simp <;> rfl) ?_; (with_reducible refine (examboardref02_Cmp.calls k t690 _ _ t691 t706 _ _ t707 t711 _ (by exact (Kd.R_reads' HO693.out).2.2) (by exact (Kd.R_reads' HO693.out).2.1) (by exact (Kd.R_reads' HO709.out).2.2) (by exact (Kd.R_reads' HO709.out).2.1) A11.out).mono ?_); rintro e w49 ⟨rfl, hb⟩; refine ⟨_, rfl, ?_⟩; replace HO682 := rB HO682 hb; replace HO685 := rB HO685 hb; replace HO689 := rB HO689 hb; replace HO693 := rB HO693 hb; replace HO698 := rB HO698 hb; replace HO701 := rB HO701 hb; replace HO705 := rB HO705 hb; replace HO709 := rB HO709 hb; replace BK677 := bkB BK677 hb; replace BK678 := bkB BK678 hb; replace BK694 := bkB BK694 hb; replace BK710 := bkB BK710 hb; replace HB := hbS HB hb))
 go_ret
 exact ⟨by first | rfl | (simp [errW_none, errW_some] <;> rfl) | (simp [*, errW_none, errW_some] <;> rfl), by repeat (first | exact HB.out | apply pw_below_drewN | apply below_drew1 | apply below_alloc | refine below_set ?_ GE677.out | refine below_set ?_ GE678.out | refine below_set ?_ GE694.out | refine below_set ?_ GE710.out)⟩
def examboardref37_Eligible.T1 : Bool × List (List Nat × List Nat) := (true, [([], []), ([], []), ([1], [1]), ([2], [2]), ([], []), ([4, 2], [4]), ([3, 5], [3, 5]), ([6, 5], [6]), ([0, 7, 7], [0, 7]), ([], []), ([9, 8, 8, 0, 1, 2, 3, 4, 5, 6, 7, 8, 9], [8, 9])])
def examboardref37_Eligible.B1 : List Nat := [0, 0, 2, 6, 0, 22, 62, 126, 255, 0, 1023]
theorem examboardref37_Eligible.tab1 : rtab .any (opsOf Try.f14 1) = examboardref37_Eligible.T1 := by kernel_rfl
theorem examboardref37_Eligible.bits1 : waitsOk examboardref37_Eligible.T1.2 examboardref37_Eligible.B1 = true := by kernel_rfl
def examboardref37_Eligible.T2 : Bool × List (List Nat × List Nat) := (true, [([], []), ([0], [0]), ([1], [1]), ([2, 1], [2]), ([], []), ([3, 4, 3], [3, 4]), ([5], [5]), ([6, 5, 0, 1, 2, 3, 4, 5, 6], [6])])
def examboardref37_Eligible.B2 : List Nat := [0, 1, 3, 7, 0, 31, 63, 127]
theorem examboardref37_Eligible.tab2 : rtab .any (opsOf Try.f14 2) = examboardref37_Eligible.T2 := by kernel_rfl
theorem examboardref37_Eligible.bits2 : waitsOk examboardref37_Eligible.T2.2 examboardref37_Eligible.B2 = true := by kernel_rfl
set_option maxHeartbeats 8000000 in
set_option maxRecDepth 100000 in
theorem examboardref37_Eligible.calls (k : Nat) (a0 : Int) (a1 : Int) (a2_0 : Bool) (A2_1 : Option Addr) (c2_1 : Nat) (l2_1 : List Int) (A2_2 : Option Addr) (c2_2 : Nat) (l2_2 : List Int) (a3 : Int) (r : Bool) (w : World) (hr2_1 : Kd.C (Kd.int .u32) w A2_1 l2_1.length l2_1) (hc2_1 : l2_1.length ≤ c2_1) (hr2_2 : Kd.C (Kd.int .u32) w A2_2 l2_2.length l2_2) (hc2_2 : l2_2.length ≤ c2_2) (h : examboardref37_Eligible.f k a0 a1 a2_0 l2_1 l2_2 a3 = some r) :
  Calls Try.prog 14 #[.int .i64 a0, .int .i64 a1, .agg #[.bool a2_0, .slice A2_1 l2_1.length c2_1, .slice A2_2 l2_2.length c2_2], .int .i64 a3] w fun e w' => e = .returned (.bool r) ∧ Below w.heap.size w w' := by
 have hu29 := Try.underlying29
 have HR2_1 := mk0 hr2_1
 have HC2_1 := mk0 hc2_1
 clear hr2_1 hc2_1
 have HR2_2 := mk0 hr2_2
 have HC2_2 := mk0 hc2_2
 clear hr2_2 hc2_2
 have HB := mk0 (Below.refl w.heap.size w)
 have H : ((examboardref37_limited.f a1).bind fun t898 => ((examboardref37_limited.f a3).bind fun t899 => ((examboardref37_whole.f k (wrap64 ((wrap64 (t898 + 1)) + t899))).bind fun bt900 => ((examboardref03_Mul.f k a2_0 l2_1 l2_2 bt900.1 bt900.2.1 bt900.2.2).bind fun bt907 => ((examboardref37_limited.f a0).bind fun t915 => ((examboardref37_whole.f k (wrap64 (t915 + 1))).bind fun bt916 => ((examboardref03_Cmp.f k bt916.1 bt916.2.1 bt916.2.2 bt907.1 bt907.2.1 bt907.2.2).bind fun t923 => (some (decide (t923 ≤ 0)))))))))) = some r := h
 clear h
 obtain ⟨t898, A5, H⟩ := bindA H
 obtain ⟨t899, A6, H⟩ := bindA H
 obtain ⟨⟨t900, t901, t904⟩, A7, H⟩ := bindA H
 obtain ⟨⟨t907, t908, t911⟩, A8, H⟩ := bindA H
 obtain ⟨t915, A9, H⟩ := bindA H
 obtain ⟨⟨t916, t917, t920⟩, A10, H⟩ := bindA H
 obtain ⟨t923, A11, H⟩ := bindA H
 obtain rfl := Option.some.inj H
 go_enter Try.func14, Try.ntmps14
 try go_wp2_with (first | ((with_reducible refine gate_dst (N := 6) rfl ?_); refine box_event rfl (N := 6) rfl (cs := #[.bool a2_0, .slice A2_1 l2_1.length c2_1, .slice A2_2 l2_2.length c2_2]) (t := 29) (by go_simp <;> rfl) ?_; intro gb897 hg w12 hbox hb; have BK897 := mk0 (hbox); have GE897 := geB hg HB; replace HB := (by first | exact hbS HB hb | exact hbD HB hb); clear hb hbox hg))
 replace BK897 := mk0 (blk_drew BK897.out)
 replace HB := mk0 (below_drew1 HB.out)
 refine start_ (n := 11) (S := fun w' => w'.cell? ⟨gb897, 0, none⟩ = some (.bool a2_0) ∧ w'.cell? ⟨gb897, 1, none⟩ = some (.slice A2_1 l2_1.length c2_1) ∧ w'.cell? ⟨gb897, 2, none⟩ = some (.slice A2_2 l2_2.length c2_2)) (ds := []) (bv 11 0) (by kernel_rfl) rfl rfl ⟨(blk_cell BK897.out 0).trans rfl, (blk_cell BK897.out 1).trans rfl, (blk_cell BK897.out 2).trans rfl⟩ (fun hHeld => ?_); refine with_tabW examboardref37_Eligible.tab1 examboardref37_Eligible.bits1 (fun HT_ HW_ => ?_)
 generalize w12.drew = w13 at BK897 HB hHeld ⊢
 refine puA (i := 1) (N := 11) (v := ?_) (a' := ?_) (bv 11 2) HT_ ?_ ?_ ?_; rotate_left; (intro w'; go_simp; with_reducible rfl); rotate_left; (simp only [Act.put, sA, sZ, sS, i64_w, i32_w]; rfl)
 refine puA (i := 4) (N := 14) (v := ?_) (a' := ?_) (bv 11 18) HT_ ?_ ?_ ?_; rotate_left; (intro w'; go_simp; with_reducible rfl); rotate_left; (simp only [Act.put, sA, sZ, sS, i64_w, i32_w]; rfl)
 refine take_ (i := 0) (N := some 10) (v := ?_) (a' := ?_) (bv 11 19) rfl rfl (take_ofW HT_.out HW_.out (by kernel_rfl)) (fun _ _ _ h => h) (Or.inl ⟨by rfl, ?_⟩) hHeld ?_ ?_; rotate_left; (rintro w' ⟨s0, s1, s2⟩; go_simp; with_reducible rfl); rotate_left; (simp only [Act.put, sA, sZ, sS, i64_w, i32_w]; rfl)
 refine join_ (σ := Value × Value × Value × Value × Nat) 1 (bv 11 1023) (fun s_ => [(12, .int .i64 t898), (15, .int .i64 t899), (17, .agg #[.bool t900, s_.1, s_.2.1]), (18, .agg #[.bool t907, s_.2.2.1, s_.2.2.2.1]), (9, .pointer (some ⟨s_.2.2.2.2, 0, none⟩)), (13, .int .i64 (wrap64 (t898 + 1))), (16, .int .i64 (wrap64 ((wrap64 (t898 + 1)) + t899)))]) (fun s_ w' => (w'.cell? ⟨gb897, 0, none⟩ = some (.bool a2_0) ∧ w'.cell? ⟨gb897, 1, none⟩ = some (.slice A2_1 l2_1.length c2_1) ∧ w'.cell? ⟨gb897, 2, none⟩ = some (.slice A2_2 l2_2.length c2_2)) ∧ (Kd.R (Kd.int .u32) 87 w' w.heap.size (fun k_ => some k_ ≠ (s_.2.1 : Value).ownBlock ∧ some k_ ≠ (s_.2.2.1 : Value).ownBlock ∧ some k_ ≠ (s_.2.2.2.1 : Value).ownBlock) s_.1 t901) ∧ (Kd.R (Kd.int .u32) 87 w' w.heap.size (fun k_ => some k_ ≠ (s_.1 : Value).ownBlock ∧ some k_ ≠ (s_.2.2.1 : Value).ownBlock ∧ some k_ ≠ (s_.2.2.2.1 : Value).ownBlock) s_.2.1 t904) ∧ (Kd.R (Kd.int .u32) 87 w' w.heap.size (fun k_ => some k_ ≠ (s_.1 : Value).ownBlock ∧ some k_ ≠ (s_.2.1 : Value).ownBlock ∧ some k_ ≠ (s_.2.2.2.1 : Value).ownBlock) s_.2.2.1 t908) ∧ (Kd.R (Kd.int .u32) 87 w' w.heap.size (fun k_ => some k_ ≠ (s_.1 : Value).ownBlock ∧ some k_ ≠ (s_.2.1 : Value).ownBlock ∧ some k_ ≠ (s_.2.2.1 : Value).ownBlock) s_.2.2.2.1 t911) ∧ (w'.heap[gb897]? = some (.cells #[.bool a2_0, .slice A2_1 l2_1.length c2_1, .slice A2_2 l2_2.length c2_2] 29 (0, 0))) ∧ (w'.heap[s_.2.2.2.2]? = some (.cells #[.bool false, .slice none 0 0, .slice none 0 0] 29 (0, 0))) ∧ (w.heap.size ≤ s_.2.2.2.2) ∧ (w.heap.size ≤ s_.2.2.2.2) ∧ (gb897 ≠ s_.2.2.2.2) ∧ (s_.2.2.2.2 ≠ gb897) ∧ (Below w.heap.size w w')) ?_ ?_
 rotate_left
 ·intro hJ2_5_7_8_9
  refine join_ (σ := Value × Value × Value × Value) 2 (bv 11 511) (fun s_ => [(12, .int .i64 t898), (15, .int .i64 t899), (17, .agg #[.bool t900, s_.1, s_.2.1]), (18, .agg #[.bool t907, s_.2.2.1, s_.2.2.2]), (13, .int .i64 (wrap64 (t898 + 1))), (16, .int .i64 (wrap64 ((wrap64 (t898 + 1)) + t899)))]) (fun s_ w' => (w'.cell? ⟨gb897, 0, none⟩ = some (.bool a2_0) ∧ w'.cell? ⟨gb897, 1, none⟩ = some (.slice A2_1 l2_1.length c2_1) ∧ w'.cell? ⟨gb897, 2, none⟩ = some (.slice A2_2 l2_2.length c2_2)) ∧ (Kd.R (Kd.int .u32) 87 w' w.heap.size (fun k_ => some k_ ≠ (s_.2.1 : Value).ownBlock ∧ some k_ ≠ (s_.2.2.1 : Value).ownBlock ∧ some k_ ≠ (s_.2.2.2 : Value).ownBlock) s_.1 t901) ∧ (Kd.R (Kd.int .u32) 87 w' w.heap.size (fun k_ => some k_ ≠ (s_.1 : Value).ownBlock ∧ some k_ ≠ (s_.2.2.1 : Value).ownBlock ∧ some k_ ≠ (s_.2.2.2 : Value).ownBlock) s_.2.1 t904) ∧ (Kd.R (Kd.int .u32) 87 w' w.heap.size (fun k_ => some k_ ≠ (s_.1 : Value).ownBlock ∧ some k_ ≠ (s_.2.1 : Value).ownBlock ∧ some k_ ≠ (s_.2.2.2 : Value).ownBlock) s_.2.2.1 t908) ∧ (Kd.R (Kd.int .u32) 87 w' w.heap.size (fun k_ => some k_ ≠ (s_.1 : Value).ownBlock ∧ some k_ ≠ (s_.2.1 : Value).ownBlock ∧ some k_ ≠ (s_.2.2.1 : Value).ownBlock) s_.2.2.2 t911) ∧ (w'.heap[gb897]? = some (.cells #[.bool a2_0, .slice A2_1 l2_1.length c2_1, .slice A2_2 l2_2.length c2_2] 29 (0, 0))) ∧ (Below w.heap.size w w')) ?_ ?_
  rotate_left
  ·intro hJ2_5_7_8
   refine join_ (σ := Value × Value × Nat) 2 (bv 11 767) (fun s_ => [(12, .int .i64 t898), (15, .int .i64 t899), (17, .agg #[.bool t900, s_.1, s_.2.1]), (9, .pointer (some ⟨s_.2.2, 0, none⟩)), (13, .int .i64 (wrap64 (t898 + 1))), (16, .int .i64 (wrap64 ((wrap64 (t898 + 1)) + t899)))]) (fun s_ w' => (w'.cell? ⟨gb897, 0, none⟩ = some (.bool a2_0) ∧ w'.cell? ⟨gb897, 1, none⟩ = some (.slice A2_1 l2_1.length c2_1) ∧ w'.cell? ⟨gb897, 2, none⟩ = some (.slice A2_2 l2_2.length c2_2)) ∧ (Kd.R (Kd.int .u32) 87 w' w.heap.size (fun k_ => some k_ ≠ (s_.2.1 : Value).ownBlock) s_.1 t901) ∧ (Kd.R (Kd.int .u32) 87 w' w.heap.size (fun k_ => some k_ ≠ (s_.1 : Value).ownBlock) s_.2.1 t904) ∧ (w'.heap[gb897]? = some (.cells #[.bool a2_0, .slice A2_1 l2_1.length c2_1, .slice A2_2 l2_2.length c2_2] 29 (0, 0))) ∧ (w'.heap[s_.2.2]? = some (.cells #[.bool false, .slice none 0 0, .slice none 0 0] 29 (0, 0))) ∧ (w.heap.size ≤ s_.2.2) ∧ (w.heap.size ≤ s_.2.2) ∧ (gb897 ≠ s_.2.2) ∧ (s_.2.2 ≠ gb897) ∧ (Below w.heap.size w w')) ?_ ?_
   rotate_left
   ·intro hJ2_5_7_9
    refine join_ (σ := Value × Value) 3 (bv 11 255) (fun s_ => [(12, .int .i64 t898), (15, .int .i64 t899), (17, .agg #[.bool t900, s_.1, s_.2]), (13, .int .i64 (wrap64 (t898 + 1))), (16, .int .i64 (wrap64 ((wrap64 (t898 + 1)) + t899)))]) (fun s_ w' => (w'.cell? ⟨gb897, 0, none⟩ = some (.bool a2_0) ∧ w'.cell? ⟨gb897, 1, none⟩ = some (.slice A2_1 l2_1.length c2_1) ∧ w'.cell? ⟨gb897, 2, none⟩ = some (.slice A2_2 l2_2.length c2_2)) ∧ (Kd.R (Kd.int .u32) 87 w' w.heap.size (fun k_ => some k_ ≠ (s_.2 : Value).ownBlock) s_.1 t901) ∧ (Kd.R (Kd.int .u32) 87 w' w.heap.size (fun k_ => some k_ ≠ (s_.1 : Value).ownBlock) s_.2 t904) ∧ (w'.heap[gb897]? = some (.cells #[.bool a2_0, .slice A2_1 l2_1.length c2_1, .slice A2_2 l2_2.length c2_2] 29 (0, 0))) ∧ (Below w.heap.size w w')) ?_ ?_
    rotate_left
    ·intro hJ2_5_7
     refine join_ (σ := Nat) 3 (bv 11 639) (fun s_ => [(12, .int .i64 t898), (15, .int .i64 t899), (9, .pointer (some ⟨s_, 0, none⟩)), (13, .int .i64 (wrap64 (t898 + 1))), (16, .int .i64 (wrap64 ((wrap64 (t898 + 1)) + t899)))]) (fun s_ w' => (w'.cell? ⟨gb897, 0, none⟩ = some (.bool a2_0) ∧ w'.cell? ⟨gb897, 1, none⟩ = some (.slice A2_1 l2_1.length c2_1) ∧ w'.cell? ⟨gb897, 2, none⟩ = some (.slice A2_2 l2_2.length c2_2)) ∧ (w'.heap[gb897]? = some (.cells #[.bool a2_0, .slice A2_1 l2_1.length c2_1, .slice A2_2 l2_2.length c2_2] 29 (0, 0))) ∧ (w'.heap[s_]? = some (.cells #[.bool false, .slice none 0 0, .slice none 0 0] 29 (0, 0))) ∧ (w.heap.size ≤ s_) ∧ (w.heap.size ≤ s_) ∧ (gb897 ≠ s_) ∧ (s_ ≠ gb897) ∧ (Below w.heap.size w w')) ?_ ?_
     rotate_left
     ·intro hJ2_5_9
      refine join_ (σ := Unit) 4 (bv 11 127) (fun s_ => [(12, .int .i64 t898), (15, .int .i64 t899), (13, .int .i64 (wrap64 (t898 + 1))), (16, .int .i64 (wrap64 ((wrap64 (t898 + 1)) + t899)))]) (fun s_ w' => (w'.cell? ⟨gb897, 0, none⟩ = some (.bool a2_0) ∧ w'.cell? ⟨gb897, 1, none⟩ = some (.slice A2_1 l2_1.length c2_1) ∧ w'.cell? ⟨gb897, 2, none⟩ = some (.slice A2_2 l2_2.length c2_2)) ∧ (w'.heap[gb897]? = some (.cells #[.bool a2_0, .slice A2_1 l2_1.length c2_1, .slice A2_2 l2_2.length c2_2] 29 (0, 0))) ∧ (Below w.heap.size w w')) ?_ ?_
      rotate_left
      ·intro hJ2_5
       refine join_ (σ := Nat) 5 (bv 11 543) (fun s_ => [(12, .int .i64 t898), (9, .pointer (some ⟨s_, 0, none⟩)), (13, .int .i64 (wrap64 (t898 + 1)))]) (fun s_ w' => (w'.cell? ⟨gb897, 0, none⟩ = some (.bool a2_0) ∧ w'.cell? ⟨gb897, 1, none⟩ = some (.slice A2_1 l2_1.length c2_1) ∧ w'.cell? ⟨gb897, 2, none⟩ = some (.slice A2_2 l2_2.length c2_2)) ∧ (w'.heap[gb897]? = some (.cells #[.bool a2_0, .slice A2_1 l2_1.length c2_1, .slice A2_2 l2_2.length c2_2] 29 (0, 0))) ∧ (w'.heap[s_]? = some (.cells #[.bool false, .slice none 0 0, .slice none 0 0] 29 (0, 0))) ∧ (w.heap.size ≤ s_) ∧ (w.heap.size ≤ s_) ∧ (gb897 ≠ s_) ∧ (s_ ≠ gb897) ∧ (Below w.heap.size w w')) ?_ ?_
       rotate_left
       ·intro hJ2_9
        refine join_ (σ := Unit) 6 (bv 11 31) (fun s_ => [(12, .int .i64 t898), (13, .int .i64 (wrap64 (t898 + 1)))]) (fun s_ w' => (w'.cell? ⟨gb897, 0, none⟩ = some (.bool a2_0) ∧ w'.cell? ⟨gb897, 1, none⟩ = some (.slice A2_1 l2_1.length c2_1) ∧ w'.cell? ⟨gb897, 2, none⟩ = some (.slice A2_2 l2_2.length c2_2)) ∧ (w'.heap[gb897]? = some (.cells #[.bool a2_0, .slice A2_1 l2_1.length c2_1, .slice A2_2 l2_2.length c2_2] 29 (0, 0))) ∧ (Below w.heap.size w w')) ?_ ?_
        rotate_left
        ·intro hJ2
         refine join_ (σ := Nat) 7 (bv 11 531) (fun s_ => [(9, .pointer (some ⟨s_, 0, none⟩))]) (fun s_ w' => (w'.cell? ⟨gb897, 0, none⟩ = some (.bool a2_0) ∧ w'.cell? ⟨gb897, 1, none⟩ = some (.slice A2_1 l2_1.length c2_1) ∧ w'.cell? ⟨gb897, 2, none⟩ = some (.slice A2_2 l2_2.length c2_2)) ∧ (w'.heap[gb897]? = some (.cells #[.bool a2_0, .slice A2_1 l2_1.length c2_1, .slice A2_2 l2_2.length c2_2] 29 (0, 0))) ∧ (w'.heap[s_]? = some (.cells #[.bool false, .slice none 0 0, .slice none 0 0] 29 (0, 0))) ∧ (w.heap.size ≤ s_) ∧ (w.heap.size ≤ s_) ∧ (gb897 ≠ s_) ∧ (s_ ≠ gb897) ∧ (Below w.heap.size w w')) ?_ ?_
         rotate_left
         ·intro hJ9
          refine two_ (i := 2) (j := 9) (Ni := some 12) (Nj := some 9) (bv 11 23) (bv 11 531) rfl rfl rfl rfl (two_of HT_.out (by kernel_rfl)) (by decide) (by decide) (fun K hK => ?_) (fun K hK => ?_)
          ·skip
           refine goes_ Try.func34 (by kernel_rfl) rfl #[.int .i64 a1] (by rfl) rfl rfl (by go_simp <;> rfl) ?_
           with_reducible refine (examboardref37_limited.calls a1 t898 _ A5.out).mono ?_
           rintro e w' ⟨rfl, ⟨nd, rfl⟩⟩
           refine ⟨_, rfl, ?_⟩
           refine hK.out _ _ ⟨(blk_cell BK897.out 0).trans rfl, (blk_cell BK897.out 1).trans rfl, (blk_cell BK897.out 2).trans rfl⟩ (fun hHeld => ?_)
           clear hK K
           refine norm_ (a' := ?_) ?_ ?_
           rotate_left
           ·show Act.put _ (some 12) _ = _
            simp only [Act.put, sA, sZ, sS, i64_w, i32_w]
            rfl
           refine puA (i := 3) (N := 13) (v := ?_) (a' := ?_) (bv 11 31) HT_ ?_ ?_ ?_; rotate_left; (intro w'; go_simp; with_reducible rfl); rotate_left; (simp only [Act.put, sA, sZ, sS, i64_w, i32_w]; rfl)
           exact norm_ (by first | (simp only [putAll, Act.put, sA, sZ, sS]; done) | (simp only [putAll, Act.put, sA, sZ, sS]; rfl)) (hJ2 () _ ⟨hHeld, (by (with_reducible repeat refine blk_drewN ?_ _); exact BK897.out), (by repeat (first | exact HB.out | apply pw_below_drewN | apply below_drew1 | apply below_alloc | refine below_set ?_ GE897.out))⟩)
          ·skip
           refine box_step ?hg (N := 9) ?hd (cs := #[.bool false, .slice none 0 0, .slice none 0 0]) (t := 29) ?hr ?_; (case hd => rfl); (case hg => rfl); (case hr => go_simp <;> rfl)
           intro gb914 hg w14 hbox hb
           have BK914 := mk0 (hbox)
           have GW914 := mk0 ((by rw [hg]; exact (below_size (by repeat (first | exact HB.out | apply pw_below_drewN | apply below_drew1 | apply below_alloc | refine below_set ?_ GE897.out))) : w.heap.size ≤ gb914))
           have GE914 := mk0 ((by rw [hg]; exact (below_size (by repeat (first | exact HB.out | apply pw_below_drewN | apply below_drew1 | apply below_alloc | refine below_set ?_ GE897.out))) : w.heap.size ≤ gb914))
           replace HB := mk0 (below_step (by repeat (first | exact HB.out | apply pw_below_drewN | apply below_drew1 | apply below_alloc | refine below_set ?_ GE897.out)) hb)
           have NB897_914 := nbA hg BK897
           have NB914_897 := nbB hg BK897
           replace BK897 := (by first | exact bkB BK897 hb | exact bkD BK897 hb)
           clear hb hbox hg
           refine hK.out _ _ ⟨(blk_cell BK897.out 0).trans rfl, (blk_cell BK897.out 1).trans rfl, (blk_cell BK897.out 2).trans rfl⟩ (fun hHeld => ?_)
           clear hK K
           refine norm_ (a' := ?_) ?_ ?_
           rotate_left
           ·show Act.put _ (some 9) _ = _
            simp only [Act.put, sA, sZ, sS, i64_w, i32_w]
            rfl
           exact norm_ (by first | (simp only [putAll, Act.put, sA, sZ, sS]; done) | (simp only [putAll, Act.put, sA, sZ, sS]; rfl)) (hJ9 (gb914) _ ⟨hHeld, (by (with_reducible repeat refine blk_drewN ?_ _); exact BK897.out), (by (with_reducible repeat refine blk_drewN ?_ _); exact BK914.out), GW914.out, GE914.out, NB897_914.out, NB914_897.out, (by repeat (first | exact HB.out | apply pw_below_drewN | apply below_drew1 | apply below_alloc | refine below_set ?_ GE897.out | refine below_set ?_ GE914.out))⟩)
         ·skip
          rintro gb914 w15 ⟨hS_, h0_, h1_, h2_, h3_, h4_, h5_, h6_⟩
          replace BK897 : Aside0 (w15.heap[gb897]? = some (.cells #[.bool a2_0, .slice A2_1 l2_1.length c2_1, .slice A2_2 l2_2.length c2_2] 29 (0, 0))) := ⟨h0_⟩
          have BK914 : Aside0 (w15.heap[gb914]? = some (.cells #[.bool false, .slice none 0 0, .slice none 0 0] 29 (0, 0))) := ⟨h1_⟩
          have GW914 : Aside0 (w.heap.size ≤ gb914) := ⟨h2_⟩
          have GE914 : Aside0 (w.heap.size ≤ gb914) := ⟨h3_⟩
          have NB897_914 : Aside0 (gb897 ≠ gb914) := ⟨h4_⟩
          have NB914_897 : Aside0 (gb914 ≠ gb897) := ⟨h5_⟩
          replace HB : Aside0 (Below w.heap.size w w15) := ⟨h6_⟩
          clear h0_ h1_ h2_ h3_ h4_ h5_ h6_
          have hHeld : w15.cell? ⟨gb897, 0, none⟩ = some (.bool a2_0) ∧ w15.cell? ⟨gb897, 1, none⟩ = some (.slice A2_1 l2_1.length c2_1) ∧ w15.cell? ⟨gb897, 2, none⟩ = some (.slice A2_2 l2_2.length c2_2) := hS_
          refine norm_ (a' := ?_) ?_ ?_
          rotate_left
          ·simp only [putAll, Act.put, sA, sZ, sS]
           rfl
          refine one_ (i := 2) (N := some 12) (bv 11 535) rfl rfl (one_of HT_.out (by kernel_rfl)) (by decide) (fun K hK => ?_)
          refine goes_ Try.func34 (by kernel_rfl) rfl #[.int .i64 a1] (by rfl) rfl rfl (by go_simp <;> rfl) ?_
          with_reducible refine (examboardref37_limited.calls a1 t898 _ A5.out).mono ?_
          rintro e w' ⟨rfl, ⟨nd, rfl⟩⟩
          refine ⟨_, rfl, ?_⟩
          refine hK.out _ _ ⟨(blk_cell BK897.out 0).trans rfl, (blk_cell BK897.out 1).trans rfl, (blk_cell BK897.out 2).trans rfl⟩ (fun hHeld => ?_)
          clear hK K
          refine norm_ (a' := ?_) ?_ ?_
          rotate_left
          ·show Act.put _ (some 12) _ = _
           simp only [Act.put, sA, sZ, sS, i64_w, i32_w]
           rfl
          refine puA (i := 3) (N := 13) (v := ?_) (a' := ?_) (bv 11 543) HT_ ?_ ?_ ?_; rotate_left; (intro w'; go_simp; with_reducible rfl); rotate_left; (simp only [Act.put, sA, sZ, sS, i64_w, i32_w]; rfl)
          exact norm_ (by first | (simp only [putAll, Act.put, sA, sZ, sS]; done) | (simp only [putAll, Act.put, sA, sZ, sS]; rfl)) (hJ2_9 (gb914) _ ⟨hHeld, (by (with_reducible repeat refine blk_drewN ?_ _); exact BK897.out), (by (with_reducible repeat refine blk_drewN ?_ _); exact BK914.out), GW914.out, GE914.out, NB897_914.out, NB914_897.out, (by repeat (first | exact HB.out | apply pw_below_drewN | apply below_drew1 | apply below_alloc | refine below_set ?_ GE897.out | refine below_set ?_ GE914.out))⟩)
        ·skip
         rintro _ w14 ⟨hS_, h0_, h1_⟩
         replace BK897 : Aside0 (w14.heap[gb897]? = some (.cells #[.bool a2_0, .slice A2_1 l2_1.length c2_1, .slice A2_2 l2_2.length c2_2] 29 (0, 0))) := ⟨h0_⟩
         replace HB : Aside0 (Below w.heap.size w w14) := ⟨h1_⟩
         clear h0_ h1_
         have hHeld : w14.cell? ⟨gb897, 0, none⟩ = some (.bool a2_0) ∧ w14.cell? ⟨gb897, 1, none⟩ = some (.slice A2_1 l2_1.length c2_1) ∧ w14.cell? ⟨gb897, 2, none⟩ = some (.slice A2_2 l2_2.length c2_2) := hS_
         refine norm_ (a' := ?_) ?_ ?_
         rotate_left
         ·simp only [putAll, Act.put, sA, sZ, sS]
          rfl
         refine two_ (i := 5) (j := 9) (Ni := some 15) (Nj := some 9) (bv 11 63) (bv 11 543) rfl rfl rfl rfl (two_of HT_.out (by kernel_rfl)) (by decide) (by decide) (fun K hK => ?_) (fun K hK => ?_)
         ·skip
          refine goes_ Try.func34 (by kernel_rfl) rfl #[.int .i64 a3] (by rfl) rfl rfl (by go_simp <;> rfl) ?_
          with_reducible refine (examboardref37_limited.calls a3 t899 _ A6.out).mono ?_
          rintro e w' ⟨rfl, ⟨nd, rfl⟩⟩
          refine ⟨_, rfl, ?_⟩
          refine hK.out _ _ ⟨(blk_cell BK897.out 0).trans rfl, (blk_cell BK897.out 1).trans rfl, (blk_cell BK897.out 2).trans rfl⟩ (fun hHeld => ?_)
          clear hK K
          refine norm_ (a' := ?_) ?_ ?_
          rotate_left
          ·show Act.put _ (some 15) _ = _
           simp only [Act.put, sA, sZ, sS, i64_w, i32_w]
           rfl
          refine puA (i := 6) (N := 16) (v := ?_) (a' := ?_) (bv 11 127) HT_ ?_ ?_ ?_; rotate_left; (intro w'; go_simp; with_reducible rfl); rotate_left; (simp only [Act.put, sA, sZ, sS, i64_w, i32_w]; rfl)
          exact norm_ (by first | (simp only [putAll, Act.put, sA, sZ, sS]; done) | (simp only [putAll, Act.put, sA, sZ, sS]; rfl)) (hJ2_5 () _ ⟨hHeld, (by (with_reducible repeat refine blk_drewN ?_ _); exact BK897.out), (by repeat (first | exact HB.out | apply pw_below_drewN | apply below_drew1 | apply below_alloc | refine below_set ?_ GE897.out))⟩)
         ·skip
          refine box_step ?hg (N := 9) ?hd (cs := #[.bool false, .slice none 0 0, .slice none 0 0]) (t := 29) ?hr ?_; (case hd => rfl); (case hg => rfl); (case hr => go_simp <;> rfl)
          intro gb914 hg w15 hbox hb
          have BK914 := mk0 (hbox)
          have GW914 := mk0 ((by rw [hg]; exact (below_size (by repeat (first | exact HB.out | apply pw_below_drewN | apply below_drew1 | apply below_alloc | refine below_set ?_ GE897.out))) : w.heap.size ≤ gb914))
          have GE914 := mk0 ((by rw [hg]; exact (below_size (by repeat (first | exact HB.out | apply pw_below_drewN | apply below_drew1 | apply below_alloc | refine below_set ?_ GE897.out))) : w.heap.size ≤ gb914))
          replace HB := mk0 (below_step (by repeat (first | exact HB.out | apply pw_below_drewN | apply below_drew1 | apply below_alloc | refine below_set ?_ GE897.out)) hb)
          have NB897_914 := nbA hg BK897
          have NB914_897 := nbB hg BK897
          replace BK897 := (by first | exact bkB BK897 hb | exact bkD BK897 hb)
          clear hb hbox hg
          refine hK.out _ _ ⟨(blk_cell BK897.out 0).trans rfl, (blk_cell BK897.out 1).trans rfl, (blk_cell BK897.out 2).trans rfl⟩ (fun hHeld => ?_)
          clear hK K
          refine norm_ (a' := ?_) ?_ ?_
          rotate_left
          ·show Act.put _ (some 9) _ = _
           simp only [Act.put, sA, sZ, sS, i64_w, i32_w]
           rfl
          exact norm_ (by first | (simp only [putAll, Act.put, sA, sZ, sS]; done) | (simp only [putAll, Act.put, sA, sZ, sS]; rfl)) (hJ2_9 (gb914) _ ⟨hHeld, (by (with_reducible repeat refine blk_drewN ?_ _); exact BK897.out), (by (with_reducible repeat refine blk_drewN ?_ _); exact BK914.out), GW914.out, GE914.out, NB897_914.out, NB914_897.out, (by repeat (first | exact HB.out | apply pw_below_drewN | apply below_drew1 | apply below_alloc | refine below_set ?_ GE897.out | refine below_set ?_ GE914.out))⟩)
       ·skip
        rintro gb914 w15 ⟨hS_, h0_, h1_, h2_, h3_, h4_, h5_, h6_⟩
        replace BK897 : Aside0 (w15.heap[gb897]? = some (.cells #[.bool a2_0, .slice A2_1 l2_1.length c2_1, .slice A2_2 l2_2.length c2_2] 29 (0, 0))) := ⟨h0_⟩
        have BK914 : Aside0 (w15.heap[gb914]? = some (.cells #[.bool false, .slice none 0 0, .slice none 0 0] 29 (0, 0))) := ⟨h1_⟩
        have GW914 : Aside0 (w.heap.size ≤ gb914) := ⟨h2_⟩
        have GE914 : Aside0 (w.heap.size ≤ gb914) := ⟨h3_⟩
        have NB897_914 : Aside0 (gb897 ≠ gb914) := ⟨h4_⟩
        have NB914_897 : Aside0 (gb914 ≠ gb897) := ⟨h5_⟩
        replace HB : Aside0 (Below w.heap.size w w15) := ⟨h6_⟩
        clear h0_ h1_ h2_ h3_ h4_ h5_ h6_
        have hHeld : w15.cell? ⟨gb897, 0, none⟩ = some (.bool a2_0) ∧ w15.cell? ⟨gb897, 1, none⟩ = some (.slice A2_1 l2_1.length c2_1) ∧ w15.cell? ⟨gb897, 2, none⟩ = some (.slice A2_2 l2_2.length c2_2) := hS_
        refine norm_ (a' := ?_) ?_ ?_
        rotate_left
        ·simp only [putAll, Act.put, sA, sZ, sS]
         rfl
        refine one_ (i := 5) (N := some 15) (bv 11 575) rfl rfl (one_of HT_.out (by kernel_rfl)) (by decide) (fun K hK => ?_)
        refine goes_ Try.func34 (by kernel_rfl) rfl #[.int .i64 a3] (by rfl) rfl rfl (by go_simp <;> rfl) ?_
        with_reducible refine (examboardref37_limited.calls a3 t899 _ A6.out).mono ?_
        rintro e w' ⟨rfl, ⟨nd, rfl⟩⟩
        refine ⟨_, rfl, ?_⟩
        refine hK.out _ _ ⟨(blk_cell BK897.out 0).trans rfl, (blk_cell BK897.out 1).trans rfl, (blk_cell BK897.out 2).trans rfl⟩ (fun hHeld => ?_)
        clear hK K
        refine norm_ (a' := ?_) ?_ ?_
        rotate_left
        ·show Act.put _ (some 15) _ = _
         simp only [Act.put, sA, sZ, sS, i64_w, i32_w]
         rfl
        refine puA (i := 6) (N := 16) (v := ?_) (a' := ?_) (bv 11 639) HT_ ?_ ?_ ?_; rotate_left; (intro w'; go_simp; with_reducible rfl); rotate_left; (simp only [Act.put, sA, sZ, sS, i64_w, i32_w]; rfl)
        exact norm_ (by first | (simp only [putAll, Act.put, sA, sZ, sS]; done) | (simp only [putAll, Act.put, sA, sZ, sS]; rfl)) (hJ2_5_9 (gb914) _ ⟨hHeld, (by (with_reducible repeat refine blk_drewN ?_ _); exact BK897.out), (by (with_reducible repeat refine blk_drewN ?_ _); exact BK914.out), GW914.out, GE914.out, NB897_914.out, NB914_897.out, (by repeat (first | exact HB.out | apply pw_below_drewN | apply below_drew1 | apply below_alloc | refine below_set ?_ GE897.out | refine below_set ?_ GE914.out))⟩)
      ·skip
       rintro _ w14 ⟨hS_, h0_, h1_⟩
       replace BK897 : Aside0 (w14.heap[gb897]? = some (.cells #[.bool a2_0, .slice A2_1 l2_1.length c2_1, .slice A2_2 l2_2.length c2_2] 29 (0, 0))) := ⟨h0_⟩
       replace HB : Aside0 (Below w.heap.size w w14) := ⟨h1_⟩
       clear h0_ h1_
       have hHeld : w14.cell? ⟨gb897, 0, none⟩ = some (.bool a2_0) ∧ w14.cell? ⟨gb897, 1, none⟩ = some (.slice A2_1 l2_1.length c2_1) ∧ w14.cell? ⟨gb897, 2, none⟩ = some (.slice A2_2 l2_2.length c2_2) := hS_
       refine norm_ (a' := ?_) ?_ ?_
       rotate_left
       ·simp only [putAll, Act.put, sA, sZ, sS]
        rfl
       refine two_ (i := 7) (j := 9) (Ni := some 17) (Nj := some 9) (bv 11 255) (bv 11 639) rfl rfl rfl rfl (two_of HT_.out (by kernel_rfl)) (by decide) (by decide) (fun K hK => ?_) (fun K hK => ?_)
       ·skip
        refine goes_ Try.func33 (by kernel_rfl) rfl #[.int .i64 (wrap64 ((wrap64 (t898 + 1)) + t899))] (by rfl) rfl rfl (by go_simp <;> rfl) ?_
        with_reducible refine (examboardref37_whole.calls k (wrap64 ((wrap64 (t898 + 1)) + t899)) t900 t901 t904 _ A7.out).mono ?_
        rintro e w15 ⟨v902, v905, rfl, ho0, ho1, hb⟩
        refine ⟨_, rfl, ?_⟩
        have HO903 := mk0 (Kd.R_lower ho0 (below_size (by repeat (first | exact HB.out | apply pw_below_drewN | apply below_drew1 | apply below_alloc | refine below_set ?_ GE897.out))))
        have HO906 := mk0 (Kd.R_lower ho1 (below_size (by repeat (first | exact HB.out | apply pw_below_drewN | apply below_drew1 | apply below_alloc | refine below_set ?_ GE897.out))))
        replace BK897 := (by first | exact bkB BK897 hb | exact bkD BK897 hb)
        replace HB := mk0 (below_step (by repeat (first | exact HB.out | apply pw_below_drewN | apply below_drew1 | apply below_alloc | refine below_set ?_ GE897.out)) hb)
        refine hK.out _ _ ⟨(blk_cell BK897.out 0).trans rfl, (blk_cell BK897.out 1).trans rfl, (blk_cell BK897.out 2).trans rfl⟩ (fun hHeld => ?_)
        clear hK K
        refine norm_ (a' := ?_) ?_ ?_
        rotate_left
        ·show Act.put _ (some 17) _ = _
         simp only [Act.put, sA, sZ, sS, i64_w, i32_w]
         rfl
        exact norm_ (by first | (simp only [putAll, Act.put, sA, sZ, sS]; done) | (simp only [putAll, Act.put, sA, sZ, sS]; rfl)) (hJ2_5_7 (v902, v905) _ ⟨hHeld, (by (with_reducible repeat apply Kd.R_drewN); exact HO903.out), (by (with_reducible repeat apply Kd.R_drewN); exact HO906.out), (by (with_reducible repeat refine blk_drewN ?_ _); exact BK897.out), (by repeat (first | exact HB.out | apply pw_below_drewN | apply below_drew1 | apply below_alloc | refine below_set ?_ GE897.out))⟩)
       ·skip
        refine box_step ?hg (N := 9) ?hd (cs := #[.bool false, .slice none 0 0, .slice none 0 0]) (t := 29) ?hr ?_; (case hd => rfl); (case hg => rfl); (case hr => go_simp <;> rfl)
        intro gb914 hg w15 hbox hb
        have BK914 := mk0 (hbox)
        have GW914 := mk0 ((by rw [hg]; exact (below_size (by repeat (first | exact HB.out | apply pw_below_drewN | apply below_drew1 | apply below_alloc | refine below_set ?_ GE897.out))) : w.heap.size ≤ gb914))
        have GE914 := mk0 ((by rw [hg]; exact (below_size (by repeat (first | exact HB.out | apply pw_below_drewN | apply below_drew1 | apply below_alloc | refine below_set ?_ GE897.out))) : w.heap.size ≤ gb914))
        replace HB := mk0 (below_step (by repeat (first | exact HB.out | apply pw_below_drewN | apply below_drew1 | apply below_alloc | refine below_set ?_ GE897.out)) hb)
        have NB897_914 := nbA hg BK897
        have NB914_897 := nbB hg BK897
        replace BK897 := (by first | exact bkB BK897 hb | exact bkD BK897 hb)
        clear hb hbox hg
        refine hK.out _ _ ⟨(blk_cell BK897.out 0).trans rfl, (blk_cell BK897.out 1).trans rfl, (blk_cell BK897.out 2).trans rfl⟩ (fun hHeld => ?_)
        clear hK K
        refine norm_ (a' := ?_) ?_ ?_
        rotate_left
        ·show Act.put _ (some 9) _ = _
         simp only [Act.put, sA, sZ, sS, i64_w, i32_w]
         rfl
        exact norm_ (by first | (simp only [putAll, Act.put, sA, sZ, sS]; done) | (simp only [putAll, Act.put, sA, sZ, sS]; rfl)) (hJ2_5_9 (gb914) _ ⟨hHeld, (by (with_reducible repeat refine blk_drewN ?_ _); exact BK897.out), (by (with_reducible repeat refine blk_drewN ?_ _); exact BK914.out), GW914.out, GE914.out, NB897_914.out, NB914_897.out, (by repeat (first | exact HB.out | apply pw_below_drewN | apply below_drew1 | apply below_alloc | refine below_set ?_ GE897.out | refine below_set ?_ GE914.out))⟩)
     ·skip
      rintro gb914 w15 ⟨hS_, h0_, h1_, h2_, h3_, h4_, h5_, h6_⟩
      replace BK897 : Aside0 (w15.heap[gb897]? = some (.cells #[.bool a2_0, .slice A2_1 l2_1.length c2_1, .slice A2_2 l2_2.length c2_2] 29 (0, 0))) := ⟨h0_⟩
      have BK914 : Aside0 (w15.heap[gb914]? = some (.cells #[.bool false, .slice none 0 0, .slice none 0 0] 29 (0, 0))) := ⟨h1_⟩
      have GW914 : Aside0 (w.heap.size ≤ gb914) := ⟨h2_⟩
      have GE914 : Aside0 (w.heap.size ≤ gb914) := ⟨h3_⟩
      have NB897_914 : Aside0 (gb897 ≠ gb914) := ⟨h4_⟩
      have NB914_897 : Aside0 (gb914 ≠ gb897) := ⟨h5_⟩
      replace HB : Aside0 (Below w.heap.size w w15) := ⟨h6_⟩
      clear h0_ h1_ h2_ h3_ h4_ h5_ h6_
      have hHeld : w15.cell? ⟨gb897, 0, none⟩ = some (.bool a2_0) ∧ w15.cell? ⟨gb897, 1, none⟩ = some (.slice A2_1 l2_1.length c2_1) ∧ w15.cell? ⟨gb897, 2, none⟩ = some (.slice A2_2 l2_2.length c2_2) := hS_
      refine norm_ (a' := ?_) ?_ ?_
      rotate_left
      ·simp only [putAll, Act.put, sA, sZ, sS]
       rfl
      refine one_ (i := 7) (N := some 17) (bv 11 767) rfl rfl (one_of HT_.out (by kernel_rfl)) (by decide) (fun K hK => ?_)
      refine goes_ Try.func33 (by kernel_rfl) rfl #[.int .i64 (wrap64 ((wrap64 (t898 + 1)) + t899))] (by rfl) rfl rfl (by go_simp <;> rfl) ?_
      with_reducible refine (examboardref37_whole.calls k (wrap64 ((wrap64 (t898 + 1)) + t899)) t900 t901 t904 _ A7.out).mono ?_
      rintro e w16 ⟨v902, v905, rfl, ho0, ho1, hb⟩
      refine ⟨_, rfl, ?_⟩
      have HO903 := mk0 (Kd.R_lower ho0 (below_size (by repeat (first | exact HB.out | apply pw_below_drewN | apply below_drew1 | apply below_alloc | refine below_set ?_ GE897.out | refine below_set ?_ GE914.out))))
      have HO906 := mk0 (Kd.R_lower ho1 (below_size (by repeat (first | exact HB.out | apply pw_below_drewN | apply below_drew1 | apply below_alloc | refine below_set ?_ GE897.out | refine below_set ?_ GE914.out))))
      replace BK897 := (by first | exact bkB BK897 hb | exact bkD BK897 hb)
      replace BK914 := (by first | exact bkB BK914 hb | exact bkD BK914 hb)
      replace HB := mk0 (below_step (by repeat (first | exact HB.out | apply pw_below_drewN | apply below_drew1 | apply below_alloc | refine below_set ?_ GE897.out | refine below_set ?_ GE914.out)) hb)
      refine hK.out _ _ ⟨(blk_cell BK897.out 0).trans rfl, (blk_cell BK897.out 1).trans rfl, (blk_cell BK897.out 2).trans rfl⟩ (fun hHeld => ?_)
      clear hK K
      refine norm_ (a' := ?_) ?_ ?_
      rotate_left
      ·show Act.put _ (some 17) _ = _
       simp only [Act.put, sA, sZ, sS, i64_w, i32_w]
       rfl
      exact norm_ (by first | (simp only [putAll, Act.put, sA, sZ, sS]; done) | (simp only [putAll, Act.put, sA, sZ, sS]; rfl)) (hJ2_5_7_9 (v902, v905, gb914) _ ⟨hHeld, (by (with_reducible repeat apply Kd.R_drewN); exact HO903.out), (by (with_reducible repeat apply Kd.R_drewN); exact HO906.out), (by (with_reducible repeat refine blk_drewN ?_ _); exact BK897.out), (by (with_reducible repeat refine blk_drewN ?_ _); exact BK914.out), GW914.out, GE914.out, NB897_914.out, NB914_897.out, (by repeat (first | exact HB.out | apply pw_below_drewN | apply below_drew1 | apply below_alloc | refine below_set ?_ GE897.out | refine below_set ?_ GE914.out))⟩)
    ·skip
     rintro ⟨v902, v905⟩ w15 ⟨hS_, h0_, h1_, h2_, h3_⟩
     have HO903 : Aside0 (Kd.R (Kd.int .u32) 87 w15 w.heap.size (fun k_ => some k_ ≠ (v905 : Value).ownBlock) v902 t901) := ⟨h0_⟩
     have HO906 : Aside0 (Kd.R (Kd.int .u32) 87 w15 w.heap.size (fun k_ => some k_ ≠ (v902 : Value).ownBlock) v905 t904) := ⟨h1_⟩
     replace BK897 : Aside0 (w15.heap[gb897]? = some (.cells #[.bool a2_0, .slice A2_1 l2_1.length c2_1, .slice A2_2 l2_2.length c2_2] 29 (0, 0))) := ⟨h2_⟩
     replace HB : Aside0 (Below w.heap.size w w15) := ⟨h3_⟩
     clear h0_ h1_ h2_ h3_
     have hHeld : w15.cell? ⟨gb897, 0, none⟩ = some (.bool a2_0) ∧ w15.cell? ⟨gb897, 1, none⟩ = some (.slice A2_1 l2_1.length c2_1) ∧ w15.cell? ⟨gb897, 2, none⟩ = some (.slice A2_2 l2_2.length c2_2) := hS_
     obtain ⟨Ao16, co16, eo16⟩ := Kd.R_slice HO903.out
     (first | subst eo16 | (injection eo16 with f1_ f2_ f3_; have f4_ := f1_.symm; have f5_ := f3_.symm; clear f1_ f2_ f3_; subst f4_; subst f5_))
     obtain ⟨Ao17, co17, eo17⟩ := Kd.R_slice HO906.out
     (first | subst eo17 | (injection eo17 with f1_ f2_ f3_; have f4_ := f1_.symm; have f5_ := f3_.symm; clear f1_ f2_ f3_; subst f4_; subst f5_))
     refine norm_ (a' := ?_) ?_ ?_
     rotate_left
     ·simp only [putAll, Act.put, sA, sZ, sS]
      rfl
     refine two_ (i := 8) (j := 9) (Ni := some 18) (Nj := some 9) (bv 11 511) (bv 11 767) rfl rfl rfl rfl (two_of HT_.out (by kernel_rfl)) (by decide) (by decide) (fun K hK => ?_) (fun K hK => ?_)
     ·skip
      refine goes_ Try.func32 (by kernel_rfl) rfl #[.agg #[.bool a2_0, .slice A2_1 l2_1.length c2_1, .slice A2_2 l2_2.length c2_2], .agg #[.bool t900, .slice Ao16 t901.length co16, .slice Ao17 t904.length co17]] (by rfl) rfl rfl (by go_simp <;> rfl) ?_
      with_reducible refine (examboardref03_Mul.calls k a2_0 _ _ l2_1 _ _ l2_2 t900 _ _ t901 _ _ t904 t907 t908 t911 _ ?side1 ?side2 ?side3 ?side4 ?side5 ?side6 ?side7 ?side8 A8.out).mono ?_
      (case side1 => repeat (first | exact (Kd.C_below HR2_1.out HB.out) | (with_reducible refine Kd.C_alloc ?_ _) | (with_reducible refine Kd.C_drewN ?_ _) | (with_reducible refine Kd.C_drew ?_)))
      (case side2 => exact HC2_1.out)
      (case side3 => repeat (first | exact (Kd.C_below HR2_2.out HB.out) | (with_reducible refine Kd.C_alloc ?_ _) | (with_reducible refine Kd.C_drewN ?_ _) | (with_reducible refine Kd.C_drew ?_)))
      (case side4 => exact HC2_2.out)
      (case side5 => repeat (first | exact (Kd.R_reads' HO903.out).2.2 | (with_reducible refine Kd.C_alloc ?_ _) | (with_reducible refine Kd.C_drewN ?_ _) | (with_reducible refine Kd.C_drew ?_)))
      (case side6 => exact (Kd.R_reads' HO903.out).2.1)
      (case side7 => repeat (first | exact (Kd.R_reads' HO906.out).2.2 | (with_reducible refine Kd.C_alloc ?_ _) | (with_reducible refine Kd.C_drewN ?_ _) | (with_reducible refine Kd.C_drew ?_)))
      (case side8 => exact (Kd.R_reads' HO906.out).2.1)
      rintro e w18 ⟨v909, v912, rfl, ho0, ho1, hb⟩
      refine ⟨_, rfl, ?_⟩
      have HO910 := mk0 (Kd.R_lower (Kd.R_new' (Kd.R_new' ho0 (Kd.R_lt (by (with_reducible repeat apply Kd.R_drewN); exact HO903.out))) (Kd.R_lt (by (with_reducible repeat apply Kd.R_drewN); exact HO906.out))) (below_size (by repeat (first | exact HB.out | apply pw_below_drewN | apply below_drew1 | apply below_alloc | refine below_set ?_ GE897.out))))
      have HO913 := mk0 (Kd.R_lower (Kd.R_new' (Kd.R_new' ho1 (Kd.R_lt (by (with_reducible repeat apply Kd.R_drewN); exact HO903.out))) (Kd.R_lt (by (with_reducible repeat apply Kd.R_drewN); exact HO906.out))) (below_size (by repeat (first | exact HB.out | apply pw_below_drewN | apply below_drew1 | apply below_alloc | refine below_set ?_ GE897.out))))
      replace HO903 := mk0 (Kd.R_mono (Kd.R_told (Kd.R_told (Kd.R_old (by (with_reducible repeat apply Kd.R_drewN); exact HO903.out) hb) (Kd.R_base ho0)) (Kd.R_base ho1)) (fun _ h_ => h_.1))
      replace HO906 := mk0 (Kd.R_mono (Kd.R_told (Kd.R_told (Kd.R_old (by (with_reducible repeat apply Kd.R_drewN); exact HO906.out) hb) (Kd.R_base ho0)) (Kd.R_base ho1)) (fun _ h_ => h_.1))
      replace BK897 := (by first | exact bkB BK897 hb | exact bkD BK897 hb)
      replace HB := mk0 (below_step (by repeat (first | exact HB.out | apply pw_below_drewN | apply below_drew1 | apply below_alloc | refine below_set ?_ GE897.out)) hb)
      refine hK.out _ _ ⟨(blk_cell BK897.out 0).trans rfl, (blk_cell BK897.out 1).trans rfl, (blk_cell BK897.out 2).trans rfl⟩ (fun hHeld => ?_)
      clear hK K
      refine norm_ (a' := ?_) ?_ ?_
      rotate_left
      ·show Act.put _ (some 18) _ = _
       simp only [Act.put, sA, sZ, sS, i64_w, i32_w]
       rfl
      exact norm_ (by first | (simp only [putAll, Act.put, sA, sZ, sS]; done) | (simp only [putAll, Act.put, sA, sZ, sS]; rfl)) (hJ2_5_7_8 (.slice Ao16 t901.length co16, .slice Ao17 t904.length co17, v909, v912) _ ⟨hHeld, (by (with_reducible repeat apply Kd.R_drewN); exact Kd.R_mono HO903.out (fun _ hk => ⟨hk.1.1, ⟨hk.1.2, hk.2⟩⟩)), (by (with_reducible repeat apply Kd.R_drewN); exact Kd.R_mono HO906.out (fun _ hk => ⟨hk.1.1, ⟨hk.1.2, hk.2⟩⟩)), (by (with_reducible repeat apply Kd.R_drewN); exact Kd.R_mono HO910.out (fun _ hk => ⟨hk.1.2, ⟨hk.2, hk.1.1⟩⟩)), (by (with_reducible repeat apply Kd.R_drewN); exact Kd.R_mono HO913.out (fun _ hk => ⟨hk.1.2, ⟨hk.2, hk.1.1⟩⟩)), (by (with_reducible repeat refine blk_drewN ?_ _); exact BK897.out), (by repeat (first | exact HB.out | apply pw_below_drewN | apply below_drew1 | apply below_alloc | refine below_set ?_ GE897.out))⟩)
     ·skip
      refine box_step ?hg (N := 9) ?hd (cs := #[.bool false, .slice none 0 0, .slice none 0 0]) (t := 29) ?hr ?_; (case hd => rfl); (case hg => rfl); (case hr => go_simp <;> rfl)
      intro gb914 hg w16 hbox hb
      replace HO903 := (by first | exact rB HO903 hb | exact rD HO903 hb)
      replace HO906 := (by first | exact rB HO906 hb | exact rD HO906 hb)
      have BK914 := mk0 (hbox)
      have GW914 := mk0 ((by rw [hg]; exact (below_size (by repeat (first | exact HB.out | apply pw_below_drewN | apply below_drew1 | apply below_alloc | refine below_set ?_ GE897.out))) : w.heap.size ≤ gb914))
      have GE914 := mk0 ((by rw [hg]; exact (below_size (by repeat (first | exact HB.out | apply pw_below_drewN | apply below_drew1 | apply below_alloc | refine below_set ?_ GE897.out))) : w.heap.size ≤ gb914))
      replace HB := mk0 (below_step (by repeat (first | exact HB.out | apply pw_below_drewN | apply below_drew1 | apply below_alloc | refine below_set ?_ GE897.out)) hb)
      have NB897_914 := nbA hg BK897
      have NB914_897 := nbB hg BK897
      replace BK897 := (by first | exact bkB BK897 hb | exact bkD BK897 hb)
      clear hb hbox hg
      refine hK.out _ _ ⟨(blk_cell BK897.out 0).trans rfl, (blk_cell BK897.out 1).trans rfl, (blk_cell BK897.out 2).trans rfl⟩ (fun hHeld => ?_)
      clear hK K
      refine norm_ (a' := ?_) ?_ ?_
      rotate_left
      ·show Act.put _ (some 9) _ = _
       simp only [Act.put, sA, sZ, sS, i64_w, i32_w]
       rfl
      exact norm_ (by first | (simp only [putAll, Act.put, sA, sZ, sS]; done) | (simp only [putAll, Act.put, sA, sZ, sS]; rfl)) (hJ2_5_7_9 (_, _, gb914) _ ⟨hHeld, (by (with_reducible repeat apply Kd.R_drewN); exact HO903.out), (by (with_reducible repeat apply Kd.R_drewN); exact HO906.out), (by (with_reducible repeat refine blk_drewN ?_ _); exact BK897.out), (by (with_reducible repeat refine blk_drewN ?_ _); exact BK914.out), GW914.out, GE914.out, NB897_914.out, NB914_897.out, (by repeat (first | exact HB.out | apply pw_below_drewN | apply below_drew1 | apply below_alloc | refine below_set ?_ GE897.out | refine below_set ?_ GE914.out))⟩)
   ·skip
    rintro ⟨v902, v905, gb914⟩ w16 ⟨hS_, h0_, h1_, h2_, h3_, h4_, h5_, h6_, h7_, h8_⟩
    have HO903 : Aside0 (Kd.R (Kd.int .u32) 87 w16 w.heap.size (fun k_ => some k_ ≠ (v905 : Value).ownBlock) v902 t901) := ⟨h0_⟩
    have HO906 : Aside0 (Kd.R (Kd.int .u32) 87 w16 w.heap.size (fun k_ => some k_ ≠ (v902 : Value).ownBlock) v905 t904) := ⟨h1_⟩
    replace BK897 : Aside0 (w16.heap[gb897]? = some (.cells #[.bool a2_0, .slice A2_1 l2_1.length c2_1, .slice A2_2 l2_2.length c2_2] 29 (0, 0))) := ⟨h2_⟩
    have BK914 : Aside0 (w16.heap[gb914]? = some (.cells #[.bool false, .slice none 0 0, .slice none 0 0] 29 (0, 0))) := ⟨h3_⟩
    have GW914 : Aside0 (w.heap.size ≤ gb914) := ⟨h4_⟩
    have GE914 : Aside0 (w.heap.size ≤ gb914) := ⟨h5_⟩
    have NB897_914 : Aside0 (gb897 ≠ gb914) := ⟨h6_⟩
    have NB914_897 : Aside0 (gb914 ≠ gb897) := ⟨h7_⟩
    replace HB : Aside0 (Below w.heap.size w w16) := ⟨h8_⟩
    clear h0_ h1_ h2_ h3_ h4_ h5_ h6_ h7_ h8_
    have hHeld : w16.cell? ⟨gb897, 0, none⟩ = some (.bool a2_0) ∧ w16.cell? ⟨gb897, 1, none⟩ = some (.slice A2_1 l2_1.length c2_1) ∧ w16.cell? ⟨gb897, 2, none⟩ = some (.slice A2_2 l2_2.length c2_2) := hS_
    obtain ⟨Ao17, co17, eo17⟩ := Kd.R_slice HO903.out
    (first | subst eo17 | (injection eo17 with f1_ f2_ f3_; have f4_ := f1_.symm; have f5_ := f3_.symm; clear f1_ f2_ f3_; subst f4_; subst f5_))
    obtain ⟨Ao18, co18, eo18⟩ := Kd.R_slice HO906.out
    (first | subst eo18 | (injection eo18 with f1_ f2_ f3_; have f4_ := f1_.symm; have f5_ := f3_.symm; clear f1_ f2_ f3_; subst f4_; subst f5_))
    refine norm_ (a' := ?_) ?_ ?_
    rotate_left
    ·simp only [putAll, Act.put, sA, sZ, sS]
     rfl
    refine one_ (i := 8) (N := some 18) (bv 11 1023) rfl rfl (one_of HT_.out (by kernel_rfl)) (by decide) (fun K hK => ?_)
    refine goes_ Try.func32 (by kernel_rfl) rfl #[.agg #[.bool a2_0, .slice A2_1 l2_1.length c2_1, .slice A2_2 l2_2.length c2_2], .agg #[.bool t900, .slice Ao17 t901.length co17, .slice Ao18 t904.length co18]] (by rfl) rfl rfl (by go_simp <;> rfl) ?_
    with_reducible refine (examboardref03_Mul.calls k a2_0 _ _ l2_1 _ _ l2_2 t900 _ _ t901 _ _ t904 t907 t908 t911 _ ?side1 ?side2 ?side3 ?side4 ?side5 ?side6 ?side7 ?side8 A8.out).mono ?_
    (case side1 => repeat (first | exact (Kd.C_below HR2_1.out HB.out) | (with_reducible refine Kd.C_alloc ?_ _) | (with_reducible refine Kd.C_drewN ?_ _) | (with_reducible refine Kd.C_drew ?_)))
    (case side2 => exact HC2_1.out)
    (case side3 => repeat (first | exact (Kd.C_below HR2_2.out HB.out) | (with_reducible refine Kd.C_alloc ?_ _) | (with_reducible refine Kd.C_drewN ?_ _) | (with_reducible refine Kd.C_drew ?_)))
    (case side4 => exact HC2_2.out)
    (case side5 => repeat (first | exact (Kd.R_reads' HO903.out).2.2 | (with_reducible refine Kd.C_alloc ?_ _) | (with_reducible refine Kd.C_drewN ?_ _) | (with_reducible refine Kd.C_drew ?_)))
    (case side6 => exact (Kd.R_reads' HO903.out).2.1)
    (case side7 => repeat (first | exact (Kd.R_reads' HO906.out).2.2 | (with_reducible refine Kd.C_alloc ?_ _) | (with_reducible refine Kd.C_drewN ?_ _) | (with_reducible refine Kd.C_drew ?_)))
    (case side8 => exact (Kd.R_reads' HO906.out).2.1)
    rintro e w19 ⟨v909, v912, rfl, ho0, ho1, hb⟩
    refine ⟨_, rfl, ?_⟩
    have HO910 := mk0 (Kd.R_lower (Kd.R_new' (Kd.R_new' ho0 (Kd.R_lt (by (with_reducible repeat apply Kd.R_drewN); exact HO903.out))) (Kd.R_lt (by (with_reducible repeat apply Kd.R_drewN); exact HO906.out))) (below_size (by repeat (first | exact HB.out | apply pw_below_drewN | apply below_drew1 | apply below_alloc | refine below_set ?_ GE897.out | refine below_set ?_ GE914.out))))
    have HO913 := mk0 (Kd.R_lower (Kd.R_new' (Kd.R_new' ho1 (Kd.R_lt (by (with_reducible repeat apply Kd.R_drewN); exact HO903.out))) (Kd.R_lt (by (with_reducible repeat apply Kd.R_drewN); exact HO906.out))) (below_size (by repeat (first | exact HB.out | apply pw_below_drewN | apply below_drew1 | apply below_alloc | refine below_set ?_ GE897.out | refine below_set ?_ GE914.out))))
    replace HO903 := mk0 (Kd.R_mono (Kd.R_told (Kd.R_told (Kd.R_old (by (with_reducible repeat apply Kd.R_drewN); exact HO903.out) hb) (Kd.R_base ho0)) (Kd.R_base ho1)) (fun _ h_ => h_.1))
    replace HO906 := mk0 (Kd.R_mono (Kd.R_told (Kd.R_told (Kd.R_old (by (with_reducible repeat apply Kd.R_drewN); exact HO906.out) hb) (Kd.R_base ho0)) (Kd.R_base ho1)) (fun _ h_ => h_.1))
    replace BK897 := (by first | exact bkB BK897 hb | exact bkD BK897 hb)
    replace BK914 := (by first | exact bkB BK914 hb | exact bkD BK914 hb)
    replace HB := mk0 (below_step (by repeat (first | exact HB.out | apply pw_below_drewN | apply below_drew1 | apply below_alloc | refine below_set ?_ GE897.out | refine below_set ?_ GE914.out)) hb)
    refine hK.out _ _ ⟨(blk_cell BK897.out 0).trans rfl, (blk_cell BK897.out 1).trans rfl, (blk_cell BK897.out 2).trans rfl⟩ (fun hHeld => ?_)
    clear hK K
    refine norm_ (a' := ?_) ?_ ?_
    rotate_left
    ·show Act.put _ (some 18) _ = _
     simp only [Act.put, sA, sZ, sS, i64_w, i32_w]
     rfl
    exact norm_ (by first | (simp only [putAll, Act.put, sA, sZ, sS]; done) | (simp only [putAll, Act.put, sA, sZ, sS]; rfl)) (hJ2_5_7_8_9 (.slice Ao17 t901.length co17, .slice Ao18 t904.length co18, v909, v912, gb914) _ ⟨hHeld, (by (with_reducible repeat apply Kd.R_drewN); exact Kd.R_mono HO903.out (fun _ hk => ⟨hk.1.1, ⟨hk.1.2, hk.2⟩⟩)), (by (with_reducible repeat apply Kd.R_drewN); exact Kd.R_mono HO906.out (fun _ hk => ⟨hk.1.1, ⟨hk.1.2, hk.2⟩⟩)), (by (with_reducible repeat apply Kd.R_drewN); exact Kd.R_mono HO910.out (fun _ hk => ⟨hk.1.2, ⟨hk.2, hk.1.1⟩⟩)), (by (with_reducible repeat apply Kd.R_drewN); exact Kd.R_mono HO913.out (fun _ hk => ⟨hk.1.2, ⟨hk.2, hk.1.1⟩⟩)), (by (with_reducible repeat refine blk_drewN ?_ _); exact BK897.out), (by (with_reducible repeat refine blk_drewN ?_ _); exact BK914.out), GW914.out, GE914.out, NB897_914.out, NB914_897.out, (by repeat (first | exact HB.out | apply pw_below_drewN | apply below_drew1 | apply below_alloc | refine below_set ?_ GE897.out | refine below_set ?_ GE914.out))⟩)
  ·skip
   rintro ⟨v902, v905, v909, v912⟩ w18 ⟨hS_, h0_, h1_, h2_, h3_, h4_, h5_⟩
   have HO903 : Aside0 (Kd.R (Kd.int .u32) 87 w18 w.heap.size (fun k_ => some k_ ≠ (v905 : Value).ownBlock ∧ some k_ ≠ (v909 : Value).ownBlock ∧ some k_ ≠ (v912 : Value).ownBlock) v902 t901) := ⟨h0_⟩
   have HO906 : Aside0 (Kd.R (Kd.int .u32) 87 w18 w.heap.size (fun k_ => some k_ ≠ (v902 : Value).ownBlock ∧ some k_ ≠ (v909 : Value).ownBlock ∧ some k_ ≠ (v912 : Value).ownBlock) v905 t904) := ⟨h1_⟩
   have HO910 : Aside0 (Kd.R (Kd.int .u32) 87 w18 w.heap.size (fun k_ => some k_ ≠ (v902 : Value).ownBlock ∧ some k_ ≠ (v905 : Value).ownBlock ∧ some k_ ≠ (v912 : Value).ownBlock) v909 t908) := ⟨h2_⟩
   have HO913 : Aside0 (Kd.R (Kd.int .u32) 87 w18 w.heap.size (fun k_ => some k_ ≠ (v902 : Value).ownBlock ∧ some k_ ≠ (v905 : Value).ownBlock ∧ some k_ ≠ (v909 : Value).ownBlock) v912 t911) := ⟨h3_⟩
   replace BK897 : Aside0 (w18.heap[gb897]? = some (.cells #[.bool a2_0, .slice A2_1 l2_1.length c2_1, .slice A2_2 l2_2.length c2_2] 29 (0, 0))) := ⟨h4_⟩
   replace HB : Aside0 (Below w.heap.size w w18) := ⟨h5_⟩
   clear h0_ h1_ h2_ h3_ h4_ h5_
   have hHeld : w18.cell? ⟨gb897, 0, none⟩ = some (.bool a2_0) ∧ w18.cell? ⟨gb897, 1, none⟩ = some (.slice A2_1 l2_1.length c2_1) ∧ w18.cell? ⟨gb897, 2, none⟩ = some (.slice A2_2 l2_2.length c2_2) := hS_
   refine norm_ (a' := ?_) ?_ ?_
   rotate_left
   ·simp only [putAll, Act.put, sA, sZ, sS]
    rfl
   refine one_ (i := 9) (N := some 9) (bv 11 1023) rfl rfl (one_of HT_.out (by kernel_rfl)) (by decide) (fun K hK => ?_)
   refine box_step ?hg (N := 9) ?hd (cs := #[.bool false, .slice none 0 0, .slice none 0 0]) (t := 29) ?hr ?_; (case hd => rfl); (case hg => rfl); (case hr => go_simp <;> rfl)
   intro gb914 hg w19 hbox hb
   replace HO903 := (by first | exact rB HO903 hb | exact rD HO903 hb)
   replace HO906 := (by first | exact rB HO906 hb | exact rD HO906 hb)
   replace HO910 := (by first | exact rB HO910 hb | exact rD HO910 hb)
   replace HO913 := (by first | exact rB HO913 hb | exact rD HO913 hb)
   have BK914 := mk0 (hbox)
   have GW914 := mk0 ((by rw [hg]; exact (below_size (by repeat (first | exact HB.out | apply pw_below_drewN | apply below_drew1 | apply below_alloc | refine below_set ?_ GE897.out))) : w.heap.size ≤ gb914))
   have GE914 := mk0 ((by rw [hg]; exact (below_size (by repeat (first | exact HB.out | apply pw_below_drewN | apply below_drew1 | apply below_alloc | refine below_set ?_ GE897.out))) : w.heap.size ≤ gb914))
   replace HB := mk0 (below_step (by repeat (first | exact HB.out | apply pw_below_drewN | apply below_drew1 | apply below_alloc | refine below_set ?_ GE897.out)) hb)
   have NB897_914 := nbA hg BK897
   have NB914_897 := nbB hg BK897
   replace BK897 := (by first | exact bkB BK897 hb | exact bkD BK897 hb)
   clear hb hbox hg
   refine hK.out _ _ ⟨(blk_cell BK897.out 0).trans rfl, (blk_cell BK897.out 1).trans rfl, (blk_cell BK897.out 2).trans rfl⟩ (fun hHeld => ?_)
   clear hK K
   refine norm_ (a' := ?_) ?_ ?_
   rotate_left
   ·show Act.put _ (some 9) _ = _
    simp only [Act.put, sA, sZ, sS, i64_w, i32_w]
    rfl
   exact norm_ (by first | (simp only [putAll, Act.put, sA, sZ, sS]; done) | (simp only [putAll, Act.put, sA, sZ, sS]; rfl)) (hJ2_5_7_8_9 (v902, v905, v909, v912, gb914) _ ⟨hHeld, (by (with_reducible repeat apply Kd.R_drewN); exact HO903.out), (by (with_reducible repeat apply Kd.R_drewN); exact HO906.out), (by (with_reducible repeat apply Kd.R_drewN); exact HO910.out), (by (with_reducible repeat apply Kd.R_drewN); exact HO913.out), (by (with_reducible repeat refine blk_drewN ?_ _); exact BK897.out), (by (with_reducible repeat refine blk_drewN ?_ _); exact BK914.out), GW914.out, GE914.out, NB897_914.out, NB914_897.out, (by repeat (first | exact HB.out | apply pw_below_drewN | apply below_drew1 | apply below_alloc | refine below_set ?_ GE897.out | refine below_set ?_ GE914.out))⟩)
 rintro ⟨v902, v905, v909, v912, gb914⟩ w19 ⟨hS_, h0_, h1_, h2_, h3_, h4_, h5_, h6_, h7_, h8_, h9_, h10_⟩
 have HO903 : Aside0 (Kd.R (Kd.int .u32) 87 w19 w.heap.size (fun k_ => some k_ ≠ (v905 : Value).ownBlock ∧ some k_ ≠ (v909 : Value).ownBlock ∧ some k_ ≠ (v912 : Value).ownBlock) v902 t901) := ⟨h0_⟩
 have HO906 : Aside0 (Kd.R (Kd.int .u32) 87 w19 w.heap.size (fun k_ => some k_ ≠ (v902 : Value).ownBlock ∧ some k_ ≠ (v909 : Value).ownBlock ∧ some k_ ≠ (v912 : Value).ownBlock) v905 t904) := ⟨h1_⟩
 have HO910 : Aside0 (Kd.R (Kd.int .u32) 87 w19 w.heap.size (fun k_ => some k_ ≠ (v902 : Value).ownBlock ∧ some k_ ≠ (v905 : Value).ownBlock ∧ some k_ ≠ (v912 : Value).ownBlock) v909 t908) := ⟨h2_⟩
 have HO913 : Aside0 (Kd.R (Kd.int .u32) 87 w19 w.heap.size (fun k_ => some k_ ≠ (v902 : Value).ownBlock ∧ some k_ ≠ (v905 : Value).ownBlock ∧ some k_ ≠ (v909 : Value).ownBlock) v912 t911) := ⟨h3_⟩
 replace BK897 : Aside0 (w19.heap[gb897]? = some (.cells #[.bool a2_0, .slice A2_1 l2_1.length c2_1, .slice A2_2 l2_2.length c2_2] 29 (0, 0))) := ⟨h4_⟩
 have BK914 : Aside0 (w19.heap[gb914]? = some (.cells #[.bool false, .slice none 0 0, .slice none 0 0] 29 (0, 0))) := ⟨h5_⟩
 have GW914 : Aside0 (w.heap.size ≤ gb914) := ⟨h6_⟩
 have GE914 : Aside0 (w.heap.size ≤ gb914) := ⟨h7_⟩
 have NB897_914 : Aside0 (gb897 ≠ gb914) := ⟨h8_⟩
 have NB914_897 : Aside0 (gb914 ≠ gb897) := ⟨h9_⟩
 replace HB : Aside0 (Below w.heap.size w w19) := ⟨h10_⟩
 clear h0_ h1_ h2_ h3_ h4_ h5_ h6_ h7_ h8_ h9_ h10_
 have hHeld : w19.cell? ⟨gb897, 0, none⟩ = some (.bool a2_0) ∧ w19.cell? ⟨gb897, 1, none⟩ = some (.slice A2_1 l2_1.length c2_1) ∧ w19.cell? ⟨gb897, 2, none⟩ = some (.slice A2_2 l2_2.length c2_2) := hS_
 obtain ⟨Ao21, co21, eo21⟩ := Kd.R_slice HO910.out
 (first | subst eo21 | (injection eo21 with f1_ f2_ f3_; have f4_ := f1_.symm; have f5_ := f3_.symm; clear f1_ f2_ f3_; subst f4_; subst f5_))
 obtain ⟨Ao23, co23, eo23⟩ := Kd.R_slice HO913.out
 (first | subst eo23 | (injection eo23 with f1_ f2_ f3_; have f4_ := f1_.symm; have f5_ := f3_.symm; clear f1_ f2_ f3_; subst f4_; subst f5_))
 refine norm_ (a' := ?_) ?_ ?_
 rotate_left
 ·simp only [putAll, Act.put, sA, sZ, sS]
  rfl
 refine one_ (i := 10) (N := none) (bv 11 2047) rfl rfl (one_of HT_.out (by kernel_rfl)) (by decide) (fun K hK => ?_)
 have hs20 : w19.cell? ⟨gb914, 0, none⟩ = some (.bool false) := (blk_cell BK914.out 0).trans rfl
 have hfs20 := blk_frozen BK914.out 0
 have hns20_0 := NB897_914.out
 have hms20_0 := NB914_897.out
 have hs22 : w19.cell? ⟨gb914, 1, none⟩ = some (.slice none 0 0) := (blk_cell BK914.out 1).trans rfl
 have hfs22 := blk_frozen BK914.out 1
 have hns22_0 := NB897_914.out
 have hms22_0 := NB914_897.out
 have hs24 : w19.cell? ⟨gb914, 2, none⟩ = some (.slice none 0 0) := (blk_cell BK914.out 2).trans rfl
 have hfs24 := blk_frozen BK914.out 2
 have hns24_0 := NB897_914.out
 have hms24_0 := NB914_897.out
 refine skip_ (w1 := ?_) (by rfl) rfl ?_ ?_
 rotate_left
 ·go_simp
  rfl
 refine hK.out _ _ ⟨((cell_far (p := ⟨gb914, _, none⟩) NB897_914.out _).trans (((cell_far (p := ⟨gb914, _, none⟩) NB897_914.out _).trans (((cell_far (p := ⟨gb914, _, none⟩) NB897_914.out _).trans (hHeld.1)))))), ((cell_far (p := ⟨gb914, _, none⟩) NB897_914.out _).trans (((cell_far (p := ⟨gb914, _, none⟩) NB897_914.out _).trans (((cell_far (p := ⟨gb914, _, none⟩) NB897_914.out _).trans (hHeld.2.1)))))), ((cell_far (p := ⟨gb914, _, none⟩) NB897_914.out _).trans (((cell_far (p := ⟨gb914, _, none⟩) NB897_914.out _).trans (((cell_far (p := ⟨gb914, _, none⟩) NB897_914.out _).trans (hHeld.2.2))))))⟩ (fun hHeld => ?_)
 clear hK K
 refine done_ (done_of HT_.out (by kernel_rfl)) ?_
 try go_wp2
 have n0_ : Aside0 (Kd.R (Kd.int .u32) 87 (((w19.setCell ⟨gb914, 0, none⟩ (.bool t907)).setCell ⟨gb914, 1, none⟩ (.slice Ao21 t908.length co21)).setCell ⟨gb914, 2, none⟩ (.slice Ao23 t911.length co23)) w.heap.size (fun k_ => some k_ ≠ (v905 : Value).ownBlock ∧ some k_ ≠ (.slice Ao21 t908.length co21 : Value).ownBlock ∧ some k_ ≠ (.slice Ao23 t911.length co23 : Value).ownBlock) v902 t901) := ⟨by (with_reducible repeat apply Kd.R_drewN); exact Kd.R_mono (Kd.R_far (p := ⟨gb914, 2, none⟩) (Kd.R_far (p := ⟨gb914, 1, none⟩) (Kd.R_far (p := ⟨gb914, 0, none⟩) (Kd.R_types HO903.out BK914.out (by decide)) (fun _ hk => hk.2) (.bool t907)) (fun _ hk => hk.2) (.slice Ao21 t908.length co21)) (fun _ hk => hk.2) (.slice Ao23 t911.length co23)) (fun _ hk => ⟨hk.1.1, ⟨hk.1.2.1, hk.1.2.2⟩⟩)⟩
 have n1_ : Aside0 (Kd.R (Kd.int .u32) 87 (((w19.setCell ⟨gb914, 0, none⟩ (.bool t907)).setCell ⟨gb914, 1, none⟩ (.slice Ao21 t908.length co21)).setCell ⟨gb914, 2, none⟩ (.slice Ao23 t911.length co23)) w.heap.size (fun k_ => some k_ ≠ (v902 : Value).ownBlock ∧ some k_ ≠ (.slice Ao21 t908.length co21 : Value).ownBlock ∧ some k_ ≠ (.slice Ao23 t911.length co23 : Value).ownBlock) v905 t904) := ⟨by (with_reducible repeat apply Kd.R_drewN); exact Kd.R_mono (Kd.R_far (p := ⟨gb914, 2, none⟩) (Kd.R_far (p := ⟨gb914, 1, none⟩) (Kd.R_far (p := ⟨gb914, 0, none⟩) (Kd.R_types HO906.out BK914.out (by decide)) (fun _ hk => hk.2) (.bool t907)) (fun _ hk => hk.2) (.slice Ao21 t908.length co21)) (fun _ hk => hk.2) (.slice Ao23 t911.length co23)) (fun _ hk => ⟨hk.1.1, ⟨hk.1.2.1, hk.1.2.2⟩⟩)⟩
 have n2_ : Aside0 (Kd.R (Kd.int .u32) 87 (((w19.setCell ⟨gb914, 0, none⟩ (.bool t907)).setCell ⟨gb914, 1, none⟩ (.slice Ao21 t908.length co21)).setCell ⟨gb914, 2, none⟩ (.slice Ao23 t911.length co23)) w.heap.size (fun k_ => some k_ ≠ (v902 : Value).ownBlock ∧ some k_ ≠ (v905 : Value).ownBlock ∧ some k_ ≠ (.slice Ao23 t911.length co23 : Value).ownBlock) (.slice Ao21 t908.length co21) t908) := ⟨by (with_reducible repeat apply Kd.R_drewN); exact Kd.R_mono (Kd.R_far (p := ⟨gb914, 2, none⟩) (Kd.R_far (p := ⟨gb914, 1, none⟩) (Kd.R_far (p := ⟨gb914, 0, none⟩) (Kd.R_types HO910.out BK914.out (by decide)) (fun _ hk => hk.2) (.bool t907)) (fun _ hk => hk.2) (.slice Ao21 t908.length co21)) (fun _ hk => hk.2) (.slice Ao23 t911.length co23)) (fun _ hk => ⟨hk.1.1, ⟨hk.1.2.1, hk.1.2.2⟩⟩)⟩
 have n3_ : Aside0 (Kd.R (Kd.int .u32) 87 (((w19.setCell ⟨gb914, 0, none⟩ (.bool t907)).setCell ⟨gb914, 1, none⟩ (.slice Ao21 t908.length co21)).setCell ⟨gb914, 2, none⟩ (.slice Ao23 t911.length co23)) w.heap.size (fun k_ => some k_ ≠ (v902 : Value).ownBlock ∧ some k_ ≠ (v905 : Value).ownBlock ∧ some k_ ≠ (.slice Ao21 t908.length co21 : Value).ownBlock) (.slice Ao23 t911.length co23) t911) := ⟨by (with_reducible repeat apply Kd.R_drewN); exact Kd.R_mono (Kd.R_far (p := ⟨gb914, 2, none⟩) (Kd.R_far (p := ⟨gb914, 1, none⟩) (Kd.R_far (p := ⟨gb914, 0, none⟩) (Kd.R_types HO913.out BK914.out (by decide)) (fun _ hk => hk.2) (.bool t907)) (fun _ hk => hk.2) (.slice Ao21 t908.length co21)) (fun _ hk => hk.2) (.slice Ao23 t911.length co23)) (fun _ hk => ⟨hk.1.1, ⟨hk.1.2.1, hk.1.2.2⟩⟩)⟩
 have n4_ : Aside0 ((((w19.setCell ⟨gb914, 0, none⟩ (.bool t907)).setCell ⟨gb914, 1, none⟩ (.slice Ao21 t908.length co21)).setCell ⟨gb914, 2, none⟩ (.slice Ao23 t911.length co23)).heap[gb897]? = some (.cells #[.bool a2_0, .slice A2_1 l2_1.length c2_1, .slice A2_2 l2_2.length c2_2] 29 (0, 0))) := ⟨by (with_reducible repeat refine blk_drewN ?_ _); refine blk_far ?_ NB897_914.out _; (with_reducible repeat refine blk_drewN ?_ _); refine blk_far ?_ NB897_914.out _; (with_reducible repeat refine blk_drewN ?_ _); refine blk_far ?_ NB897_914.out _; (with_reducible repeat refine blk_drewN ?_ _); exact BK897.out⟩
 have n5_ : Aside0 ((((w19.setCell ⟨gb914, 0, none⟩ (.bool t907)).setCell ⟨gb914, 1, none⟩ (.slice Ao21 t908.length co21)).setCell ⟨gb914, 2, none⟩ (.slice Ao23 t911.length co23)).heap[gb914]? = some (.cells #[.bool t907, .slice Ao21 t908.length co21, .slice Ao23 t911.length co23] 29 (0, 0))) := ⟨by (with_reducible repeat refine blk_drewN ?_ _); refine blk_put (cs := #[.bool t907, .slice Ao21 t908.length co21, .slice none 0 0]) ?_ 2 _ rfl; (with_reducible repeat refine blk_drewN ?_ _); refine blk_put (cs := #[.bool t907, .slice none 0 0, .slice none 0 0]) ?_ 1 _ rfl; (with_reducible repeat refine blk_drewN ?_ _); refine blk_put (cs := #[.bool false, .slice none 0 0, .slice none 0 0]) ?_ 0 _ rfl; (with_reducible repeat refine blk_drewN ?_ _); exact BK914.out⟩
 have n6_ : Aside0 (Below w.heap.size w (((w19.setCell ⟨gb914, 0, none⟩ (.bool t907)).setCell ⟨gb914, 1, none⟩ (.slice Ao21 t908.length co21)).setCell ⟨gb914, 2, none⟩ (.slice Ao23 t911.length co23))) := ⟨by repeat (first | exact HB.out | apply pw_below_drewN | apply below_drew1 | apply below_alloc | refine below_set ?_ GE897.out | refine below_set ?_ GE914.out)⟩
 (try clear HO903)
 (try clear HO906)
 (try clear HO910)
 (try clear HO913)
 (try clear BK897)
 (try clear BK914)
 (try clear HB)
 generalize (((w19.setCell ⟨gb914, 0, none⟩ (.bool t907)).setCell ⟨gb914, 1, none⟩ (.slice Ao21 t908.length co21)).setCell ⟨gb914, 2, none⟩ (.slice Ao23 t911.length co23)) = w25 at n0_ n1_ n2_ n3_ n4_ n5_ n6_ ⊢
 have HO903 := n0_
 have HO906 := n1_
 have HO910 := n2_
 have HO913 := n3_
 have BK897 := n4_
 have BK914 := n5_
 have HB := n6_
 clear n0_ n1_ n2_ n3_ n4_ n5_ n6_
 replace HO903 := mk0 (Kd.R_drew HO903.out)
 replace HO906 := mk0 (Kd.R_drew HO906.out)
 replace HO910 := mk0 (Kd.R_drew HO910.out)
 replace HO913 := mk0 (Kd.R_drew HO913.out)
 replace BK897 := mk0 (blk_drew BK897.out)
 replace BK914 := mk0 (blk_drew BK914.out)
 replace HB := mk0 (below_drew1 HB.out)
 refine start_ (n := 8) (S := fun w' => w'.cell? ⟨gb914, 0, none⟩ = some (.bool t907) ∧ w'.cell? ⟨gb914, 1, none⟩ = some (.slice Ao21 t908.length co21) ∧ w'.cell? ⟨gb914, 2, none⟩ = some (.slice Ao23 t911.length co23)) (ds := []) (bv 8 0) (by kernel_rfl) rfl rfl ⟨(blk_cell BK914.out 0).trans rfl, (blk_cell BK914.out 1).trans rfl, (blk_cell BK914.out 2).trans rfl⟩ (fun hHeld => ?_); refine with_tabW examboardref37_Eligible.tab2 examboardref37_Eligible.bits2 (fun HT_ HW_ => ?_)
 generalize w25.drew = w26 at HO903 HO906 HO910 HO913 BK897 BK914 HB hHeld ⊢
 refine puA (i := 0) (N := 19) (v := ?_) (a' := ?_) (bv 8 1) HT_ ?_ ?_ ?_; rotate_left; (intro w'; go_simp; with_reducible rfl); rotate_left; (simp only [Act.put, sA, sZ, sS, i64_w, i32_w]; rfl)
 refine take_ (i := 4) (N := some 23) (v := ?_) (a' := ?_) (bv 8 17) rfl rfl (take_ofW HT_.out HW_.out (by kernel_rfl)) (fun _ _ _ h => h) (Or.inl ⟨by rfl, ?_⟩) hHeld ?_ ?_; rotate_left; (rintro w' ⟨s0, s1, s2⟩; go_simp; with_reducible rfl); rotate_left; (simp only [Act.put, sA, sZ, sS, i64_w, i32_w]; rfl)
 refine one_ (i := 1) (N := some 20) (bv 8 19) rfl rfl (one_of HT_.out (by kernel_rfl)) (by decide) (fun K hK => ?_)
 refine goes_ Try.func34 (by kernel_rfl) rfl #[.int .i64 a0] (by rfl) rfl rfl (by go_simp <;> rfl) ?_
 with_reducible refine (examboardref37_limited.calls a0 t915 _ A9.out).mono ?_
 rintro e w' ⟨rfl, ⟨nd, rfl⟩⟩
 refine ⟨_, rfl, ?_⟩
 refine hK.out _ _ ⟨(blk_cell BK914.out 0).trans rfl, (blk_cell BK914.out 1).trans rfl, (blk_cell BK914.out 2).trans rfl⟩ (fun hHeld => ?_)
 clear hK K
 refine norm_ (a' := ?_) ?_ ?_
 rotate_left
 ·show Act.put _ (some 20) _ = _
  simp only [Act.put, sA, sZ, sS, i64_w, i32_w]
  rfl
 refine puA (i := 2) (N := 21) (v := ?_) (a' := ?_) (bv 8 23) HT_ ?_ ?_ ?_; rotate_left; (intro w'; go_simp; with_reducible rfl); rotate_left; (simp only [Act.put, sA, sZ, sS, i64_w, i32_w]; rfl)
 refine one_ (i := 3) (N := some 22) (bv 8 31) rfl rfl (one_of HT_.out (by kernel_rfl)) (by decide) (fun K hK => ?_)
 refine goes_ Try.func33 (by kernel_rfl) rfl #[.int .i64 (wrap64 (t915 + 1))] (by rfl) rfl rfl (by go_simp <;> rfl) ?_
 with_reducible refine (examboardref37_whole.calls k (wrap64 (t915 + 1)) t916 t917 t920 _ A10.out).mono ?_
 rintro e w27 ⟨v918, v921, rfl, ho0, ho1, hb⟩
 refine ⟨_, rfl, ?_⟩
 have HO919 := mk0 (Kd.R_lower (Kd.R_new' (Kd.R_new' (Kd.R_new' (Kd.R_new' ho0 (Kd.R_lt (by (with_reducible repeat apply Kd.R_drewN); exact HO903.out))) (Kd.R_lt (by (with_reducible repeat apply Kd.R_drewN); exact HO906.out))) (Kd.R_lt (by (with_reducible repeat apply Kd.R_drewN); exact HO910.out))) (Kd.R_lt (by (with_reducible repeat apply Kd.R_drewN); exact HO913.out))) (below_size (by repeat (first | exact HB.out | apply pw_below_drewN | apply below_drew1 | apply below_alloc | refine below_set ?_ GE897.out | refine below_set ?_ GE914.out))))
 have HO922 := mk0 (Kd.R_lower (Kd.R_new' (Kd.R_new' (Kd.R_new' (Kd.R_new' ho1 (Kd.R_lt (by (with_reducible repeat apply Kd.R_drewN); exact HO903.out))) (Kd.R_lt (by (with_reducible repeat apply Kd.R_drewN); exact HO906.out))) (Kd.R_lt (by (with_reducible repeat apply Kd.R_drewN); exact HO910.out))) (Kd.R_lt (by (with_reducible repeat apply Kd.R_drewN); exact HO913.out))) (below_size (by repeat (first | exact HB.out | apply pw_below_drewN | apply below_drew1 | apply below_alloc | refine below_set ?_ GE897.out | refine below_set ?_ GE914.out))))
 replace HO903 := mk0 (Kd.R_mono (Kd.R_told (Kd.R_told (Kd.R_old (by (with_reducible repeat apply Kd.R_drewN); exact HO903.out) hb) (Kd.R_base ho0)) (Kd.R_base ho1)) (fun _ h_ => h_.1))
 replace HO906 := mk0 (Kd.R_mono (Kd.R_told (Kd.R_told (Kd.R_old (by (with_reducible repeat apply Kd.R_drewN); exact HO906.out) hb) (Kd.R_base ho0)) (Kd.R_base ho1)) (fun _ h_ => h_.1))
 replace HO910 := mk0 (Kd.R_mono (Kd.R_told (Kd.R_told (Kd.R_old (by (with_reducible repeat apply Kd.R_drewN); exact HO910.out) hb) (Kd.R_base ho0)) (Kd.R_base ho1)) (fun _ h_ => h_.1))
 replace HO913 := mk0 (Kd.R_mono (Kd.R_told (Kd.R_told (Kd.R_old (by (with_reducible repeat apply Kd.R_drewN); exact HO913.out) hb) (Kd.R_base ho0)) (Kd.R_base ho1)) (fun _ h_ => h_.1))
 replace BK897 := (by first | exact bkB BK897 hb | exact bkD BK897 hb)
 replace BK914 := (by first | exact bkB BK914 hb | exact bkD BK914 hb)
 replace HB := mk0 (below_step (by repeat (first | exact HB.out | apply pw_below_drewN | apply below_drew1 | apply below_alloc | refine below_set ?_ GE897.out | refine below_set ?_ GE914.out)) hb)
 obtain ⟨Ao28, co28, eo28⟩ := Kd.R_slice HO919.out
 (first | subst eo28 | (injection eo28 with f1_ f2_ f3_; have f4_ := f1_.symm; have f5_ := f3_.symm; clear f1_ f2_ f3_; subst f4_; subst f5_))
 obtain ⟨Ao29, co29, eo29⟩ := Kd.R_slice HO922.out
 (first | subst eo29 | (injection eo29 with f1_ f2_ f3_; have f4_ := f1_.symm; have f5_ := f3_.symm; clear f1_ f2_ f3_; subst f4_; subst f5_))
 refine hK.out _ _ ⟨(blk_cell BK914.out 0).trans rfl, (blk_cell BK914.out 1).trans rfl, (blk_cell BK914.out 2).trans rfl⟩ (fun hHeld => ?_)
 clear hK K
 refine norm_ (a' := ?_) ?_ ?_
 rotate_left
 ·show Act.put _ (some 22) _ = _
  simp only [Act.put, sA, sZ, sS, i64_w, i32_w]
  rfl
 refine one_ (i := 5) (N := some 24) (bv 8 63) rfl rfl (one_of HT_.out (by kernel_rfl)) (by decide) (fun K hK => ?_)
 refine goes_ Try.func35 (by kernel_rfl) rfl #[.agg #[.bool t916, .slice Ao28 t917.length co28, .slice Ao29 t920.length co29], .agg #[.bool t907, .slice Ao21 t908.length co21, .slice Ao23 t911.length co23]] (by rfl) rfl rfl (by go_simp <;> rfl) ?_
 with_reducible refine (examboardref03_Cmp.calls k t916 _ _ t917 _ _ t920 t907 _ _ t908 _ _ t911 t923 _ ?side1 ?side2 ?side3 ?side4 ?side5 ?side6 ?side7 ?side8 A11.out).mono ?_
 (case side1 => repeat (first | exact (Kd.R_reads' HO919.out).2.2 | (with_reducible refine Kd.C_alloc ?_ _) | (with_reducible refine Kd.C_drewN ?_ _) | (with_reducible refine Kd.C_drew ?_)))
 (case side2 => exact (Kd.R_reads' HO919.out).2.1)
 (case side3 => repeat (first | exact (Kd.R_reads' HO922.out).2.2 | (with_reducible refine Kd.C_alloc ?_ _) | (with_reducible refine Kd.C_drewN ?_ _) | (with_reducible refine Kd.C_drew ?_)))
 (case side4 => exact (Kd.R_reads' HO922.out).2.1)
 (case side5 => repeat (first | exact (Kd.R_reads' HO910.out).2.2 | (with_reducible refine Kd.C_alloc ?_ _) | (with_reducible refine Kd.C_drewN ?_ _) | (with_reducible refine Kd.C_drew ?_)))
 (case side6 => exact (Kd.R_reads' HO910.out).2.1)
 (case side7 => repeat (first | exact (Kd.R_reads' HO913.out).2.2 | (with_reducible refine Kd.C_alloc ?_ _) | (with_reducible refine Kd.C_drewN ?_ _) | (with_reducible refine Kd.C_drew ?_)))
 (case side8 => exact (Kd.R_reads' HO913.out).2.1)
 rintro e w30 ⟨rfl, hb⟩
 refine ⟨_, rfl, ?_⟩
 replace HO903 := (by first | exact rB HO903 hb | exact rD HO903 hb)
 replace HO906 := (by first | exact rB HO906 hb | exact rD HO906 hb)
 replace HO910 := (by first | exact rB HO910 hb | exact rD HO910 hb)
 replace HO913 := (by first | exact rB HO913 hb | exact rD HO913 hb)
 replace HO919 := (by first | exact rB HO919 hb | exact rD HO919 hb)
 replace HO922 := (by first | exact rB HO922 hb | exact rD HO922 hb)
 replace BK897 := (by first | exact bkB BK897 hb | exact bkD BK897 hb)
 replace BK914 := (by first | exact bkB BK914 hb | exact bkD BK914 hb)
 replace HB := mk0 (below_step (by repeat (first | exact HB.out | apply pw_below_drewN | apply below_drew1 | apply below_alloc | refine below_set ?_ GE897.out | refine below_set ?_ GE914.out)) hb)
 refine hK.out _ _ ⟨(blk_cell BK914.out 0).trans rfl, (blk_cell BK914.out 1).trans rfl, (blk_cell BK914.out 2).trans rfl⟩ (fun hHeld => ?_)
 clear hK K
 refine norm_ (a' := ?_) ?_ ?_
 rotate_left
 ·show Act.put _ (some 24) _ = _
  simp only [Act.put, sA, sZ, sS, i64_w, i32_w]
  rfl
 refine puA (i := 6) (N := 25) (v := ?_) (a' := ?_) (bv 8 127) HT_ ?_ ?_ ?_; rotate_left; (intro w'; go_simp; with_reducible rfl); rotate_left; (simp only [Act.put, sA, sZ, sS, i64_w, i32_w]; rfl)
 refine puA (i := 7) (N := 8) (v := ?_) (a' := ?_) (bv 8 255) HT_ ?_ ?_ ?_; rotate_left; (intro w'; go_simp; with_reducible rfl); rotate_left; (simp only [Act.put, sA, sZ, sS, i64_w, i32_w]; rfl)
 refine done_ (done_of HT_.out (by kernel_rfl)) ?_
 try go_wp2
 go_ret
 exact ⟨by first | rfl | (simp [errW_none, errW_some] <;> rfl) | (simp [*, errW_none, errW_some] <;> rfl), by repeat (first | exact HB.out | apply pw_below_drewN | apply below_drew1 | apply below_alloc | refine below_set ?_ GE897.out | refine below_set ?_ GE914.out)⟩
def examboardlaw37_ExposureEligible.T1 : Bool × List (List Nat × List Nat) := (true, [([], []), ([0], [0]), ([1, 1], [1]), ([2], [2]), ([2], [2]), ([2], [2]), ([2], [2]), ([3, 4, 5, 6, 2, 2], [2, 3, 4, 5, 6]), ([2], [2]), ([2], [2]), ([2], [2]), ([2], [2]), ([8, 9, 10, 11, 7, 2], [2, 8, 9, 10, 11]), ([7, 12, 2], [2, 7, 12]), ([2, 13], [2, 13]), ([14, 12, 0, 1, 2, 3, 4, 5, 6, 7, 8, 9, 10, 11, 12, 13, 14], [14])])
def examboardlaw37_ExposureEligible.B1 : List Nat := [0, 1, 3, 7, 7, 7, 7, 127, 7, 7, 7, 7, 4095, 8191, 16383, 32767]
theorem examboardlaw37_ExposureEligible.tab1 : rtab .any (opsOf Try.f4 1) = examboardlaw37_ExposureEligible.T1 := by kernel_rfl
theorem examboardlaw37_ExposureEligible.bits1 : waitsOk examboardlaw37_ExposureEligible.T1.2 examboardlaw37_ExposureEligible.B1 = true := by kernel_rfl
set_option maxHeartbeats 8000000 in
set_option maxRecDepth 100000 in
theorem examboardlaw37_ExposureEligible.calls (k : Nat) (a0 : Int) (a1 : Int) (a2_0 : Bool) (A2_1 : Option Addr) (c2_1 : Nat) (l2_1 : List Int) (A2_2 : Option Addr) (c2_2 : Nat) (l2_2 : List Int) (a3 : Int) (r : Bool) (w : World) (hr2_1 : Kd.C (Kd.int .u32) w A2_1 l2_1.length l2_1) (hc2_1 : l2_1.length ≤ c2_1) (hr2_2 : Kd.C (Kd.int .u32) w A2_2 l2_2.length l2_2) (hc2_2 : l2_2.length ≤ c2_2) (h : examboardlaw37_ExposureEligible.f k a0 a1 a2_0 l2_1 l2_2 a3 = some r) :
  Calls Try.prog 4 #[.int .i64 a0, .int .i64 a1, .agg #[.bool a2_0, .slice A2_1 l2_1.length c2_1, .slice A2_2 l2_2.length c2_2], .int .i64 a3] w fun e w' => e = .returned (.bool r) ∧ Below w.heap.size w w' := by
 have hu29 := Try.underlying29
 have HR2_1 := mk0 hr2_1
 have HC2_1 := mk0 hc2_1
 clear hr2_1 hc2_1
 have HR2_2 := mk0 hr2_2
 have HC2_2 := mk0 hc2_2
 clear hr2_2 hc2_2
 have HB := mk0 (Below.refl w.heap.size w)
 have H : ((examboardlaw37_large.f a2_0 l2_1 l2_2).bind fun t925 => (if t925 = true then (some true) else ((exposure_Eligible.f k a0 a1 a2_0 l2_1 l2_2 a3).bind fun t926 => ((examboardref37_Eligible.f k a0 a1 a2_0 l2_1 l2_2 a3).bind fun t927 => (some (t926 == t927)))))) = some r := h
 clear h
 obtain ⟨t925, A5, H⟩ := bindA H
 by_cases c6 : t925 = true
 ·subst c6
  have H1 : (some true) = some r := by rw [if_pos rfl] at H; exact H
  clear H
  have H := H1
  clear H1
  obtain rfl := Option.some.inj H
  go_enter Try.func4, Try.ntmps4
  try go_wp2_with (first | ((with_reducible refine gate_dst (N := 6) rfl ?_); refine box_event rfl (N := 6) rfl (cs := #[.bool a2_0, .slice A2_1 l2_1.length c2_1, .slice A2_2 l2_2.length c2_2]) (t := 29) (by go_simp <;> rfl) ?_; intro gb924 hg w7 hbox hb; have BK924 := mk0 (hbox); have GE924 := geB hg HB; replace HB := hbS HB hb; clear hb hbox hg))
  replace BK924 := mk0 (blk_drew BK924.out)
  replace HB := mk0 (below_drew1 HB.out)
  refine start_ (n := 16) (S := fun w' => w'.cell? ⟨gb924, 0, none⟩ = some (.bool a2_0) ∧ w'.cell? ⟨gb924, 1, none⟩ = some (.slice A2_1 l2_1.length c2_1) ∧ w'.cell? ⟨gb924, 2, none⟩ = some (.slice A2_2 l2_2.length c2_2)) (ds := []) (bv 16 0) (by kernel_rfl) rfl rfl ⟨(blk_cell BK924.out 0).trans rfl, (blk_cell BK924.out 1).trans rfl, (blk_cell BK924.out 2).trans rfl⟩ (fun hHeld => ?_); refine with_tabW examboardlaw37_ExposureEligible.tab1 examboardlaw37_ExposureEligible.bits1 (fun HT_ HW_ => ?_)
  generalize w7.drew = w8 at BK924 HB hHeld ⊢
  refine take_ (i := 0) (N := some 9) (v := ?_) (a' := ?_) (bv 16 1) rfl rfl (take_ofW HT_.out HW_.out (by kernel_rfl)) (fun _ _ _ h => h) (Or.inl ⟨by rfl, ?_⟩) hHeld ?_ ?_; rotate_left; (rintro w' ⟨s0, s1, s2⟩; go_simp; with_reducible rfl); rotate_left; (simp only [Act.put, sA, sZ, sS, i64_w, i32_w]; rfl)
  refine one_ (i := 1) (N := some 10) (bv 16 3) rfl rfl (one_of HT_.out (by kernel_rfl)) (by decide) (fun K hK => ?_)
  refine goes_ Try.func10 (by kernel_rfl) rfl #[.agg #[.bool a2_0, .slice A2_1 l2_1.length c2_1, .slice A2_2 l2_2.length c2_2]] (by rfl) rfl rfl (by go_simp <;> rfl) ?_
  with_reducible refine (examboardlaw37_large.calls a2_0 _ _ l2_1 _ _ l2_2 true _ ?side1 ?side2 ?side3 ?side4 A5.out).mono ?_
  (case side1 => repeat (first | exact (Kd.C_below HR2_1.out HB.out) | (with_reducible refine Kd.C_alloc ?_ _) | (with_reducible refine Kd.C_drewN ?_ _) | (with_reducible refine Kd.C_drew ?_)))
  (case side2 => exact HC2_1.out)
  (case side3 => repeat (first | exact (Kd.C_below HR2_2.out HB.out) | (with_reducible refine Kd.C_alloc ?_ _) | (with_reducible refine Kd.C_drewN ?_ _) | (with_reducible refine Kd.C_drew ?_)))
  (case side4 => exact HC2_2.out)
  rintro e w9 ⟨rfl, hb⟩
  refine ⟨_, rfl, ?_⟩
  replace BK924 := bkB BK924 hb
  replace HB := mk0 (below_step (by repeat (first | exact HB.out | apply pw_below_drewN | apply below_drew1 | apply below_alloc | refine below_set ?_ GE924.out)) hb)
  refine hK.out _ _ ⟨(blk_cell BK924.out 0).trans rfl, (blk_cell BK924.out 1).trans rfl, (blk_cell BK924.out 2).trans rfl⟩ (fun hHeld => ?_)
  clear hK K
  refine norm_ (a' := ?_) ?_ ?_
  rotate_left
  ·show Act.put _ (some 10) _ = _
   simp only [Act.put, sA, sZ, sS, i64_w, i32_w]
   rfl
  refine puA (i := 2) (N := 11) (v := ?_) (a' := ?_) (bv 16 7) HT_ ?_ ?_ ?_; rotate_left; (intro w'; go_simp; with_reducible rfl); rotate_left; (simp only [Act.put, sA, sZ, sS, i64_w, i32_w]; rfl)
  refine puO (i := 3) (N := 12) (a' := ?_) (bv 16 15) HT_ ?_ ?_
  rotate_left
  ·simp only [Act.put, sA, sZ, sS, i64_w, i32_w]
   rfl
  refine puO (i := 4) (N := 13) (a' := ?_) (bv 16 31) HT_ ?_ ?_
  rotate_left
  ·simp only [Act.put, sA, sZ, sS, i64_w, i32_w]
   rfl
  refine puO (i := 5) (N := 14) (a' := ?_) (bv 16 63) HT_ ?_ ?_
  rotate_left
  ·simp only [Act.put, sA, sZ, sS, i64_w, i32_w]
   rfl
  refine puO (i := 6) (N := 15) (a' := ?_) (bv 16 127) HT_ ?_ ?_
  rotate_left
  ·simp only [Act.put, sA, sZ, sS, i64_w, i32_w]
   rfl
  refine puO (i := 7) (N := 16) (a' := ?_) (bv 16 255) HT_ ?_ ?_
  rotate_left
  ·simp only [Act.put, sA, sZ, sS, i64_w, i32_w]
   rfl
  refine puO (i := 8) (N := 17) (a' := ?_) (bv 16 511) HT_ ?_ ?_
  rotate_left
  ·simp only [Act.put, sA, sZ, sS, i64_w, i32_w]
   rfl
  refine puO (i := 9) (N := 18) (a' := ?_) (bv 16 1023) HT_ ?_ ?_
  rotate_left
  ·simp only [Act.put, sA, sZ, sS, i64_w, i32_w]
   rfl
  refine puO (i := 10) (N := 19) (a' := ?_) (bv 16 2047) HT_ ?_ ?_
  rotate_left
  ·simp only [Act.put, sA, sZ, sS, i64_w, i32_w]
   rfl
  refine puO (i := 11) (N := 20) (a' := ?_) (bv 16 4095) HT_ ?_ ?_
  rotate_left
  ·simp only [Act.put, sA, sZ, sS, i64_w, i32_w]
   rfl
  refine puO (i := 12) (N := 21) (a' := ?_) (bv 16 8191) HT_ ?_ ?_
  rotate_left
  ·simp only [Act.put, sA, sZ, sS, i64_w, i32_w]
   rfl
  refine puO (i := 13) (N := 22) (a' := ?_) (bv 16 16383) HT_ ?_ ?_
  rotate_left
  ·simp only [Act.put, sA, sZ, sS, i64_w, i32_w]
   rfl
  refine puA (i := 14) (N := 23) (v := ?_) (a' := ?_) (bv 16 32767) HT_ ?_ ?_ ?_; rotate_left; (intro w'; go_simp; with_reducible rfl); rotate_left; (simp only [Act.put, sA, sZ, sS, i64_w, i32_w]; rfl)
  refine puA (i := 15) (N := 8) (v := ?_) (a' := ?_) (bv 16 65535) HT_ ?_ ?_ ?_; rotate_left; (intro w'; go_simp; with_reducible rfl); rotate_left; (simp only [Act.put, sA, sZ, sS, i64_w, i32_w]; rfl)
  refine done_ (done_of HT_.out (by kernel_rfl)) ?_
  try go_wp2
  go_ret
  exact ⟨by first | rfl | (simp [errW_none, errW_some] <;> rfl) | (simp [*, errW_none, errW_some] <;> rfl), by repeat (first | exact HB.out | apply pw_below_drewN | apply below_drew1 | apply below_alloc | refine below_set ?_ GE924.out)⟩
 ·replace c6 := Bool.eq_false_iff.mpr c6
  subst c6
  have H1 : ((exposure_Eligible.f k a0 a1 a2_0 l2_1 l2_2 a3).bind fun t926 => ((examboardref37_Eligible.f k a0 a1 a2_0 l2_1 l2_2 a3).bind fun t927 => (some (t926 == t927)))) = some r := by rw [if_neg (show ¬ (false = true) by decide)] at H; exact H
  clear H
  have H := H1
  clear H1
  obtain ⟨t926, A10, H⟩ := bindA H
  obtain ⟨t927, A11, H⟩ := bindA H
  obtain rfl := Option.some.inj H
  go_enter Try.func4, Try.ntmps4
  try go_wp2_with (first | ((with_reducible refine gate_dst (N := 6) rfl ?_); refine box_event rfl (N := 6) rfl (cs := #[.bool a2_0, .slice A2_1 l2_1.length c2_1, .slice A2_2 l2_2.length c2_2]) (t := 29) (by go_simp <;> rfl) ?_; intro gb924 hg w12 hbox hb; have BK924 := mk0 (hbox); have GE924 := geB hg HB; replace HB := hbS HB hb; clear hb hbox hg))
  replace BK924 := mk0 (blk_drew BK924.out)
  replace HB := mk0 (below_drew1 HB.out)
  refine start_ (n := 16) (S := fun w' => w'.cell? ⟨gb924, 0, none⟩ = some (.bool a2_0) ∧ w'.cell? ⟨gb924, 1, none⟩ = some (.slice A2_1 l2_1.length c2_1) ∧ w'.cell? ⟨gb924, 2, none⟩ = some (.slice A2_2 l2_2.length c2_2)) (ds := []) (bv 16 0) (by kernel_rfl) rfl rfl ⟨(blk_cell BK924.out 0).trans rfl, (blk_cell BK924.out 1).trans rfl, (blk_cell BK924.out 2).trans rfl⟩ (fun hHeld => ?_); refine with_tabW examboardlaw37_ExposureEligible.tab1 examboardlaw37_ExposureEligible.bits1 (fun HT_ HW_ => ?_)
  generalize w12.drew = w13 at BK924 HB hHeld ⊢
  refine take_ (i := 0) (N := some 9) (v := ?_) (a' := ?_) (bv 16 1) rfl rfl (take_ofW HT_.out HW_.out (by kernel_rfl)) (fun _ _ _ h => h) (Or.inl ⟨by rfl, ?_⟩) hHeld ?_ ?_; rotate_left; (rintro w' ⟨s0, s1, s2⟩; go_simp; with_reducible rfl); rotate_left; (simp only [Act.put, sA, sZ, sS, i64_w, i32_w]; rfl)
  refine one_ (i := 1) (N := some 10) (bv 16 3) rfl rfl (one_of HT_.out (by kernel_rfl)) (by decide) (fun K hK => ?_)
  refine goes_ Try.func10 (by kernel_rfl) rfl #[.agg #[.bool a2_0, .slice A2_1 l2_1.length c2_1, .slice A2_2 l2_2.length c2_2]] (by rfl) rfl rfl (by go_simp <;> rfl) ?_
  with_reducible refine (examboardlaw37_large.calls a2_0 _ _ l2_1 _ _ l2_2 false _ ?side1 ?side2 ?side3 ?side4 A5.out).mono ?_
  (case side1 => repeat (first | exact (Kd.C_below HR2_1.out HB.out) | (with_reducible refine Kd.C_alloc ?_ _) | (with_reducible refine Kd.C_drewN ?_ _) | (with_reducible refine Kd.C_drew ?_)))
  (case side2 => exact HC2_1.out)
  (case side3 => repeat (first | exact (Kd.C_below HR2_2.out HB.out) | (with_reducible refine Kd.C_alloc ?_ _) | (with_reducible refine Kd.C_drewN ?_ _) | (with_reducible refine Kd.C_drew ?_)))
  (case side4 => exact HC2_2.out)
  rintro e w14 ⟨rfl, hb⟩
  refine ⟨_, rfl, ?_⟩
  replace BK924 := bkB BK924 hb
  replace HB := mk0 (below_step (by repeat (first | exact HB.out | apply pw_below_drewN | apply below_drew1 | apply below_alloc | refine below_set ?_ GE924.out)) hb)
  refine hK.out _ _ ⟨(blk_cell BK924.out 0).trans rfl, (blk_cell BK924.out 1).trans rfl, (blk_cell BK924.out 2).trans rfl⟩ (fun hHeld => ?_)
  clear hK K
  refine norm_ (a' := ?_) ?_ ?_
  rotate_left
  ·show Act.put _ (some 10) _ = _
   simp only [Act.put, sA, sZ, sS, i64_w, i32_w]
   rfl
  refine puA (i := 2) (N := 11) (v := ?_) (a' := ?_) (bv 16 7) HT_ ?_ ?_ ?_; rotate_left; (intro w'; go_simp; with_reducible rfl); rotate_left; (simp only [Act.put, sA, sZ, sS, i64_w, i32_w]; rfl)
  refine puA (i := 3) (N := 12) (v := ?_) (a' := ?_) (bv 16 15) HT_ ?_ ?_ ?_; rotate_left; (intro w'; go_simp; with_reducible rfl); rotate_left; (simp only [Act.put, sA, sZ, sS, i64_w, i32_w]; rfl)
  refine puA (i := 4) (N := 13) (v := ?_) (a' := ?_) (bv 16 31) HT_ ?_ ?_ ?_; rotate_left; (intro w'; go_simp; with_reducible rfl); rotate_left; (simp only [Act.put, sA, sZ, sS, i64_w, i32_w]; rfl)
  refine puA (i := 6) (N := 15) (v := ?_) (a' := ?_) (bv 16 95) HT_ ?_ ?_ ?_; rotate_left; (intro w'; go_simp; with_reducible rfl); rotate_left; (simp only [Act.put, sA, sZ, sS, i64_w, i32_w]; rfl)
  refine puA (i := 8) (N := 17) (v := ?_) (a' := ?_) (bv 16 351) HT_ ?_ ?_ ?_; rotate_left; (intro w'; go_simp; with_reducible rfl); rotate_left; (simp only [Act.put, sA, sZ, sS, i64_w, i32_w]; rfl)
  refine puA (i := 9) (N := 18) (v := ?_) (a' := ?_) (bv 16 863) HT_ ?_ ?_ ?_; rotate_left; (intro w'; go_simp; with_reducible rfl); rotate_left; (simp only [Act.put, sA, sZ, sS, i64_w, i32_w]; rfl)
  refine puA (i := 11) (N := 20) (v := ?_) (a' := ?_) (bv 16 2911) HT_ ?_ ?_ ?_; rotate_left; (intro w'; go_simp; with_reducible rfl); rotate_left; (simp only [Act.put, sA, sZ, sS, i64_w, i32_w]; rfl)
  refine take_ (i := 5) (N := some 14) (v := ?_) (a' := ?_) (bv 16 2943) rfl rfl (take_ofW HT_.out HW_.out (by kernel_rfl)) (fun _ _ _ h => h) (Or.inl ⟨by rfl, ?_⟩) hHeld ?_ ?_; rotate_left; (rintro w' ⟨s0, s1, s2⟩; go_simp; with_reducible rfl); rotate_left; (simp only [Act.put, sA, sZ, sS, i64_w, i32_w]; rfl)
  refine take_ (i := 10) (N := some 19) (v := ?_) (a' := ?_) (bv 16 3967) rfl rfl (take_ofW HT_.out HW_.out (by kernel_rfl)) (fun _ _ _ h => h) (Or.inl ⟨by rfl, ?_⟩) hHeld ?_ ?_; rotate_left; (rintro w' ⟨s0, s1, s2⟩; go_simp; with_reducible rfl); rotate_left; (simp only [Act.put, sA, sZ, sS, i64_w, i32_w]; rfl)
  refine one_ (i := 7) (N := some 16) (bv 16 4095) rfl rfl (one_of HT_.out (by kernel_rfl)) (by decide) (fun K hK => ?_)
  refine goes_ Try.func13 (by kernel_rfl) rfl #[.int .i64 a0, .int .i64 a1, .agg #[.bool a2_0, .slice A2_1 l2_1.length c2_1, .slice A2_2 l2_2.length c2_2], .int .i64 a3] (by rfl) rfl rfl (by go_simp <;> rfl) ?_
  with_reducible refine (exposure_Eligible.calls k a0 a1 a2_0 _ _ l2_1 _ _ l2_2 a3 t926 _ ?side1 ?side2 ?side3 ?side4 A10.out).mono ?_
  (case side1 => repeat (first | exact (Kd.C_below HR2_1.out HB.out) | (with_reducible refine Kd.C_alloc ?_ _) | (with_reducible refine Kd.C_drewN ?_ _) | (with_reducible refine Kd.C_drew ?_)))
  (case side2 => exact HC2_1.out)
  (case side3 => repeat (first | exact (Kd.C_below HR2_2.out HB.out) | (with_reducible refine Kd.C_alloc ?_ _) | (with_reducible refine Kd.C_drewN ?_ _) | (with_reducible refine Kd.C_drew ?_)))
  (case side4 => exact HC2_2.out)
  rintro e w15 ⟨rfl, hb⟩
  refine ⟨_, rfl, ?_⟩
  replace BK924 := bkB BK924 hb
  replace HB := mk0 (below_step (by repeat (first | exact HB.out | apply pw_below_drewN | apply below_drew1 | apply below_alloc | refine below_set ?_ GE924.out)) hb)
  refine hK.out _ _ ⟨(blk_cell BK924.out 0).trans rfl, (blk_cell BK924.out 1).trans rfl, (blk_cell BK924.out 2).trans rfl⟩ (fun hHeld => ?_)
  clear hK K
  refine norm_ (a' := ?_) ?_ ?_
  rotate_left
  ·show Act.put _ (some 16) _ = _
   simp only [Act.put, sA, sZ, sS, i64_w, i32_w]
   rfl
  refine one_ (i := 12) (N := some 21) (bv 16 8191) rfl rfl (one_of HT_.out (by kernel_rfl)) (by decide) (fun K hK => ?_)
  refine goes_ Try.func14 (by kernel_rfl) rfl #[.int .i64 a0, .int .i64 a1, .agg #[.bool a2_0, .slice A2_1 l2_1.length c2_1, .slice A2_2 l2_2.length c2_2], .int .i64 a3] (by rfl) rfl rfl (by go_simp <;> rfl) ?_
  with_reducible refine (examboardref37_Eligible.calls k a0 a1 a2_0 _ _ l2_1 _ _ l2_2 a3 t927 _ ?side1 ?side2 ?side3 ?side4 A11.out).mono ?_
  (case side1 => repeat (first | exact (Kd.C_below HR2_1.out HB.out) | (with_reducible refine Kd.C_alloc ?_ _) | (with_reducible refine Kd.C_drewN ?_ _) | (with_reducible refine Kd.C_drew ?_)))
  (case side2 => exact HC2_1.out)
  (case side3 => repeat (first | exact (Kd.C_below HR2_2.out HB.out) | (with_reducible refine Kd.C_alloc ?_ _) | (with_reducible refine Kd.C_drewN ?_ _) | (with_reducible refine Kd.C_drew ?_)))
  (case side4 => exact HC2_2.out)
  rintro e w16 ⟨rfl, hb⟩
  refine ⟨_, rfl, ?_⟩
  replace BK924 := bkB BK924 hb
  replace HB := mk0 (below_step (by repeat (first | exact HB.out | apply pw_below_drewN | apply below_drew1 | apply below_alloc | refine below_set ?_ GE924.out)) hb)
  refine hK.out _ _ ⟨(blk_cell BK924.out 0).trans rfl, (blk_cell BK924.out 1).trans rfl, (blk_cell BK924.out 2).trans rfl⟩ (fun hHeld => ?_)
  clear hK K
  refine norm_ (a' := ?_) ?_ ?_
  rotate_left
  ·show Act.put _ (some 21) _ = _
   simp only [Act.put, sA, sZ, sS, i64_w, i32_w]
   rfl
  refine puA (i := 13) (N := 22) (v := ?_) (a' := ?_) (bv 16 16383) HT_ ?_ ?_ ?_; rotate_left; (intro w'; go_simp; with_reducible rfl); rotate_left; (simp only [Act.put, sA, sZ, sS, i64_w, i32_w]; rfl)
  refine puA (i := 14) (N := 23) (v := ?_) (a' := ?_) (bv 16 32767) HT_ ?_ ?_ ?_; rotate_left; (intro w'; go_simp; with_reducible rfl); rotate_left; (simp only [Act.put, sA, sZ, sS, i64_w, i32_w]; rfl)
  refine puA (i := 15) (N := 8) (v := ?_) (a' := ?_) (bv 16 65535) HT_ ?_ ?_ ?_; rotate_left; (intro w'; go_simp; with_reducible rfl); rotate_left; (simp only [Act.put, sA, sZ, sS, i64_w, i32_w]; rfl)
  refine done_ (done_of HT_.out (by kernel_rfl)) ?_
  try go_wp2
  go_ret
  exact ⟨by first | rfl | (simp [errW_none, errW_some] <;> rfl) | (simp [*, errW_none, errW_some] <;> rfl), by repeat (first | exact HB.out | apply pw_below_drewN | apply below_drew1 | apply below_alloc | refine below_set ?_ GE924.out)⟩
end Go.Proofs.Ythamhjmhgcpdgaa.Q
end
section
namespace Go.Proofs.Ythamhjmhgcpdgaa.Th
open Go.RowKit Go.Proofs.YthamhjmhgcpdgaaW.PrintWords Go.Proofs.YthamhjmhgcpdgaaW.PrintLast Go.Proofs.YthamhjmhgcpdgaaW.PrintMore
set_option linter.unusedVariables false
set_option linter.unusedSimpArgs false
def val : List Int → Nat
 | [] => 0
 | x :: xs => x.toNat + 4294967296 * val xs
def okl (l : List Int) : Prop := ∀ x ∈ l, 0 ≤ x ∧ x < 4294967296
def limbs (n : Nat) : List Int := if h : n = 0 then [] else ((n % 4294967296 : Nat) : Int) :: limbs (n / 4294967296)
termination_by n
decreasing_by omega
def tl (l : List Int) : Nat → Nat
 | 0 => 0
 | n + 1 => if l.getD n 0 = 0 then tl l n else n + 1
theorem tl_le (l : List Int) (n : Nat) : tl l n ≤ n := by
 induction n with
 | zero => simp [tl]
 | succ n ih => unfold tl; split <;> omega
theorem okl_nil : okl [] := fun _ h => by cases h
theorem okl_cons {x : Int} {l : List Int} : okl (x :: l) ↔ (0 ≤ x ∧ x < 4294967296) ∧ okl l := by simp [okl]
theorem okl_append {a b : List Int} : okl (a ++ b) ↔ okl a ∧ okl b := by
 constructor
 ·intro h; exact ⟨fun x hx => h x (List.mem_append_left _ hx), fun x hx => h x (List.mem_append_right _ hx)⟩
 ·rintro ⟨h1, h2⟩ x hx
  rcases List.mem_append.1 hx with h | h
  ·exact h1 x h
  ·exact h2 x h
theorem okl_take {l : List Int} (h : okl l) (n : Nat) : okl (l.take n) := fun x hx => h x (List.mem_of_mem_take hx)
theorem okl_drop {l : List Int} (h : okl l) (n : Nat) : okl (l.drop n) := fun x hx => h x (List.mem_of_mem_drop hx)
theorem okl_set {l : List Int} (h : okl l) (n : Nat) {x : Int} (h0 : 0 ≤ x) (h1 : x < 4294967296) : okl (l.set n x) := fun y hy => by
 rcases List.mem_or_eq_of_mem_set hy with h2 | h2
 ·exact h y h2
 ·subst h2; exact ⟨h0, h1⟩
theorem okl_replicate (n : Nat) : okl (List.replicate n 0) := fun x hx => by
 rw [List.mem_replicate] at hx; rw [hx.2]; decide
theorem okl_rd {l : List Int} (h : okl l) (i : Int) : 0 ≤ rd l i ∧ rd l i < 4294967296 := by
 unfold rd
 by_cases hi : i.toNat < l.length
 ·rw [List.getD_eq_getElem?_getD, List.getElem?_eq_getElem hi]; exact h _ (List.getElem_mem hi)
 ·rw [List.getD_eq_getElem?_getD, List.getElem?_eq_none (by omega)]; decide
theorem val_append (a b : List Int) : val (a ++ b) = val a + 4294967296 ^ a.length * val b := by
 induction a with
 | nil => simp [val]
 | cons x xs ih => simp only [List.cons_append, val, ih, List.length_cons]; grind
theorem val_lt {l : List Int} (h : okl l) : val l < 4294967296 ^ l.length := by
 induction l with
 | nil => simp [val]
 | cons x xs ih =>
  have h1 := okl_cons.1 h
  have h2 := ih h1.2
  simp only [val, List.length_cons, Nat.pow_succ]
  have : x.toNat < 4294967296 := by omega
  omega
theorem val_replicate (n : Nat) : val (List.replicate n 0) = 0 := by
 induction n with
 | zero => rfl
 | succ n ih => rw [List.replicate_succ, val, ih]; rfl
theorem val_take_drop (l : List Int) (n : Nat) (h : n ≤ l.length) : val l = val (l.take n) + 4294967296 ^ n * val (l.drop n) := by
 have := val_append (l.take n) (l.drop n)
 rw [List.take_append_drop, List.length_take, Nat.min_eq_left h] at this
 exact this
theorem val_drop_one (l : List Int) (n : Nat) (h : n < l.length) : val (l.drop n) = (l.getD n 0).toNat + 4294967296 * val (l.drop (n + 1)) := by
 rw [List.drop_eq_getElem_cons h, val, List.getD_eq_getElem?_getD, List.getElem?_eq_getElem h]; rfl
theorem val_take_succ (l : List Int) (n : Nat) (h : n < l.length) : val (l.take (n + 1)) = val (l.take n) + 4294967296 ^ n * (l.getD n 0).toNat := by
 have h1 : l.take (n + 1) = l.take n ++ [l.getD n 0] := by
  rw [List.take_succ_eq_append_getElem h, List.getD_eq_getElem?_getD, List.getElem?_eq_getElem h]; rfl
 rw [h1, val_append, List.length_take, Nat.min_eq_left (by omega)]
 simp [val]
theorem val_tl (l : List Int) (n : Nat) (h : n ≤ l.length) : val (l.take (tl l n)) = val (l.take n) := by
 induction n with
 | zero => rfl
 | succ n ih =>
  unfold tl
  by_cases h0 : l.getD n 0 = 0
  ·rw [if_pos h0, ih (by omega), val_take_succ l n (by omega), h0]; simp
  ·rw [if_neg h0]
theorem limbs_zero : limbs 0 = [] := by rw [limbs]; rfl
theorem limbs_pos {n : Nat} (h : n ≠ 0) : limbs n = ((n % 4294967296 : Nat) : Int) :: limbs (n / 4294967296) := by rw [limbs, dif_neg h]
theorem okl_limbs (n : Nat) : okl (limbs n) := by
 induction n using Nat.strongRecOn with
 | _ n ih =>
  by_cases h : n = 0
  ·subst h; rw [limbs_zero]; exact okl_nil
  ·rw [limbs_pos h, okl_cons]; exact ⟨by omega, ih _ (by omega)⟩
theorem val_limbs (n : Nat) : val (limbs n) = n := by
 induction n using Nat.strongRecOn with
 | _ n ih =>
  by_cases h : n = 0
  ·subst h; rw [limbs_zero]; rfl
  ·rw [limbs_pos h, val, ih _ (by omega)]; omega
theorem limbs_val (l : List Int) (h : okl l) (hl : l ≠ [] → l.getD (l.length - 1) 0 ≠ 0) : limbs (val l) = l := by
 induction l with
 | nil => exact limbs_zero
 | cons x xs ih =>
  have h1 := okl_cons.1 h
  have hne : val (x :: xs) ≠ 0 := by
   intro h0
   simp only [val] at h0
   cases xs with
   | nil => exact hl (by simp) (by simp; omega)
   | cons y ys =>
    have h2 : limbs (val (y :: ys)) = y :: ys := ih h1.2 (fun _ => by have := hl (by simp); simpa using this)
    have h3 : val (y :: ys) = 0 := by omega
    rw [h3, limbs_zero] at h2
    cases h2
  rw [limbs_pos hne]
  simp only [val]
  have e1 : (x.toNat + 4294967296 * val xs) % 4294967296 = x.toNat := by omega
  have e2 : (x.toNat + 4294967296 * val xs) / 4294967296 = val xs := by omega
  rw [e1, e2]
  have e3 : limbs (val xs) = xs := by
   cases xs with
   | nil => exact limbs_zero
   | cons y ys => exact ih h1.2 (fun _ => by have := hl (by simp); simpa using this)
  rw [e3]
  congr 1
  omega
theorem tl_top (l : List Int) (n : Nat) (h : tl l n ≠ 0) : l.getD (tl l n - 1) 0 ≠ 0 := by
 induction n with
 | zero => exact absurd rfl h
 | succ n ih =>
  unfold tl at h ⊢
  by_cases h0 : l.getD n 0 = 0
  ·rw [if_pos h0] at h ⊢; exact ih h
  ·rw [if_neg h0]; exact h0
theorem limbs_tl {l : List Int} (h : okl l) : l.take (tl l l.length) = limbs (val l) := by
 have h1 := val_tl l l.length (Nat.le_refl _)
 rw [List.take_length] at h1
 rw [← h1]
 refine (limbs_val _ (okl_take h _) (fun hne => ?_)).symm
 have h2 := tl_le l l.length
 have h3 : (l.take (tl l l.length)).length = tl l l.length := by rw [List.length_take]; omega
 have h4 : tl l l.length ≠ 0 := fun h0 => hne (by rw [h0]; rfl)
 rw [h3, List.getD_eq_getElem?_getD, List.getElem?_take_of_lt (by omega), ← List.getD_eq_getElem?_getD]
 exact tl_top l _ h4
theorem limbs_len_le {n k : Nat} (h : n < 4294967296 ^ k) : (limbs n).length ≤ k := by
 induction k generalizing n with
 | zero => simp at h; subst h; rw [limbs_zero]; simp
 | succ k ih =>
  by_cases h0 : n = 0
  ·subst h0; rw [limbs_zero]; simp
  ·rw [limbs_pos h0, List.length_cons]
   have := ih (n := n / 4294967296) (by rw [Nat.pow_succ] at h; rw [Nat.div_lt_iff_lt_mul (by decide)]; exact h)
   omega
theorem limbs_ne_nil {n : Nat} (h : n ≠ 0) : limbs n ≠ [] := by rw [limbs_pos h]; simp
theorem limbs_eq_nil {n : Nat} : limbs n = [] ↔ n = 0 := ⟨fun h => by
 by_cases h0 : n = 0
 ·exact h0
 ·exact absurd h (limbs_ne_nil h0), fun h => by rw [h, limbs_zero]⟩
theorem limbs_top {n : Nat} (h : n ≠ 0) : (limbs n).getD ((limbs n).length - 1) 0 ≠ 0 := by
 have h1 := limbs_tl (okl_limbs n)
 rw [val_limbs] at h1
 have h2 := tl_le (limbs n) (limbs n).length
 have h3 : tl (limbs n) (limbs n).length = (limbs n).length := by
  have := congrArg List.length h1
  rw [List.length_take] at this
  omega
 have h4 := tl_top (limbs n) (limbs n).length (by rw [h3]; intro h0; exact limbs_ne_nil h (List.eq_nil_of_length_eq_zero h0))
 rwa [h3] at h4
theorem val_set (l : List Int) (n : Nat) (h : n < l.length) (x : Int) : val (l.set n x) + 4294967296 ^ n * (l.getD n 0).toNat = val l + 4294967296 ^ n * x.toNat := by
 induction l generalizing n with
 | nil => simp at h
 | cons y ys ih =>
  cases n with
  | zero => simp [val]; omega
  | succ n =>
   have := ih n (by simpa using h)
   simp only [List.set_cons_succ, val, List.getD_cons_succ]
   grind
theorem getD_okl {l : List Int} (h : okl l) (n : Nat) : 0 ≤ l.getD n 0 ∧ l.getD n 0 < 4294967296 := by
 have := okl_rd h (n : Int)
 unfold rd at this
 rwa [Int.toNat_natCast] at this
theorem mul_step {P : List Int} (hP : okl P) {n : Nat} (hn : n < P.length) {p q c t : Int} (hp0 : 0 ≤ p) (hp1 : p < 4294967296) (hq0 : 0 ≤ q) (hq1 : q < 4294967296) (hc0 : 0 ≤ c) (hc1 : c < 4294967296)
  (ht : t = c + p * q + P.getD n 0) :
  0 ≤ p * q ∧ p * q + P.getD n 0 + c < 18446744073709551616 ∧ 0 ≤ t ∧ t < 18446744073709551616 ∧ okl (P.set n (t % 4294967296)) ∧ 0 ≤ t / 4294967296 ∧ t / 4294967296 < 4294967296 ∧
   val (P.set n (t % 4294967296)) + 4294967296 ^ (n + 1) * (t / 4294967296).toNat = val P + 4294967296 ^ n * (c.toNat + p.toNat * q.toNat) := by
 obtain ⟨p, rfl⟩ := Int.eq_ofNat_of_zero_le hp0
 obtain ⟨q, rfl⟩ := Int.eq_ofNat_of_zero_le hq0
 obtain ⟨c, rfl⟩ := Int.eq_ofNat_of_zero_le hc0
 have hg := getD_okl hP n
 obtain ⟨g, hgg⟩ := Int.eq_ofNat_of_zero_le hg.1
 have hpq : p * q ≤ 4294967295 * 4294967295 := Nat.mul_le_mul (by omega) (by omega)
 have hcast : (p : Int) * (q : Int) = ((p * q : Nat) : Int) := by simp
 rw [hcast] at ht ⊢
 have hs := val_set P n hn (t % 4294967296)
 rw [hgg] at ht hs hg ⊢
 refine ⟨by omega, by omega, by omega, by omega, okl_set hP n (by omega) (by omega), by omega, by omega, ?_⟩
 have e1 : (t % 4294967296).toNat + 4294967296 * (t / 4294967296).toNat = c + p * q + g := by omega
 simp only [Int.toNat_natCast] at hs ⊢
 have e2 : 4294967296 ^ (n + 1) * (t / 4294967296).toNat = 4294967296 ^ n * (4294967296 * (t / 4294967296).toNat) := by rw [Nat.pow_succ]; grind
 have e3 : 4294967296 ^ n * (t % 4294967296).toNat + 4294967296 ^ n * (4294967296 * (t / 4294967296).toNat) = 4294967296 ^ n * (c + p * q) + 4294967296 ^ n * g := by
  rw [← Nat.mul_add, e1, Nat.mul_add]
 omega
end Go.Proofs.Ythamhjmhgcpdgaa.Th
end
section
namespace Go.Proofs.Ythamhjmhgcpdgaa.Big
open Go.RowKit Go.Proofs.YthamhjmhgcpdgaaW.PrintWords Go.Proofs.YthamhjmhgcpdgaaW.PrintLast Go.Proofs.YthamhjmhgcpdgaaW.PrintMore Go.Proofs.Ythamhjmhgcpdgaa.Q Go.Proofs.Ythamhjmhgcpdgaa.Th
set_option linter.unusedVariables false
set_option linter.unusedSimpArgs false
theorem wrap64_id {x : Int} (h0 : -9223372036854775808 ≤ x) (h1 : x < 9223372036854775808) : wrap64 x = x := by unfold wrap64; omega
theorem wrapu64 (x : Int) : IntKind.u64.wrap x = x % 18446744073709551616 := by simp [IntKind.wrap, IntKind.bits, IntKind.signed]
theorem wrapu64_id {x : Int} (h0 : 0 ≤ x) (h1 : x < 18446744073709551616) : IntKind.u64.wrap x = x := by rw [wrapu64]; omega
theorem and_low {x : Int} (h0 : 0 ≤ x) (h1 : x < 18446744073709551616) : Go.bits .and .u64 x 4294967295 = x % 4294967296 :=
 bits_mask .u64 64 (by decide) (fun n a b => wrapu64_id a b) 32 (by decide) x h0 h1
theorem or_high {x y : Int} (hx0 : 0 ≤ x) (hx1 : x < 4294967296) (hy0 : 0 ≤ y) (hy1 : y < 4294967296) : Go.bits .or .u64 (x * 4294967296) y = x * 4294967296 + y :=
 bits_join .u64 64 (by decide) (fun n a b => wrapu64_id a b) 32 _ _ (by omega) (by omega) (by omega) hy0 (by omega) (by omega)
abbrev lenok (l : List Int) : Prop := l.length ≤ 1099511627776
abbrev lenok2 (l : List Int) : Prop := l.length ≤ 17592186044416
theorem Ev.ite_pos {α : Type} {p : Prop} [Decidable p] {a b : Nat → Option α} {r : α} (h : p) (k : Ev a r) : Ev (fun n => if p then a n else b n) r := Ev.congr (fun n => if_pos h) k
theorem Ev.ite_neg {α : Type} {p : Prop} [Decidable p] {a b : Nat → Option α} {r : α} (h : ¬ p) (k : Ev b r) : Ev (fun n => if p then a n else b n) r := Ev.congr (fun n => if_neg h) k
theorem rd_nat (l : List Int) (n : Nat) : rd l (n : Int) = l.getD n 0 := by unfold rd; rw [Int.toNat_natCast]
theorem trim_loop (l : List Int) (n : Nat) (hn : n ≤ l.length) (hl : lenok2 l) : Ev (fun k => nat_trim.l0 k l n) (l.take (tl l n)) := by
 induction n with
 | zero =>
  refine Ev.step (f := fun _ => some (l.take 0)) (fun k => ?_) (Ev.now _)
  simp only [nat_trim.l0]
  rw [if_neg (by omega), if_pos (by omega), if_pos (by omega)]
  rfl
 | succ n ih =>
  have hw : wrap64 (((n + 1 : Nat) : Int) - 1) = (n : Int) := by rw [wrap64_id (by omega) (by unfold lenok2 at hl; omega)]; omega
  unfold tl
  by_cases h0 : l.getD n 0 = 0
  ·rw [if_pos h0]
   refine Ev.step (fun k => ?_) (ih (by omega))
   simp only [nat_trim.l0]
   rw [if_pos (by omega), hw, if_pos (by omega), if_pos (by omega), rd_nat, if_pos h0]
  ·rw [if_neg h0]
   refine Ev.step (f := fun _ => some (l.take (n + 1))) (fun k => ?_) (Ev.now _)
   simp only [nat_trim.l0]
   rw [if_pos (by omega), hw, if_pos (by omega), if_pos (by omega), rd_nat, if_neg h0, if_pos (by omega), if_pos (by omega)]
   rfl
theorem trim_ev2 {l : List Int} (h : okl l) (hl : lenok2 l) : Ev (fun k => nat_trim.f k l) (limbs (val l)) := by
 rw [← limbs_tl h]
 exact trim_loop l l.length (Nat.le_refl _) hl
theorem trim_ev {l : List Int} (h : okl l) (hl : lenok l) : Ev (fun k => nat_trim.f k l) (limbs (val l)) := trim_ev2 h (by unfold lenok at hl; unfold lenok2; omega)
theorem limbs_val_len {l : List Int} (h : okl l) : (limbs (val l)).length ≤ l.length := limbs_len_le (val_lt h)
theorem norm_ev {l : List Int} (h : okl l) (hl : lenok l) : Ev (fun k => nat_Norm.f k l) (limbs (val l)) := by
 have h1 := limbs_val_len h
 unfold lenok at hl
 refine Ev.bind (a := limbs (val l)) (f := fun k t131 => if ([] : List Int).length + t131.length < 35184372088832 then (some ([] ++ t131)) else none) (trim_ev h hl) ?_
 refine Ev.ite_pos ?_ (Ev.now _)
 simp only [List.length_nil]; omega
theorem of_two {a : Int} (h0 : 0 ≤ a) (h1 : a < 18446744073709551616) : okl [a % 4294967296, a / 4294967296 % 4294967296] ∧ val [a % 4294967296, a / 4294967296 % 4294967296] = a.toNat := by
 refine ⟨?_, ?_⟩
 ·intro x hx; simp at hx; omega
 ·simp only [val]; omega
theorem of_ev {a : Int} (h0 : 0 ≤ a) (h1 : a < 18446744073709551616) : Ev (fun k => nat_Of.f k a) (limbs a.toNat) := by
 obtain ⟨h2, h3⟩ := of_two h0 h1
 rw [← h3]
 refine Ev.bind (f := fun _ t => some t) ?_ (Ev.now _)
 rw [and_low h0 h1, show a % 4294967296 % 4294967296 = a % 4294967296 by omega]
 exact trim_ev h2 (by unfold lenok; simp)
def cmpI (a b : Nat) : Int := if a < b then -1 else if b < a then 1 else 0
theorem cmp_loop (a b : List Int) (ha : okl a) (hb : okl b) (hl : a.length = b.length) (hla : lenok a) (n : Nat) (hn : n ≤ a.length) (he : val (a.drop n) = val (b.drop n)) :
  Ev (fun k => nat_Cmp.l0 k a b ((n : Int) - 1)) (cmpI (val a) (val b)) := by
 induction n with
 | zero =>
  refine Ev.step (f := fun _ => some 0) (fun k => ?_) (by
   rw [List.drop_zero, List.drop_zero] at he
   rw [he, cmpI, if_neg (by omega), if_neg (by omega)]; exact Ev.now _)
  simp only [nat_Cmp.l0]
  rw [if_neg (by omega)]
 | succ n ih =>
  unfold lenok at hla
  have e1 : ((n + 1 : Nat) : Int) - 1 = n := by omega
  have e2 := val_drop_one a n (by omega)
  have e3 := val_drop_one b n (by omega)
  have v1 := val_take_drop a n (by omega)
  have v2 := val_take_drop b n (by omega)
  have b1 := val_lt (okl_take ha n)
  have b2 := val_lt (okl_take hb n)
  rw [List.length_take, Nat.min_eq_left (by omega)] at b1 b2
  have r1 := okl_rd ha n
  have r2 := okl_rd hb n
  rw [rd_nat] at r1 r2
  rw [e1]
  by_cases h1 : a.getD n 0 < b.getD n 0
  ·refine Ev.step (f := fun _ => some (-1)) (fun k => ?_) ?_
   ·simp only [nat_Cmp.l0]
    rw [if_pos (by omega), if_pos (by omega), if_pos (by omega), if_pos (by omega), rd_nat, rd_nat, if_pos h1]
   ·have : val (a.drop n) + 1 ≤ val (b.drop n) := by omega
    have h2 : 4294967296 ^ n * (val (a.drop n) + 1) ≤ 4294967296 ^ n * val (b.drop n) := Nat.mul_le_mul_left _ this
    rw [Nat.mul_add] at h2
    rw [cmpI, if_pos (by omega)]
    exact Ev.now _
  ·by_cases h2 : b.getD n 0 < a.getD n 0
   ·refine Ev.step (f := fun _ => some 1) (fun k => ?_) ?_
    ·simp only [nat_Cmp.l0]
     rw [if_pos (by omega), if_pos (by omega), if_pos (by omega), if_pos (by omega), rd_nat, rd_nat, if_neg h1, if_pos (by omega)]
    ·have : val (b.drop n) + 1 ≤ val (a.drop n) := by omega
     have h3 : 4294967296 ^ n * (val (b.drop n) + 1) ≤ 4294967296 ^ n * val (a.drop n) := Nat.mul_le_mul_left _ this
     rw [Nat.mul_add] at h3
     rw [cmpI, if_neg (by omega), if_pos (by omega)]
     exact Ev.now _
   ·refine Ev.step (fun k => ?_) (ih (by omega) (by omega))
    simp only [nat_Cmp.l0]
    rw [if_pos (by omega), if_pos (by omega), if_pos (by omega), if_pos (by omega), rd_nat, rd_nat, if_neg h1, if_neg (by omega), wrap64_id (by omega) (by omega)]
theorem pow_mono {a b : Nat} (h : a ≤ b) : 4294967296 ^ a ≤ 4294967296 ^ b := Nat.pow_le_pow_right (by decide) h
theorem limbs_len_mono {a b : Nat} (h : a ≤ b) : (limbs a).length ≤ (limbs b).length := by
 apply limbs_len_le
 have := val_lt (okl_limbs b)
 rw [val_limbs] at this
 omega
theorem cmp_ev {a b : List Int} (ha : okl a) (hb : okl b) (hla : lenok a) (hlb : lenok b) : Ev (fun k => nat_Cmp.f k a b) (cmpI (val a) (val b)) := by
 have l1 := limbs_val_len ha
 have l2 := limbs_val_len hb
 refine Ev.bind (trim_ev ha hla) (Ev.bind (trim_ev hb hlb) ?_)
 by_cases he : (limbs (val a)).length = (limbs (val b)).length
 ·refine Ev.ite_pos (by omega) ?_
  have := cmp_loop (limbs (val a)) (limbs (val b)) (okl_limbs _) (okl_limbs _) he (by unfold lenok at *; omega) (limbs (val a)).length (Nat.le_refl _) (by rw [List.drop_length, he, List.drop_length])
  rw [val_limbs, val_limbs] at this
  rw [wrap64_id (by omega) (by unfold lenok at *; omega)]
  exact this
 ·refine Ev.ite_neg (by omega) ?_
  by_cases h1 : (limbs (val a)).length < (limbs (val b)).length
  ·refine Ev.ite_pos (by omega) ?_
   have h2 : val a < val b := by
    rcases Nat.lt_or_ge (val a) (val b) with h | h
    ·exact h
    ·have := limbs_len_mono h; omega
   rw [cmpI, if_pos h2]; exact Ev.now _
  ·refine Ev.ite_neg (by omega) ?_
   have h2 : val b < val a := by
    rcases Nat.lt_or_ge (val b) (val a) with h | h
    ·exact h
    ·have := limbs_len_mono h; omega
   rw [cmpI, if_neg (by omega), if_pos h2]; exact Ev.now _
theorem divSmall_loop (a : List Int) (ha : okl a) (hla : lenok a) (d : Int) (hd0 : 0 < d) (hd1 : d < 4294967296) (n : Nat) (hn : n ≤ a.length) (q : List Int) (hq : okl q) (hql : q.length = a.length) (r : Int) (hr0 : 0 ≤ r) (hr1 : r < d)
  (hv : val (a.drop n) = val (q.drop n) * d.toNat + r.toNat) :
  ∃ q' r', okl q' ∧ q'.length = a.length ∧ 0 ≤ r' ∧ r' < d ∧ val a = val q' * d.toNat + r'.toNat ∧ Ev (fun k => nat_divSmall.l0 k a d q r ((n : Int) - 1)) (limbs (val q'), r') := by
 induction n generalizing q r with
 | zero =>
  refine ⟨q, r, hq, hql, hr0, hr1, by simpa using hv, ?_⟩
  refine Ev.step (f := fun k => (nat_trim.f k q).bind fun t => some (t, r % 4294967296)) (fun k => ?_) ?_
  ·simp only [nat_divSmall.l0]
   rw [if_neg (by omega)]
  ·have e : r % 4294967296 = r := by omega
   rw [e]
   exact Ev.bind (f := fun _ t => some (t, r)) (trim_ev hq (by unfold lenok at *; omega)) (Ev.now _)
 | succ n ih =>
  unfold lenok at hla
  have r1 := okl_rd ha n
  rw [rd_nat] at r1
  have e1 : ((n + 1 : Nat) : Int) - 1 = n := by omega
  obtain ⟨x, hx⟩ : ∃ x, x = r * 4294967296 + a.getD n 0 := ⟨_, rfl⟩
  have hx0 : 0 ≤ x := by omega
  have hx1 : x < d * 4294967296 := by omega
  have hdiv0 : 0 ≤ x / d := Int.ediv_nonneg hx0 (by omega)
  have hdiv1 : x / d < 4294967296 := Int.ediv_lt_of_lt_mul hd0 (by rw [Int.mul_comm]; exact hx1)
  have hm0 := Int.emod_nonneg x (show d ≠ 0 by omega)
  have hm1 := Int.emod_lt_of_pos x hd0
  have hmd := Int.mul_ediv_add_emod x d
  have e2 := val_drop_one a n (by omega)
  have e3 : val ((q.set n (x / d)).drop n) = (x / d).toNat + 4294967296 * val (q.drop (n + 1)) := by
   rw [val_drop_one _ n (by rw [List.length_set]; omega), List.getD_eq_getElem?_getD, List.getElem?_set_self (by omega), List.drop_set_of_lt (by omega)]
   rfl
  obtain ⟨q', r', h1, h2, h3, h4, h5, h6⟩ := ih (by omega) (q.set n (x / d)) (okl_set hq n hdiv0 hdiv1) (by rw [List.length_set]; exact hql) (x % d) hm0 hm1 (by
   rw [e2, hv, e3]
   have hc : (x / d).toNat * d.toNat + (x % d).toNat = r.toNat * 4294967296 + (a.getD n 0).toNat := by
    have h7 : (((x / d).toNat * d.toNat + (x % d).toNat : Nat) : Int) = ((r.toNat * 4294967296 + (a.getD n 0).toNat : Nat) : Int) := by
     rw [Int.natCast_add, Int.natCast_mul, Int.natCast_add, Int.natCast_mul, Int.toNat_of_nonneg hdiv0, Int.toNat_of_nonneg (show (0:Int) ≤ d by omega), Int.toNat_of_nonneg hm0, Int.toNat_of_nonneg hr0, Int.toNat_of_nonneg r1.1]
     rw [Int.mul_comm (x / d) d]; omega
    exact Int.ofNat.inj h7
   grind)
  refine ⟨q', r', h1, h2, h3, h4, h5, ?_⟩
  rw [e1]
  refine Ev.step (fun k => ?_) h6
  simp only [nat_divSmall.l0]
  rw [if_pos (by omega), if_pos (by omega), if_pos (by omega), wrapu64_id (x := d) (by omega) (by omega), if_neg (by omega), if_pos (by omega), rd_nat, wrapu64_id (x := a.getD n 0) (by omega) (by omega), wrapu64_id (x := r * 4294967296) (by omega) (by omega), or_high hr0 (by omega) r1.1 r1.2, ← hx, Int.tdiv_eq_ediv_of_nonneg hx0, Int.tmod_eq_emod_of_nonneg hx0, wrapu64_id (x := x / d) hdiv0 (by omega), show x / d % 4294967296 = x / d by omega, wrap64_id (by omega) (by omega), Int.toNat_natCast]
theorem divSmall_ev {a : List Int} (ha : okl a) (hla : lenok a) {d : Int} (hd0 : 0 < d) (hd1 : d < 4294967296) : Ev (fun k => nat_divSmall.f k a d) (limbs (val a / d.toNat), ((val a % d.toNat : Nat) : Int)) := by
 unfold lenok at hla
 obtain ⟨q', r', h1, h2, h3, h4, h5, h6⟩ := divSmall_loop a ha hla d hd0 hd1 a.length (Nat.le_refl _) (List.replicate a.length 0) (okl_replicate _) (by simp) 0 (by omega) hd0 (by
  rw [List.drop_length, List.drop_of_length_le (by simp)]; simp [val])
 have hq : val a / d.toNat = val q' := by
  rw [h5]
  exact Nat.div_eq_of_lt_le (by omega) (by rw [Nat.add_mul]; omega)
 have hr : val a % d.toNat = r'.toNat := by
  rw [h5, Nat.mul_comm, Nat.mul_add_mod, Nat.mod_eq_of_lt (by omega)]
 rw [hq, hr, Int.toNat_of_nonneg h3]
 refine Ev.ite_pos (by omega) (Ev.ite_pos (by omega) ?_)
 rw [Int.toNat_natCast, wrap64_id (by omega) (by omega)]
 exact h6
theorem mul_inner (a b : List Int) (ha : okl a) (hb : okl b) (hla : lenok a) (hlb : lenok b) (i : Nat) (hi : i < a.length) {r : List Int} (V : Nat)
  (K : ∀ P : List Int, okl P → P.length = a.length + b.length → (∀ m, i + 1 + b.length ≤ m → P.getD m 0 = 0) → val P = V + 4294967296 ^ i * ((a.getD i 0).toNat * val b) → Ev (fun k => nat_Mul.l0 k b P a (a.length : Int) ((i + 1 : Nat) : Int)) r)
  (d : Nat) : ∀ (j : Nat) (P : List Int) (c : Int), j + d = b.length → okl P → P.length = a.length + b.length → (∀ m, i + b.length ≤ m → P.getD m 0 = 0) → 0 ≤ c → c < 4294967296 →
   val P + 4294967296 ^ (i + j) * c.toNat = V + 4294967296 ^ i * ((a.getD i 0).toNat * val (b.take j)) →
   Ev (fun k => nat_Mul.l1 k b P (i : Int) (a.getD i 0) c a (a.length : Int) (i : Int) b (b.length : Int) (j : Int)) r := by
 unfold lenok at hla hlb
 have hx := getD_okl ha i
 induction d with
 | zero =>
  intro j P c hj hP hPl hz hc0 hc1 hv
  obtain rfl : j = b.length := by omega
  have hs := val_set P (i + b.length) (by omega) c
  rw [hz _ (Nat.le_refl _)] at hs
  have e : b.take b.length = b := List.take_length
  rw [e] at hv
  refine Ev.step (fun k => ?_) (K (P.set (i + b.length) c) (okl_set hP _ hc0 hc1) (by rw [List.length_set]; exact hPl) ?_ (by simp at hs; omega))
  ·simp only [nat_Mul.l1]
   rw [if_neg (by omega), wrap64_id (x := (i : Int) + (b.length : Int)) (by omega) (by omega), if_pos (by omega), if_pos (by omega), wrap64_id (x := (i : Int) + 1) (by omega) (by omega), show c % 4294967296 = c by omega,
    show ((i : Int) + (b.length : Int)).toNat = i + b.length by omega]
   rfl
  ·intro m hm
   rw [List.getD_eq_getElem?_getD, List.getElem?_set_ne (by omega), ← List.getD_eq_getElem?_getD]
   exact hz m (by omega)
 | succ d ih =>
  intro j P c hj hP hPl hz hc0 hc1 hv
  have hq := getD_okl hb j
  obtain ⟨t, ht⟩ : ∃ t, t = c + a.getD i 0 * b.getD j 0 + P.getD (i + j) 0 := ⟨_, rfl⟩
  obtain ⟨h1, h2, h3, h4, h5, h6, h7, h8⟩ := mul_step hP (n := i + j) (by omega) hx.1 hx.2 hq.1 hq.2 hc0 hc1 ht
  have hP2 := getD_okl hP (i + j)
  have e1 : val (b.take (j + 1)) = val (b.take j) + 4294967296 ^ j * (b.getD j 0).toNat := val_take_succ b j (by omega)
  refine Ev.step (fun k => ?_) (ih (j + 1) (P.set (i + j) (t % 4294967296)) (t / 4294967296) (by omega) h5 (by rw [List.length_set]; exact hPl) ?_ h6 h7 ?_)
  ·simp only [nat_Mul.l1]
   rw [if_pos (by omega), if_pos (by omega), if_pos (by omega), wrap64_id (x := (i : Int) + (j : Int)) (by omega) (by omega), if_pos (by omega), if_pos (by omega), rd_nat, show (i : Int) + (j : Int) = ((i + j : Nat) : Int) by omega, rd_nat,
    wrapu64_id (x := a.getD i 0) (by omega) (by omega), wrapu64_id (x := b.getD j 0) (by omega) (by omega), wrapu64_id (x := P.getD (i + j) 0) (by omega) (by omega),
    wrapu64_id (x := a.getD i 0 * b.getD j 0) h1 (by omega), wrapu64_id (x := a.getD i 0 * b.getD j 0 + P.getD (i + j) 0) (by omega) (by omega),
    ← Int.add_assoc, ← ht, wrapu64_id (x := t) h3 h4, and_low h3 h4, show t % 4294967296 % 4294967296 = t % 4294967296 by omega, wrap64_id (x := (j : Int) + 1) (by omega) (by omega), Int.toNat_natCast]
   rfl
  ·intro m hm
   rw [List.getD_eq_getElem?_getD, List.getElem?_set_ne (by omega), ← List.getD_eq_getElem?_getD]
   exact hz m hm
  ·rw [show i + (j + 1) = i + j + 1 by omega, h8, e1, Nat.mul_add (4294967296 ^ (i + j)), ← Nat.add_assoc, hv]
   have e2 : 4294967296 ^ (i + j) = 4294967296 ^ i * 4294967296 ^ j := Nat.pow_add _ _ _
   rw [e2]
   grind
theorem mul_outer (a b : List Int) (ha : okl a) (hb : okl b) (hla : lenok a) (hlb : lenok b) (d : Nat) : ∀ (i : Nat) (P : List Int), i + d = a.length → okl P → P.length = a.length + b.length →
  (∀ m, i + b.length ≤ m → P.getD m 0 = 0) → val P = val (a.take i) * val b → Ev (fun k => nat_Mul.l0 k b P a (a.length : Int) (i : Int)) (limbs (val a * val b)) := by
 induction d with
 | zero =>
  intro i P hi hP hPl hz hv
  obtain rfl : i = a.length := by omega
  rw [List.take_length] at hv
  unfold lenok at hla hlb
  rw [← hv]
  refine Ev.step (f := fun k => (nat_trim.f k P).bind fun t => some t) (fun k => ?_) (Ev.bind (f := fun _ t => some t) (trim_ev2 hP (by unfold lenok2; omega)) (Ev.now _))
  simp only [nat_Mul.l0]
  rw [if_neg (by omega)]
 | succ d ih =>
  intro i P hi hP hPl hz hv
  have hla' := hla
  unfold lenok at hla'
  refine Ev.step (fun k => ?_) (mul_inner a b ha hb hla hlb i (by omega) (val (a.take i) * val b) (fun P' h1 h2 h3 h4 => ih (i + 1) P' (by omega) h1 h2 h3 (by rw [h4, val_take_succ a i (by omega)]; grind)) b.length 0 P 0 (by omega) hP hPl hz (by omega) (by omega) (by simp [val, hv]))
  simp only [nat_Mul.l0]
  rw [if_pos (by omega), if_pos (by omega), if_pos (by omega), rd_nat]
  rfl
theorem mul_ev {a b : List Int} (ha : okl a) (hb : okl b) (hla : lenok a) (hlb : lenok b) : Ev (fun k => nat_Mul.f k a b) (limbs (val a * val b)) := by
 have l1 := limbs_val_len ha
 have l2 := limbs_val_len hb
 refine Ev.bind (trim_ev ha hla) (Ev.bind (trim_ev hb hlb) ?_)
 have hj1 : ∀ x y : List Int, Ev (fun k => nat_Mul.j0 k x y true) [] := fun x y => Ev.step (f := fun _ => some []) (fun k => by simp only [nat_Mul.j0, if_true]) (Ev.now _)
 by_cases h1 : val a = 0
 ·rw [h1, Nat.zero_mul, limbs_zero]
  exact Ev.ite_pos (by simp) (hj1 _ _)
 ·have h1' := List.length_pos_iff.2 (limbs_ne_nil h1)
  refine Ev.ite_neg (by omega) ?_
  by_cases h2 : val b = 0
  ·rw [h2, Nat.mul_zero, limbs_zero]
   exact hj1 _ _
  ·have h2' := List.length_pos_iff.2 (limbs_ne_nil h2)
   have e : (((limbs (val b)).length : Int) == 0) = false := by simp only [beq_eq_false_iff_ne]; omega
   rw [e]
   unfold lenok at hla hlb
   have w : wrap64 (((limbs (val a)).length : Int) + ((limbs (val b)).length : Int)) = ((limbs (val a)).length + (limbs (val b)).length : Nat) := by rw [wrap64_id (by omega) (by omega)]; omega
   refine Ev.step (f := fun k => nat_Mul.l0 k (limbs (val b)) (List.replicate ((limbs (val a)).length + (limbs (val b)).length) 0) (limbs (val a)) ((limbs (val a)).length : Int) 0) (fun k => ?_) ?_
   ·simp only [nat_Mul.j0]
    rw [if_neg (by decide), w, if_pos (by omega), if_pos (by omega), Int.toNat_natCast]
   ·have := mul_outer (limbs (val a)) (limbs (val b)) (okl_limbs _) (okl_limbs _) (by unfold lenok; omega) (by unfold lenok; omega) (limbs (val a)).length 0 (List.replicate ((limbs (val a)).length + (limbs (val b)).length) 0) (by omega) (okl_replicate _) (by simp) (fun m _ => by
      rw [List.getD_eq_getElem?_getD, List.getElem?_replicate]; split <;> rfl) (by simp [val, val_replicate])
    rw [val_limbs, val_limbs] at this
    exact this
theorem pow_le31 {n : Nat} (h : n ≤ 31) : 2 ^ n ≤ 2147483648 ∧ 0 < 2 ^ n := ⟨Nat.pow_le_pow_right (by decide) h, Nat.two_pow_pos n⟩
theorem shl_u64 {x : Int} {n : Nat} (h0 : 0 ≤ x) (h1 : x < 4294967296) (hn : n ≤ 31) : shl .u64 x (n : Int) = x * (2 ^ n : Nat) := by
 obtain ⟨p1, p2⟩ := pow_le31 hn
 obtain ⟨x, rfl⟩ := Int.eq_ofNat_of_zero_le h0
 have h2 : x * 2 ^ n ≤ 4294967295 * 2147483648 := Nat.mul_le_mul (by omega) p1
 unfold shl
 rw [Int.toNat_natCast, Nat.min_eq_left (by simp [IntKind.bits]; omega), show (x : Int) * (2 : Int) ^ n = ((x * 2 ^ n : Nat) : Int) by simp, wrapu64_id (by omega) (by omega)]
 simp
theorem shr_u64 {x : Int} {n : Nat} (hn : n ≤ 31) : shr .u64 x (n : Int) = x / (2 ^ n : Nat) := by
 unfold shr
 rw [Int.toNat_natCast, Nat.min_eq_left (by simp [IntKind.bits]; omega)]
 simp
theorem or_low {c x : Int} {n : Nat} (hn : n ≤ 31) (hc0 : 0 ≤ c) (hc1 : c < (2 ^ n : Nat)) (h0 : 0 ≤ x) (h1 : x < 4294967296) : Go.bits .or .u64 c (x * (2 ^ n : Nat)) = c + x * (2 ^ n : Nat) := by
 obtain ⟨p1, p2⟩ := pow_le31 hn
 obtain ⟨x, rfl⟩ := Int.eq_ofNat_of_zero_le h0
 obtain ⟨c, rfl⟩ := Int.eq_ofNat_of_zero_le hc0
 have h2 : x * 2 ^ n ≤ 4294967295 * 2147483648 := Nat.mul_le_mul (by omega) p1
 have h3 : c < 2 ^ n := by exact_mod_cast hc1
 have e : (x : Int) * ((2 ^ n : Nat) : Int) = ((x * 2 ^ n : Nat) : Int) := by simp
 rw [e, (bits_nat .u64 64 (by decide) (fun n a b => wrapu64_id a b) c (x * 2 ^ n) (by omega) (by omega)).2, Nat.or_comm, Nat.mul_comm, ← Nat.two_pow_add_eq_or_of_lt h3]
 simp [Int.add_comm]
theorem shiftUp_loop (a : List Int) (ha : okl a) (hla : lenok a) (s : Nat) (hs : s ≤ 31) (d : Nat) : ∀ (i : Nat) (o : List Int) (c : Int), i + d = a.length → okl o → o.length = a.length + 1 → 0 ≤ c → c < (2 ^ s : Nat) →
  val (o.take i) + 4294967296 ^ i * c.toNat = val (a.take i) * 2 ^ s →
  ∃ r, okl r ∧ r.length = a.length + 1 ∧ val r = val a * 2 ^ s ∧ Ev (fun k => nat_shiftUp.l0 k a (s : Int) o c a (a.length : Int) (i : Int)) r := by
 unfold lenok at hla
 obtain ⟨p1, p2⟩ := pow_le31 hs
 induction d with
 | zero =>
  intro i o c hi ho hol hc0 hc1 hv
  obtain rfl : i = a.length := by omega
  rw [List.take_length] at hv
  refine ⟨o.set a.length c, okl_set ho _ hc0 (by omega), by rw [List.length_set]; exact hol, ?_, ?_⟩
  ·have e1 : (o.set a.length c) = o.take a.length ++ [c] := by
    rw [List.set_eq_take_append_cons_drop, if_pos (by omega), List.drop_of_length_le (by omega)]
   rw [e1, val_append, List.length_take, Nat.min_eq_left (by omega)]
   simp only [val]
   omega
  ·refine Ev.step (f := fun _ => some (o.set a.length c)) (fun k => ?_) (Ev.now _)
   simp only [nat_shiftUp.l0]
   rw [if_neg (by omega), if_pos (by omega), if_pos (by omega), Int.toNat_natCast, show c % 4294967296 = c by omega]
 | succ d ih =>
  intro i o c hi ho hol hc0 hc1 hv
  have hx := getD_okl ha i
  obtain ⟨t, ht⟩ : ∃ t, t = c + a.getD i 0 * (2 ^ s : Nat) := ⟨_, rfl⟩
  have hm : 0 ≤ a.getD i 0 * ((2 ^ s : Nat) : Int) := Int.mul_nonneg hx.1 (by omega)
  have hm2 : (a.getD i 0 + 1) * ((2 ^ s : Nat) : Int) ≤ 4294967296 * ((2 ^ s : Nat) : Int) := Int.mul_le_mul_of_nonneg_right (by omega) (by omega)
  rw [Int.add_mul, Int.one_mul] at hm2
  have ht0 : 0 ≤ t := by omega
  have ht1 : t < 4294967296 * ((2 ^ s : Nat) : Int) := by omega
  have ht2 : t / 4294967296 < (2 ^ s : Nat) := by omega
  have e1 : (o.set i (t % 4294967296)).take (i + 1) = o.take i ++ [t % 4294967296] := by
   rw [List.set_eq_take_append_cons_drop, if_pos (by omega), List.take_append, List.length_take, Nat.min_eq_left (by omega), List.take_take, Nat.min_eq_right (by omega), show i + 1 - i = 1 by omega]
   rfl
  obtain ⟨r, h1, h2, h3, h4⟩ := ih (i + 1) (o.set i (t % 4294967296)) (t / 4294967296) (by omega) (okl_set ho _ (by omega) (by omega)) (by rw [List.length_set]; exact hol) (by omega) ht2 (by
   rw [e1, val_append, List.length_take, Nat.min_eq_left (by omega), val_take_succ a i (by omega), Nat.add_mul, ← hv]
   have e2 : (t % 4294967296).toNat + 4294967296 * (t / 4294967296).toNat = c.toNat + (a.getD i 0).toNat * 2 ^ s := by
    have : ((a.getD i 0).toNat * 2 ^ s : Nat) = (a.getD i 0 * ((2 ^ s : Nat) : Int)).toNat := by
     obtain ⟨x, hxx⟩ := Int.eq_ofNat_of_zero_le hx.1
     rw [hxx]
     have : (x : Int) * ((2 ^ s : Nat) : Int) = ((x * 2 ^ s : Nat) : Int) := by simp
     rw [this]; rfl
    omega
   simp only [val]
   rw [Nat.pow_succ]
   grind)
  refine ⟨r, h1, h2, h3, Ev.step (fun k => ?_) h4⟩
  simp only [nat_shiftUp.l0]
  rw [if_pos (by omega), if_pos (by omega), if_pos (by omega), if_pos (by omega), if_pos (by omega), rd_nat, wrapu64_id (x := a.getD i 0) (by omega) (by omega), shl_u64 hx.1 hx.2 hs, or_low hs hc0 hc1 hx.1 hx.2, ← ht,
   and_low ht0 (by omega), show t % 4294967296 % 4294967296 = t % 4294967296 by omega, wrap64_id (x := (i : Int) + 1) (by omega) (by omega), Int.toNat_natCast]
  rfl
theorem shiftUp_ev {a : List Int} (ha : okl a) (hla : lenok a) {s : Nat} (hs : s ≤ 31) : ∃ r, okl r ∧ r.length = a.length + 1 ∧ val r = val a * 2 ^ s ∧ Ev (fun k => nat_shiftUp.f k a (s : Int)) r := by
 have hla' := hla
 unfold lenok at hla'
 obtain ⟨r, h1, h2, h3, h4⟩ := shiftUp_loop a ha hla s hs a.length 0 (List.replicate (a.length + 1) 0) 0 (by omega) (okl_replicate _) (by simp) (by omega) (by have := (pow_le31 hs).2; omega) (by simp [val])
 refine ⟨r, h1, h2, h3, ?_⟩
 have w : wrap64 ((a.length : Int) + 1) = ((a.length + 1 : Nat) : Int) := by rw [wrap64_id (by omega) (by omega)]; rfl
 unfold nat_shiftUp.f
 simp only [w]
 refine Ev.ite_pos (by omega) (Ev.ite_pos (by omega) ?_)
 rw [Int.toNat_natCast]
 exact h4
def dn (a : List Int) (s i : Nat) : Int := ((a.getD i 0 + 4294967296 * a.getD (i + 1) 0) / ((2 ^ s : Nat) : Int)) % 4294967296
theorem dn_val (a o : List Int) (ha : okl a) (s : Nat) (hs : s ≤ 31) (hol : o.length = a.length) (ho : ∀ i, i < a.length → o.getD i 0 = dn a s i) (d : Nat) : ∀ i, i + d = a.length → val (o.drop i) = val (a.drop i) / 2 ^ s := by
 obtain ⟨p1, p2⟩ := pow_le31 hs
 induction d with
 | zero =>
  intro i hi
  rw [List.drop_of_length_le (by omega), List.drop_of_length_le (by omega)]
  simp [val]
 | succ d ih =>
  intro i hi
  have h1 := ih (i + 1) (by omega)
  rw [val_drop_one o i (by omega), val_drop_one a i (by omega), ho i (by omega), h1]
  have hx := getD_okl ha i
  have hy := getD_okl ha (i + 1)
  obtain ⟨x, hx'⟩ := Int.eq_ofNat_of_zero_le hx.1
  obtain ⟨y, hy'⟩ := Int.eq_ofNat_of_zero_le hy.1
  obtain ⟨V, hV⟩ : ∃ V, V = val (a.drop (i + 1)) := ⟨_, rfl⟩
  have hVy : V % 4294967296 = y := by
   rw [hV]
   by_cases h2 : i + 1 < a.length
   ·rw [val_drop_one a (i + 1) h2, hy', Int.toNat_natCast]; omega
   ·rw [List.drop_of_length_le (by omega)]
    rw [List.getD_eq_getElem?_getD, List.getElem?_eq_none (by omega)] at hy'
    simp at hy'
    simp [val]; omega
  rw [← hV]
  unfold dn
  rw [hx', hy']
  have e1 : ((((x : Int) + 4294967296 * (y : Int)) / ((2 ^ s : Nat) : Int)) % 4294967296).toNat = (x + 4294967296 * y) / 2 ^ s % 4294967296 := by
   have : ((x : Int) + 4294967296 * (y : Int)) = ((x + 4294967296 * y : Nat) : Int) := by simp
   rw [this, ← Int.natCast_ediv]
   omega
  rw [e1, Int.toNat_natCast]
  have hx2 : x < 4294967296 := by omega
  obtain ⟨e, he⟩ : ∃ e, 4294967296 = 2 ^ s * e := ⟨2 ^ (32 - s), by rw [← Nat.pow_add, show s + (32 - s) = 32 by omega]⟩
  have hVm := Nat.div_add_mod V 4294967296
  rw [hVy] at hVm
  have e2 : x + 4294967296 * V = (x + 4294967296 * y) + 2 ^ s * (e * (4294967296 * (V / 4294967296))) := by
   have : 4294967296 * V = 4294967296 * y + 4294967296 * (4294967296 * (V / 4294967296)) := by omega
   have h9 : 2 ^ s * (e * (4294967296 * (V / 4294967296))) = 4294967296 * (4294967296 * (V / 4294967296)) := by rw [← Nat.mul_assoc (2 ^ s), ← he]
   rw [this, h9]; omega
  have e3 : (x + 4294967296 * V) / 2 ^ s = (x + 4294967296 * y) / 2 ^ s + e * (4294967296 * (V / 4294967296)) := by rw [e2, Nat.add_mul_div_left _ _ p2]
  have e4 : (x + 4294967296 * V) / 2 ^ s % 4294967296 = (x + 4294967296 * y) / 2 ^ s % 4294967296 := by
   rw [e3, show e * (4294967296 * (V / 4294967296)) = 4294967296 * (e * (V / 4294967296)) by grind, Nat.add_mul_mod_self_left]
  have hVd := Nat.div_add_mod V (2 ^ s)
  have hVr := Nat.mod_lt V p2
  have e5 : (x + 4294967296 * V) / 2 ^ s = (x + 4294967296 * (V % 2 ^ s)) / 2 ^ s + 4294967296 * (V / 2 ^ s) := by
   have : x + 4294967296 * V = (x + 4294967296 * (V % 2 ^ s)) + 2 ^ s * (4294967296 * (V / 2 ^ s)) := by
    have h7 : 4294967296 * V = 4294967296 * (2 ^ s * (V / 2 ^ s) + V % 2 ^ s) := by rw [hVd]
    rw [h7]; grind
   rw [this, Nat.add_mul_div_left _ _ p2]
  have e6 : (x + 4294967296 * (V % 2 ^ s)) / 2 ^ s < 4294967296 := by
   rw [Nat.div_lt_iff_lt_mul p2]
   have : 4294967296 * (V % 2 ^ s + 1) ≤ 4294967296 * 2 ^ s := Nat.mul_le_mul_left _ (by omega)
   omega
  rw [← e4, e5, Nat.add_mul_mod_self_left, Nat.mod_eq_of_lt e6]
theorem shiftDown_loop (a : List Int) (ha : okl a) (hla : lenok2 a) (s : Nat) (hs : s ≤ 31) (d : Nat) : ∀ (i : Nat) (o : List Int), i + d = a.length → okl o → o.length = a.length → (∀ j, j < i → o.getD j 0 = dn a s j) →
  Ev (fun k => nat_shiftDown.l0 k a (s : Int) o (a.length : Int) (i : Int)) (limbs (val a / 2 ^ s)) := by
 unfold lenok2 at hla
 obtain ⟨p1, p2⟩ := pow_le31 hs
 induction d with
 | zero =>
  intro i o hi ho hol hd
  obtain rfl : i = a.length := by omega
  have := dn_val a o ha s hs hol hd a.length 0 (by omega)
  rw [List.drop_zero, List.drop_zero] at this
  rw [← this]
  refine Ev.step (f := fun k => (nat_trim.f k o).bind fun t => some t) (fun k => ?_) (Ev.bind (f := fun _ t => some t) (trim_ev2 ho (by unfold lenok2; omega)) (Ev.now _))
  simp only [nat_shiftDown.l0]
  rw [if_neg (by omega)]
 | succ d ih =>
  intro i o hi ho hol hd
  have hx := getD_okl ha i
  have hy := getD_okl ha (i + 1)
  have hdn : 0 ≤ dn a s i ∧ dn a s i < 4294967296 := by unfold dn; omega
  refine Ev.step (fun k => ?_) (ih (i + 1) (o.set i (dn a s i)) (by omega) (okl_set ho _ hdn.1 hdn.2) (by rw [List.length_set]; exact hol) (fun j hj => ?_))
  ·obtain ⟨t, ht⟩ : ∃ t, t = a.getD i 0 + 4294967296 * a.getD (i + 1) 0 := ⟨_, rfl⟩
   have hds : dn a s i = t / ((2 ^ s : Nat) : Int) % 4294967296 := by rw [ht]; rfl
   have ht0 : 0 ≤ t / ((2 ^ s : Nat) : Int) := Int.ediv_nonneg (by omega) (by omega)
   have ht1 : t / ((2 ^ s : Nat) : Int) < 18446744073709551616 := Int.ediv_lt_of_lt_mul (by omega) (by
    have : 18446744073709551616 * 1 ≤ 18446744073709551616 * ((2 ^ s : Nat) : Int) := Int.mul_le_mul_of_nonneg_left (by omega) (by omega)
    omega)
   have hor : Go.bits .or .u64 (a.getD i 0) (a.getD (i + 1) 0 * 4294967296) = t := by
    obtain ⟨x, hx'⟩ := Int.eq_ofNat_of_zero_le hx.1
    obtain ⟨y, hy'⟩ := Int.eq_ofNat_of_zero_le hy.1
    rw [ht, hx', hy']
    have e : (y : Int) * 4294967296 = ((4294967296 * y : Nat) : Int) := by omega
    rw [e, (bits_nat .u64 64 (by decide) (fun n a b => wrapu64_id a b) x (4294967296 * y) (by omega) (by omega)).2, Nat.or_comm, show (4294967296 : Nat) = 2 ^ 32 from rfl, ← Nat.two_pow_add_eq_or_of_lt (by omega)]
    omega
   simp only [nat_shiftDown.l0]
   rw [if_pos (by omega), if_pos (by omega), if_pos (by omega), wrap64_id (x := (i : Int) + 1) (by omega) (by omega)]
   by_cases h2 : i + 1 < a.length
   ·rw [if_pos (by omega), if_pos (by omega), if_pos (by omega), if_pos (by omega), rd_nat, show (i : Int) + 1 = ((i + 1 : Nat) : Int) by omega, rd_nat, wrapu64_id (x := a.getD i 0) (by omega) (by omega), wrapu64_id (x := a.getD (i + 1) 0) (by omega) (by omega),
     wrapu64_id (x := a.getD (i + 1) 0 * 4294967296) (by omega) (by omega), hor, shr_u64 hs, and_low ht0 ht1, Int.toNat_natCast, hds, show t / ((2 ^ s : Nat) : Int) % 4294967296 % 4294967296 = t / ((2 ^ s : Nat) : Int) % 4294967296 by omega]
   ·have hy0 : a.getD (i + 1) 0 = 0 := by rw [List.getD_eq_getElem?_getD, List.getElem?_eq_none (by omega)]; rfl
    rw [hy0] at ht
    rw [if_neg (by omega), if_pos (by omega), if_pos (by omega), rd_nat, wrapu64_id (x := a.getD i 0) (by omega) (by omega), show a.getD i 0 = t by omega, shr_u64 hs, and_low ht0 ht1, Int.toNat_natCast, hds, show t / ((2 ^ s : Nat) : Int) % 4294967296 % 4294967296 = t / ((2 ^ s : Nat) : Int) % 4294967296 by omega]
    rfl
  ·by_cases hji : j = i
   ·subst hji
    rw [List.getD_eq_getElem?_getD, List.getElem?_set_self (by omega)]; rfl
   ·rw [List.getD_eq_getElem?_getD, List.getElem?_set_ne (by omega), ← List.getD_eq_getElem?_getD]
    exact hd j (by omega)
theorem shiftDown_ev {a : List Int} (ha : okl a) (hla : lenok2 a) {s : Nat} (hs : s ≤ 31) : Ev (fun k => nat_shiftDown.f k a (s : Int)) (limbs (val a / 2 ^ s)) := by
 have hla' := hla
 unfold lenok2 at hla'
 unfold nat_shiftDown.f
 refine Ev.ite_pos (by omega) (Ev.ite_pos (by omega) ?_)
 rw [Int.toNat_natCast]
 exact shiftDown_loop a ha hla s hs a.length 0 _ (by omega) (okl_replicate _) (by simp) (fun j hj => by omega)
theorem tdown {t : Int} (h0 : -4294967297 ≤ t) (h1 : t < 4294967296) :
  Go.bits .and .u64 (IntKind.u64.wrap t) 4294967295 = t % 4294967296 ∧ IntKind.u64.wrap t / 9223372036854775808 = (if t < 0 then 1 else 0) := by
 have hw : 0 ≤ IntKind.u64.wrap t ∧ IntKind.u64.wrap t < 18446744073709551616 := by rw [wrapu64]; omega
 refine ⟨?_, ?_⟩
 ·rw [and_low hw.1 hw.2, wrapu64]; omega
 ·rw [wrapu64]; split <;> omega
theorem wrapu64_sub (x y z : Int) : IntKind.u64.wrap (IntKind.u64.wrap (x - y) - z) = IntKind.u64.wrap (x - y - z) := by
 rw [wrapu64, wrapu64, wrapu64]; omega
theorem sub_loop (v : List Int) (hv : okl v) (hlv : lenok v) (q : Int) (hq0 : 0 ≤ q) (hq1 : q < 4294967296) (U : Nat) (d : Nat) : ∀ (i : Nat) (u : List Int) (b c : Int), i + d = v.length → okl u → u.length = v.length + 1 →
  (b = 0 ∨ b = 1) → 0 ≤ c → c < 4294967296 → val u + q.toNat * val (v.take i) = U + 4294967296 ^ i * (b.toNat + c.toNat) →
  ∃ neg r, okl r ∧ r.length = v.length + 1 ∧ val r + q.toNat * val v = U + (if neg then 4294967296 ^ (v.length + 1) else 0) ∧ Ev (fun k => nat_subtract.l0 k u v q b c v (v.length : Int) (i : Int)) (neg, r) := by
 unfold lenok at hlv
 induction d with
 | zero =>
  intro i u b c hi hu hul hb hc0 hc1 hs
  obtain rfl : i = v.length := by omega
  have hx := getD_okl hu v.length
  obtain ⟨t, ht⟩ : ∃ t, t = u.getD v.length 0 - b - c := ⟨_, rfl⟩
  have td := tdown (t := t) (by omega) (by omega)
  rw [List.take_length] at hs
  refine ⟨decide (t < 0), u.set v.length (t % 4294967296), okl_set hu _ (by omega) (by omega), by rw [List.length_set]; exact hul, ?_, ?_⟩
  ·have h1 := val_set u v.length (by omega) (t % 4294967296)
   have e1 : (t % 4294967296).toNat + b.toNat + c.toNat = (u.getD v.length 0).toNat + 4294967296 * (if t < 0 then 1 else 0) := by split <;> omega
   have e2 : 4294967296 ^ v.length * ((t % 4294967296).toNat + b.toNat + c.toNat) = 4294967296 ^ v.length * ((u.getD v.length 0).toNat + 4294967296 * (if t < 0 then 1 else 0)) := by rw [e1]
   have e3 : (if decide (t < 0) = true then 4294967296 ^ (v.length + 1) else 0) = 4294967296 ^ v.length * (4294967296 * (if t < 0 then 1 else 0)) := by
    by_cases h : t < 0 <;> simp [h, Nat.pow_succ]
   rw [e3]
   generalize (if t < 0 then 1 else 0) = z at e2 ⊢
   grind
  ·refine Ev.step (f := fun _ => some (decide (t < 0), u.set v.length (t % 4294967296))) (fun k => ?_) (Ev.now _)
   simp only [nat_subtract.l0]
   rw [if_neg (by omega), if_pos (by omega), if_pos (by omega), rd_nat, wrapu64_id (x := u.getD v.length 0) (by omega) (by omega), wrapu64_sub, ← ht, td.1, td.2, Int.toNat_natCast, show t % 4294967296 % 4294967296 = t % 4294967296 by omega]
   by_cases h : t < 0 <;> simp [h]
 | succ d ih =>
  intro i u b c hi hu hul hb hc0 hc1 hs
  have hx := getD_okl hu i
  have hy := getD_okl hv i
  obtain ⟨x, hx'⟩ := Int.eq_ofNat_of_zero_le hy.1
  obtain ⟨qn, rfl⟩ := Int.eq_ofNat_of_zero_le hq0
  have hp : qn * x ≤ 4294967295 * 4294967295 := Nat.mul_le_mul (by omega) (by omega)
  have hcast : (qn : Int) * (v.getD i 0) = ((qn * x : Nat) : Int) := by rw [hx']; simp
  obtain ⟨m, hm⟩ : ∃ m, m = c + (qn : Int) * (v.getD i 0) := ⟨_, rfl⟩
  have hm0 : 0 ≤ m := by omega
  have hm1 : m < 18446744069414584321 := by omega
  obtain ⟨t, ht⟩ : ∃ t, t = u.getD i 0 - b - m % 4294967296 := ⟨_, rfl⟩
  have td := tdown (t := t) (by omega) (by omega)
  obtain ⟨neg, r, h1, h2, h3, h4⟩ := ih (i + 1) (u.set i (t % 4294967296)) (if t < 0 then 1 else 0) (m / 4294967296) (by omega) (okl_set hu _ (by omega) (by omega)) (by rw [List.length_set]; exact hul) (by split <;> simp) (by omega) (by omega) (by
   have h1 := val_set u i (by omega) (t % 4294967296)
   have e1 : (t % 4294967296).toNat + b.toNat + c.toNat + qn * x = (u.getD i 0).toNat + 4294967296 * ((if t < 0 then (1 : Int) else 0).toNat + (m / 4294967296).toNat) := by split <;> omega
   have e2 : 4294967296 ^ i * ((t % 4294967296).toNat + b.toNat + c.toNat + qn * x) = 4294967296 ^ i * ((u.getD i 0).toNat + 4294967296 * ((if t < 0 then (1 : Int) else 0).toNat + (m / 4294967296).toNat)) := by rw [e1]
   have e4 : val (v.take (i + 1)) = val (v.take i) + 4294967296 ^ i * x := by rw [val_take_succ v i (by omega), hx']; rfl
   rw [e4, Nat.pow_succ]
   rw [Int.toNat_natCast] at hs ⊢
   generalize ((if t < 0 then (1 : Int) else 0).toNat + (m / 4294967296).toNat) = z at e2 ⊢
   grind)
  refine ⟨neg, r, h1, h2, h3, Ev.step (fun k => ?_) h4⟩
  simp only [nat_subtract.l0]
  rw [if_pos (by omega), if_pos (by omega), if_pos (by omega), if_pos (by omega), rd_nat, rd_nat, wrapu64_id (x := u.getD i 0) (by omega) (by omega), wrapu64_id (x := v.getD i 0) (by omega) (by omega), wrapu64_id (x := (qn : Int) * v.getD i 0) (by omega) (by omega), ← hm, wrapu64_id (x := m) (by omega) (by omega),
   and_low hm0 (by omega), wrapu64_sub, ← ht, td.1, td.2, show t % 4294967296 % 4294967296 = t % 4294967296 by omega, wrap64_id (x := (i : Int) + 1) (by omega) (by omega), Int.toNat_natCast]
  rfl
theorem subtract_ev {u v : List Int} (hu : okl u) (hv : okl v) (hlv : lenok v) {q : Int} (hq0 : 0 ≤ q) (hq1 : q < 4294967296) {lo : Nat} (hl : lo + v.length + 1 ≤ u.length) :
  ∃ neg w, okl w ∧ w.length = v.length + 1 ∧ val w + q.toNat * val v = val ((u.drop lo).take (v.length + 1)) + (if neg then 4294967296 ^ (v.length + 1) else 0) ∧
   Ev (fun k => nat_subtract.f k u (lo : Int) ((lo + v.length + 1 : Nat) : Int) v q) (neg, u.take lo ++ w ++ u.drop (lo + v.length + 1)) := by
 have e : (u.take (lo + v.length + 1)).drop lo = (u.drop lo).take (v.length + 1) := by rw [List.drop_take]; congr 1; omega
 obtain ⟨neg, w, h1, h2, h3, h4⟩ := sub_loop v hv hlv q hq0 hq1 (val ((u.drop lo).take (v.length + 1))) v.length 0 ((u.drop lo).take (v.length + 1)) 0 0 (by omega) (okl_take (okl_drop hu _) _) (by rw [List.length_take, List.length_drop]; omega) (.inl rfl) (by omega) (by omega) (by simp [val])
 refine ⟨neg, w, h1, h2, h3, ?_⟩
 unfold nat_subtract.f
 refine Ev.ite_pos (by omega) (Ev.ite_pos (by omega) (Ev.ite_pos (by omega) ?_))
 simp only [Int.toNat_natCast]
 rw [e]
 exact Ev.bind (f := fun _ t => some (t.1, u.take lo ++ t.2 ++ u.drop (lo + v.length + 1))) h4 (Ev.now _)
theorem add_loop (v : List Int) (hv : okl v) (hlv : lenok v) (U : Nat) (d : Nat) : ∀ (i : Nat) (u : List Int) (c : Int), i + d = v.length → okl u → u.length = v.length + 1 →
  0 ≤ c → c < 4294967296 → val u + 4294967296 ^ i * c.toNat = U + val (v.take i) →
  ∃ r, okl r ∧ r.length = v.length + 1 ∧ (∃ z : Nat, val r + z * 4294967296 ^ (v.length + 1) = U + val v) ∧ Ev (fun k => nat_addBack.l0 k u v c v (v.length : Int) (i : Int)) r := by
 unfold lenok at hlv
 induction d with
 | zero =>
  intro i u c hi hu hul hc0 hc1 hs
  obtain rfl : i = v.length := by omega
  have hx := getD_okl hu v.length
  rw [List.take_length] at hs
  obtain ⟨t, ht⟩ : ∃ t, t = u.getD v.length 0 + c := ⟨_, rfl⟩
  refine ⟨u.set v.length (t % 4294967296), okl_set hu _ (by omega) (by omega), by rw [List.length_set]; exact hul, ⟨(t / 4294967296).toNat, ?_⟩, ?_⟩
  ·have h1 := val_set u v.length (by omega) (t % 4294967296)
   have e1 : (t % 4294967296).toNat + 4294967296 * (t / 4294967296).toNat = (u.getD v.length 0).toNat + c.toNat := by omega
   have e2 : 4294967296 ^ v.length * ((t % 4294967296).toNat + 4294967296 * (t / 4294967296).toNat) = 4294967296 ^ v.length * ((u.getD v.length 0).toNat + c.toNat) := by rw [e1]
   rw [Nat.pow_succ]
   grind
  ·refine Ev.step (f := fun _ => some (u.set v.length (t % 4294967296))) (fun k => ?_) (Ev.now _)
   simp only [nat_addBack.l0]
   rw [if_neg (by omega), if_pos (by omega), if_pos (by omega), rd_nat, Int.toNat_natCast, show c % 4294967296 = c by omega, ← ht]
 | succ d ih =>
  intro i u c hi hu hul hc0 hc1 hs
  have hx := getD_okl hu i
  have hy := getD_okl hv i
  obtain ⟨t, ht⟩ : ∃ t, t = c + (u.getD i 0 + v.getD i 0) := ⟨_, rfl⟩
  obtain ⟨r, h1, h2, h3, h4⟩ := ih (i + 1) (u.set i (t % 4294967296)) (t / 4294967296) (by omega) (okl_set hu _ (by omega) (by omega)) (by rw [List.length_set]; exact hul) (by omega) (by omega) (by
   have h1 := val_set u i (by omega) (t % 4294967296)
   have e1 : (t % 4294967296).toNat + 4294967296 * (t / 4294967296).toNat = c.toNat + (u.getD i 0).toNat + (v.getD i 0).toNat := by omega
   have e2 : 4294967296 ^ i * ((t % 4294967296).toNat + 4294967296 * (t / 4294967296).toNat) = 4294967296 ^ i * (c.toNat + (u.getD i 0).toNat + (v.getD i 0).toNat) := by rw [e1]
   rw [val_take_succ v i (by omega), Nat.pow_succ]
   grind)
  refine ⟨r, h1, h2, h3, Ev.step (fun k => ?_) h4⟩
  simp only [nat_addBack.l0]
  rw [if_pos (by omega), if_pos (by omega), if_pos (by omega), if_pos (by omega), rd_nat, rd_nat, wrapu64_id (x := u.getD i 0) (by omega) (by omega), wrapu64_id (x := v.getD i 0) (by omega) (by omega), wrapu64_id (x := u.getD i 0 + v.getD i 0) (by omega) (by omega), ← ht, wrapu64_id (x := t) (by omega) (by omega),
   and_low (by omega) (by omega), show t % 4294967296 % 4294967296 = t % 4294967296 by omega, wrap64_id (x := (i : Int) + 1) (by omega) (by omega), Int.toNat_natCast]
  rfl
theorem addBack_ev {u v : List Int} (hu : okl u) (hv : okl v) (hlv : lenok v) {lo : Nat} (hl : lo + v.length + 1 ≤ u.length) :
  ∃ w, okl w ∧ w.length = v.length + 1 ∧ (∃ z : Nat, val w + z * 4294967296 ^ (v.length + 1) = val ((u.drop lo).take (v.length + 1)) + val v) ∧
   Ev (fun k => nat_addBack.f k u (lo : Int) ((lo + v.length + 1 : Nat) : Int) v) (u.take lo ++ w ++ u.drop (lo + v.length + 1)) := by
 have e : (u.take (lo + v.length + 1)).drop lo = (u.drop lo).take (v.length + 1) := by rw [List.drop_take]; congr 1; omega
 obtain ⟨w, h1, h2, h3, h4⟩ := add_loop v hv hlv (val ((u.drop lo).take (v.length + 1))) v.length 0 ((u.drop lo).take (v.length + 1)) 0 (by omega) (okl_take (okl_drop hu _) _) (by rw [List.length_take, List.length_drop]; omega) (by omega) (by omega) (by simp [val])
 refine ⟨w, h1, h2, h3, ?_⟩
 unfold nat_addBack.f
 refine Ev.ite_pos (by omega) (Ev.ite_pos (by omega) (Ev.ite_pos (by omega) ?_))
 simp only [Int.toNat_natCast]
 rw [e]
 exact Ev.bind (f := fun _ t => some (u.take lo ++ t ++ u.drop (lo + v.length + 1))) h4 (Ev.now _)
theorem guess_loop (u0 v1 v0 head : Nat) (h0 : u0 < 4294967296) (h1 : v1 < 4294967296) (h1' : 2147483648 ≤ v1) (h2 : v0 < 4294967296) (hh : head < v1 * 4294967296 + 4294967296) (d : Nat) :
  ∀ (digit rest : Nat), 4294967296 - rest ≤ d → digit * v1 + rest = head → rest < 4294967296 → (∀ q, q < 4294967296 → q * (v1 * 4294967296 + v0) ≤ head * 4294967296 + u0 → q ≤ digit) →
   ∃ r : Nat, r < 4294967296 ∧ r * (v1 * 4294967296 + v0) ≤ head * 4294967296 + u0 ∧ (∀ q, q < 4294967296 → q * (v1 * 4294967296 + v0) ≤ head * 4294967296 + u0 → q ≤ r) ∧
    Ev (fun k => nat_guess.l0 k (u0 : Int) (v1 : Int) (v0 : Int) (digit : Int) (rest : Int)) (r : Int) := by
 induction d with
 | zero => intro digit rest hd _ hr; omega
 | succ d ih =>
  intro digit rest hd he hr hq
  have hdv : digit * 2147483648 ≤ digit * v1 := Nat.mul_le_mul_left _ h1'
  have hdb : digit < 8589934592 := by omega
  have eU : head * 4294967296 + u0 = digit * (v1 * 4294967296) + (rest * 4294967296 + u0) := by rw [← he]; grind
  have eV : digit * (v1 * 4294967296 + v0) = digit * (v1 * 4294967296) + digit * v0 := Nat.mul_add _ _ _
  by_cases ht : 4294967296 ≤ digit ∨ rest * 4294967296 + u0 < digit * v0
  ·
   have hpos : 1 ≤ digit := by
    rcases ht with h | h
    ·omega
    ·rcases Nat.eq_zero_or_pos digit with h3 | h3
     ·rw [h3] at h; omega
     ·exact h3
   have hq' : ∀ q, q < 4294967296 → q * (v1 * 4294967296 + v0) ≤ head * 4294967296 + u0 → q ≤ digit - 1 := by
    intro q hq1 hq2
    have h3 := hq q hq1 hq2
    rcases ht with h | h
    ·omega
    ·rcases Nat.lt_or_ge q digit with h4 | h4
     ·omega
     ·have : q = digit := by omega
      rw [this, eV, eU] at hq2
      omega
   have hstep : ∀ k, nat_guess.l0 (k + 2) (u0 : Int) (v1 : Int) (v0 : Int) (digit : Int) (rest : Int) = (if IntKind.u64.wrap ((rest : Int) + IntKind.u64.wrap (v1 : Int)) > 4294967295 then some (IntKind.u64.wrap ((digit : Int) - 1)) else nat_guess.l0 k (u0 : Int) (v1 : Int) (v0 : Int) (IntKind.u64.wrap ((digit : Int) - 1)) (IntKind.u64.wrap ((rest : Int) + IntKind.u64.wrap (v1 : Int)))) := by
    intro k
    simp only [nat_guess.l0]
    by_cases h : 4294967296 ≤ digit
    ·rw [if_pos (by omega)]; simp only [nat_guess.j1, if_true]
    ·rw [if_neg (by omega)]
     have h3 := ht.resolve_left h
     have h4 : (digit : Int) * (v0 : Int) = ((digit * v0 : Nat) : Int) := by simp
     have h5 : digit * v0 ≤ 4294967295 * 4294967295 := Nat.mul_le_mul (by omega) (by omega)
     have h6 : decide (IntKind.u64.wrap ((digit : Int) * IntKind.u64.wrap (v0 : Int)) > Go.bits .or .u64 (IntKind.u64.wrap ((rest : Int) * 4294967296)) (IntKind.u64.wrap (u0 : Int))) = true := by
      rw [wrapu64_id (x := (v0 : Int)) (by omega) (by omega), h4, wrapu64_id (by omega) (by omega), wrapu64_id (x := (rest : Int) * 4294967296) (by omega) (by omega), wrapu64_id (x := (u0 : Int)) (by omega) (by omega), or_high (by omega) (by omega) (by omega) (by omega)]
      exact decide_eq_true (by omega)
     rw [h6]; simp only [nat_guess.j1, if_true]
   have w1 : IntKind.u64.wrap ((rest : Int) + IntKind.u64.wrap (v1 : Int)) = ((rest + v1 : Nat) : Int) := by rw [wrapu64_id (x := (v1 : Int)) (by omega) (by omega), wrapu64_id (by omega) (by omega)]; simp
   have w2 : IntKind.u64.wrap ((digit : Int) - 1) = ((digit - 1 : Nat) : Int) := by rw [wrapu64_id (by omega) (by omega)]; omega
   rw [w1, w2] at hstep
   have e1 : (digit - 1) * v1 + (rest + v1) = head := by
    obtain ⟨m, rfl⟩ : ∃ m, digit = m + 1 := ⟨digit - 1, by omega⟩
    rw [Nat.add_mul] at he
    simp; omega
   by_cases hb : 4294967296 ≤ rest + v1
   ·
    have hlt : (digit - 1) * v1 < 4294967296 * v1 := by omega
    have hlt2 : digit - 1 < 4294967296 := Nat.lt_of_mul_lt_mul_right hlt
    refine ⟨digit - 1, hlt2, ?_, hq', ?_⟩
    ·have h5 : (digit - 1) * v0 ≤ 4294967295 * 4294967295 := Nat.mul_le_mul (by omega) (by omega)
     have : head * 4294967296 + u0 = (digit - 1) * (v1 * 4294967296) + ((rest + v1) * 4294967296 + u0) := by rw [← e1]; grind
     rw [this, Nat.mul_add]
     omega
    ·refine ⟨2, fun k hk => ?_⟩
     obtain ⟨m, rfl⟩ : ∃ m, k = m + 2 := ⟨k - 2, by omega⟩
     show nat_guess.l0 (m + 2) _ _ _ _ _ = _
     rw [hstep, if_pos (by omega)]
   ·obtain ⟨r, a1, a2, a3, a4⟩ := ih (digit - 1) (rest + v1) (by omega) e1 (by omega) hq'
    refine ⟨r, a1, a2, a3, ?_⟩
    obtain ⟨K, hK⟩ := a4
    refine ⟨K + 2, fun k hk => ?_⟩
    obtain ⟨m, rfl⟩ : ∃ m, k = m + 2 := ⟨k - 2, by omega⟩
    show nat_guess.l0 (m + 2) _ _ _ _ _ = _
    rw [hstep, if_neg (by omega)]
    exact hK m (by omega)
  ·
   have h3 : digit < 4294967296 := by omega
   have h4 : digit * v0 ≤ rest * 4294967296 + u0 := by omega
   refine ⟨digit, h3, by rw [eV, eU]; omega, hq, ⟨2, fun k hk => ?_⟩⟩
   obtain ⟨m, rfl⟩ : ∃ m, k = m + 2 := ⟨k - 2, by omega⟩
   show nat_guess.l0 (m + 1 + 1) _ _ _ _ _ = _
   simp only [nat_guess.l0]
   rw [if_neg (by omega)]
   have h4' : (digit : Int) * (v0 : Int) = ((digit * v0 : Nat) : Int) := by simp
   have h6 : decide (IntKind.u64.wrap ((digit : Int) * IntKind.u64.wrap (v0 : Int)) > Go.bits .or .u64 (IntKind.u64.wrap ((rest : Int) * 4294967296)) (IntKind.u64.wrap (u0 : Int))) = false := by
    rw [wrapu64_id (x := (v0 : Int)) (by omega) (by omega), h4', wrapu64_id (by omega) (by omega), wrapu64_id (x := (rest : Int) * 4294967296) (by omega) (by omega), wrapu64_id (x := (u0 : Int)) (by omega) (by omega), or_high (by omega) (by omega) (by omega) (by omega)]
    exact decide_eq_false (by omega)
   rw [h6]
   simp only [nat_guess.j1]
   rw [if_neg (by decide)]
theorem guess_ev {u2 u1 u0 v1 v0 : Nat} (hu1 : u1 < 4294967296) (h0 : u0 < 4294967296) (h1 : v1 < 4294967296) (h1' : 2147483648 ≤ v1) (h2 : v0 < 4294967296) (hu2 : u2 ≤ v1) :
  ∃ r : Nat, r < 4294967296 ∧ r * (v1 * 4294967296 + v0) ≤ (u2 * 4294967296 + u1) * 4294967296 + u0 ∧ (∀ q, q < 4294967296 → q * (v1 * 4294967296 + v0) ≤ (u2 * 4294967296 + u1) * 4294967296 + u0 → q ≤ r) ∧
   Ev (fun k => nat_guess.f k (u2 : Int) (u1 : Int) (u0 : Int) (v1 : Int) (v0 : Int)) (r : Int) := by
 have hm : u2 * 4294967296 ≤ v1 * 4294967296 := Nat.mul_le_mul_right _ hu2
 obtain ⟨head, hhead⟩ : ∃ h, h = u2 * 4294967296 + u1 := ⟨_, rfl⟩
 have hd := Nat.div_add_mod head v1
 have hr := Nat.mod_lt head (show 0 < v1 by omega)
 obtain ⟨r, a1, a2, a3, a4⟩ := guess_loop u0 v1 v0 head h0 h1 h1' h2 (by omega) (4294967296 - head % v1) (head / v1) (head % v1) (Nat.le_refl _) (by rw [Nat.mul_comm]; exact hd) (by omega) (fun q hq1 hq2 => by
  rw [Nat.le_div_iff_mul_le (by omega)]
  have h3 : q * (v1 * 4294967296) ≤ q * (v1 * 4294967296 + v0) := Nat.mul_le_mul_left q (Nat.le_add_right _ _)
  have h4 : q * (v1 * 4294967296) = q * v1 * 4294967296 := by grind
  omega)
 refine ⟨r, a1, by rw [← hhead]; exact a2, by rw [← hhead]; exact a3, ?_⟩
 unfold nat_guess.f
 refine Ev.ite_neg (by rw [wrapu64_id (by omega) (by omega)]; omega) ?_
 have e1 : Go.bits .or .u64 (IntKind.u64.wrap ((IntKind.u64.wrap (u2 : Int)) * 4294967296)) (IntKind.u64.wrap (u1 : Int)) = (head : Int) := by
  rw [wrapu64_id (x := (u2 : Int)) (by omega) (by omega), wrapu64_id (x := (u2 : Int) * 4294967296) (by omega) (by omega), wrapu64_id (x := (u1 : Int)) (by omega) (by omega), or_high (by omega) (by omega) (by omega) (by omega)]
  omega
 have e2 : head / v1 ≤ head := Nat.div_le_self _ _
 have e3 : IntKind.u64.wrap (Int.tdiv (head : Int) (IntKind.u64.wrap (v1 : Int))) = ((head / v1 : Nat) : Int) := by
  rw [wrapu64_id (x := (v1 : Int)) (by omega) (by omega), Int.tdiv_eq_ediv_of_nonneg (by omega), ← Int.natCast_ediv, wrapu64_id (Int.natCast_nonneg _) (by omega)]
 have e4 : Int.tmod (head : Int) (IntKind.u64.wrap (v1 : Int)) = ((head % v1 : Nat) : Int) := by
  rw [wrapu64_id (x := (v1 : Int)) (by omega) (by omega), Int.tmod_eq_emod_of_nonneg (by omega), ← Int.natCast_emod]
 rw [e1, e3, e4]
 exact a4
theorem knuth {U v V2 U3 P vr ur r : Nat} (hP : 0 < P) (hv : v = V2 * P + vr) (hvr : vr < P) (hU : U = U3 * P + ur) (hur : ur < P) (hlt : U < v * 4294967296) (hbig : 2147483648 * 4294967296 ≤ V2)
  (hr : r < 4294967296) (hr1 : r * V2 ≤ U3) (hr2 : ∀ q, q < 4294967296 → q * V2 ≤ U3 → q ≤ r) : U / v ≤ r ∧ r ≤ U / v + 1 := by
 have hVP : 1 * P ≤ V2 * P := Nat.mul_le_mul_right _ (by omega)
 have hv0 : 0 < v := by omega
 have hd := Nat.div_add_mod U v
 have hm := Nat.mod_lt U hv0
 obtain ⟨q, hq⟩ : ∃ q, q = U / v := ⟨_, rfl⟩
 rw [← hq] at hd ⊢
 have hq1 : q < 4294967296 := by rw [hq, Nat.div_lt_iff_lt_mul hv0, Nat.mul_comm]; exact hlt
 refine ⟨hr2 q hq1 ?_, ?_⟩
 ·have h1 : q * V2 * P ≤ q * v := by rw [Nat.mul_assoc]; exact Nat.mul_le_mul_left _ (by omega)
  have h2 : q * V2 * P < (U3 + 1) * P := by rw [Nat.add_mul]; rw [Nat.mul_comm q v] at h1; omega
  have := Nat.lt_of_mul_lt_mul_right h2
  omega
 ·have h1 : r * V2 * P ≤ U3 * P := Nat.mul_le_mul_right _ hr1
  have h2 : r * v = r * V2 * P + r * vr := by rw [hv, Nat.mul_add, Nat.mul_assoc]
  have h3 : r * vr ≤ r * P := Nat.mul_le_mul_left _ (by omega)
  have h4 : r * P ≤ 4294967296 * P := Nat.mul_le_mul_right _ (by omega)
  have h5 : 4294967296 * P ≤ V2 * P := Nat.mul_le_mul_right _ (by omega)
  have h6 : r * v < (q + 2) * v := by rw [Nat.add_mul, Nat.mul_comm q v]; omega
  have := Nat.lt_of_mul_lt_mul_right h6
  omega
theorem drop_app {l w : List Int} {d m : Nat} (hd : d ≤ l.length) : ((l.take d) ++ w ++ l.drop m).drop d = w ++ l.drop m := by
 rw [List.append_assoc, List.drop_append, List.length_take, Nat.min_eq_left hd, Nat.sub_self, List.drop_of_length_le (by rw [List.length_take]; omega)]; rfl
theorem divmod_loop (v : List Int) (hv : okl v) (hlv : lenok v) (n : Nat) (hn : v.length = n) (hn2 : 2 ≤ n) (htop : 2147483648 ≤ v.getD (n - 1) 0) (s : Nat) (hs : s ≤ 31) (X : Nat) (d : Nat) :
  ∀ (u q : List Int), okl u → okl q → d + n ≤ u.length → lenok2 u → d ≤ q.length → lenok2 q → val (u.drop d) < val v → X = val (q.drop d) * (4294967296 ^ d * val v) + val u →
   Ev (fun k => nat_DivMod.l0 k (n : Int) (s : Int) u v q ((d : Int) - 1)) (limbs (X / val v), limbs (X % val v / 2 ^ s), true) := by
 have hvB : val v < 4294967296 ^ n := by have := val_lt hv; rwa [hn] at this
 unfold lenok at hlv
 induction d with
 | zero =>
  intro u q hu hq hul hlu hql hlq hlt hX
  rw [List.drop_zero] at hlt hX
  rw [Nat.pow_zero, Nat.one_mul] at hX
  unfold lenok2 at hlu hlq
  have hv0 : 0 < val v := by omega
  have e1 : X / val v = val q := by rw [hX]; exact Nat.div_eq_of_lt_le (by omega) (by rw [Nat.add_mul]; omega)
  have e2 : X % val v = val u := by rw [hX, Nat.mul_comm, Nat.mul_add_mod, Nat.mod_eq_of_lt hlt]
  have e3 : val (u.take n) = val u := by
   have h1 := val_take_drop u n (by omega)
   rcases Nat.eq_zero_or_pos (val (u.drop n)) with h | h
   ·rw [h] at h1; omega
   ·have : 4294967296 ^ n * 1 ≤ 4294967296 ^ n * val (u.drop n) := Nat.mul_le_mul_left _ h
    omega
  rw [e1, e2, ← e3]
  refine Ev.step (f := fun k => (nat_trim.f k q).bind fun t => if 0 ≤ (n : Int) then (if (n : Int) ≤ (u.length : Int) then ((nat_shiftDown.f k (u.take ((n : Int) : Int).toNat) (s : Int)).bind fun t2 => some (t, t2, true)) else none) else none) (fun k => ?_) ?_
  ·simp only [nat_DivMod.l0]
   rw [if_neg (by omega)]
  ·refine Ev.bind (f := fun k t => if 0 ≤ (n : Int) then (if (n : Int) ≤ (u.length : Int) then ((nat_shiftDown.f k (u.take ((n : Int) : Int).toNat) (s : Int)).bind fun t2 => some (t, t2, true)) else none) else none) (trim_ev2 hq (by unfold lenok2; omega)) ?_
   refine Ev.ite_pos (by omega) (Ev.ite_pos (by omega) ?_)
   rw [Int.toNat_natCast]
   exact Ev.bind (f := fun _ t2 => some (limbs (val q), t2, true)) (shiftDown_ev (okl_take hu n) (by unfold lenok2; rw [List.length_take]; omega) hs) (Ev.now _)
 | succ d ih =>
  intro u q hu hq hul hlu hql hlq hlt hX
  unfold lenok2 at hlu hlq
  have HX := Aside0.mk hX
  clear hX
  obtain ⟨m, rfl⟩ : ∃ m, n = m + 2 := ⟨n - 2, by omega⟩
  have hul2 : u.length < 17592186044417 := by omega
  have i1 := Aside0.mk (show wrap64 ((d : Int) + ((m + 2 : Nat) : Int)) = ((d + (m + 2) : Nat) : Int) by rw [wrap64_id (by omega) (by omega)]; omega)
  have i2 := Aside0.mk (show wrap64 (((d + (m + 2) : Nat) : Int) - 1) = ((d + (m + 1) : Nat) : Int) by rw [wrap64_id (by omega) (by omega)]; omega)
  have i3 := Aside0.mk (show wrap64 (((d + (m + 2) : Nat) : Int) - 2) = ((d + m : Nat) : Int) by rw [wrap64_id (by omega) (by omega)]; omega)
  have i4 := Aside0.mk (show wrap64 (((m + 2 : Nat) : Int) - 1) = ((m + 1 : Nat) : Int) by rw [wrap64_id (by omega) (by omega)]; omega)
  have i5 := Aside0.mk (show wrap64 (((m + 2 : Nat) : Int) - 2) = ((m : Nat) : Int) by rw [wrap64_id (by omega) (by omega)]; omega)
  have i6 := Aside0.mk (show wrap64 (((d + (m + 2) : Nat) : Int) + 1) = ((d + (m + 2) + 1 : Nat) : Int) by rw [wrap64_id (by omega) (by omega)]; omega)
  have i7 := Aside0.mk (show wrap64 ((d : Int) - 1) = (d : Int) - 1 from wrap64_id (by omega) (by omega))
  obtain ⟨W, hW⟩ : ∃ W, W = (u.drop d).take (m + 2 + 1) := ⟨_, rfl⟩
  have hWl : W.length = m + 2 + 1 := by rw [hW, List.length_take, List.length_drop]; omega
  have hWo : okl W := by rw [hW]; exact okl_take (okl_drop hu _) _
  have hWg : ∀ i, i < m + 2 + 1 → W.getD i 0 = u.getD (d + i) 0 := fun i hi => by
   rw [hW, List.getD_eq_getElem?_getD, List.getElem?_take_of_lt hi, List.getElem?_drop, ← List.getD_eq_getElem?_getD]
  have e1 := val_drop_one u d (by omega)
  have hud := getD_okl hu d
  have hBv : val (u.drop d) < val v * 4294967296 := by
   have : (val (u.drop (d + 1)) + 1) * 4294967296 ≤ val v * 4294967296 := Nat.mul_le_mul_right _ hlt
   omega
  obtain ⟨P, hP⟩ : ∃ P, P = 4294967296 ^ m := ⟨_, rfl⟩
  have hP0 : 0 < P := by rw [hP]; exact Nat.pow_pos (by decide)
  obtain ⟨T1, hT1⟩ : ∃ T, T = P * 4294967296 := ⟨_, rfl⟩
  obtain ⟨T2, hT2⟩ : ∃ T, T = T1 * 4294967296 := ⟨_, rfl⟩
  obtain ⟨T3, hT3⟩ : ∃ T, T = T2 * 4294967296 := ⟨_, rfl⟩
  have p1 := Aside0.mk (show (4294967296 : Nat) ^ (m + 1) = T1 by rw [Nat.pow_succ, ← hP, hT1])
  have p2 := Aside0.mk (show (4294967296 : Nat) ^ (m + 2) = T2 by rw [Nat.pow_succ, p1.out, hT2])
  have p3 := Aside0.mk (show (4294967296 : Nat) ^ (m + 2 + 1) = T3 by rw [Nat.pow_succ, p2.out, hT3])
  have HP := Aside0.mk hP
  clear hP
  rw [p2.out] at hvB
  have hWv : val (u.drop d) = val W ∧ val (u.drop (d + (m + 2) + 1)) = 0 := by
   have h1 := val_take_drop (u.drop d) (m + 2 + 1) (by rw [List.length_drop]; omega)
   rw [← hW, List.drop_drop, show d + (m + 2 + 1) = d + (m + 2) + 1 by omega, p3.out] at h1
   rcases Nat.eq_zero_or_pos (val (u.drop (d + (m + 2) + 1))) with h | h
   ·exact ⟨by rw [h1, h, Nat.mul_zero, Nat.add_zero], h⟩
   ·have : T3 * 1 ≤ T3 * val (u.drop (d + (m + 2) + 1)) := Nat.mul_le_mul_left T3 h
    omega
  obtain ⟨hWv, hz⟩ := hWv
  have w0 := val_take_succ W m (by omega)
  have w1 := val_take_succ W (m + 1) (by omega)
  have w2 := val_take_succ W (m + 2) (by omega)
  have hWt : W.take (m + 2 + 1) = W := List.take_of_length_le (by omega)
  rw [hWt] at w2
  have v0 := val_take_succ v m (by omega)
  have v1 := val_take_succ v (m + 1) (by omega)
  have hvt : v.take (m + 1 + 1) = v := List.take_of_length_le (by omega)
  rw [hvt] at v1
  have bu2 := getD_okl hWo (m + 2)
  have bu1 := getD_okl hWo (m + 1)
  have bu0 := getD_okl hWo m
  have bv1 := getD_okl hv (m + 1)
  have bv0 := getD_okl hv m
  have bur := val_lt (okl_take hWo m)
  have bvr := val_lt (okl_take hv m)
  rw [List.length_take, Nat.min_eq_left (by omega)] at bur bvr
  obtain ⟨u2, hu2⟩ := Int.eq_ofNat_of_zero_le bu2.1
  obtain ⟨u1, hu1⟩ := Int.eq_ofNat_of_zero_le bu1.1
  obtain ⟨u0, hu0⟩ := Int.eq_ofNat_of_zero_le bu0.1
  obtain ⟨y1, hy1⟩ := Int.eq_ofNat_of_zero_le bv1.1
  obtain ⟨y0, hy0⟩ := Int.eq_ofNat_of_zero_le bv0.1
  rw [show m + 2 - 1 = m + 1 by omega, hy1] at htop
  rw [hu2] at w2 bu2
  rw [hu1] at w1 bu1
  rw [hu0] at w0 bu0
  rw [hy1] at v1 bv1
  rw [hy0] at v0 bv0
  simp only [Int.toNat_natCast] at w0 w1 w2 v0 v1
  rw [p1.out] at w1 v1
  rw [p2.out] at w2
  rw [← HP.out] at w0 v0 bur bvr
  obtain ⟨V2, hV2⟩ : ∃ V, V = y1 * 4294967296 + y0 := ⟨_, rfl⟩
  obtain ⟨U3, hU3⟩ : ∃ V, V = (u2 * 4294967296 + u1) * 4294967296 + u0 := ⟨_, rfl⟩
  have eV : val v = V2 * P + val (v.take m) := by rw [v1, v0, hV2, hT1]; grind
  have eU : val W = U3 * P + val (W.take m) := by rw [w2, w1, w0, hU3, hT2, hT1]; grind
  have hU : val W < val v * 4294967296 := by omega
  have h2 : u2 ≤ y1 := by
   have h3 : T2 * u2 ≤ val W := by rw [w2]; omega
   have h4 : val v < T1 * (y1 + 1) := by
    rw [v1, v0, Nat.mul_add]
    have : P * y0 ≤ P * 4294967295 := Nat.mul_le_mul_left P (by omega)
    omega
   have h5 : val v * 4294967296 < T1 * (y1 + 1) * 4294967296 := by omega
   have h7 : T1 * (y1 + 1) * 4294967296 = T2 * (y1 + 1) := by rw [hT2]; grind
   have h6 : T2 * u2 < T2 * (y1 + 1) := by omega
   have := Nat.lt_of_mul_lt_mul_left h6
   omega
  obtain ⟨r, r1, r2, r3, r4⟩ := guess_ev (u2 := u2) (u1 := u1) (u0 := u0) (v1 := y1) (v0 := y0) (by omega) (by omega) (by omega) (by omega) (by omega) h2
  rw [← hV2, ← hU3] at r2
  have r3' : ∀ q, q < 4294967296 → q * V2 ≤ U3 → q ≤ r := by rw [hV2, hU3]; exact r3
  have hk := knuth hP0 eV bvr eU bur hU (by omega) r1 r2 r3'
  have hv0 : 0 < val v := by
   have : 1 * P ≤ V2 * P := Nat.mul_le_mul_right P (by omega)
   omega
  have hdm := Nat.div_add_mod (val W) (val v)
  have hml := Nat.mod_lt (val W) hv0
  obtain ⟨Q, hQ⟩ : ∃ Q, Q = val W / val v := ⟨_, rfl⟩
  obtain ⟨R, hR⟩ : ∃ R, R = val W % val v := ⟨_, rfl⟩
  rw [← hQ, ← hR] at hdm
  rw [← hQ] at hk
  rw [← hR] at hml
  clear w0 w1 w2 v0 v1 bu2 bu1 bu0 bv1 bv0 bur bvr eV eU h2 r2 r3 r3' hud e1 hWt hvt hV2 hU3
  have hQ1 : Q < 4294967296 := by omega
  have hlen : d + v.length + 1 ≤ u.length := by omega
  obtain ⟨neg, w, a1, a2, a3, a4⟩ := subtract_ev hu hv (by unfold lenok; omega) (q := (r : Int)) (by omega) (by omega) hlen
  rw [hn, ← hW, Int.toNat_natCast] at a3
  rw [hn] at a2 a4
  have rest : ∀ w' : List Int, okl w' → w'.length = m + 2 + 1 → val w' = R →
    Ev (fun k => nat_DivMod.l0 k ((m + 2 : Nat) : Int) (s : Int) (u.take d ++ w' ++ u.drop (d + (m + 2) + 1)) v (q.set d (Q : Int)) ((d : Int) - 1)) (limbs (X / val v), limbs (X % val v / 2 ^ s), true) := by
   intro w' b1 b2 b3
   have c1 : ((u.take d ++ w' ++ u.drop (d + (m + 2) + 1)).drop d) = w' ++ u.drop (d + (m + 2) + 1) := drop_app (by omega)
   have c2 : val (w' ++ u.drop (d + (m + 2) + 1)) = R := by rw [val_append, hz, b3]; omega
   refine ih _ _ (okl_append.2 ⟨okl_append.2 ⟨okl_take hu _, b1⟩, okl_drop hu _⟩) (okl_set hq _ (by omega) (by omega)) ?_ ?_ ?_ ?_ ?_ ?_
   ·simp only [List.length_append, List.length_take, List.length_drop]; omega
   ·unfold lenok2; simp only [List.length_append, List.length_take, List.length_drop]; omega
   ·rw [List.length_set]; omega
   ·unfold lenok2; rw [List.length_set]; omega
   ·rw [c1, c2]; exact hml
   ·have f1 : val (u.take d ++ w' ++ u.drop (d + (m + 2) + 1)) = val (u.take d) + 4294967296 ^ d * R := by
     rw [List.append_assoc, val_append, c2, List.length_take, Nat.min_eq_left (by omega)]
    have f2 := val_take_drop u d (by omega)
    have f3 : val ((q.set d (Q : Int)).drop d) = Q + 4294967296 * val (q.drop (d + 1)) := by
     rw [val_drop_one _ d (by rw [List.length_set]; omega), List.getD_eq_getElem?_getD, List.getElem?_set_self (by omega), List.drop_set_of_lt (by omega)]
     rfl
    rw [f1, f3, HX.out, f2, hWv, ← hdm, Nat.pow_succ]
    grind
  have g2 : rd u ((d + (m + 2) : Nat) : Int) = (u2 : Int) := by rw [rd_nat, ← hWg (m + 2) (by omega)]; exact hu2
  have g1 : rd u ((d + (m + 1) : Nat) : Int) = (u1 : Int) := by rw [rd_nat, ← hWg (m + 1) (by omega)]; exact hu1
  have g0 : rd u ((d + m : Nat) : Int) = (u0 : Int) := by rw [rd_nat, ← hWg m (by omega)]; exact hu0
  have k1 : rd v ((m + 1 : Nat) : Int) = (y1 : Int) := by rw [rd_nat]; exact hy1
  have k0 : rd v ((m : Nat) : Int) = (y0 : Int) := by rw [rd_nat]; exact hy0
  have e0 : ((d + 1 : Nat) : Int) - 1 = (d : Int) := by omega
  rw [e0]
  refine Ev.step (f := fun k => (nat_guess.f k (u2 : Int) (u1 : Int) (u0 : Int) (y1 : Int) (y0 : Int)).bind fun t223 => (nat_subtract.f k u (d : Int) ((d + (m + 2) + 1 : Nat) : Int) v t223).bind fun bt228 =>
   if bt228.1 = true then ((nat_addBack.f k bt228.2 (d : Int) ((d + (m + 2) + 1 : Nat) : Int) v).bind fun t234 => nat_DivMod.l0 k ((m + 2 : Nat) : Int) (s : Int) t234 v (q.set d ((IntKind.u64.wrap (t223 - 1)) % 4294967296)) ((d : Int) - 1))
   else nat_DivMod.l0 k ((m + 2 : Nat) : Int) (s : Int) bt228.2 v (q.set d (t223 % 4294967296)) ((d : Int) - 1)) (fun k => ?_) ?_
  ·simp only [nat_DivMod.l0]
   rw [if_pos (by omega), i1.out, if_pos (by omega), if_pos (by omega), i2.out, if_pos (by omega), if_pos (by omega), i3.out, if_pos (by omega), if_pos (by omega), i4.out, if_pos (by omega), if_pos (by omega), i5.out, if_pos (by omega), if_pos (by omega), i6.out, i7.out, g2, g1, g0, k1, k0]
   have t1 : (0 : Int) ≤ (d : Int) := by omega
   have t2 : (d : Int) ≤ ((d + (m + 2) + 1 : Nat) : Int) := by omega
   have t3 : ((d + (m + 2) + 1 : Nat) : Int) ≤ (u.length : Int) := by omega
   have t4 : (d : Int) < (q.length : Int) := by omega
   simp only [t1, t2, t3, t4, if_true, Int.toNat_natCast]
  ·refine Ev.bind (f := fun k t223 => (nat_subtract.f k u (d : Int) ((d + (m + 2) + 1 : Nat) : Int) v t223).bind fun bt228 =>
    if bt228.1 = true then ((nat_addBack.f k bt228.2 (d : Int) ((d + (m + 2) + 1 : Nat) : Int) v).bind fun t234 => nat_DivMod.l0 k ((m + 2 : Nat) : Int) (s : Int) t234 v (q.set d ((IntKind.u64.wrap (t223 - 1)) % 4294967296)) ((d : Int) - 1))
    else nat_DivMod.l0 k ((m + 2 : Nat) : Int) (s : Int) bt228.2 v (q.set d (t223 % 4294967296)) ((d : Int) - 1)) r4 ?_
   refine Ev.bind (f := fun k (bt228 : Bool × List Int) =>
    if bt228.1 = true then ((nat_addBack.f k bt228.2 (d : Int) ((d + (m + 2) + 1 : Nat) : Int) v).bind fun t234 => nat_DivMod.l0 k ((m + 2 : Nat) : Int) (s : Int) t234 v (q.set d ((IntKind.u64.wrap ((r : Int) - 1)) % 4294967296)) ((d : Int) - 1))
    else nat_DivMod.l0 k ((m + 2 : Nat) : Int) (s : Int) bt228.2 v (q.set d ((r : Int) % 4294967296)) ((d : Int) - 1)) a4 ?_
   have hQv : Q * val v = val v * Q := Nat.mul_comm _ _
   cases neg with
   | false =>
    refine Ev.ite_neg (by simp) ?_
    simp only [Bool.false_eq_true, if_false, Nat.add_zero] at a3
    have hrq : r = Q := by
     rcases Nat.lt_or_ge Q r with h | h
     ·have : (Q + 1) * val v ≤ r * val v := Nat.mul_le_mul_right _ h
      rw [Nat.add_mul] at this
      omega
     ·omega
    have e5 : (r : Int) % 4294967296 = (Q : Int) := by omega
    rw [e5]
    exact rest w a1 a2 (by rw [hrq] at a3; omega)
   | true =>
    refine Ev.ite_pos rfl ?_
    simp only [if_true] at a3
    have hwlt := val_lt a1
    rw [a2, p3.out] at hwlt
    rw [p3.out] at a3
    have hrq : r = Q + 1 := by
     rcases Nat.lt_or_ge Q r with h | h
     ·omega
     ·have : r * val v ≤ Q * val v := Nat.mul_le_mul_right _ h
      omega
    have hu' : okl (u.take d ++ w ++ u.drop (d + (m + 2) + 1)) := okl_append.2 ⟨okl_append.2 ⟨okl_take hu _, a1⟩, okl_drop hu _⟩
    have hul' : (u.take d ++ w ++ u.drop (d + (m + 2) + 1)).length = u.length := by simp only [List.length_append, List.length_take, List.length_drop]; omega
    obtain ⟨w', c1, c2, ⟨z, c3⟩, c4⟩ := addBack_ev hu' hv (by unfold lenok; omega) (lo := d) (by rw [hul']; omega)
    have c5 : ((u.take d ++ w ++ u.drop (d + (m + 2) + 1)).drop d).take (v.length + 1) = w := by
     rw [drop_app (by omega), List.take_append_of_le_length (by omega), List.take_of_length_le (by omega)]
    have c6 : (u.take d ++ w ++ u.drop (d + (m + 2) + 1)).take d = u.take d := by
     rw [List.append_assoc, List.take_append_of_le_length (by rw [List.length_take]; omega), List.take_of_length_le (by rw [List.length_take]; omega)]
    have c7 : (u.take d ++ w ++ u.drop (d + (m + 2) + 1)).drop (d + (m + 2) + 1) = u.drop (d + (m + 2) + 1) := by
     rw [List.drop_append, List.length_append, List.length_take, Nat.min_eq_left (by omega), a2, show d + (m + 2) + 1 - (d + (m + 2 + 1)) = 0 by omega, List.drop_of_length_le (by rw [List.length_append, List.length_take]; omega)]; rfl
    rw [c5] at c3
    rw [hn] at c2 c3 c4
    rw [c6, c7] at c4
    have hw'lt := val_lt c1
    rw [c2, p3.out] at hw'lt
    rw [p3.out] at c3
    have e5 : (IntKind.u64.wrap ((r : Int) - 1)) % 4294967296 = (Q : Int) := by rw [wrapu64_id (by omega) (by omega)]; omega
    rw [e5]
    refine Ev.bind (f := fun k t234 => nat_DivMod.l0 k ((m + 2 : Nat) : Int) (s : Int) t234 v (q.set d (Q : Int)) ((d : Int) - 1)) c4 (rest w' c1 c2 ?_)
    have h9 : val w' + z * T3 = R + T3 := by
     rw [hrq, Nat.add_mul, Nat.one_mul] at a3
     omega
    have hRlt : R < T3 := by omega
    rcases Nat.lt_or_ge z 1 with hz1 | hz1
    ·have : z = 0 := by omega
     rw [this] at h9; omega
    ·rcases Nat.lt_or_ge 1 z with hz2 | hz2
     ·have : 2 * T3 ≤ z * T3 := Nat.mul_le_mul_right T3 hz2
      omega
     ·have : z = 1 := by omega
      rw [this] at h9; omega
end Go.Proofs.Ythamhjmhgcpdgaa.Big
end
section
namespace Go.Proofs.Ythamhjmhgcpdgaa.Big
open Go.RowKit Go.Proofs.YthamhjmhgcpdgaaW.PrintWords Go.Proofs.YthamhjmhgcpdgaaW.PrintLast Go.Proofs.YthamhjmhgcpdgaaW.PrintMore Go.Proofs.Ythamhjmhgcpdgaa.Q Go.Proofs.Ythamhjmhgcpdgaa.Th
set_option linter.unusedVariables false
set_option linter.unusedSimpArgs false
set_option maxRecDepth 4000
def T8 : ByteArray := ⟨#[0, 1, 2, 2, 3, 3, 3, 3, 4, 4, 4, 4, 4, 4, 4, 4, 5, 5, 5, 5, 5, 5, 5, 5, 5, 5, 5, 5, 5, 5, 5, 5, 6, 6, 6, 6, 6, 6, 6, 6, 6, 6, 6, 6, 6, 6, 6, 6, 6, 6, 6, 6, 6, 6, 6, 6, 6, 6, 6, 6, 6, 6, 6, 6, 7, 7, 7, 7, 7, 7, 7, 7, 7, 7, 7, 7, 7, 7, 7, 7, 7, 7, 7, 7, 7, 7, 7, 7, 7, 7, 7, 7, 7, 7, 7, 7, 7, 7, 7, 7, 7, 7, 7, 7, 7, 7, 7, 7, 7, 7, 7, 7, 7, 7, 7, 7, 7, 7, 7, 7, 7, 7, 7, 7, 7, 7, 7, 7, 8, 8, 8, 8, 8, 8, 8, 8, 8, 8, 8, 8, 8, 8, 8, 8, 8, 8, 8, 8, 8, 8, 8, 8, 8, 8, 8, 8, 8, 8, 8, 8, 8, 8, 8, 8, 8, 8, 8, 8, 8, 8, 8, 8, 8, 8, 8, 8, 8, 8, 8, 8, 8, 8, 8, 8, 8, 8, 8, 8, 8, 8, 8, 8, 8, 8, 8, 8, 8, 8, 8, 8, 8, 8, 8, 8, 8, 8, 8, 8, 8, 8, 8, 8, 8, 8, 8, 8, 8, 8, 8, 8, 8, 8, 8, 8, 8, 8, 8, 8, 8, 8, 8, 8, 8, 8, 8, 8, 8, 8, 8, 8, 8, 8, 8, 8, 8, 8, 8, 8, 8, 8, 8, 8, 8, 8, 8, 8]⟩
def bl (n : Nat) : Nat := if n = 0 then 0 else Nat.log2 n + 1
theorem t8 : ∀ i : Fin 256, bt T8 ((i.val : Nat) : Int) = ((bl i.val : Nat) : Int) ∧ i.val < 2 ^ bl i.val ∧ (i.val ≠ 0 → 1 ≤ bl i.val ∧ 2 ^ (bl i.val - 1) ≤ i.val) ∧ bl i.val ≤ 8 := by decide +kernel
theorem len32 (a : Nat) (h : a < 4294967296) : ∃ L : Nat, bits_Len32.f (a : Int) = some (L : Int) ∧ L ≤ 32 ∧ a < 2 ^ L ∧ (a ≠ 0 → 1 ≤ L ∧ 2 ^ (L - 1) ≤ a) ∧ (a = 0 → L = 0) := by
 have key : ∀ (i s : Nat), i < 256 → i * 2 ^ s ≤ a → a < (i + 1) * 2 ^ s → (s = 0 ∨ i ≠ 0) → s ≤ 24 → ∃ L : Nat, ((s : Int) + bt T8 (i : Int)) = (L : Int) ∧ L ≤ 32 ∧ a < 2 ^ L ∧ (a ≠ 0 → 1 ≤ L ∧ 2 ^ (L - 1) ≤ a) ∧ (a = 0 → L = 0) := by
  intro i s hi h1 h2 h3 h4
  obtain ⟨q1, q2, q3, q4⟩ := t8 ⟨i, hi⟩
  simp only at q1 q2 q3 q4
  refine ⟨s + bl i, by rw [q1]; simp, by omega, ?_, ?_, ?_⟩
  ·rw [Nat.pow_add, Nat.mul_comm]
   have : (i + 1) * 2 ^ s ≤ 2 ^ bl i * 2 ^ s := Nat.mul_le_mul_right _ (by omega)
   omega
  ·intro ha
   have hi0 : i ≠ 0 := by
    rcases h3 with h3 | h3
    ·subst h3; simp at h1 h2; omega
    ·exact h3
   obtain ⟨q5, q6⟩ := q3 hi0
   refine ⟨by omega, ?_⟩
   rw [show s + bl i - 1 = (bl i - 1) + s by omega, Nat.pow_add]
   have : 2 ^ (bl i - 1) * 2 ^ s ≤ i * 2 ^ s := Nat.mul_le_mul_right _ q6
   omega
  ·intro ha
   have hp := Nat.two_pow_pos s
   have hi0 : i = 0 := by
    rcases Nat.eq_zero_or_pos i with h | h
    ·exact h
    ·have : 1 * 2 ^ s ≤ i * 2 ^ s := Nat.mul_le_mul_right _ h
     omega
   have hs0 : s = 0 := by
    rcases h3 with h3 | h3
    ·exact h3
    ·exact absurd hi0 h3
   subst hi0 hs0
   simp [bl]
 have hb : ∀ x : Int, ∀ L : Nat, ∀ s : Int, s + x = (L : Int) → 0 ≤ s → s ≤ 24 → L ≤ 32 → wrap64 (s + wrap64 x) = (L : Int) := by
  intro x L s h1 h2 h3 h4
  rw [wrap64_id (x := x) (by omega) (by omega), h1, wrap64_id (by omega) (by omega)]
 unfold bits_Len32.f
 change ∃ L : Nat, (if (a : Int) ≥ 65536 then (if ((a : Int) / 65536) ≥ 256 then (if 0 ≤ ((((a : Int) / 65536) / 256) % 256) then (if ((((a : Int) / 65536) / 256) % 256) < 256 then (some (wrap64 ((16 + 8) + (wrap64 (bt T8 ((((a : Int) / 65536) / 256) % 256)))))) else (none)) else (none)) else (if 0 ≤ (((a : Int) / 65536) % 256) then (if (((a : Int) / 65536) % 256) < 256 then (some (wrap64 (16 + (wrap64 (bt T8 (((a : Int) / 65536) % 256)))))) else (none)) else (none))) else (if (a : Int) ≥ 256 then (if 0 ≤ (((a : Int) / 256) % 256) then (if (((a : Int) / 256) % 256) < 256 then (some (wrap64 ((0 + 8) + (wrap64 (bt T8 (((a : Int) / 256) % 256)))))) else (none)) else (none)) else (if 0 ≤ (((a : Int)) % 256) then (if (((a : Int)) % 256) < 256 then (some (wrap64 (0 + (wrap64 (bt T8 (((a : Int)) % 256)))))) else (none)) else (none)))) = some (L : Int) ∧ _
 by_cases c1 : 65536 ≤ a
 ·rw [if_pos (by omega)]
  by_cases c2 : 16777216 ≤ a
  ·rw [if_pos (by omega), if_pos (by omega), if_pos (by omega)]
   obtain ⟨L, p1, p2, p3⟩ := key (a / 65536 / 256 % 256) 24 (by omega) (by simp; omega) (by simp; omega) (.inr (by omega)) (by omega)
   refine ⟨L, ?_, p2, p3⟩
   rw [show ((((a : Int) / 65536) / 256) % 256) = ((a / 65536 / 256 % 256 : Nat) : Int) by omega]
   exact congrArg some (hb _ L 24 p1 (by omega) (by omega) p2)
  ·rw [if_neg (by omega), if_pos (by omega), if_pos (by omega)]
   obtain ⟨L, p1, p2, p3⟩ := key (a / 65536 % 256) 16 (by omega) (by simp; omega) (by simp; omega) (.inr (by omega)) (by omega)
   refine ⟨L, ?_, p2, p3⟩
   rw [show (((a : Int) / 65536) % 256) = ((a / 65536 % 256 : Nat) : Int) by omega]
   exact congrArg some (hb _ L 16 p1 (by omega) (by omega) p2)
 ·rw [if_neg (by omega)]
  by_cases c2 : 256 ≤ a
  ·rw [if_pos (by omega), if_pos (by omega), if_pos (by omega)]
   obtain ⟨L, p1, p2, p3⟩ := key (a / 256 % 256) 8 (by omega) (by simp; omega) (by simp; omega) (.inr (by omega)) (by omega)
   refine ⟨L, ?_, p2, p3⟩
   rw [show (((a : Int) / 256) % 256) = ((a / 256 % 256 : Nat) : Int) by omega]
   exact congrArg some (hb _ L 8 p1 (by omega) (by omega) p2)
  ·rw [if_neg (by omega), if_pos (by omega), if_pos (by omega)]
   obtain ⟨L, p1, p2, p3⟩ := key (a % 256) 0 (by omega) (by simp; omega) (by simp; omega) (.inl rfl) (by omega)
   refine ⟨L, ?_, p2, p3⟩
   rw [show ((a : Int) % 256) = ((a % 256 : Nat) : Int) by omega]
   exact congrArg some (hb _ L 0 p1 (by omega) (by omega) p2)
theorem limbs_bounds {y n : Nat} (hn : (limbs y).length = n + 1) : ∃ top P : Nat, Aside0 (P = 4294967296 ^ n) ∧ (limbs y).getD n 0 = (top : Int) ∧ 1 ≤ top ∧ top < 4294967296 ∧ P * top ≤ y ∧ y < P * (top + 1) := by
 have h0 : y ≠ 0 := fun h => by rw [h, limbs_zero] at hn; simp at hn
 have h1 := limbs_top h0
 rw [hn, Nat.add_sub_cancel] at h1
 have h2 := getD_okl (okl_limbs y) n
 obtain ⟨top, ht⟩ := Int.eq_ofNat_of_zero_le h2.1
 have h3 := val_take_succ (limbs y) n (by omega)
 rw [List.take_of_length_le (by omega), val_limbs, ht, Int.toNat_natCast] at h3
 have h4 := val_lt (okl_take (okl_limbs y) n)
 rw [List.length_take, Nat.min_eq_left (by omega)] at h4
 obtain ⟨P, hP⟩ : ∃ P, P = 4294967296 ^ n := ⟨_, rfl⟩
 rw [← hP] at h3 h4
 refine ⟨top, P, ⟨hP⟩, ht, by omega, by omega, by omega, ?_⟩
 rw [Nat.mul_add]
 omega
theorem divmod_big (x y n : Nat) (hn : (limbs y).length = n + 2) (hx : (limbs x).length ≤ 1099511627776) (hxy : y ≤ x) :
  ∃ (s : Nat) (u v : List Int), bits_LeadingZeros32.f (rd (limbs y) ((n + 1 : Nat) : Int)) = some (s : Int) ∧ s ≤ 31 ∧ v.length = n + 3 ∧ Ev (fun k => nat_shiftUp.f k (limbs x) (s : Int)) u ∧ Ev (fun k => nat_shiftUp.f k (limbs y) (s : Int)) v ∧
   Ev (fun k => nat_DivMod.l0 k ((n + 2 : Nat) : Int) (s : Int) u (v.take (n + 2)) (List.replicate ((limbs x).length - (n + 2) + 1) 0) ((((limbs x).length - (n + 2) : Nat) : Int))) (limbs (x / y), limbs (x % y), true) := by
 obtain ⟨top, P, hP, ht, ht1, ht2, hy1, hy2⟩ := limbs_bounds hn
 obtain ⟨L, l1, l2, l3, l4, l5⟩ := len32 top ht2
 obtain ⟨l6, l7⟩ := l4 (by omega)
 have hlen := limbs_len_mono hxy
 obtain ⟨s, hs⟩ : ∃ s, s = 32 - L := ⟨_, rfl⟩
 have hs31 : s ≤ 31 := by omega
 have e1 : bits_LeadingZeros32.f (rd (limbs y) ((n + 1 : Nat) : Int)) = some (s : Int) := by
  unfold bits_LeadingZeros32.f
  rw [rd_nat, ht, l1]
  simp only [Option.bind_some]
  rw [wrap64_id (by omega) (by omega)]
  congr 1; omega
 obtain ⟨u, u1, u2, u3, u4⟩ := shiftUp_ev (okl_limbs x) (by unfold lenok; omega) hs31
 obtain ⟨v, v1, v2, v3, v4⟩ := shiftUp_ev (okl_limbs y) (by unfold lenok; omega) hs31
 rw [val_limbs] at u3 v3
 refine ⟨s, u, v, e1, hs31, by omega, u4, v4, ?_⟩
 have hs0 := Nat.two_pow_pos s
 obtain ⟨S, hS⟩ : ∃ S, S = 2 ^ s := ⟨_, rfl⟩
 have hPP := Aside0.mk (show 4294967296 ^ (n + 2) = P * 4294967296 by rw [hP.out, ← Nat.pow_succ])
 have hP0 : 0 < P := by rw [hP.out]; exact Nat.pow_pos (by decide)
 have hLS : 2 ^ (L - 1) * S = 2147483648 := by rw [hS, ← Nat.pow_add, show L - 1 + s = 31 by omega]
 have hLS2 : 2 ^ L * S = 4294967296 := by rw [hS, ← Nat.pow_add, show L + s = 32 by omega]
 have q1 : 2147483648 ≤ top * S := by rw [← hLS]; exact Nat.mul_le_mul_right _ l7
 have q2 : (top + 1) * S ≤ 4294967296 := by rw [← hLS2]; exact Nat.mul_le_mul_right _ l3
 rw [← hS] at u3 v3 hs0
 have hyS : y * S < P * 4294967296 := by
  have h1 : y * S < P * (top + 1) * S := Nat.mul_lt_mul_of_pos_right hy2 hs0
  have h2 : P * (top + 1) * S ≤ P * 4294967296 := by rw [Nat.mul_assoc]; exact Nat.mul_le_mul_left P q2
  omega
 have hyS2 : P * 2147483648 ≤ y * S := by
  have h1 : P * top * S ≤ y * S := Nat.mul_le_mul_right _ hy1
  have h2 : P * 2147483648 ≤ P * (top * S) := Nat.mul_le_mul_left P q1
  rw [Nat.mul_assoc] at h1
  omega
 have w1 : val (v.take (n + 2)) = y * S := by
  have h1 := val_take_drop v (n + 2) (by omega)
  obtain ⟨T, hT⟩ : ∃ T, T = P * 4294967296 := ⟨_, rfl⟩
  rw [hPP.out, ← hT] at h1
  rcases Nat.eq_zero_or_pos (val (v.drop (n + 2))) with h | h
  ·rw [h, Nat.mul_zero, Nat.add_zero] at h1; rw [← h1, v3]
  ·have h2 : T * 1 ≤ T * val (v.drop (n + 2)) := Nat.mul_le_mul_left T h
   rw [v3] at h1
   omega
 have w2 : (v.take (n + 2)).length = n + 2 := by rw [List.length_take]; omega
 have w3 : 2147483648 ≤ (v.take (n + 2)).getD (n + 2 - 1) 0 := by
  have h1 := val_take_succ (v.take (n + 2)) (n + 1) (by omega)
  rw [List.take_of_length_le (by omega), w1, ← hP.out] at h1
  have h2 := val_lt (okl_take (okl_take v1 (n + 2)) (n + 1))
  rw [List.length_take, Nat.min_eq_left (by omega), ← hP.out] at h2
  have h3 := getD_okl (okl_take v1 (n + 2)) (n + 1)
  obtain ⟨z, hz⟩ := Int.eq_ofNat_of_zero_le h3.1
  rw [show n + 2 - 1 = n + 1 by omega, hz]
  rw [hz, Int.toNat_natCast] at h1
  rcases Nat.lt_or_ge z 2147483648 with h4 | h4
  ·have h5 : P * (z + 1) ≤ P * 2147483648 := Nat.mul_le_mul_left P h4
   rw [Nat.mul_add] at h5
   omega
  ·omega
 obtain ⟨lx, hlx⟩ : ∃ lx, lx = (limbs x).length := ⟨_, rfl⟩
 rw [← hlx] at u2 hx hlen ⊢
 obtain ⟨d, hd⟩ : ∃ d, d = lx - (n + 2) + 1 := ⟨_, rfl⟩
 have hxlt := val_lt (okl_limbs x)
 rw [val_limbs, ← hlx, show lx = d + (n + 1) by omega, Nat.pow_add, ← hP.out] at hxlt
 have f1 : val (u.drop d) < y * S := by
  have h1 := val_take_drop u d (by omega)
  rw [u3] at h1
  obtain ⟨D, hD⟩ : ∃ D, D = 4294967296 ^ d := ⟨_, rfl⟩
  rw [← hD] at h1 hxlt
  have h2 : x * S < D * P * S := Nat.mul_lt_mul_of_pos_right hxlt hs0
  have h3 : D * val (u.drop d) < D * (P * S) := by rw [← Nat.mul_assoc]; omega
  have h4 := Nat.lt_of_mul_lt_mul_left h3
  have h5 : P * 1 * S ≤ y * S := Nat.mul_le_mul_right _ (by
   have : P * 1 ≤ P * top := Nat.mul_le_mul_left P ht1
   omega)
  rw [Nat.mul_one] at h5
  omega
 have := divmod_loop (v.take (n + 2)) (okl_take v1 _) (by unfold lenok; omega) (n + 2) w2 (by omega) w3 s hs31 (x * S) d u (List.replicate d 0) u1 (okl_replicate _) (by omega) (by unfold lenok2; omega) (by simp) (by unfold lenok2; rw [List.length_replicate]; omega) (by rw [w1]; exact f1) (by
  rw [List.drop_of_length_le (by simp), u3]; simp [val])
 have e9 : ((d : Int) - 1) = ((lx - (n + 2) : Nat) : Int) := by omega
 rw [w1, ← hS, Nat.mul_div_mul_right _ _ hs0, Nat.mul_mod_mul_right, Nat.mul_div_cancel _ hs0] at this
 rw [e9] at this
 rw [← hd]
 exact this
theorem divmod_ev {a b : List Int} (ha : okl a) (hb : okl b) (hla : lenok a) (hlb : lenok b) : Ev (fun k => nat_DivMod.f k a b) (if val b = 0 then ([], [], false) else (limbs (val a / val b), limbs (val a % val b), true)) := by
 have l1 := limbs_val_len ha
 have l2 := limbs_val_len hb
 unfold lenok at hla hlb
 have HA := trim_ev ha hla
 have HB := trim_ev hb hlb
 obtain ⟨x, hx⟩ : ∃ x, x = val a := ⟨_, rfl⟩
 obtain ⟨y, hy⟩ : ∃ y, y = val b := ⟨_, rfl⟩
 rw [← hx] at HA l1 ⊢
 rw [← hy] at HB l2 ⊢
 refine Ev.bind HA (Ev.bind HB ?_)
 by_cases h0 : y = 0
 ·rw [if_pos h0]
  subst h0
  exact Ev.ite_pos (by rw [limbs_zero]; rfl) (Ev.now _)
 ·rw [if_neg h0]
  have hpos := List.length_pos_iff.2 (limbs_ne_nil h0)
  refine Ev.ite_neg (by omega) ?_
  have hc := cmp_ev (okl_limbs x) (okl_limbs y) (by unfold lenok; omega) (by unfold lenok; omega)
  rw [val_limbs, val_limbs] at hc
  refine Ev.bind hc ?_
  by_cases h1 : x < y
  ·rw [Nat.div_eq_of_lt h1, Nat.mod_eq_of_lt h1, limbs_zero]
   refine Ev.ite_pos (by rw [cmpI, if_pos h1]; decide) ?_
   have hn := norm_ev (okl_limbs x) (by unfold lenok; omega)
   rw [val_limbs] at hn
   exact Ev.bind (f := fun _ t => some (([] : List Int), t, true)) hn (Ev.now _)
  ·refine Ev.ite_neg (by rw [cmpI, if_neg h1]; split <;> decide) ?_
   by_cases h2 : (limbs y).length = 1
   ·refine Ev.ite_pos (by omega) (Ev.ite_pos (by omega) ?_)
    obtain ⟨top, P, hP, t1, t2, t3, t4, t5⟩ := limbs_bounds (n := 0) h2
    have hP' := hP.out
    rw [Nat.pow_zero] at hP'
    subst hP'
    rw [Nat.one_mul] at t4 t5
    have hyt : top = y := by omega
    have e : rd (limbs y) 0 = (y : Int) := by have := rd_nat (limbs y) 0; rw [t1, hyt] at this; exact this
    rw [e]
    have hd := divSmall_ev (okl_limbs x) (by unfold lenok; omega) (d := (y : Int)) (by omega) (by omega)
    rw [val_limbs, Int.toNat_natCast] at hd
    refine Ev.bind hd ?_
    have hm := Nat.mod_lt x (show 0 < y by omega)
    have ho := of_ev (a := ((x % y : Nat) : Int)) (Int.natCast_nonneg _) (by omega)
    rw [Int.toNat_natCast] at ho
    refine Ev.congr (f := fun k => (nat_Of.f k ((x % y : Nat) : Int)).bind fun t => some (limbs (x / y), t, true)) (fun k => ?_) (Ev.bind (f := fun _ t => some (limbs (x / y), t, true)) ho (Ev.now _))
    rw [wrapu64_id (Int.natCast_nonneg _) (by omega)]
   ·refine Ev.ite_neg (by omega) ?_
    obtain ⟨n, hn⟩ : ∃ n, (limbs y).length = n + 2 := ⟨(limbs y).length - 2, by omega⟩
    have hlen := limbs_len_mono (show y ≤ x by omega)
    have i1 : wrap64 (((limbs y).length : Int) - 1) = ((n + 1 : Nat) : Int) := by rw [hn, wrap64_id (by omega) (by omega)]; omega
    have i2 : wrap64 (((limbs x).length : Int) - ((limbs y).length : Int)) = (((limbs x).length - (n + 2) : Nat) : Int) := by rw [hn, wrap64_id (by omega) (by omega)]; omega
    have i3 : wrap64 ((((limbs x).length - (n + 2) : Nat) : Int) + 1) = (((limbs x).length - (n + 2) + 1 : Nat) : Int) := by rw [wrap64_id (by omega) (by omega)]; omega
    have hb := divmod_big x y n hn (by omega) (by omega)
    rw [i1, i2, i3]
    clear i1 i2 i3
    obtain ⟨s, u, v, b1, b2, b3, b4, b5, b6⟩ := hb
    have e2 : IntKind.u64.wrap (s : Int) = (s : Int) := wrapu64_id (by omega) (by omega)
    refine Ev.ite_pos (by omega) (Ev.ite_pos (by omega) ?_)
    refine Ev.bind (a := (s : Int)) ⟨0, fun _ _ => b1⟩ ?_
    rw [e2]
    refine Ev.bind b4 (Ev.bind b5 ?_)
    refine Ev.ite_pos (by omega) (Ev.ite_pos (by omega) (Ev.ite_pos (by omega) (Ev.ite_pos (by omega) ?_)))
    rw [Int.toNat_natCast, Int.toNat_natCast, hn]
    exact b6
end Go.Proofs.Ythamhjmhgcpdgaa.Big
end
section
namespace Go.Proofs.Ythamhjmhgcpdgaa.Big
open Go.RowKit Go.Proofs.YthamhjmhgcpdgaaW.PrintWords Go.Proofs.YthamhjmhgcpdgaaW.PrintLast Go.Proofs.YthamhjmhgcpdgaaW.PrintMore Go.Proofs.Ythamhjmhgcpdgaa.Q Go.Proofs.Ythamhjmhgcpdgaa.Th
set_option linter.unusedVariables false
set_option linter.unusedSimpArgs false
theorem bits_ev {l : List Int} (h : okl l) (hl : lenok l) : ∃ n : Int, Ev (fun k => nat_Bits.f k l) n ∧ 0 ≤ n ∧ (n = 0 ↔ val l = 0) := by
 have h1 := limbs_val_len h
 unfold lenok at hl
 have HT := trim_ev h hl
 obtain ⟨x, hx⟩ : ∃ x, x = val l := ⟨_, rfl⟩
 rw [← hx] at HT h1 ⊢
 by_cases h0 : x = 0
 ·subst h0
  exact ⟨0, Ev.bind HT (Ev.ite_pos (by rw [limbs_zero]; rfl) (Ev.now _)), by omega, by simp⟩
 ·have hpos := List.length_pos_iff.2 (limbs_ne_nil h0)
  obtain ⟨n, hn⟩ : ∃ n, (limbs x).length = n + 1 := ⟨(limbs x).length - 1, by omega⟩
  obtain ⟨top, P, hP, t1, t2, t3, t4, t5⟩ := limbs_bounds hn
  obtain ⟨L, m1, m2, m3, m4, m5⟩ := len32 top t3
  obtain ⟨m6, m7⟩ := m4 (by omega)
  clear t4 t5 m7 m3 m4 m5 hP
  have i1 : wrap64 (((limbs x).length : Int) - 1) = (n : Int) := by rw [hn, wrap64_id (by omega) (by omega)]; omega
  have i2 : wrap64 (32 * (n : Int)) = 32 * (n : Int) := wrap64_id (by omega) (by omega)
  have i3 : wrap64 (32 * (n : Int) + (L : Int)) = 32 * (n : Int) + (L : Int) := wrap64_id (by omega) (by omega)
  refine ⟨32 * (n : Int) + (L : Int), Ev.bind HT ?_, by clear i1 i2 i3; omega, by clear i1 i2 i3; omega⟩
  refine Ev.ite_neg (by clear i1 i2 i3; omega) ?_
  rw [i1]
  refine Ev.ite_pos (by clear i1 i2 i3; omega) (Ev.ite_pos (by clear i1 i2 i3; omega) ?_)
  rw [rd_nat, t1]
  refine Ev.bind (a := (L : Int)) (f := fun _ t => some (wrap64 (wrap64 (32 * (n : Int)) + t))) ⟨0, fun _ _ => m1⟩ ?_
  rw [i2, i3]
  exact Ev.now _
theorem gcd_loop (m : Nat) : ∀ (x y : Nat), y ≤ m → (limbs x).length ≤ 1099511627776 → (limbs y).length ≤ 1099511627776 → Ev (fun k => nat_Gcd.l0 k (limbs x) (limbs y)) (limbs (Nat.gcd x y)) := by
 induction m with
 | zero =>
  intro x y hy _ _
  obtain rfl : y = 0 := by omega
  rw [Nat.gcd_zero_right]
  refine Ev.step (f := fun _ => some (limbs x)) (fun k => ?_) (Ev.now _)
  simp only [nat_Gcd.l0]
  rw [if_neg (by rw [limbs_zero]; decide)]
 | succ m ih =>
  intro x y hy hlx hly
  by_cases h0 : y = 0
  ·exact ih x y (by omega) hlx hly
  ·have hpos := List.length_pos_iff.2 (limbs_ne_nil h0)
   have hm := Nat.mod_lt x (show 0 < y by omega)
   have hd := divmod_ev (okl_limbs x) (okl_limbs y) hlx hly
   rw [val_limbs, val_limbs, if_neg h0] at hd
   refine Ev.step (f := fun k => (nat_DivMod.f k (limbs x) (limbs y)).bind fun b => nat_Gcd.l0 k (limbs y) b.2.1) (fun k => ?_) (Ev.bind (f := fun k b => nat_Gcd.l0 k (limbs y) b.2.1) hd ?_)
   ·simp only [nat_Gcd.l0]
    rw [if_pos (by omega)]
   ·rw [Nat.gcd_comm x y, Nat.gcd_rec y x, Nat.gcd_comm]
    exact ih y (x % y) (by omega) hly (by have := limbs_len_mono (show x % y ≤ y by omega); omega)
theorem gcd_ev {a b : List Int} (ha : okl a) (hb : okl b) (hla : lenok a) (hlb : lenok b) : Ev (fun k => nat_Gcd.f k a b) (limbs (Nat.gcd (val a) (val b))) := by
 have l1 := limbs_val_len ha
 have l2 := limbs_val_len hb
 unfold lenok at *
 exact Ev.bind (norm_ev ha hla) (Ev.bind (norm_ev hb hlb) (gcd_loop (val b) _ _ (Nat.le_refl _) (by omega) (by omega)))
def sI (neg : Bool) (l : List Int) : Int := if neg then -(val l : Int) else (val l : Int)
def eI (z : Int) : Bool × List Int := (decide (z < 0), limbs z.natAbs)
theorem sI_natAbs (neg : Bool) (l : List Int) : (sI neg l).natAbs = val l := by unfold sI; cases neg <;> simp
theorem sI_eI (z : Int) : sI (eI z).1 (eI z).2 = z := by
 unfold sI eI
 simp only [val_limbs, decide_eq_true_eq]
 split <;> omega
theorem imake_ev (neg : Bool) {l : List Int} (h : okl l) (hl : lenok l) : Ev (fun k => integer_Make.f k neg l) (eI (sI neg l)) := by
 refine Ev.bind (norm_ev h hl) ?_
 unfold eI
 rw [sI_natAbs]
 cases neg with
 | true =>
  refine Ev.ite_pos rfl ?_
  have e : decide (0 < (limbs (val l)).length) = decide (sI true l < 0) := by
   unfold sI
   simp only [if_true]
   by_cases h0 : val l = 0
   ·rw [h0, limbs_zero]; simp
   ·have := List.length_pos_iff.2 (limbs_ne_nil h0)
    rw [decide_eq_true this]
    exact (decide_eq_true (by omega)).symm
  rw [e]
  exact Ev.now _
 | false =>
  refine Ev.ite_neg (by decide) ?_
  have e : decide (sI false l < 0) = false := decide_eq_false (by unfold sI; simp)
  rw [e]
  exact Ev.now _
theorem iof_ev {a : Int} (h0 : -9223372036854775808 ≤ a) (h1 : a < 9223372036854775808) : Ev (fun k => integer_Of.f k a) (eI a) := by
 unfold eI
 by_cases hn : a < 0
 ·refine Ev.ite_pos hn ?_
  have e : IntKind.u64.wrap ((IntKind.u64.wrap (wrap64 (-(wrap64 (a + 1))))) + 1) = (a.natAbs : Int) := by
   rw [wrap64_id (x := a + 1) (by omega) (by omega), wrap64_id (x := -(a + 1)) (by omega) (by omega), wrapu64_id (x := -(a + 1)) (by omega) (by omega), wrapu64_id (by omega) (by omega)]
   omega
  rw [e, decide_eq_true hn]
  have ho := of_ev (a := (a.natAbs : Int)) (by omega) (by omega)
  rw [Int.toNat_natCast] at ho
  exact Ev.bind (f := fun _ t => some (true, t)) ho (Ev.now _)
 ·refine Ev.ite_neg hn ?_
  rw [wrapu64_id (by omega) (by omega), decide_eq_false hn]
  have ho := of_ev (a := a) (by omega) (by omega)
  rw [show a.toNat = a.natAbs by omega] at ho
  exact Ev.bind (f := fun _ t => some (false, t)) ho (Ev.now _)
theorem isign_ev (neg : Bool) {l : List Int} (h : okl l) (hl : lenok l) : Ev (fun k => integer_Sign.f k neg l) (Int.sign (sI neg l)) := by
 obtain ⟨n, hn, hn0, hz⟩ := bits_ev h hl
 refine Ev.bind hn ?_
 by_cases h0 : val l = 0
 ·rw [show sI neg l = 0 by unfold sI; rw [h0]; cases neg <;> rfl]
  exact Ev.ite_pos (hz.2 h0) (Ev.now _)
 ·refine Ev.ite_neg (fun e => h0 (hz.1 e)) ?_
  cases neg with
  | true =>
   rw [Int.sign_eq_neg_one_of_neg (by unfold sI; simp only [if_true]; omega)]
   exact Ev.ite_pos rfl (Ev.now _)
  | false =>
   rw [Int.sign_eq_one_of_pos (by unfold sI; simp; omega)]
   exact Ev.ite_neg (by decide) (Ev.now _)
def cmpZ (a b : Int) : Int := if a < b then -1 else if b < a then 1 else 0
theorem icmp_ev (n1 : Bool) {l1 : List Int} (h1 : okl l1) (hl1 : lenok l1) (n2 : Bool) {l2 : List Int} (h2 : okl l2) (hl2 : lenok l2) : Ev (fun k => integer_Cmp.f k n1 l1 n2 l2) (cmpZ (sI n1 l1) (sI n2 l2)) := by
 refine Ev.bind (isign_ev n1 h1 hl1) (Ev.bind (isign_ev n2 h2 hl2) ?_)
 have a1 := sI_natAbs n1 l1
 have a2 := sI_natAbs n2 l2
 have c12 := cmp_ev h1 h2 hl1 hl2
 have c21 := cmp_ev h2 h1 hl2 hl1
 generalize sI n1 l1 = z1 at *
 generalize sI n2 l2 = z2 at *
 rw [← a1, ← a2] at c12 c21
 have s1 : Int.sign z1 = if z1 < 0 then -1 else if 0 < z1 then 1 else 0 := by
  rcases Int.lt_trichotomy z1 0 with h | h | h
  ·rw [Int.sign_eq_neg_one_of_neg h, if_pos h]
  ·subst h; rfl
  ·rw [Int.sign_eq_one_of_pos h, if_neg (by omega), if_pos h]
 have s2 : Int.sign z2 = if z2 < 0 then -1 else if 0 < z2 then 1 else 0 := by
  rcases Int.lt_trichotomy z2 0 with h | h | h
  ·rw [Int.sign_eq_neg_one_of_neg h, if_pos h]
  ·subst h; rfl
  ·rw [Int.sign_eq_one_of_pos h, if_neg (by omega), if_pos h]
 by_cases q1 : Int.sign z1 < Int.sign z2
 ·rw [cmpZ, if_pos (by rw [s1, s2] at q1; split at q1 <;> split at q1 <;> (try split at q1) <;> (try split at q1) <;> omega)]
  exact Ev.ite_pos q1 (Ev.now _)
 ·refine Ev.ite_neg q1 ?_
  by_cases q2 : Int.sign z1 > Int.sign z2
  ·have : z2 < z1 := by rw [s1, s2] at q2; split at q2 <;> split at q2 <;> (try split at q2) <;> (try split at q2) <;> omega
   rw [cmpZ, if_neg (by omega), if_pos this]
   exact Ev.ite_pos q2 (Ev.now _)
  ·refine Ev.ite_neg q2 ?_
   by_cases q3 : Int.sign z1 < 0
   ·refine Ev.ite_pos q3 ?_
    have e : cmpI z2.natAbs z1.natAbs = cmpZ z1 z2 := by
     have h3 : z1 < 0 := by rw [s1] at q3; split at q3 <;> (try split at q3) <;> omega
     have h4 : z2 < 0 := by rw [s1, s2, if_pos h3] at q1; split at q1 <;> (try split at q1) <;> omega
     unfold cmpI cmpZ
     split <;> split <;> (try split) <;> (try split) <;> omega
    rw [← e]
    exact Ev.bind (f := fun _ t => some t) c21 (Ev.now _)
   ·refine Ev.ite_neg q3 ?_
    have e : cmpI z1.natAbs z2.natAbs = cmpZ z1 z2 := by
     have h3 : 0 ≤ z1 := by rw [s1] at q3; split at q3 <;> (try split at q3) <;> omega
     have h4 : 0 ≤ z2 := by rw [s1, s2, if_neg (by omega)] at q2; split at q2 <;> (try split at q2) <;> (try split at q2) <;> omega
     unfold cmpI cmpZ
     split <;> split <;> (try split) <;> (try split) <;> omega
    rw [← e]
    exact Ev.bind (f := fun _ t => some t) c12 (Ev.now _)
theorem sI_mul (n1 n2 : Bool) (l1 l2 : List Int) : sI (n1 != n2) (limbs (val l1 * val l2)) = sI n1 l1 * sI n2 l2 := by
 unfold sI
 rw [val_limbs]
 cases n1 <;> cases n2 <;> simp [Int.neg_mul, Int.mul_neg]
theorem imul_ev (n1 : Bool) {l1 : List Int} (h1 : okl l1) (hl1 : lenok l1) (n2 : Bool) {l2 : List Int} (h2 : okl l2) (hl2 : lenok l2) (hl : l1.length + l2.length ≤ 1099511627776) : Ev (fun k => integer_Mul.f k n1 l1 n2 l2) (eI (sI n1 l1 * sI n2 l2)) := by
 refine Ev.bind (mul_ev h1 h2 hl1 hl2) ?_
 rw [← sI_mul]
 refine Ev.bind (f := fun _ b => some (b.1, b.2)) (imake_ev (n1 != n2) (okl_limbs _) ?_) (Ev.now _)
 unfold lenok
 refine Nat.le_trans (limbs_len_le (k := l1.length + l2.length) ?_) hl
 rw [Nat.pow_add]
 exact Nat.mul_lt_mul'' (val_lt h1) (val_lt h2)
end Go.Proofs.Ythamhjmhgcpdgaa.Big
end
