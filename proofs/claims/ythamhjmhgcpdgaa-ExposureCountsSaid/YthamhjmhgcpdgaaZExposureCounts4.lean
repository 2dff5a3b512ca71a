/- Lemmas and contracts for the law ExposureCounts: words of the print, contracts of the functions that the law reaches, and what these compute, as far as the law needs them; packed by a program of this session. -/
import Derived.Test.YthamhjmhgcpdgaaZExposureCounts3
section
namespace Go.Proofs.Ythamhjmhgcpdgaa.Q
open Go.RowKit Go.Proofs.YthamhjmhgcpdgaaW.PrintWords Go.Proofs.YthamhjmhgcpdgaaW.PrintLast Go.Proofs.YthamhjmhgcpdgaaW.PrintMore Go.Proofs.Ythamhjmhgcpdgaa.MyWords
attribute [local go_sem] max2_int min2_int max_two min_two
set_option linter.unusedVariables false
set_option linter.unusedSimpArgs false
def examboardref03_Cmp.T1 : Bool × List (List Nat × List Nat) := (true, [([], []), ([0], [0]), ([], []), ([2, 1], [2]), ([3, 3], [3]), ([1, 4, 4], [1, 4]), ([], []), ([6, 5, 5, 0, 1, 2, 3, 4, 5, 6], [5, 6])])
def examboardref03_Cmp.B1 : List Nat := [0, 1, 0, 7, 15, 31, 0, 127]
theorem examboardref03_Cmp.tab1 : rtab .any (opsOf Try.f35 1) = examboardref03_Cmp.T1 := by kernel_rfl
theorem examboardref03_Cmp.bits1 : waitsOk examboardref03_Cmp.T1.2 examboardref03_Cmp.B1 = true := by kernel_rfl
def examboardref03_Cmp.T2 : Bool × List (List Nat × List Nat) := (true, [([], []), ([0], [0]), ([], []), ([2, 1], [2]), ([3, 3], [3]), ([1, 4, 4], [1, 4]), ([], []), ([6, 5, 5, 0, 1, 2, 3, 4, 5, 6], [5, 6])])
def examboardref03_Cmp.B2 : List Nat := [0, 1, 0, 7, 15, 31, 0, 127]
theorem examboardref03_Cmp.tab2 : rtab .any (opsOf Try.f35 2) = examboardref03_Cmp.T2 := by kernel_rfl
theorem examboardref03_Cmp.bits2 : waitsOk examboardref03_Cmp.T2.2 examboardref03_Cmp.B2 = true := by kernel_rfl
set_option maxHeartbeats 8000000 in
set_option maxRecDepth 100000 in
theorem examboardref03_Cmp.calls (k : Nat) (a0_0 : Bool) (A0_1 : Option Addr) (c0_1 : Nat) (l0_1 : List Int) (A0_2 : Option Addr) (c0_2 : Nat) (l0_2 : List Int) (a1_0 : Bool) (A1_1 : Option Addr) (c1_1 : Nat) (l1_1 : List Int) (A1_2 : Option Addr) (c1_2 : Nat) (l1_2 : List Int) (r : Int) (w : World) (hr0_1 : Kd.C (Kd.int .u32) w A0_1 l0_1.length l0_1) (hc0_1 : l0_1.length ≤ c0_1) (hr0_2 : Kd.C (Kd.int .u32) w A0_2 l0_2.length l0_2) (hc0_2 : l0_2.length ≤ c0_2) (hr1_1 : Kd.C (Kd.int .u32) w A1_1 l1_1.length l1_1) (hc1_1 : l1_1.length ≤ c1_1) (hr1_2 : Kd.C (Kd.int .u32) w A1_2 l1_2.length l1_2) (hc1_2 : l1_2.length ≤ c1_2) (h : examboardref03_Cmp.f k a0_0 l0_1 l0_2 a1_0 l1_1 l1_2 = some r) :
  Calls Try.prog 35 #[.agg #[.bool a0_0, .slice A0_1 l0_1.length c0_1, .slice A0_2 l0_2.length c0_2], .agg #[.bool a1_0, .slice A1_1 l1_1.length c1_1, .slice A1_2 l1_2.length c1_2]] w fun e w' => e = .returned (.int .i64 r) ∧ Below w.heap.size w w' := by
 have hu29 := Try.underlying29
 have hu27 := Try.underlying27
 have HR0_1 := mk0 hr0_1
 have HC0_1 := mk0 hc0_1
 clear hr0_1 hc0_1
 have HR0_2 := mk0 hr0_2
 have HC0_2 := mk0 hc0_2
 clear hr0_2 hc0_2
 have HR1_1 := mk0 hr1_1
 have HC1_1 := mk0 hc1_1
 clear hr1_1 hc1_1
 have HR1_2 := mk0 hr1_2
 have HC1_2 := mk0 hc1_2
 clear hr1_2 hc1_2
 have HB := mk0 (Below.refl w.heap.size w)
 have H : ((examboardref03_top.f k a0_0 l0_1 l0_2).bind fun bt679 => ((examboardref03_low.f k a1_0 l1_1 l1_2).bind fun t683 => ((examboardref02_Make.f k false t683).bind fun bt686 => ((examboardref02_Mul.f k bt679.1 bt679.2 bt686.1 bt686.2).bind fun bt690 => ((examboardref03_top.f k a1_0 l1_1 l1_2).bind fun bt695 => ((examboardref03_low.f k a0_0 l0_1 l0_2).bind fun t699 => ((examboardref02_Make.f k false t699).bind fun bt702 => ((examboardref02_Mul.f k bt695.1 bt695.2 bt702.1 bt702.2).bind fun bt706 => ((examboardref02_Cmp.f k bt690.1 bt690.2 bt706.1 bt706.2).bind fun t711 => (some t711)))))))))) = some r := h
 clear h
 obtain ⟨⟨t679, t680⟩, A3, H⟩ := bindA H
 obtain ⟨t683, A4, H⟩ := bindA H
 obtain ⟨⟨t686, t687⟩, A5, H⟩ := bindA H
 obtain ⟨⟨t690, t691⟩, A6, H⟩ := bindA H
 obtain ⟨⟨t695, t696⟩, A7, H⟩ := bindA H
 obtain ⟨t699, A8, H⟩ := bindA H
 obtain ⟨⟨t702, t703⟩, A9, H⟩ := bindA H
 obtain ⟨⟨t706, t707⟩, A10, H⟩ := bindA H
 obtain ⟨t711, A11, H⟩ := bindA H
 obtain rfl := Option.some.inj H
 go_enter Try.func35, Try.ntmps35
 try go_wp2_with (first | ((with_reducible refine gate_dst (N := 2) rfl ?_); refine box_event rfl (N := 2) rfl (cs := #[.bool a0_0, .slice A0_1 l0_1.length c0_1, .slice A0_2 l0_2.length c0_2]) (t := 29) (by go_simp <;> rfl) ?_; intro gb677 hg w12 hbox hb; have BK677 := mk0 (hbox); have GE677 := geB hg HB; replace HB := hbS HB hb; clear hb hbox hg) | ((with_reducible refine gate_dst (N := 3) rfl ?_); refine box_event rfl (N := 3) rfl (cs := #[.bool a1_0, .slice A1_1 l1_1.length c1_1, .slice A1_2 l1_2.length c1_2]) (t := 29) (by go_simp <;> rfl) ?_; intro gb678 hg w13 hbox hb; have BK678 := mk0 (hbox); have GE678 := geB hg HB; replace HB := hbS HB hb; replace BK677 := bkB BK677 hb; clear hb hbox hg))
 replace BK677 := mk0 (blk_drew BK677.out)
 replace BK678 := mk0 (blk_drew BK678.out)
 replace HB := mk0 (b1 HB.out)
 refine start_ (n := 8) (S := fun w' => True) (ds := []) (bv 8 0) (by kernel_rfl) rfl rfl trivial (fun hHeld => ?_); refine with_tabW examboardref03_Cmp.tab1 examboardref03_Cmp.bits1 (fun HT_ HW_ => ?_)
 generalize w13.drew = w14 at BK677 BK678 HB hHeld ⊢
 refine inv_at [0, 1, 2, 3, 4, 5, 6, 7] (fun a0_ b a w' => ∃ (v681 : Value) (v684 : Value) (v688 : Value) (v692 : Value) (gb694 : Nat) (m1_ : Value) (m4_ : Value) (m5_ : Value) (m6_ : Value), a = putSel a0_ b [(0, 7, .agg #[.bool a0_0, .slice A0_1 l0_1.length c0_1, .slice A0_2 l0_2.length c0_2]), (1, 8, m1_), (2, 9, .agg #[.bool a1_0, .slice A1_1 l1_1.length c1_1, .slice A1_2 l1_2.length c1_2]), (3, 10, v684), (4, 11, m4_), (5, 12, m5_), (6, 5, m6_)] ∧ (w'.heap[gb677]? = some (.cells #[.bool a0_0, .slice A0_1 l0_1.length c0_1, .slice A0_2 l0_2.length c0_2] 29 (0, 0))) ∧ (w'.heap[gb678]? = some (.cells #[.bool a1_0, .slice A1_1 l1_1.length c1_1, .slice A1_2 l1_2.length c1_2] 29 (0, 0))) ∧ (Below w.heap.size w w') ∧ (b 1 = true → Kd.R (Kd.int .u32) 87 w' w.heap.size (fun _ => True) v681 t680) ∧ (b 3 = true → Kd.R (Kd.int .u32) 87 w' w.heap.size (fun _ => True) v684 t683) ∧ (b 4 = true → Kd.R (Kd.int .u32) 87 w' w.heap.size (fun _ => True) v688 t687) ∧ (b 5 = true → Kd.R (Kd.int .u32) 87 w' w.heap.size (fun _ => True) v692 t691) ∧ (b 6 = true → b 7 = false → w'.heap[gb694]? = some (.cells #[.bool false, .slice none 0 0] 27 (0, 0))) ∧ (b 6 = true → w.heap.size ≤ gb694) ∧ (b 6 = true → w.heap.size ≤ gb694) ∧ (b 6 = true → gb677 ≠ gb694) ∧ (b 6 = true → gb694 ≠ gb677) ∧ (b 6 = true → gb678 ≠ gb694) ∧ (b 6 = true → gb694 ≠ gb678) ∧ (b 7 = true → w'.heap[gb694]? = some (.cells #[.bool t690, v692] 27 (0, 0))) ∧ (b 1 = true → (m1_ : Value) = .agg #[.bool t679, v681]) ∧ (b 4 = true → (m4_ : Value) = .agg #[.bool t686, v688]) ∧ (b 5 = true → (m5_ : Value) = .agg #[.bool t690, v692]) ∧ (b 6 = true → (m6_ : Value) = .pointer (some ⟨gb694, 0, none⟩))) HT_.out HW_.out (by kernel_rfl) (by kernel_rfl) ?_ ?_ ?_
 ·exact ⟨.bool false, .bool false, .bool false, .bool false, 0, .bool false, .bool false, .bool false, .bool false, by simp only [putSel, Bool.false_eq_true, if_false], BK677.out, BK678.out, HB.out, fun h_ => absurd h_ (by decide), fun h_ => absurd h_ (by decide), fun h_ => absurd h_ (by decide), fun h_ => absurd h_ (by decide), fun h_ => absurd h_ (by decide), fun h_ => absurd h_ (by decide), fun h_ => absurd h_ (by decide), fun h_ => absurd h_ (by decide), fun h_ => absurd h_ (by decide), fun h_ => absurd h_ (by decide), fun h_ => absurd h_ (by decide), fun h_ => absurd h_ (by decide), fun h_ => absurd h_ (by decide), fun h_ => absurd h_ (by decide), fun h_ => absurd h_ (by decide), fun h_ => absurd h_ (by decide)⟩
 ·skip
  clear BK677 BK678 HB
  refine steps_cons ?_ ?_
  ·rintro b a w' ⟨v681, v684, v688, v692, gb694, m1_, m4_, m5_, m6_, ha, Q_BK677, Q_BK678, Q_HB, Q_HO682, Q_HO685, Q_HO689, Q_HO693, Q_BK694, Q_GW694, Q_GE694, Q_NB677_694, Q_NB694_677, Q_NB678_694, Q_NB694_678, Q_BK694_e7, Q_X1_, Q_X4_, Q_X5_, Q_X6_⟩ hb_ hon hoff
   refine ⟨_, rfl, fun K hK => ?_⟩
   have e2 : a.tmps[2]? = some (.pointer (some ⟨gb677, 0, none⟩)) := by rw [ha]; exact (putSel_off rfl).trans rfl
   replace ha := mk0 ha
   have BK677 := mk0 Q_BK677
   have BK678 := mk0 Q_BK678
   have HB := mk0 Q_HB
   have hc0_ : w'.cell? ⟨gb677, 0, none⟩ = some (.bool a0_0) := (blk_cell BK677.out 0).trans rfl
   have hc1_ : w'.cell? ⟨gb677, 1, none⟩ = some (.slice A0_1 l0_1.length c0_1) := (blk_cell BK677.out 1).trans rfl
   have hc2_ : w'.cell? ⟨gb677, 2, none⟩ = some (.slice A0_2 l0_2.length c0_2) := (blk_cell BK677.out 2).trans rfl
   refine value_ (w1 := w') (v := .agg #[.bool a0_0, .slice A0_1 l0_1.length c0_1, .slice A0_2 l0_2.length c0_2]) (by rfl) rfl ?_ ?_
   ·go_simp
    (try simp only [i64_w])
    try rfl
   refine hK.out _ _ ⟨v681, v684, v688, v692, gb694, m1_, m4_, m5_, m6_, (by rw [ha.out]; exact putSel_upk 0 hb_ rfl rfl rfl), Q_BK677, Q_BK678, Q_HB, fun h0_ => absurd ((hoff 1 (by kernel_rfl)).symm.trans h0_) (by decide), fun h0_ => absurd ((hoff 3 (by kernel_rfl)).symm.trans h0_) (by decide), fun h0_ => absurd ((hoff 4 (by kernel_rfl)).symm.trans h0_) (by decide), fun h0_ => absurd ((hoff 5 (by kernel_rfl)).symm.trans h0_) (by decide), Q_BK694, Q_GW694, Q_GE694, Q_NB677_694, Q_NB694_677, Q_NB678_694, Q_NB694_678, fun h0_ => absurd ((hoff 7 (by kernel_rfl)).symm.trans h0_) (by decide), fun h0_ => absurd ((hoff 1 (by kernel_rfl)).symm.trans h0_) (by decide), fun h0_ => absurd ((hoff 4 (by kernel_rfl)).symm.trans h0_) (by decide), fun h0_ => absurd ((hoff 5 (by kernel_rfl)).symm.trans h0_) (by decide), Q_X6_⟩
  refine steps_cons ?_ ?_
  ·rintro b a w' ⟨v681, v684, v688, v692, gb694, m1_, m4_, m5_, m6_, ha, Q_BK677, Q_BK678, Q_HB, Q_HO682, Q_HO685, Q_HO689, Q_HO693, Q_BK694, Q_GW694, Q_GE694, Q_NB677_694, Q_NB694_677, Q_NB678_694, Q_NB694_678, Q_BK694_e7, Q_X1_, Q_X4_, Q_X5_, Q_X6_⟩ hb_ hon hoff
   refine ⟨_, rfl, fun K hK => ?_⟩
   have e7 : a.tmps[7]? = some (.agg #[.bool a0_0, .slice A0_1 l0_1.length c0_1, .slice A0_2 l0_2.length c0_2]) := by rw [ha]; exact putSel_on (e := (0, 7, .agg #[.bool a0_0, .slice A0_1 l0_1.length c0_1, .slice A0_2 l0_2.length c0_2])) 0 rfl rfl (hon 0 (by kernel_rfl)) rfl
   replace ha := mk0 ha
   have BK677 := mk0 Q_BK677
   have BK678 := mk0 Q_BK678
   have HB := mk0 Q_HB
   refine goes_ Try.func59 (by kernel_rfl) rfl #[.agg #[.bool a0_0, .slice A0_1 l0_1.length c0_1, .slice A0_2 l0_2.length c0_2]] (by rfl) rfl rfl (by first | (simp only [mA, mC, mN, Act.eval, Array.getD_eq_getD_getElem?, Option.getD_some, e7]; done) | (simp only [mA, mC, mN, Act.eval, Array.getD_eq_getD_getElem?, Option.getD_some, e7]; rfl)) ?_
   with_reducible refine (examboardref03_top.calls k a0_0 _ _ l0_1 _ _ l0_2 t679 t680 _ ?side1 ?side2 ?side3 ?side4 A3.out).mono ?_
   (case side1 => repeat (first | exact (Cb HR0_1.out HB.out) | (with_reducible refine Kd.C_alloc ?_ _) | (with_reducible refine Kd.C_drewN ?_ _) | (with_reducible refine Kd.C_drew ?_)))
   (case side2 => exact HC0_1.out)
   (case side3 => repeat (first | exact (Cb HR0_2.out HB.out) | (with_reducible refine Kd.C_alloc ?_ _) | (with_reducible refine Kd.C_drewN ?_ _) | (with_reducible refine Kd.C_drew ?_)))
   (case side4 => exact HC0_2.out)
   rintro e w15 ⟨v681, rfl, ho0, hb⟩
   refine ⟨_, rfl, ?_⟩
   have n0_ := mk0 (Rl ho0 (bZ (by repeat (first | exact HB.out | apply bN | apply b1 | apply bA | refine bS ?_ GE677.out | refine bS ?_ GE678.out))))
   have n1_ := bkB BK677 hb
   have n2_ := bkB BK678 hb
   have n3_ := mk0 (below_step (by repeat (first | exact HB.out | apply bN | apply b1 | apply bA | refine bS ?_ GE677.out | refine bS ?_ GE678.out)) hb)
   have z_BK694 := fun (h0_ : b 6 = true) (h1_ : b 7 = false) => (show w15.heap[gb694]? = some (.cells #[.bool false, .slice none 0 0] 27 (0, 0)) from by first | exact (blk_below (g := gb694) (o := .cells #[.bool false, .slice none 0 0] 27 (0, 0)) ((Q_BK694 h0_ h1_)) hb))
   clear BK677
   clear BK678
   clear HB
   have HO682 := n0_
   have BK677 := n1_
   have BK678 := n2_
   have HB := n3_
   clear n0_ n1_ n2_ n3_
   refine hK.out _ _ ⟨v681, v684, v688, v692, gb694, (.agg #[.bool t679, v681]), m4_, m5_, m6_, (by rw [ha.out]; exact putSel_upk 1 hb_ rfl rfl rfl), BK677.out, BK678.out, (by repeat (first | exact HB.out | apply bN | apply b1 | apply bA | refine bS ?_ GE677.out | refine bS ?_ GE678.out)), fun _ => HO682.out, fun h0_ => absurd ((hoff 3 (by kernel_rfl)).symm.trans h0_) (by decide), fun h0_ => absurd ((hoff 4 (by kernel_rfl)).symm.trans h0_) (by decide), fun h0_ => absurd ((hoff 5 (by kernel_rfl)).symm.trans h0_) (by decide), z_BK694, Q_GW694, Q_GE694, Q_NB677_694, Q_NB694_677, Q_NB678_694, Q_NB694_678, fun h0_ => absurd ((hoff 7 (by kernel_rfl)).symm.trans h0_) (by decide), fun _ => rfl, fun h0_ => absurd ((hoff 4 (by kernel_rfl)).symm.trans h0_) (by decide), fun h0_ => absurd ((hoff 5 (by kernel_rfl)).symm.trans h0_) (by decide), Q_X6_⟩
  refine steps_cons ?_ ?_
  ·rintro b a w' ⟨v681, v684, v688, v692, gb694, m1_, m4_, m5_, m6_, ha, Q_BK677, Q_BK678, Q_HB, Q_HO682, Q_HO685, Q_HO689, Q_HO693, Q_BK694, Q_GW694, Q_GE694, Q_NB677_694, Q_NB694_677, Q_NB678_694, Q_NB694_678, Q_BK694_e7, Q_X1_, Q_X4_, Q_X5_, Q_X6_⟩ hb_ hon hoff
   refine ⟨_, rfl, fun K hK => ?_⟩
   have e3 : a.tmps[3]? = some (.pointer (some ⟨gb678, 0, none⟩)) := by rw [ha]; exact (putSel_off rfl).trans rfl
   replace ha := mk0 ha
   have BK677 := mk0 Q_BK677
   have BK678 := mk0 Q_BK678
   have HB := mk0 Q_HB
   have hc0_ : w'.cell? ⟨gb678, 0, none⟩ = some (.bool a1_0) := (blk_cell BK678.out 0).trans rfl
   have hc1_ : w'.cell? ⟨gb678, 1, none⟩ = some (.slice A1_1 l1_1.length c1_1) := (blk_cell BK678.out 1).trans rfl
   have hc2_ : w'.cell? ⟨gb678, 2, none⟩ = some (.slice A1_2 l1_2.length c1_2) := (blk_cell BK678.out 2).trans rfl
   refine value_ (w1 := w') (v := .agg #[.bool a1_0, .slice A1_1 l1_1.length c1_1, .slice A1_2 l1_2.length c1_2]) (by rfl) rfl ?_ ?_
   ·go_simp
    (try simp only [i64_w])
    try rfl
   refine hK.out _ _ ⟨v681, v684, v688, v692, gb694, m1_, m4_, m5_, m6_, (by rw [ha.out]; exact putSel_upk 2 hb_ rfl rfl rfl), Q_BK677, Q_BK678, Q_HB, Q_HO682, fun h0_ => absurd ((hoff 3 (by kernel_rfl)).symm.trans h0_) (by decide), fun h0_ => absurd ((hoff 4 (by kernel_rfl)).symm.trans h0_) (by decide), fun h0_ => absurd ((hoff 5 (by kernel_rfl)).symm.trans h0_) (by decide), Q_BK694, Q_GW694, Q_GE694, Q_NB677_694, Q_NB694_677, Q_NB678_694, Q_NB694_678, fun h0_ => absurd ((hoff 7 (by kernel_rfl)).symm.trans h0_) (by decide), Q_X1_, fun h0_ => absurd ((hoff 4 (by kernel_rfl)).symm.trans h0_) (by decide), fun h0_ => absurd ((hoff 5 (by kernel_rfl)).symm.trans h0_) (by decide), Q_X6_⟩
  refine steps_cons ?_ ?_
  ·rintro b a w' ⟨v681, v684, v688, v692, gb694, m1_, m4_, m5_, m6_, ha, Q_BK677, Q_BK678, Q_HB, Q_HO682, Q_HO685, Q_HO689, Q_HO693, Q_BK694, Q_GW694, Q_GE694, Q_NB677_694, Q_NB694_677, Q_NB678_694, Q_NB694_678, Q_BK694_e7, Q_X1_, Q_X4_, Q_X5_, Q_X6_⟩ hb_ hon hoff
   refine ⟨_, rfl, fun K hK => ?_⟩
   have e9 : a.tmps[9]? = some (.agg #[.bool a1_0, .slice A1_1 l1_1.length c1_1, .slice A1_2 l1_2.length c1_2]) := by rw [ha]; exact putSel_on (e := (2, 9, .agg #[.bool a1_0, .slice A1_1 l1_1.length c1_1, .slice A1_2 l1_2.length c1_2])) 2 rfl rfl (hon 2 (by kernel_rfl)) rfl
   replace ha := mk0 ha
   have BK677 := mk0 Q_BK677
   have BK678 := mk0 Q_BK678
   have HB := mk0 Q_HB
   have HO682 := mk0 (Q_HO682 (hon 1 (by kernel_rfl)))
   refine goes_ Try.func61 (by kernel_rfl) rfl #[.agg #[.bool a1_0, .slice A1_1 l1_1.length c1_1, .slice A1_2 l1_2.length c1_2]] (by rfl) rfl rfl (by first | (simp only [mA, mC, mN, Act.eval, Array.getD_eq_getD_getElem?, Option.getD_some, e9]; done) | (simp only [mA, mC, mN, Act.eval, Array.getD_eq_getD_getElem?, Option.getD_some, e9]; rfl)) ?_
   with_reducible refine (examboardref03_low.calls k a1_0 _ _ l1_1 _ _ l1_2 t683 _ ?side1 ?side2 ?side3 ?side4 A4.out).mono ?_
   (case side1 => repeat (first | exact (Cb HR1_1.out HB.out) | (with_reducible refine Kd.C_alloc ?_ _) | (with_reducible refine Kd.C_drewN ?_ _) | (with_reducible refine Kd.C_drew ?_)))
   (case side2 => exact HC1_1.out)
   (case side3 => repeat (first | exact (Cb HR1_2.out HB.out) | (with_reducible refine Kd.C_alloc ?_ _) | (with_reducible refine Kd.C_drewN ?_ _) | (with_reducible refine Kd.C_drew ?_)))
   (case side4 => exact HC1_2.out)
   rintro e w17 ⟨v684, rfl, ho0, hb⟩
   refine ⟨_, rfl, ?_⟩
   have n0_ := mk0 (Re HO682.out (Rs ho0) hb)
   have n1_ := mk0 (Rl (Rn ho0 (Rq HO682.out)) (bZ (by repeat (first | exact HB.out | apply bN | apply b1 | apply bA | refine bS ?_ GE677.out | refine bS ?_ GE678.out))))
   have n2_ := bkB BK677 hb
   have n3_ := bkB BK678 hb
   have n4_ := mk0 (below_step (by repeat (first | exact HB.out | apply bN | apply b1 | apply bA | refine bS ?_ GE677.out | refine bS ?_ GE678.out)) hb)
   have z_BK694 := fun (h0_ : b 6 = true) (h1_ : b 7 = false) => (show w17.heap[gb694]? = some (.cells #[.bool false, .slice none 0 0] 27 (0, 0)) from by first | exact (blk_below (g := gb694) (o := .cells #[.bool false, .slice none 0 0] 27 (0, 0)) ((Q_BK694 h0_ h1_)) hb))
   clear HO682
   clear BK677
   clear BK678
   clear HB
   have HO682 := n0_
   have HO685 := n1_
   have BK677 := n2_
   have BK678 := n3_
   have HB := n4_
   clear n0_ n1_ n2_ n3_ n4_
   refine hK.out _ _ ⟨v681, v684, v688, v692, gb694, m1_, m4_, m5_, m6_, (by rw [ha.out]; exact putSel_upk 3 hb_ rfl rfl rfl), BK677.out, BK678.out, (by repeat (first | exact HB.out | apply bN | apply b1 | apply bA | refine bS ?_ GE677.out | refine bS ?_ GE678.out)), fun _ => (Rm HO682.out tv), fun _ => (Rm HO685.out tv), fun h0_ => absurd ((hoff 4 (by kernel_rfl)).symm.trans h0_) (by decide), fun h0_ => absurd ((hoff 5 (by kernel_rfl)).symm.trans h0_) (by decide), z_BK694, Q_GW694, Q_GE694, Q_NB677_694, Q_NB694_677, Q_NB678_694, Q_NB694_678, fun h0_ => absurd ((hoff 7 (by kernel_rfl)).symm.trans h0_) (by decide), Q_X1_, fun h0_ => absurd ((hoff 4 (by kernel_rfl)).symm.trans h0_) (by decide), fun h0_ => absurd ((hoff 5 (by kernel_rfl)).symm.trans h0_) (by decide), Q_X6_⟩
  refine steps_cons ?_ ?_
  ·rintro b a w' ⟨v681, v684, v688, v692, gb694, m1_, m4_, m5_, m6_, ha, Q_BK677, Q_BK678, Q_HB, Q_HO682, Q_HO685, Q_HO689, Q_HO693, Q_BK694, Q_GW694, Q_GE694, Q_NB677_694, Q_NB694_677, Q_NB678_694, Q_NB694_678, Q_BK694_e7, Q_X1_, Q_X4_, Q_X5_, Q_X6_⟩ hb_ hon hoff
   refine ⟨_, rfl, fun K hK => ?_⟩
   have e10 : a.tmps[10]? = some (v684) := by rw [ha]; exact putSel_on (e := (3, 10, v684)) 3 rfl rfl (hon 3 (by kernel_rfl)) rfl
   replace ha := mk0 ha
   have BK677 := mk0 Q_BK677
   have BK678 := mk0 Q_BK678
   have HB := mk0 Q_HB
   have HO682 := mk0 (Q_HO682 (hon 1 (by kernel_rfl)))
   have HO685 := mk0 (Q_HO685 (hon 3 (by kernel_rfl)))
   obtain ⟨Ao18, co18, eo18⟩ := Kd.R_slice HO685.out
   (first | subst eo18 | (injection eo18 with f1_ f2_ f3_; have f4_ := f1_.symm; have f5_ := f3_.symm; clear f1_ f2_ f3_; subst f4_; subst f5_))
   refine goes_ Try.func62 (by kernel_rfl) rfl #[.bool false, .slice Ao18 t683.length co18] (by rfl) rfl rfl (by first | (simp only [mA, mC, mN, Act.eval, Array.getD_eq_getD_getElem?, Option.getD_some, e10]; done) | (simp only [mA, mC, mN, Act.eval, Array.getD_eq_getD_getElem?, Option.getD_some, e10]; rfl)) ?_
   with_reducible refine (examboardref02_Make.calls k false _ _ t683 t686 t687 _ ?side1 ?side2 A5.out).mono ?_
   (case side1 => repeat (first | exact (Kd.R_reads' HO685.out).2.2 | (with_reducible refine Kd.C_alloc ?_ _) | (with_reducible refine Kd.C_drewN ?_ _) | (with_reducible refine Kd.C_drew ?_)))
   (case side2 => exact (Kd.R_reads' HO685.out).2.1)
   rintro e w19 ⟨v688, rfl, ho0, hb⟩
   refine ⟨_, rfl, ?_⟩
   have n0_ := mk0 (Re HO682.out (Rs ho0) hb)
   have n1_ := mk0 (Re HO685.out (Rs ho0) hb)
   have n2_ := mk0 (Rl (Rn (Rn ho0 (Rq HO682.out)) (Rq HO685.out)) (bZ (by repeat (first | exact HB.out | apply bN | apply b1 | apply bA | refine bS ?_ GE677.out | refine bS ?_ GE678.out))))
   have n3_ := bkB BK677 hb
   have n4_ := bkB BK678 hb
   have n5_ := mk0 (below_step (by repeat (first | exact HB.out | apply bN | apply b1 | apply bA | refine bS ?_ GE677.out | refine bS ?_ GE678.out)) hb)
   have z_BK694 := fun (h0_ : b 6 = true) (h1_ : b 7 = false) => (show w19.heap[gb694]? = some (.cells #[.bool false, .slice none 0 0] 27 (0, 0)) from by first | exact (blk_below (g := gb694) (o := .cells #[.bool false, .slice none 0 0] 27 (0, 0)) ((Q_BK694 h0_ h1_)) hb))
   clear HO682
   clear HO685
   clear BK677
   clear BK678
   clear HB
   have HO682 := n0_
   have HO685 := n1_
   have HO689 := n2_
   have BK677 := n3_
   have BK678 := n4_
   have HB := n5_
   clear n0_ n1_ n2_ n3_ n4_ n5_
   refine hK.out _ _ ⟨v681, .slice Ao18 t683.length co18, v688, v692, gb694, m1_, (.agg #[.bool t686, v688]), m5_, m6_, (by rw [ha.out]; exact putSel_upk 4 hb_ rfl rfl rfl), BK677.out, BK678.out, (by repeat (first | exact HB.out | apply bN | apply b1 | apply bA | refine bS ?_ GE677.out | refine bS ?_ GE678.out)), fun _ => (Rm HO682.out tv), fun _ => (Rm HO685.out tv), fun _ => (Rm HO689.out tv), fun h0_ => absurd ((hoff 5 (by kernel_rfl)).symm.trans h0_) (by decide), z_BK694, Q_GW694, Q_GE694, Q_NB677_694, Q_NB694_677, Q_NB678_694, Q_NB694_678, fun h0_ => absurd ((hoff 7 (by kernel_rfl)).symm.trans h0_) (by decide), Q_X1_, fun _ => rfl, fun h0_ => absurd ((hoff 5 (by kernel_rfl)).symm.trans h0_) (by decide), Q_X6_⟩
  refine steps_cons ?_ ?_
  ·rintro b a w' ⟨v681, v684, v688, v692, gb694, m1_, m4_, m5_, m6_, ha, Q_BK677, Q_BK678, Q_HB, Q_HO682, Q_HO685, Q_HO689, Q_HO693, Q_BK694, Q_GW694, Q_GE694, Q_NB677_694, Q_NB694_677, Q_NB678_694, Q_NB694_678, Q_BK694_e7, Q_X1_, Q_X4_, Q_X5_, Q_X6_⟩ hb_ hon hoff
   refine ⟨_, rfl, fun K hK => ?_⟩
   have e8 : a.tmps[8]? = some (m1_) := by rw [ha]; exact putSel_on (e := (1, 8, m1_)) 1 rfl rfl (hon 1 (by kernel_rfl)) rfl
   rw [Q_X1_ (hon 1 (by kernel_rfl))] at e8
   have e11 : a.tmps[11]? = some (m4_) := by rw [ha]; exact putSel_on (e := (4, 11, m4_)) 4 rfl rfl (hon 4 (by kernel_rfl)) rfl
   rw [Q_X4_ (hon 4 (by kernel_rfl))] at e11
   replace ha := mk0 ha
   have BK677 := mk0 Q_BK677
   have BK678 := mk0 Q_BK678
   have HB := mk0 Q_HB
   have HO682 := mk0 (Q_HO682 (hon 1 (by kernel_rfl)))
   have HO685 := mk0 (Q_HO685 (hon 3 (by kernel_rfl)))
   have HO689 := mk0 (Q_HO689 (hon 4 (by kernel_rfl)))
   obtain ⟨Ao20, co20, eo20⟩ := Kd.R_slice HO682.out
   (first | subst eo20 | (injection eo20 with f1_ f2_ f3_; have f4_ := f1_.symm; have f5_ := f3_.symm; clear f1_ f2_ f3_; subst f4_; subst f5_))
   obtain ⟨Ao21, co21, eo21⟩ := Kd.R_slice HO689.out
   (first | subst eo21 | (injection eo21 with f1_ f2_ f3_; have f4_ := f1_.symm; have f5_ := f3_.symm; clear f1_ f2_ f3_; subst f4_; subst f5_))
   refine goes_ Try.func58 (by kernel_rfl) rfl #[.agg #[.bool t679, .slice Ao20 t680.length co20], .agg #[.bool t686, .slice Ao21 t687.length co21]] (by rfl) rfl rfl (by first | (simp only [mA, mC, mN, Act.eval, Array.getD_eq_getD_getElem?, Option.getD_some, e8, e11]; done) | (simp only [mA, mC, mN, Act.eval, Array.getD_eq_getD_getElem?, Option.getD_some, e8, e11]; rfl)) ?_
   with_reducible refine (examboardref02_Mul.calls k t679 _ _ t680 t686 _ _ t687 t690 t691 _ ?side1 ?side2 ?side3 ?side4 A6.out).mono ?_
   (case side1 => repeat (first | exact (Kd.R_reads' HO682.out).2.2 | (with_reducible refine Kd.C_alloc ?_ _) | (with_reducible refine Kd.C_drewN ?_ _) | (with_reducible refine Kd.C_drew ?_)))
   (case side2 => exact (Kd.R_reads' HO682.out).2.1)
   (case side3 => repeat (first | exact (Kd.R_reads' HO689.out).2.2 | (with_reducible refine Kd.C_alloc ?_ _) | (with_reducible refine Kd.C_drewN ?_ _) | (with_reducible refine Kd.C_drew ?_)))
   (case side4 => exact (Kd.R_reads' HO689.out).2.1)
   rintro e w22 ⟨v692, rfl, ho0, hb⟩
   refine ⟨_, rfl, ?_⟩
   have n0_ := mk0 (Re HO682.out (Rs ho0) hb)
   have n1_ := mk0 (Re HO685.out (Rs ho0) hb)
   have n2_ := mk0 (Re HO689.out (Rs ho0) hb)
   have n3_ := mk0 (Rl (Rn (Rn (Rn ho0 (Rq HO682.out)) (Rq HO685.out)) (Rq HO689.out)) (bZ (by repeat (first | exact HB.out | apply bN | apply b1 | apply bA | refine bS ?_ GE677.out | refine bS ?_ GE678.out))))
   have n4_ := bkB BK677 hb
   have n5_ := bkB BK678 hb
   have n6_ := mk0 (below_step (by repeat (first | exact HB.out | apply bN | apply b1 | apply bA | refine bS ?_ GE677.out | refine bS ?_ GE678.out)) hb)
   have z_BK694 := fun (h0_ : b 6 = true) (h1_ : b 7 = false) => (show w22.heap[gb694]? = some (.cells #[.bool false, .slice none 0 0] 27 (0, 0)) from by first | exact (blk_below (g := gb694) (o := .cells #[.bool false, .slice none 0 0] 27 (0, 0)) ((Q_BK694 h0_ h1_)) hb))
   clear HO682
   clear HO685
   clear HO689
   clear BK677
   clear BK678
   clear HB
   have HO682 := n0_
   have HO685 := n1_
   have HO689 := n2_
   have HO693 := n3_
   have BK677 := n4_
   have BK678 := n5_
   have HB := n6_
   clear n0_ n1_ n2_ n3_ n4_ n5_ n6_
   refine hK.out _ _ ⟨.slice Ao20 t680.length co20, v684, .slice Ao21 t687.length co21, v692, gb694, m1_, m4_, (.agg #[.bool t690, v692]), m6_, (by rw [ha.out]; exact putSel_upk 5 hb_ rfl rfl rfl), BK677.out, BK678.out, (by repeat (first | exact HB.out | apply bN | apply b1 | apply bA | refine bS ?_ GE677.out | refine bS ?_ GE678.out)), fun _ => (Rm HO682.out tv), fun _ => (Rm HO685.out tv), fun _ => (Rm HO689.out tv), fun _ => (Rm HO693.out tv), z_BK694, Q_GW694, Q_GE694, Q_NB677_694, Q_NB694_677, Q_NB678_694, Q_NB694_678, fun h0_ => absurd ((hoff 7 (by kernel_rfl)).symm.trans h0_) (by decide), Q_X1_, Q_X4_, fun _ => rfl, Q_X6_⟩
  refine steps_cons ?_ ?_
  ·rintro b a w' ⟨v681, v684, v688, v692, gb694, m1_, m4_, m5_, m6_, ha, Q_BK677, Q_BK678, Q_HB, Q_HO682, Q_HO685, Q_HO689, Q_HO693, Q_BK694, Q_GW694, Q_GE694, Q_NB677_694, Q_NB694_677, Q_NB678_694, Q_NB694_678, Q_BK694_e7, Q_X1_, Q_X4_, Q_X5_, Q_X6_⟩ hb_ hon hoff
   refine ⟨_, rfl, fun K hK => ?_⟩
   replace ha := mk0 ha
   have BK677 := mk0 Q_BK677
   have BK678 := mk0 Q_BK678
   have HB := mk0 Q_HB
   refine box_step ?hg (N := 5) ?hd (cs := #[.bool false, .slice none 0 0]) (t := 27) ?hr ?_; (case hd => rfl); (case hg => rfl); (case hr => go_simp <;> rfl)
   intro gb694 hg w15 hbox hb
   have n0_ := bkB BK677 hb
   have n1_ := bkB BK678 hb
   have n2_ := mk0 (below_step (by repeat (first | exact HB.out | apply bN | apply b1 | apply bA | refine bS ?_ GE677.out | refine bS ?_ GE678.out)) hb)
   have n3_ := mk0 (hbox)
   have n4_ := mk0 ((by rw [hg]; exact (bZ (by repeat (first | exact HB.out | apply bN | apply b1 | apply bA | refine bS ?_ GE677.out | refine bS ?_ GE678.out))) : w.heap.size ≤ gb694))
   have n5_ := mk0 ((by rw [hg]; exact (bZ (by repeat (first | exact HB.out | apply bN | apply b1 | apply bA | refine bS ?_ GE677.out | refine bS ?_ GE678.out))) : w.heap.size ≤ gb694))
   have n6_ := nbA hg BK677
   have n7_ := nbB hg BK677
   have n8_ := nbA hg BK678
   have n9_ := nbB hg BK678
   have z_HO682 := fun (h0_ : b 1 = true) => (show Kd.R (Kd.int .u32) 87 w15 w.heap.size (fun _ => True) v681 t680 from by first | exact (Rb ((Q_HO682 h0_)) hb) | exact Rm (Rb ((Q_HO682 h0_)) hb) tv)
   have z_HO685 := fun (h0_ : b 3 = true) => (show Kd.R (Kd.int .u32) 87 w15 w.heap.size (fun _ => True) v684 t683 from by first | exact (Rb ((Q_HO685 h0_)) hb) | exact Rm (Rb ((Q_HO685 h0_)) hb) tv)
   have z_HO689 := fun (h0_ : b 4 = true) => (show Kd.R (Kd.int .u32) 87 w15 w.heap.size (fun _ => True) v688 t687 from by first | exact (Rb ((Q_HO689 h0_)) hb) | exact Rm (Rb ((Q_HO689 h0_)) hb) tv)
   have z_HO693 := fun (h0_ : b 5 = true) => (show Kd.R (Kd.int .u32) 87 w15 w.heap.size (fun _ => True) v692 t691 from by first | exact (Rb ((Q_HO693 h0_)) hb) | exact Rm (Rb ((Q_HO693 h0_)) hb) tv)
   clear BK677
   clear BK678
   clear HB
   have BK677 := n0_
   have BK678 := n1_
   have HB := n2_
   have BK694 := n3_
   have GW694 := n4_
   have GE694 := n5_
   have NB677_694 := n6_
   have NB694_677 := n7_
   have NB678_694 := n8_
   have NB694_678 := n9_
   clear n0_ n1_ n2_ n3_ n4_ n5_ n6_ n7_ n8_ n9_
   clear hb hbox hg
   refine hK.out _ _ ⟨v681, v684, v688, v692, gb694, m1_, m4_, m5_, (.pointer (some ⟨gb694, 0, none⟩)), (by rw [ha.out]; exact putSel_upk 6 hb_ rfl rfl rfl), BK677.out, BK678.out, (by repeat (first | exact HB.out | apply bN | apply b1 | apply bA | refine bS ?_ GE677.out | refine bS ?_ GE678.out | refine bS ?_ GE694.out)), z_HO682, z_HO685, z_HO689, z_HO693, fun _ _ => BK694.out, fun _ => GW694.out, fun _ => GE694.out, fun _ => NB677_694.out, fun _ => NB694_677.out, fun _ => NB678_694.out, fun _ => NB694_678.out, fun h0_ => absurd ((hoff 7 (by kernel_rfl)).symm.trans h0_) (by decide), Q_X1_, Q_X4_, Q_X5_, fun _ => rfl⟩
  refine steps_cons ?_ ?_
  ·rintro b a w' ⟨v681, v684, v688, v692, gb694, m1_, m4_, m5_, m6_, ha, Q_BK677, Q_BK678, Q_HB, Q_HO682, Q_HO685, Q_HO689, Q_HO693, Q_BK694, Q_GW694, Q_GE694, Q_NB677_694, Q_NB694_677, Q_NB678_694, Q_NB694_678, Q_BK694_e7, Q_X1_, Q_X4_, Q_X5_, Q_X6_⟩ hb_ hon hoff
   refine ⟨_, rfl, fun K hK => ?_⟩
   have e5 : a.tmps[5]? = some (m6_) := by rw [ha]; exact putSel_on (e := (6, 5, m6_)) 6 rfl rfl (hon 6 (by kernel_rfl)) rfl
   rw [Q_X6_ (hon 6 (by kernel_rfl))] at e5
   have e12 : a.tmps[12]? = some (m5_) := by rw [ha]; exact putSel_on (e := (5, 12, m5_)) 5 rfl rfl (hon 5 (by kernel_rfl)) rfl
   rw [Q_X5_ (hon 5 (by kernel_rfl))] at e12
   replace ha := mk0 ha
   have BK677 := mk0 Q_BK677
   have BK678 := mk0 Q_BK678
   have HB := mk0 Q_HB
   have HO682 := mk0 (Q_HO682 (hon 1 (by kernel_rfl)))
   have HO685 := mk0 (Q_HO685 (hon 3 (by kernel_rfl)))
   have HO689 := mk0 (Q_HO689 (hon 4 (by kernel_rfl)))
   have HO693 := mk0 (Q_HO693 (hon 5 (by kernel_rfl)))
   have BK694 := mk0 (Q_BK694 (hon 6 (by kernel_rfl)) hb_)
   have GW694 := mk0 (Q_GW694 (hon 6 (by kernel_rfl)))
   have GE694 := mk0 (Q_GE694 (hon 6 (by kernel_rfl)))
   have NB677_694 := mk0 (Q_NB677_694 (hon 6 (by kernel_rfl)))
   have NB694_677 := mk0 (Q_NB694_677 (hon 6 (by kernel_rfl)))
   have NB678_694 := mk0 (Q_NB678_694 (hon 6 (by kernel_rfl)))
   have NB694_678 := mk0 (Q_NB694_678 (hon 6 (by kernel_rfl)))
   obtain ⟨Ao25, co25, eo25⟩ := Kd.R_slice HO693.out
   (first | subst eo25 | (injection eo25 with f1_ f2_ f3_; have f4_ := f1_.symm; have f5_ := f3_.symm; clear f1_ f2_ f3_; subst f4_; subst f5_))
   have hs24 : w'.cell? ⟨gb694, 0, none⟩ = some (.bool false) := (blk_cell BK694.out 0).trans rfl
   have hfs24 := blk_frozen BK694.out 0
   have hns24_0 := NB677_694.out
   have hns24_1 := NB678_694.out
   have hms24_0 := NB694_677.out
   have hms24_1 := NB694_678.out
   have hs26 : w'.cell? ⟨gb694, 1, none⟩ = some (.slice none 0 0) := (blk_cell BK694.out 1).trans rfl
   have hfs26 := blk_frozen BK694.out 1
   have hns26_0 := NB677_694.out
   have hns26_1 := NB678_694.out
   have hms26_0 := NB694_677.out
   have hms26_1 := NB694_678.out
   refine skip_ (w1 := ?_) (by rfl) rfl ?_ ?_
   rotate_left
   ·go_simp
    rfl
   refine hK.out _ _ ⟨v681, v684, v688, .slice Ao25 t691.length co25, gb694, m1_, m4_, m5_, m6_, (by rw [ha.out]; exact putSel_none (v := undef) rfl), (by refine blk_far ?_ NB677_694.out _; refine blk_far ?_ NB677_694.out _; exact BK677.out), (by refine blk_far ?_ NB678_694.out _; refine blk_far ?_ NB678_694.out _; exact BK678.out), (by repeat (first | exact HB.out | apply bN | apply b1 | apply bA | refine bS ?_ GE677.out | refine bS ?_ GE678.out | refine bS ?_ GE694.out)), fun _ => (Rm (Rf (p := ⟨gb694, 1, none⟩) (Rf (p := ⟨gb694, 0, none⟩) (Rt HO682.out BK694.out (by decide)) (fun _ hk => hk.2) (.bool t690)) (fun _ hk => hk.2) (.slice Ao25 t691.length co25)) tv), fun _ => (Rm (Rf (p := ⟨gb694, 1, none⟩) (Rf (p := ⟨gb694, 0, none⟩) (Rt HO685.out BK694.out (by decide)) (fun _ hk => hk.2) (.bool t690)) (fun _ hk => hk.2) (.slice Ao25 t691.length co25)) tv), fun _ => (Rm (Rf (p := ⟨gb694, 1, none⟩) (Rf (p := ⟨gb694, 0, none⟩) (Rt HO689.out BK694.out (by decide)) (fun _ hk => hk.2) (.bool t690)) (fun _ hk => hk.2) (.slice Ao25 t691.length co25)) tv), fun _ => (Rm (Rf (p := ⟨gb694, 1, none⟩) (Rf (p := ⟨gb694, 0, none⟩) (Rt HO693.out BK694.out (by decide)) (fun _ hk => hk.2) (.bool t690)) (fun _ hk => hk.2) (.slice Ao25 t691.length co25)) tv), fun _ h1_ => absurd ((up_self b 7).symm.trans h1_) (by decide), fun _ => GW694.out, fun _ => GE694.out, fun _ => NB677_694.out, fun _ => NB694_677.out, fun _ => NB678_694.out, fun _ => NB694_678.out, fun _ => (by refine blk_put (cs := #[.bool t690, .slice none 0 0]) ?_ 1 _ rfl; refine blk_put (cs := #[.bool false, .slice none 0 0]) ?_ 0 _ rfl; exact BK694.out), Q_X1_, Q_X4_, Q_X5_, Q_X6_⟩
  exact steps_nil
 rintro b a w26 hall ⟨v681, v684, v688, v692, gb694, m1_, m4_, m5_, m6_, ha, Q_BK677, Q_BK678, Q_HB, Q_HO682, Q_HO685, Q_HO689, Q_HO693, Q_BK694, Q_GW694, Q_GE694, Q_NB677_694, Q_NB694_677, Q_NB678_694, Q_NB694_678, Q_BK694_e7, Q_X1_, Q_X4_, Q_X5_, Q_X6_⟩
 clear BK677 BK678 HB
 have hb0_ := hall 0 (by kernel_rfl)
 have hb1_ := hall 1 (by kernel_rfl)
 have hb2_ := hall 2 (by kernel_rfl)
 have hb3_ := hall 3 (by kernel_rfl)
 have hb4_ := hall 4 (by kernel_rfl)
 have hb5_ := hall 5 (by kernel_rfl)
 have hb6_ := hall 6 (by kernel_rfl)
 have hb7_ := hall 7 (by kernel_rfl)
 subst ha
 obtain rfl := Q_X1_ hb1_
 obtain rfl := Q_X4_ hb4_
 obtain rfl := Q_X5_ hb5_
 obtain rfl := Q_X6_ hb6_
 simp only [putSel, hb0_, hb1_, hb2_, hb3_, hb4_, hb5_, hb6_, hb7_, if_true, Act.put, sA, sZ, sS]
 have BK677 := mk0 Q_BK677
 clear Q_BK677
 have BK678 := mk0 Q_BK678
 clear Q_BK678
 have HB := mk0 Q_HB
 clear Q_HB
 have HO682 := mk0 (Q_HO682 hb1_)
 clear Q_HO682
 have HO685 := mk0 (Q_HO685 hb3_)
 clear Q_HO685
 have HO689 := mk0 (Q_HO689 hb4_)
 clear Q_HO689
 have HO693 := mk0 (Q_HO693 hb5_)
 clear Q_HO693
 clear Q_BK694
 have GW694 := mk0 (Q_GW694 hb6_)
 clear Q_GW694
 have GE694 := mk0 (Q_GE694 hb6_)
 clear Q_GE694
 have NB677_694 := mk0 (Q_NB677_694 hb6_)
 clear Q_NB677_694
 have NB694_677 := mk0 (Q_NB694_677 hb6_)
 clear Q_NB694_677
 have NB678_694 := mk0 (Q_NB678_694 hb6_)
 clear Q_NB678_694
 have NB694_678 := mk0 (Q_NB694_678 hb6_)
 clear Q_NB694_678
 have BK694 := mk0 (Q_BK694_e7 hb7_)
 clear Q_BK694_e7
 clear hall hb0_ hb1_ hb2_ hb3_ hb4_ hb5_ hb6_ hb7_
 try go_wp2
 replace HO682 := mk0 (Kd.R_drew HO682.out)
 replace HO685 := mk0 (Kd.R_drew HO685.out)
 replace HO689 := mk0 (Kd.R_drew HO689.out)
 replace HO693 := mk0 (Kd.R_drew HO693.out)
 replace BK677 := mk0 (blk_drew BK677.out)
 replace BK678 := mk0 (blk_drew BK678.out)
 replace BK694 := mk0 (blk_drew BK694.out)
 replace HB := mk0 (b1 HB.out)
 refine start_ (n := 8) (S := fun w' => True) (ds := []) (bv 8 0) (by kernel_rfl) rfl rfl trivial (fun hHeld => ?_); refine with_tabW examboardref03_Cmp.tab2 examboardref03_Cmp.bits2 (fun HT_ HW_ => ?_)
 generalize w26.drew = w27 at HO682 HO685 HO689 HO693 BK677 BK678 BK694 HB hHeld ⊢
 refine inv_at [0, 1, 2, 3, 4, 5, 6, 7] (fun a0_ b a w' => ∃ (v697 : Value) (v700 : Value) (v704 : Value) (v708 : Value) (gb710 : Nat) (m1_ : Value) (m4_ : Value) (m5_ : Value) (m6_ : Value), a = putSel a0_ b [(0, 13, .agg #[.bool a1_0, .slice A1_1 l1_1.length c1_1, .slice A1_2 l1_2.length c1_2]), (1, 14, m1_), (2, 15, .agg #[.bool a0_0, .slice A0_1 l0_1.length c0_1, .slice A0_2 l0_2.length c0_2]), (3, 16, v700), (4, 17, m4_), (5, 18, m5_), (6, 6, m6_)] ∧ (Kd.R (Kd.int .u32) 87 w' w.heap.size (fun _ => True) v681 t680) ∧ (Kd.R (Kd.int .u32) 87 w' w.heap.size (fun _ => True) v684 t683) ∧ (Kd.R (Kd.int .u32) 87 w' w.heap.size (fun _ => True) v688 t687) ∧ (Kd.R (Kd.int .u32) 87 w' w.heap.size (fun _ => True) v692 t691) ∧ (w'.heap[gb677]? = some (.cells #[.bool a0_0, .slice A0_1 l0_1.length c0_1, .slice A0_2 l0_2.length c0_2] 29 (0, 0))) ∧ (w'.heap[gb678]? = some (.cells #[.bool a1_0, .slice A1_1 l1_1.length c1_1, .slice A1_2 l1_2.length c1_2] 29 (0, 0))) ∧ (w'.heap[gb694]? = some (.cells #[.bool t690, v692] 27 (0, 0))) ∧ (Below w.heap.size w w') ∧ (b 1 = true → Kd.R (Kd.int .u32) 87 w' w.heap.size (fun _ => True) v697 t696) ∧ (b 3 = true → Kd.R (Kd.int .u32) 87 w' w.heap.size (fun _ => True) v700 t699) ∧ (b 4 = true → Kd.R (Kd.int .u32) 87 w' w.heap.size (fun _ => True) v704 t703) ∧ (b 5 = true → Kd.R (Kd.int .u32) 87 w' w.heap.size (fun _ => True) v708 t707) ∧ (b 6 = true → b 7 = false → w'.heap[gb710]? = some (.cells #[.bool false, .slice none 0 0] 27 (0, 0))) ∧ (b 6 = true → w.heap.size ≤ gb710) ∧ (b 6 = true → w.heap.size ≤ gb710) ∧ (b 6 = true → gb677 ≠ gb710) ∧ (b 6 = true → gb710 ≠ gb677) ∧ (b 6 = true → gb678 ≠ gb710) ∧ (b 6 = true → gb710 ≠ gb678) ∧ (b 6 = true → gb694 ≠ gb710) ∧ (b 6 = true → gb710 ≠ gb694) ∧ (b 7 = true → w'.heap[gb710]? = some (.cells #[.bool t706, v708] 27 (0, 0))) ∧ (b 1 = true → (m1_ : Value) = .agg #[.bool t695, v697]) ∧ (b 4 = true → (m4_ : Value) = .agg #[.bool t702, v704]) ∧ (b 5 = true → (m5_ : Value) = .agg #[.bool t706, v708]) ∧ (b 6 = true → (m6_ : Value) = .pointer (some ⟨gb710, 0, none⟩))) HT_.out HW_.out (by kernel_rfl) (by kernel_rfl) ?_ ?_ ?_
 ·exact ⟨.bool false, .bool false, .bool false, .bool false, 0, .bool false, .bool false, .bool false, .bool false, by simp only [putSel, Bool.false_eq_true, if_false], HO682.out, HO685.out, HO689.out, HO693.out, BK677.out, BK678.out, BK694.out, HB.out, fun h_ => absurd h_ (by decide), fun h_ => absurd h_ (by decide), fun h_ => absurd h_ (by decide), fun h_ => absurd h_ (by decide), fun h_ => absurd h_ (by decide), fun h_ => absurd h_ (by decide), fun h_ => absurd h_ (by decide), fun h_ => absurd h_ (by decide), fun h_ => absurd h_ (by decide), fun h_ => absurd h_ (by decide), fun h_ => absurd h_ (by decide), fun h_ => absurd h_ (by decide), fun h_ => absurd h_ (by decide), fun h_ => absurd h_ (by decide), fun h_ => absurd h_ (by decide), fun h_ => absurd h_ (by decide), fun h_ => absurd h_ (by decide), fun h_ => absurd h_ (by decide)⟩
 ·skip
  clear BK677 BK678 BK694 HB HO682 HO685 HO689 HO693
  refine steps_cons ?_ ?_
  ·rintro b a w' ⟨v697, v700, v704, v708, gb710, m1_, m4_, m5_, m6_, ha, Q_HO682, Q_HO685, Q_HO689, Q_HO693, Q_BK677, Q_BK678, Q_BK694, Q_HB, Q_HO698, Q_HO701, Q_HO705, Q_HO709, Q_BK710, Q_GW710, Q_GE710, Q_NB677_710, Q_NB710_677, Q_NB678_710, Q_NB710_678, Q_NB694_710, Q_NB710_694, Q_BK710_e7, Q_X1_, Q_X4_, Q_X5_, Q_X6_⟩ hb_ hon hoff
   refine ⟨_, rfl, fun K hK => ?_⟩
   have e3 : a.tmps[3]? = some (.pointer (some ⟨gb678, 0, none⟩)) := by rw [ha]; exact (putSel_off rfl).trans rfl
   replace ha := mk0 ha
   have HO682 := mk0 Q_HO682
   have HO685 := mk0 Q_HO685
   have HO689 := mk0 Q_HO689
   have HO693 := mk0 Q_HO693
   have BK677 := mk0 Q_BK677
   have BK678 := mk0 Q_BK678
   have BK694 := mk0 Q_BK694
   have HB := mk0 Q_HB
   have hc0_ : w'.cell? ⟨gb678, 0, none⟩ = some (.bool a1_0) := (blk_cell BK678.out 0).trans rfl
   have hc1_ : w'.cell? ⟨gb678, 1, none⟩ = some (.slice A1_1 l1_1.length c1_1) := (blk_cell BK678.out 1).trans rfl
   have hc2_ : w'.cell? ⟨gb678, 2, none⟩ = some (.slice A1_2 l1_2.length c1_2) := (blk_cell BK678.out 2).trans rfl
   refine value_ (w1 := w') (v := .agg #[.bool a1_0, .slice A1_1 l1_1.length c1_1, .slice A1_2 l1_2.length c1_2]) (by rfl) rfl ?_ ?_
   ·go_simp
    (try simp only [i64_w])
    try rfl
   refine hK.out _ _ ⟨v697, v700, v704, v708, gb710, m1_, m4_, m5_, m6_, (by rw [ha.out]; exact putSel_upk 0 hb_ rfl rfl rfl), Q_HO682, Q_HO685, Q_HO689, Q_HO693, Q_BK677, Q_BK678, Q_BK694, Q_HB, fun h0_ => absurd ((hoff 1 (by kernel_rfl)).symm.trans h0_) (by decide), fun h0_ => absurd ((hoff 3 (by kernel_rfl)).symm.trans h0_) (by decide), fun h0_ => absurd ((hoff 4 (by kernel_rfl)).symm.trans h0_) (by decide), fun h0_ => absurd ((hoff 5 (by kernel_rfl)).symm.trans h0_) (by decide), Q_BK710, Q_GW710, Q_GE710, Q_NB677_710, Q_NB710_677, Q_NB678_710, Q_NB710_678, Q_NB694_710, Q_NB710_694, fun h0_ => absurd ((hoff 7 (by kernel_rfl)).symm.trans h0_) (by decide), fun h0_ => absurd ((hoff 1 (by kernel_rfl)).symm.trans h0_) (by decide), fun h0_ => absurd ((hoff 4 (by kernel_rfl)).symm.trans h0_) (by decide), fun h0_ => absurd ((hoff 5 (by kernel_rfl)).symm.trans h0_) (by decide), Q_X6_⟩
  refine steps_cons ?_ ?_
  ·rintro b a w' ⟨v697, v700, v704, v708, gb710, m1_, m4_, m5_, m6_, ha, Q_HO682, Q_HO685, Q_HO689, Q_HO693, Q_BK677, Q_BK678, Q_BK694, Q_HB, Q_HO698, Q_HO701, Q_HO705, Q_HO709, Q_BK710, Q_GW710, Q_GE710, Q_NB677_710, Q_NB710_677, Q_NB678_710, Q_NB710_678, Q_NB694_710, Q_NB710_694, Q_BK710_e7, Q_X1_, Q_X4_, Q_X5_, Q_X6_⟩ hb_ hon hoff
   refine ⟨_, rfl, fun K hK => ?_⟩
   have e13 : a.tmps[13]? = some (.agg #[.bool a1_0, .slice A1_1 l1_1.length c1_1, .slice A1_2 l1_2.length c1_2]) := by rw [ha]; exact putSel_on (e := (0, 13, .agg #[.bool a1_0, .slice A1_1 l1_1.length c1_1, .slice A1_2 l1_2.length c1_2])) 0 rfl rfl (hon 0 (by kernel_rfl)) rfl
   replace ha := mk0 ha
   have HO682 := mk0 Q_HO682
   have HO685 := mk0 Q_HO685
   have HO689 := mk0 Q_HO689
   have HO693 := mk0 Q_HO693
   have BK677 := mk0 Q_BK677
   have BK678 := mk0 Q_BK678
   have BK694 := mk0 Q_BK694
   have HB := mk0 Q_HB
   refine goes_ Try.func59 (by kernel_rfl) rfl #[.agg #[.bool a1_0, .slice A1_1 l1_1.length c1_1, .slice A1_2 l1_2.length c1_2]] (by rfl) rfl rfl (by first | (simp only [mA, mC, mN, Act.eval, Array.getD_eq_getD_getElem?, Option.getD_some, e13]; done) | (simp only [mA, mC, mN, Act.eval, Array.getD_eq_getD_getElem?, Option.getD_some, e13]; rfl)) ?_
   with_reducible refine (examboardref03_top.calls k a1_0 _ _ l1_1 _ _ l1_2 t695 t696 _ ?side1 ?side2 ?side3 ?side4 A7.out).mono ?_
   (case side1 => repeat (first | exact (Cb HR1_1.out HB.out) | (with_reducible refine Kd.C_alloc ?_ _) | (with_reducible refine Kd.C_drewN ?_ _) | (with_reducible refine Kd.C_drew ?_)))
   (case side2 => exact HC1_1.out)
   (case side3 => repeat (first | exact (Cb HR1_2.out HB.out) | (with_reducible refine Kd.C_alloc ?_ _) | (with_reducible refine Kd.C_drewN ?_ _) | (with_reducible refine Kd.C_drew ?_)))
   (case side4 => exact HC1_2.out)
   rintro e w28 ⟨v697, rfl, ho0, hb⟩
   refine ⟨_, rfl, ?_⟩
   have n0_ := mk0 (Re HO682.out (Rs ho0) hb)
   have n1_ := mk0 (Re HO685.out (Rs ho0) hb)
   have n2_ := mk0 (Re HO689.out (Rs ho0) hb)
   have n3_ := mk0 (Re HO693.out (Rs ho0) hb)
   have n4_ := mk0 (Rl (Rn (Rn (Rn (Rn ho0 (Rq HO682.out)) (Rq HO685.out)) (Rq HO689.out)) (Rq HO693.out)) (bZ (by repeat (first | exact HB.out | apply bN | apply b1 | apply bA | refine bS ?_ GE677.out | refine bS ?_ GE678.out | refine bS ?_ GE694.out))))
   have n5_ := bkB BK677 hb
   have n6_ := bkB BK678 hb
   have n7_ := bkB BK694 hb
   have n8_ := mk0 (below_step (by repeat (first | exact HB.out | apply bN | apply b1 | apply bA | refine bS ?_ GE677.out | refine bS ?_ GE678.out | refine bS ?_ GE694.out)) hb)
   have z_BK710 := fun (h0_ : b 6 = true) (h1_ : b 7 = false) => (show w28.heap[gb710]? = some (.cells #[.bool false, .slice none 0 0] 27 (0, 0)) from by first | exact (blk_below (g := gb710) (o := .cells #[.bool false, .slice none 0 0] 27 (0, 0)) ((Q_BK710 h0_ h1_)) hb))
   clear HO682
   clear HO685
   clear HO689
   clear HO693
   clear BK677
   clear BK678
   clear BK694
   clear HB
   have HO682 := n0_
   have HO685 := n1_
   have HO689 := n2_
   have HO693 := n3_
   have HO698 := n4_
   have BK677 := n5_
   have BK678 := n6_
   have BK694 := n7_
   have HB := n8_
   clear n0_ n1_ n2_ n3_ n4_ n5_ n6_ n7_ n8_
   refine hK.out _ _ ⟨v697, v700, v704, v708, gb710, (.agg #[.bool t695, v697]), m4_, m5_, m6_, (by rw [ha.out]; exact putSel_upk 1 hb_ rfl rfl rfl), (Rm HO682.out tv), (Rm HO685.out tv), (Rm HO689.out tv), (Rm HO693.out tv), BK677.out, BK678.out, BK694.out, (by repeat (first | exact HB.out | apply bN | apply b1 | apply bA | refine bS ?_ GE677.out | refine bS ?_ GE678.out | refine bS ?_ GE694.out)), fun _ => (Rm HO698.out tv), fun h0_ => absurd ((hoff 3 (by kernel_rfl)).symm.trans h0_) (by decide), fun h0_ => absurd ((hoff 4 (by kernel_rfl)).symm.trans h0_) (by decide), fun h0_ => absurd ((hoff 5 (by kernel_rfl)).symm.trans h0_) (by decide), z_BK710, Q_GW710, Q_GE710, Q_NB677_710, Q_NB710_677, Q_NB678_710, Q_NB710_678, Q_NB694_710, Q_NB710_694, fun h0_ => absurd ((hoff 7 (by kernel_rfl)).symm.trans h0_) (by decide), fun _ => rfl, fun h0_ => absurd ((hoff 4 (by kernel_rfl)).symm.trans h0_) (by decide), fun h0_ => absurd ((hoff 5 (by kernel_rfl)).symm.trans h0_) (by decide), Q_X6_⟩
  refine steps_cons ?_ ?_
  ·rintro b a w' ⟨v697, v700, v704, v708, gb710, m1_, m4_, m5_, m6_, ha, Q_HO682, Q_HO685, Q_HO689, Q_HO693, Q_BK677, Q_BK678, Q_BK694, Q_HB, Q_HO698, Q_HO701, Q_HO705, Q_HO709, Q_BK710, Q_GW710, Q_GE710, Q_NB677_710, Q_NB710_677, Q_NB678_710, Q_NB710_678, Q_NB694_710, Q_NB710_694, Q_BK710_e7, Q_X1_, Q_X4_, Q_X5_, Q_X6_⟩ hb_ hon hoff
   refine ⟨_, rfl, fun K hK => ?_⟩
   have e2 : a.tmps[2]? = some (.pointer (some ⟨gb677, 0, none⟩)) := by rw [ha]; exact (putSel_off rfl).trans rfl
   replace ha := mk0 ha
   have HO682 := mk0 Q_HO682
   have HO685 := mk0 Q_HO685
   have HO689 := mk0 Q_HO689
   have HO693 := mk0 Q_HO693
   have BK677 := mk0 Q_BK677
   have BK678 := mk0 Q_BK678
   have BK694 := mk0 Q_BK694
   have HB := mk0 Q_HB
   have hc0_ : w'.cell? ⟨gb677, 0, none⟩ = some (.bool a0_0) := (blk_cell BK677.out 0).trans rfl
   have hc1_ : w'.cell? ⟨gb677, 1, none⟩ = some (.slice A0_1 l0_1.length c0_1) := (blk_cell BK677.out 1).trans rfl
   have hc2_ : w'.cell? ⟨gb677, 2, none⟩ = some (.slice A0_2 l0_2.length c0_2) := (blk_cell BK677.out 2).trans rfl
   refine value_ (w1 := w') (v := .agg #[.bool a0_0, .slice A0_1 l0_1.length c0_1, .slice A0_2 l0_2.length c0_2]) (by rfl) rfl ?_ ?_
   ·go_simp
    (try simp only [i64_w])
    try rfl
   refine hK.out _ _ ⟨v697, v700, v704, v708, gb710, m1_, m4_, m5_, m6_, (by rw [ha.out]; exact putSel_upk 2 hb_ rfl rfl rfl), Q_HO682, Q_HO685, Q_HO689, Q_HO693, Q_BK677, Q_BK678, Q_BK694, Q_HB, Q_HO698, fun h0_ => absurd ((hoff 3 (by kernel_rfl)).symm.trans h0_) (by decide), fun h0_ => absurd ((hoff 4 (by kernel_rfl)).symm.trans h0_) (by decide), fun h0_ => absurd ((hoff 5 (by kernel_rfl)).symm.trans h0_) (by decide), Q_BK710, Q_GW710, Q_GE710, Q_NB677_710, Q_NB710_677, Q_NB678_710, Q_NB710_678, Q_NB694_710, Q_NB710_694, fun h0_ => absurd ((hoff 7 (by kernel_rfl)).symm.trans h0_) (by decide), Q_X1_, fun h0_ => absurd ((hoff 4 (by kernel_rfl)).symm.trans h0_) (by decide), fun h0_ => absurd ((hoff 5 (by kernel_rfl)).symm.trans h0_) (by decide), Q_X6_⟩
  refine steps_cons ?_ ?_
  ·rintro b a w' ⟨v697, v700, v704, v708, gb710, m1_, m4_, m5_, m6_, ha, Q_HO682, Q_HO685, Q_HO689, Q_HO693, Q_BK677, Q_BK678, Q_BK694, Q_HB, Q_HO698, Q_HO701, Q_HO705, Q_HO709, Q_BK710, Q_GW710, Q_GE710, Q_NB677_710, Q_NB710_677, Q_NB678_710, Q_NB710_678, Q_NB694_710, Q_NB710_694, Q_BK710_e7, Q_X1_, Q_X4_, Q_X5_, Q_X6_⟩ hb_ hon hoff
   refine ⟨_, rfl, fun K hK => ?_⟩
   have e15 : a.tmps[15]? = some (.agg #[.bool a0_0, .slice A0_1 l0_1.length c0_1, .slice A0_2 l0_2.length c0_2]) := by rw [ha]; exact putSel_on (e := (2, 15, .agg #[.bool a0_0, .slice A0_1 l0_1.length c0_1, .slice A0_2 l0_2.length c0_2])) 2 rfl rfl (hon 2 (by kernel_rfl)) rfl
   replace ha := mk0 ha
   have HO682 := mk0 Q_HO682
   have HO685 := mk0 Q_HO685
   have HO689 := mk0 Q_HO689
   have HO693 := mk0 Q_HO693
   have BK677 := mk0 Q_BK677
   have BK678 := mk0 Q_BK678
   have BK694 := mk0 Q_BK694
   have HB := mk0 Q_HB
   have HO698 := mk0 (Q_HO698 (hon 1 (by kernel_rfl)))
   refine goes_ Try.func61 (by kernel_rfl) rfl #[.agg #[.bool a0_0, .slice A0_1 l0_1.length c0_1, .slice A0_2 l0_2.length c0_2]] (by rfl) rfl rfl (by first | (simp only [mA, mC, mN, Act.eval, Array.getD_eq_getD_getElem?, Option.getD_some, e15]; done) | (simp only [mA, mC, mN, Act.eval, Array.getD_eq_getD_getElem?, Option.getD_some, e15]; rfl)) ?_
   with_reducible refine (examboardref03_low.calls k a0_0 _ _ l0_1 _ _ l0_2 t699 _ ?side1 ?side2 ?side3 ?side4 A8.out).mono ?_
   (case side1 => repeat (first | exact (Cb HR0_1.out HB.out) | (with_reducible refine Kd.C_alloc ?_ _) | (with_reducible refine Kd.C_drewN ?_ _) | (with_reducible refine Kd.C_drew ?_)))
   (case side2 => exact HC0_1.out)
   (case side3 => repeat (first | exact (Cb HR0_2.out HB.out) | (with_reducible refine Kd.C_alloc ?_ _) | (with_reducible refine Kd.C_drewN ?_ _) | (with_reducible refine Kd.C_drew ?_)))
   (case side4 => exact HC0_2.out)
   rintro e w30 ⟨v700, rfl, ho0, hb⟩
   refine ⟨_, rfl, ?_⟩
   have n0_ := mk0 (Re HO682.out (Rs ho0) hb)
   have n1_ := mk0 (Re HO685.out (Rs ho0) hb)
   have n2_ := mk0 (Re HO689.out (Rs ho0) hb)
   have n3_ := mk0 (Re HO693.out (Rs ho0) hb)
   have n4_ := mk0 (Re HO698.out (Rs ho0) hb)
   have n5_ := mk0 (Rl (Rn (Rn (Rn (Rn (Rn ho0 (Rq HO682.out)) (Rq HO685.out)) (Rq HO689.out)) (Rq HO693.out)) (Rq HO698.out)) (bZ (by repeat (first | exact HB.out | apply bN | apply b1 | apply bA | refine bS ?_ GE677.out | refine bS ?_ GE678.out | refine bS ?_ GE694.out))))
   have n6_ := bkB BK677 hb
   have n7_ := bkB BK678 hb
   have n8_ := bkB BK694 hb
   have n9_ := mk0 (below_step (by repeat (first | exact HB.out | apply bN | apply b1 | apply bA | refine bS ?_ GE677.out | refine bS ?_ GE678.out | refine bS ?_ GE694.out)) hb)
   have z_BK710 := fun (h0_ : b 6 = true) (h1_ : b 7 = false) => (show w30.heap[gb710]? = some (.cells #[.bool false, .slice none 0 0] 27 (0, 0)) from by first | exact (blk_below (g := gb710) (o := .cells #[.bool false, .slice none 0 0] 27 (0, 0)) ((Q_BK710 h0_ h1_)) hb))
   clear HO682
   clear HO685
   clear HO689
   clear HO693
   clear HO698
   clear BK677
   clear BK678
   clear BK694
   clear HB
   have HO682 := n0_
   have HO685 := n1_
   have HO689 := n2_
   have HO693 := n3_
   have HO698 := n4_
   have HO701 := n5_
   have BK677 := n6_
   have BK678 := n7_
   have BK694 := n8_
   have HB := n9_
   clear n0_ n1_ n2_ n3_ n4_ n5_ n6_ n7_ n8_ n9_
   refine hK.out _ _ ⟨v697, v700, v704, v708, gb710, m1_, m4_, m5_, m6_, (by rw [ha.out]; exact putSel_upk 3 hb_ rfl rfl rfl), (Rm HO682.out tv), (Rm HO685.out tv), (Rm HO689.out tv), (Rm HO693.out tv), BK677.out, BK678.out, BK694.out, (by repeat (first | exact HB.out | apply bN | apply b1 | apply bA | refine bS ?_ GE677.out | refine bS ?_ GE678.out | refine bS ?_ GE694.out)), fun _ => (Rm HO698.out tv), fun _ => (Rm HO701.out tv), fun h0_ => absurd ((hoff 4 (by kernel_rfl)).symm.trans h0_) (by decide), fun h0_ => absurd ((hoff 5 (by kernel_rfl)).symm.trans h0_) (by decide), z_BK710, Q_GW710, Q_GE710, Q_NB677_710, Q_NB710_677, Q_NB678_710, Q_NB710_678, Q_NB694_710, Q_NB710_694, fun h0_ => absurd ((hoff 7 (by kernel_rfl)).symm.trans h0_) (by decide), Q_X1_, fun h0_ => absurd ((hoff 4 (by kernel_rfl)).symm.trans h0_) (by decide), fun h0_ => absurd ((hoff 5 (by kernel_rfl)).symm.trans h0_) (by decide), Q_X6_⟩
  refine steps_cons ?_ ?_
  ·rintro b a w' ⟨v697, v700, v704, v708, gb710, m1_, m4_, m5_, m6_, ha, Q_HO682, Q_HO685, Q_HO689, Q_HO693, Q_BK677, Q_BK678, Q_BK694, Q_HB, Q_HO698, Q_HO701, Q_HO705, Q_HO709, Q_BK710, Q_GW710, Q_GE710, Q_NB677_710, Q_NB710_677, Q_NB678_710, Q_NB710_678, Q_NB694_710, Q_NB710_694, Q_BK710_e7, Q_X1_, Q_X4_, Q_X5_, Q_X6_⟩ hb_ hon hoff
   refine ⟨_, rfl, fun K hK => ?_⟩
   have e16 : a.tmps[16]? = some (v700) := by rw [ha]; exact putSel_on (e := (3, 16, v700)) 3 rfl rfl (hon 3 (by kernel_rfl)) rfl
   replace ha := mk0 ha
   have HO682 := mk0 Q_HO682
   have HO685 := mk0 Q_HO685
   have HO689 := mk0 Q_HO689
   have HO693 := mk0 Q_HO693
   have BK677 := mk0 Q_BK677
   have BK678 := mk0 Q_BK678
   have BK694 := mk0 Q_BK694
   have HB := mk0 Q_HB
   have HO698 := mk0 (Q_HO698 (hon 1 (by kernel_rfl)))
   have HO701 := mk0 (Q_HO701 (hon 3 (by kernel_rfl)))
   obtain ⟨Ao31, co31, eo31⟩ := Kd.R_slice HO701.out
   (first | subst eo31 | (injection eo31 with f1_ f2_ f3_; have f4_ := f1_.symm; have f5_ := f3_.symm; clear f1_ f2_ f3_; subst f4_; subst f5_))
   refine goes_ Try.func62 (by kernel_rfl) rfl #[.bool false, .slice Ao31 t699.length co31] (by rfl) rfl rfl (by first | (simp only [mA, mC, mN, Act.eval, Array.getD_eq_getD_getElem?, Option.getD_some, e16]; done) | (simp only [mA, mC, mN, Act.eval, Array.getD_eq_getD_getElem?, Option.getD_some, e16]; rfl)) ?_
   with_reducible refine (examboardref02_Make.calls k false _ _ t699 t702 t703 _ ?side1 ?side2 A9.out).mono ?_
   (case side1 => repeat (first | exact (Kd.R_reads' HO701.out).2.2 | (with_reducible refine Kd.C_alloc ?_ _) | (with_reducible refine Kd.C_drewN ?_ _) | (with_reducible refine Kd.C_drew ?_)))
   (case side2 => exact (Kd.R_reads' HO701.out).2.1)
   rintro e w32 ⟨v704, rfl, ho0, hb⟩
   refine ⟨_, rfl, ?_⟩
   have n0_ := mk0 (Re HO682.out (Rs ho0) hb)
   have n1_ := mk0 (Re HO685.out (Rs ho0) hb)
   have n2_ := mk0 (Re HO689.out (Rs ho0) hb)
   have n3_ := mk0 (Re HO693.out (Rs ho0) hb)
   have n4_ := mk0 (Re HO698.out (Rs ho0) hb)
   have n5_ := mk0 (Re HO701.out (Rs ho0) hb)
   have n6_ := mk0 (Rl (Rn (Rn (Rn (Rn (Rn (Rn ho0 (Rq HO682.out)) (Rq HO685.out)) (Rq HO689.out)) (Rq HO693.out)) (Rq HO698.out)) (Rq HO701.out)) (bZ (by repeat (first | exact HB.out | apply bN | apply b1 | apply bA | refine bS ?_ GE677.out | refine bS ?_ GE678.out | refine bS ?_ GE694.out))))
   have n7_ := bkB BK677 hb
   have n8_ := bkB BK678 hb
   have n9_ := bkB BK694 hb
   have n10_ := mk0 (below_step (by repeat (first | exact HB.out | apply bN | apply b1 | apply bA | refine bS ?_ GE677.out | refine bS ?_ GE678.out | refine bS ?_ GE694.out)) hb)
   have z_BK710 := fun (h0_ : b 6 = true) (h1_ : b 7 = false) => (show w32.heap[gb710]? = some (.cells #[.bool false, .slice none 0 0] 27 (0, 0)) from by first | exact (blk_below (g := gb710) (o := .cells #[.bool false, .slice none 0 0] 27 (0, 0)) ((Q_BK710 h0_ h1_)) hb))
   clear HO682
   clear HO685
   clear HO689
   clear HO693
   clear HO698
   clear HO701
   clear BK677
   clear BK678
   clear BK694
   clear HB
   have HO682 := n0_
   have HO685 := n1_
   have HO689 := n2_
   have HO693 := n3_
   have HO698 := n4_
   have HO701 := n5_
   have HO705 := n6_
   have BK677 := n7_
   have BK678 := n8_
   have BK694 := n9_
   have HB := n10_
   clear n0_ n1_ n2_ n3_ n4_ n5_ n6_ n7_ n8_ n9_ n10_
   refine hK.out _ _ ⟨v697, .slice Ao31 t699.length co31, v704, v708, gb710, m1_, (.agg #[.bool t702, v704]), m5_, m6_, (by rw [ha.out]; exact putSel_upk 4 hb_ rfl rfl rfl), (Rm HO682.out tv), (Rm HO685.out tv), (Rm HO689.out tv), (Rm HO693.out tv), BK677.out, BK678.out, BK694.out, (by repeat (first | exact HB.out | apply bN | apply b1 | apply bA | refine bS ?_ GE677.out | refine bS ?_ GE678.out | refine bS ?_ GE694.out)), fun _ => (Rm HO698.out tv), fun _ => (Rm HO701.out tv), fun _ => (Rm HO705.out tv), fun h0_ => absurd ((hoff 5 (by kernel_rfl)).symm.trans h0_) (by decide), z_BK710, Q_GW710, Q_GE710, Q_NB677_710, Q_NB710_677, Q_NB678_710, Q_NB710_678, Q_NB694_710, Q_NB710_694, fun h0_ => absurd ((hoff 7 (by kernel_rfl)).symm.trans h0_) (by decide), Q_X1_, fun _ => rfl, fun h0_ => absurd ((hoff 5 (by kernel_rfl)).symm.trans h0_) (by decide), Q_X6_⟩
  refine steps_cons ?_ ?_
  ·rintro b a w' ⟨v697, v700, v704, v708, gb710, m1_, m4_, m5_, m6_, ha, Q_HO682, Q_HO685, Q_HO689, Q_HO693, Q_BK677, Q_BK678, Q_BK694, Q_HB, Q_HO698, Q_HO701, Q_HO705, Q_HO709, Q_BK710, Q_GW710, Q_GE710, Q_NB677_710, Q_NB710_677, Q_NB678_710, Q_NB710_678, Q_NB694_710, Q_NB710_694, Q_BK710_e7, Q_X1_, Q_X4_, Q_X5_, Q_X6_⟩ hb_ hon hoff
   refine ⟨_, rfl, fun K hK => ?_⟩
   have e14 : a.tmps[14]? = some (m1_) := by rw [ha]; exact putSel_on (e := (1, 14, m1_)) 1 rfl rfl (hon 1 (by kernel_rfl)) rfl
   rw [Q_X1_ (hon 1 (by kernel_rfl))] at e14
   have e17 : a.tmps[17]? = some (m4_) := by rw [ha]; exact putSel_on (e := (4, 17, m4_)) 4 rfl rfl (hon 4 (by kernel_rfl)) rfl
   rw [Q_X4_ (hon 4 (by kernel_rfl))] at e17
   replace ha := mk0 ha
   have HO682 := mk0 Q_HO682
   have HO685 := mk0 Q_HO685
   have HO689 := mk0 Q_HO689
   have HO693 := mk0 Q_HO693
   have BK677 := mk0 Q_BK677
   have BK678 := mk0 Q_BK678
   have BK694 := mk0 Q_BK694
   have HB := mk0 Q_HB
   have HO698 := mk0 (Q_HO698 (hon 1 (by kernel_rfl)))
   have HO701 := mk0 (Q_HO701 (hon 3 (by kernel_rfl)))
   have HO705 := mk0 (Q_HO705 (hon 4 (by kernel_rfl)))
   obtain ⟨Ao33, co33, eo33⟩ := Kd.R_slice HO698.out
   (first | subst eo33 | (injection eo33 with f1_ f2_ f3_; have f4_ := f1_.symm; have f5_ := f3_.symm; clear f1_ f2_ f3_; subst f4_; subst f5_))
   obtain ⟨Ao34, co34, eo34⟩ := Kd.R_slice HO705.out
   (first | subst eo34 | (injection eo34 with f1_ f2_ f3_; have f4_ := f1_.symm; have f5_ := f3_.symm; clear f1_ f2_ f3_; subst f4_; subst f5_))
   refine goes_ Try.func58 (by kernel_rfl) rfl #[.agg #[.bool t695, .slice Ao33 t696.length co33], .agg #[.bool t702, .slice Ao34 t703.length co34]] (by rfl) rfl rfl (by first | (simp only [mA, mC, mN, Act.eval, Array.getD_eq_getD_getElem?, Option.getD_some, e14, e17]; done) | (simp only [mA, mC, mN, Act.eval, Array.getD_eq_getD_getElem?, Option.getD_some, e14, e17]; rfl)) ?_
   with_reducible refine (examboardref02_Mul.calls k t695 _ _ t696 t702 _ _ t703 t706 t707 _ ?side1 ?side2 ?side3 ?side4 A10.out).mono ?_
   (case side1 => repeat (first | exact (Kd.R_reads' HO698.out).2.2 | (with_reducible refine Kd.C_alloc ?_ _) | (with_reducible refine Kd.C_drewN ?_ _) | (with_reducible refine Kd.C_drew ?_)))
   (case side2 => exact (Kd.R_reads' HO698.out).2.1)
   (case side3 => repeat (first | exact (Kd.R_reads' HO705.out).2.2 | (with_reducible refine Kd.C_alloc ?_ _) | (with_reducible refine Kd.C_drewN ?_ _) | (with_reducible refine Kd.C_drew ?_)))
   (case side4 => exact (Kd.R_reads' HO705.out).2.1)
   rintro e w35 ⟨v708, rfl, ho0, hb⟩
   refine ⟨_, rfl, ?_⟩
   have n0_ := mk0 (Re HO682.out (Rs ho0) hb)
   have n1_ := mk0 (Re HO685.out (Rs ho0) hb)
   have n2_ := mk0 (Re HO689.out (Rs ho0) hb)
   have n3_ := mk0 (Re HO693.out (Rs ho0) hb)
   have n4_ := mk0 (Re HO698.out (Rs ho0) hb)
   have n5_ := mk0 (Re HO701.out (Rs ho0) hb)
   have n6_ := mk0 (Re HO705.out (Rs ho0) hb)
   have n7_ := mk0 (Rl (Rn (Rn (Rn (Rn (Rn (Rn (Rn ho0 (Rq HO682.out)) (Rq HO685.out)) (Rq HO689.out)) (Rq HO693.out)) (Rq HO698.out)) (Rq HO701.out)) (Rq HO705.out)) (bZ (by repeat (first | exact HB.out | apply bN | apply b1 | apply bA | refine bS ?_ GE677.out | refine bS ?_ GE678.out | refine bS ?_ GE694.out))))
   have n8_ := bkB BK677 hb
   have n9_ := bkB BK678 hb
   have n10_ := bkB BK694 hb
   have n11_ := mk0 (below_step (by repeat (first | exact HB.out | apply bN | apply b1 | apply bA | refine bS ?_ GE677.out | refine bS ?_ GE678.out | refine bS ?_ GE694.out)) hb)
   have z_BK710 := fun (h0_ : b 6 = true) (h1_ : b 7 = false) => (show w35.heap[gb710]? = some (.cells #[.bool false, .slice none 0 0] 27 (0, 0)) from by first | exact (blk_below (g := gb710) (o := .cells #[.bool false, .slice none 0 0] 27 (0, 0)) ((Q_BK710 h0_ h1_)) hb))
   clear HO682
   clear HO685
   clear HO689
   clear HO693
   clear HO698
   clear HO701
   clear HO705
   clear BK677
   clear BK678
   clear BK694
   clear HB
   have HO682 := n0_
   have HO685 := n1_
   have HO689 := n2_
   have HO693 := n3_
   have HO698 := n4_
   have HO701 := n5_
   have HO705 := n6_
   have HO709 := n7_
   have BK677 := n8_
   have BK678 := n9_
   have BK694 := n10_
   have HB := n11_
   clear n0_ n1_ n2_ n3_ n4_ n5_ n6_ n7_ n8_ n9_ n10_ n11_
   refine hK.out _ _ ⟨.slice Ao33 t696.length co33, v700, .slice Ao34 t703.length co34, v708, gb710, m1_, m4_, (.agg #[.bool t706, v708]), m6_, (by rw [ha.out]; exact putSel_upk 5 hb_ rfl rfl rfl), (Rm HO682.out tv), (Rm HO685.out tv), (Rm HO689.out tv), (Rm HO693.out tv), BK677.out, BK678.out, BK694.out, (by repeat (first | exact HB.out | apply bN | apply b1 | apply bA | refine bS ?_ GE677.out | refine bS ?_ GE678.out | refine bS ?_ GE694.out)), fun _ => (Rm HO698.out tv), fun _ => (Rm HO701.out tv), fun _ => (Rm HO705.out tv), fun _ => (Rm HO709.out tv), z_BK710, Q_GW710, Q_GE710, Q_NB677_710, Q_NB710_677, Q_NB678_710, Q_NB710_678, Q_NB694_710, Q_NB710_694, fun h0_ => absurd ((hoff 7 (by kernel_rfl)).symm.trans h0_) (by decide), Q_X1_, Q_X4_, fun _ => rfl, Q_X6_⟩
  refine steps_cons ?_ ?_
  ·rintro b a w' ⟨v697, v700, v704, v708, gb710, m1_, m4_, m5_, m6_, ha, Q_HO682, Q_HO685, Q_HO689, Q_HO693, Q_BK677, Q_BK678, Q_BK694, Q_HB, Q_HO698, Q_HO701, Q_HO705, Q_HO709, Q_BK710, Q_GW710, Q_GE710, Q_NB677_710, Q_NB710_677, Q_NB678_710, Q_NB710_678, Q_NB694_710, Q_NB710_694, Q_BK710_e7, Q_X1_, Q_X4_, Q_X5_, Q_X6_⟩ hb_ hon hoff
   refine ⟨_, rfl, fun K hK => ?_⟩
   replace ha := mk0 ha
   have HO682 := mk0 Q_HO682
   have HO685 := mk0 Q_HO685
   have HO689 := mk0 Q_HO689
   have HO693 := mk0 Q_HO693
   have BK677 := mk0 Q_BK677
   have BK678 := mk0 Q_BK678
   have BK694 := mk0 Q_BK694
   have HB := mk0 Q_HB
   refine box_step ?hg (N := 6) ?hd (cs := #[.bool false, .slice none 0 0]) (t := 27) ?hr ?_; (case hd => rfl); (case hg => rfl); (case hr => go_simp <;> rfl)
   intro gb710 hg w28 hbox hb
   have n0_ := rB HO682 hb
   have n1_ := rB HO685 hb
   have n2_ := rB HO689 hb
   have n3_ := rB HO693 hb
   have n4_ := bkB BK677 hb
   have n5_ := bkB BK678 hb
   have n6_ := bkB BK694 hb
   have n7_ := mk0 (below_step (by repeat (first | exact HB.out | apply bN | apply b1 | apply bA | refine bS ?_ GE677.out | refine bS ?_ GE678.out | refine bS ?_ GE694.out)) hb)
   have n8_ := mk0 (hbox)
   have n9_ := mk0 ((by rw [hg]; exact (bZ (by repeat (first | exact HB.out | apply bN | apply b1 | apply bA | refine bS ?_ GE677.out | refine bS ?_ GE678.out | refine bS ?_ GE694.out))) : w.heap.size ≤ gb710))
   have n10_ := mk0 ((by rw [hg]; exact (bZ (by repeat (first | exact HB.out | apply bN | apply b1 | apply bA | refine bS ?_ GE677.out | refine bS ?_ GE678.out | refine bS ?_ GE694.out))) : w.heap.size ≤ gb710))
   have n11_ := nbA hg BK677
   have n12_ := nbB hg BK677
   have n13_ := nbA hg BK678
   have n14_ := nbB hg BK678
   have n15_ := nbA hg BK694
   have n16_ := nbB hg BK694
   have z_HO698 := fun (h0_ : b 1 = true) => (show Kd.R (Kd.int .u32) 87 w28 w.heap.size (fun _ => True) v697 t696 from by first | exact (Rb ((Q_HO698 h0_)) hb) | exact Rm (Rb ((Q_HO698 h0_)) hb) tv)
   have z_HO701 := fun (h0_ : b 3 = true) => (show Kd.R (Kd.int .u32) 87 w28 w.heap.size (fun _ => True) v700 t699 from by first | exact (Rb ((Q_HO701 h0_)) hb) | exact Rm (Rb ((Q_HO701 h0_)) hb) tv)
   have z_HO705 := fun (h0_ : b 4 = true) => (show Kd.R (Kd.int .u32) 87 w28 w.heap.size (fun _ => True) v704 t703 from by first | exact (Rb ((Q_HO705 h0_)) hb) | exact Rm (Rb ((Q_HO705 h0_)) hb) tv)
   have z_HO709 := fun (h0_ : b 5 = true) => (show Kd.R (Kd.int .u32) 87 w28 w.heap.size (fun _ => True) v708 t707 from by first | exact (Rb ((Q_HO709 h0_)) hb) | exact Rm (Rb ((Q_HO709 h0_)) hb) tv)
   clear HO682
   clear HO685
   clear HO689
   clear HO693
   clear BK677
   clear BK678
   clear BK694
   clear HB
   have HO682 := n0_
   have HO685 := n1_
   have HO689 := n2_
   have HO693 := n3_
   have BK677 := n4_
   have BK678 := n5_
   have BK694 := n6_
   have HB := n7_
   have BK710 := n8_
   have GW710 := n9_
   have GE710 := n10_
   have NB677_710 := n11_
   have NB710_677 := n12_
   have NB678_710 := n13_
   have NB710_678 := n14_
   have NB694_710 := n15_
   have NB710_694 := n16_
   clear n0_ n1_ n2_ n3_ n4_ n5_ n6_ n7_ n8_ n9_ n10_ n11_ n12_ n13_ n14_ n15_ n16_
   clear hb hbox hg
   refine hK.out _ _ ⟨v697, v700, v704, v708, gb710, m1_, m4_, m5_, (.pointer (some ⟨gb710, 0, none⟩)), (by rw [ha.out]; exact putSel_upk 6 hb_ rfl rfl rfl), HO682.out, HO685.out, HO689.out, HO693.out, BK677.out, BK678.out, BK694.out, (by repeat (first | exact HB.out | apply bN | apply b1 | apply bA | refine bS ?_ GE677.out | refine bS ?_ GE678.out | refine bS ?_ GE694.out | refine bS ?_ GE710.out)), z_HO698, z_HO701, z_HO705, z_HO709, fun _ _ => BK710.out, fun _ => GW710.out, fun _ => GE710.out, fun _ => NB677_710.out, fun _ => NB710_677.out, fun _ => NB678_710.out, fun _ => NB710_678.out, fun _ => NB694_710.out, fun _ => NB710_694.out, fun h0_ => absurd ((hoff 7 (by kernel_rfl)).symm.trans h0_) (by decide), Q_X1_, Q_X4_, Q_X5_, fun _ => rfl⟩
  refine steps_cons ?_ ?_
  ·rintro b a w' ⟨v697, v700, v704, v708, gb710, m1_, m4_, m5_, m6_, ha, Q_HO682, Q_HO685, Q_HO689, Q_HO693, Q_BK677, Q_BK678, Q_BK694, Q_HB, Q_HO698, Q_HO701, Q_HO705, Q_HO709, Q_BK710, Q_GW710, Q_GE710, Q_NB677_710, Q_NB710_677, Q_NB678_710, Q_NB710_678, Q_NB694_710, Q_NB710_694, Q_BK710_e7, Q_X1_, Q_X4_, Q_X5_, Q_X6_⟩ hb_ hon hoff
   refine ⟨_, rfl, fun K hK => ?_⟩
   have e6 : a.tmps[6]? = some (m6_) := by rw [ha]; exact putSel_on (e := (6, 6, m6_)) 6 rfl rfl (hon 6 (by kernel_rfl)) rfl
   rw [Q_X6_ (hon 6 (by kernel_rfl))] at e6
   have e18 : a.tmps[18]? = some (m5_) := by rw [ha]; exact putSel_on (e := (5, 18, m5_)) 5 rfl rfl (hon 5 (by kernel_rfl)) rfl
   rw [Q_X5_ (hon 5 (by kernel_rfl))] at e18
   replace ha := mk0 ha
   have HO682 := mk0 Q_HO682
   have HO685 := mk0 Q_HO685
   have HO689 := mk0 Q_HO689
   have HO693 := mk0 Q_HO693
   have BK677 := mk0 Q_BK677
   have BK678 := mk0 Q_BK678
   have BK694 := mk0 Q_BK694
   have HB := mk0 Q_HB
   have HO698 := mk0 (Q_HO698 (hon 1 (by kernel_rfl)))
   have HO701 := mk0 (Q_HO701 (hon 3 (by kernel_rfl)))
   have HO705 := mk0 (Q_HO705 (hon 4 (by kernel_rfl)))
   have HO709 := mk0 (Q_HO709 (hon 5 (by kernel_rfl)))
   have BK710 := mk0 (Q_BK710 (hon 6 (by kernel_rfl)) hb_)
   have GW710 := mk0 (Q_GW710 (hon 6 (by kernel_rfl)))
   have GE710 := mk0 (Q_GE710 (hon 6 (by kernel_rfl)))
   have NB677_710 := mk0 (Q_NB677_710 (hon 6 (by kernel_rfl)))
   have NB710_677 := mk0 (Q_NB710_677 (hon 6 (by kernel_rfl)))
   have NB678_710 := mk0 (Q_NB678_710 (hon 6 (by kernel_rfl)))
   have NB710_678 := mk0 (Q_NB710_678 (hon 6 (by kernel_rfl)))
   have NB694_710 := mk0 (Q_NB694_710 (hon 6 (by kernel_rfl)))
   have NB710_694 := mk0 (Q_NB710_694 (hon 6 (by kernel_rfl)))
   obtain ⟨Ao38, co38, eo38⟩ := Kd.R_slice HO709.out
   (first | subst eo38 | (injection eo38 with f1_ f2_ f3_; have f4_ := f1_.symm; have f5_ := f3_.symm; clear f1_ f2_ f3_; subst f4_; subst f5_))
   have hs37 : w'.cell? ⟨gb710, 0, none⟩ = some (.bool false) := (blk_cell BK710.out 0).trans rfl
   have hfs37 := blk_frozen BK710.out 0
   have hns37_0 := NB677_710.out
   have hns37_1 := NB678_710.out
   have hns37_2 := NB694_710.out
   have hms37_0 := NB710_677.out
   have hms37_1 := NB710_678.out
   have hms37_2 := NB710_694.out
   have hs39 : w'.cell? ⟨gb710, 1, none⟩ = some (.slice none 0 0) := (blk_cell BK710.out 1).trans rfl
   have hfs39 := blk_frozen BK710.out 1
   have hns39_0 := NB677_710.out
   have hns39_1 := NB678_710.out
   have hns39_2 := NB694_710.out
   have hms39_0 := NB710_677.out
   have hms39_1 := NB710_678.out
   have hms39_2 := NB710_694.out
   refine skip_ (w1 := ?_) (by rfl) rfl ?_ ?_
   rotate_left
   ·go_simp
    rfl
   refine hK.out _ _ ⟨v697, v700, v704, .slice Ao38 t707.length co38, gb710, m1_, m4_, m5_, m6_, (by rw [ha.out]; exact putSel_none (v := undef) rfl), (Rm (Rf (p := ⟨gb710, 1, none⟩) (Rf (p := ⟨gb710, 0, none⟩) (Rt HO682.out BK710.out (by decide)) (fun _ hk => hk.2) (.bool t706)) (fun _ hk => hk.2) (.slice Ao38 t707.length co38)) tv), (Rm (Rf (p := ⟨gb710, 1, none⟩) (Rf (p := ⟨gb710, 0, none⟩) (Rt HO685.out BK710.out (by decide)) (fun _ hk => hk.2) (.bool t706)) (fun _ hk => hk.2) (.slice Ao38 t707.length co38)) tv), (Rm (Rf (p := ⟨gb710, 1, none⟩) (Rf (p := ⟨gb710, 0, none⟩) (Rt HO689.out BK710.out (by decide)) (fun _ hk => hk.2) (.bool t706)) (fun _ hk => hk.2) (.slice Ao38 t707.length co38)) tv), (Rm (Rf (p := ⟨gb710, 1, none⟩) (Rf (p := ⟨gb710, 0, none⟩) (Rt HO693.out BK710.out (by decide)) (fun _ hk => hk.2) (.bool t706)) (fun _ hk => hk.2) (.slice Ao38 t707.length co38)) tv), (by refine blk_far ?_ NB677_710.out _; refine blk_far ?_ NB677_710.out _; exact BK677.out), (by refine blk_far ?_ NB678_710.out _; refine blk_far ?_ NB678_710.out _; exact BK678.out), (by refine blk_far ?_ NB694_710.out _; refine blk_far ?_ NB694_710.out _; exact BK694.out), (by repeat (first | exact HB.out | apply bN | apply b1 | apply bA | refine bS ?_ GE677.out | refine bS ?_ GE678.out | refine bS ?_ GE694.out | refine bS ?_ GE710.out)), fun _ => (Rm (Rf (p := ⟨gb710, 1, none⟩) (Rf (p := ⟨gb710, 0, none⟩) (Rt HO698.out BK710.out (by decide)) (fun _ hk => hk.2) (.bool t706)) (fun _ hk => hk.2) (.slice Ao38 t707.length co38)) tv), fun _ => (Rm (Rf (p := ⟨gb710, 1, none⟩) (Rf (p := ⟨gb710, 0, none⟩) (Rt HO701.out BK710.out (by decide)) (fun _ hk => hk.2) (.bool t706)) (fun _ hk => hk.2) (.slice Ao38 t707.length co38)) tv), fun _ => (Rm (Rf (p := ⟨gb710, 1, none⟩) (Rf (p := ⟨gb710, 0, none⟩) (Rt HO705.out BK710.out (by decide)) (fun _ hk => hk.2) (.bool t706)) (fun _ hk => hk.2) (.slice Ao38 t707.length co38)) tv), fun _ => (Rm (Rf (p := ⟨gb710, 1, none⟩) (Rf (p := ⟨gb710, 0, none⟩) (Rt HO709.out BK710.out (by decide)) (fun _ hk => hk.2) (.bool t706)) (fun _ hk => hk.2) (.slice Ao38 t707.length co38)) tv), fun _ h1_ => absurd ((up_self b 7).symm.trans h1_) (by decide), fun _ => GW710.out, fun _ => GE710.out, fun _ => NB677_710.out, fun _ => NB710_677.out, fun _ => NB678_710.out, fun _ => NB710_678.out, fun _ => NB694_710.out, fun _ => NB710_694.out, fun _ => (by refine blk_put (cs := #[.bool t706, .slice none 0 0]) ?_ 1 _ rfl; refine blk_put (cs := #[.bool false, .slice none 0 0]) ?_ 0 _ rfl; exact BK710.out), Q_X1_, Q_X4_, Q_X5_, Q_X6_⟩
  exact steps_nil
 rintro b a w39 hall ⟨v697, v700, v704, v708, gb710, m1_, m4_, m5_, m6_, ha, Q_HO682, Q_HO685, Q_HO689, Q_HO693, Q_BK677, Q_BK678, Q_BK694, Q_HB, Q_HO698, Q_HO701, Q_HO705, Q_HO709, Q_BK710, Q_GW710, Q_GE710, Q_NB677_710, Q_NB710_677, Q_NB678_710, Q_NB710_678, Q_NB694_710, Q_NB710_694, Q_BK710_e7, Q_X1_, Q_X4_, Q_X5_, Q_X6_⟩
 clear BK677 BK678 BK694 HB HO682 HO685 HO689 HO693
 have hb0_ := hall 0 (by kernel_rfl)
 have hb1_ := hall 1 (by kernel_rfl)
 have hb2_ := hall 2 (by kernel_rfl)
 have hb3_ := hall 3 (by kernel_rfl)
 have hb4_ := hall 4 (by kernel_rfl)
 have hb5_ := hall 5 (by kernel_rfl)
 have hb6_ := hall 6 (by kernel_rfl)
 have hb7_ := hall 7 (by kernel_rfl)
 subst ha
 obtain rfl := Q_X1_ hb1_
 obtain rfl := Q_X4_ hb4_
 obtain rfl := Q_X5_ hb5_
 obtain rfl := Q_X6_ hb6_
 simp only [putSel, hb0_, hb1_, hb2_, hb3_, hb4_, hb5_, hb6_, hb7_, if_true, Act.put, sA, sZ, sS]
 have HO682 := mk0 Q_HO682
 clear Q_HO682
 have HO685 := mk0 Q_HO685
 clear Q_HO685
 have HO689 := mk0 Q_HO689
 clear Q_HO689
 have HO693 := mk0 Q_HO693
 clear Q_HO693
 have BK677 := mk0 Q_BK677
 clear Q_BK677
 have BK678 := mk0 Q_BK678
 clear Q_BK678
 have BK694 := mk0 Q_BK694
 clear Q_BK694
 have HB := mk0 Q_HB
 clear Q_HB
 have HO698 := mk0 (Q_HO698 hb1_)
 clear Q_HO698
 have HO701 := mk0 (Q_HO701 hb3_)
 clear Q_HO701
 have HO705 := mk0 (Q_HO705 hb4_)
 clear Q_HO705
 have HO709 := mk0 (Q_HO709 hb5_)
 clear Q_HO709
 clear Q_BK710
 have GW710 := mk0 (Q_GW710 hb6_)
 clear Q_GW710
 have GE710 := mk0 (Q_GE710 hb6_)
 clear Q_GE710
 have NB677_710 := mk0 (Q_NB677_710 hb6_)
 clear Q_NB677_710
 have NB710_677 := mk0 (Q_NB710_677 hb6_)
 clear Q_NB710_677
 have NB678_710 := mk0 (Q_NB678_710 hb6_)
 clear Q_NB678_710
 have NB710_678 := mk0 (Q_NB710_678 hb6_)
 clear Q_NB710_678
 have NB694_710 := mk0 (Q_NB694_710 hb6_)
 clear Q_NB694_710
 have NB710_694 := mk0 (Q_NB710_694 hb6_)
 clear Q_NB710_694
 have BK710 := mk0 (Q_BK710_e7 hb7_)
 clear Q_BK710_e7
 clear hall hb0_ hb1_ hb2_ hb3_ hb4_ hb5_ hb6_ hb7_
 have hnb40 := NB694_677.out
 have hnc40 := NB677_694.out
 have hnb41 := NB694_678.out
 have hnc41 := NB678_694.out
 have hnb42 := NB694_710.out
 have hnc42 := NB710_694.out
 obtain ⟨hcz43_0, hcz43_1, hfz43_0, hfz43_1⟩ := cz2 BK694
 have hnb44 := NB710_677.out
 have hnc44 := NB677_710.out
 have hnb45 := NB710_678.out
 have hnc45 := NB678_710.out
 obtain ⟨hcz46_0, hcz46_1, hfz46_0, hfz46_1⟩ := cz2 BK710
 obtain ⟨Ao47, co47, eo47⟩ := Kd.R_slice HO693.out
 subst eo47
 obtain ⟨Ao48, co48, eo48⟩ := Kd.R_slice HO709.out
 subst eo48
 try go_wp2_with (first | ((with_reducible refine gate_callee (f := 63) rfl ?_); refine goA 21 Try.func63 #[.agg #[.bool t690, .slice Ao47 t691.length co47], .agg #[.bool t706, .slice Ao48 t707.length co48]] ?_; (with_reducible refine (examboardref02_Cmp.calls k t690 _ _ t691 t706 _ _ t707 t711 _ (by exact (Kd.R_reads' HO693.out).2.2) (by exact (Kd.R_reads' HO693.out).2.1) (by exact (Kd.R_reads' HO709.out).2.2) (by exact (Kd.R_reads' HO709.out).2.1) A11.out).mono ?_); rintro e w49 ⟨rfl, hb⟩; refine ⟨_, rfl, ?_⟩; replace HO682 := rB HO682 hb; replace HO685 := rB HO685 hb; replace HO689 := rB HO689 hb; replace HO693 := rB HO693 hb; replace HO698 := rB HO698 hb; replace HO701 := rB HO701 hb; replace HO705 := rB HO705 hb; replace HO709 := rB HO709 hb; replace BK677 := bkB BK677 hb; replace BK678 := bkB BK678 hb; replace BK694 := bkB BK694 hb; replace BK710 := bkB BK710 hb; replace HB := hbS HB hb))
 go_ret
 exact ⟨by first | rfl | (simp [errW_none, errW_some] <;> rfl) | (simp [*, errW_none, errW_some] <;> rfl), by repeat (first | exact HB.out | apply bN | apply b1 | apply bA | refine bS ?_ GE677.out | refine bS ?_ GE678.out | refine bS ?_ GE694.out | refine bS ?_ GE710.out)⟩
def examboardref37_Eligible.T1 : Bool × List (List Nat × List Nat) := (true, [([], []), ([], []), ([1], [1]), ([2], [2]), ([], []), ([4, 2], [4]), ([3, 5], [3, 5]), ([6, 5], [6]), ([0, 7, 7], [0, 7]), ([], []), ([9, 8, 8, 0, 1, 2, 3, 4, 5, 6, 7, 8, 9], [8, 9])])
def examboardref37_Eligible.B1 : List Nat := [0, 0, 2, 6, 0, 22, 62, 126, 255, 0, 1023]
theorem examboardref37_Eligible.tab1 : rtab .any (opsOf Try.f14 1) = examboardref37_Eligible.T1 := by kernel_rfl
theorem examboardref37_Eligible.bits1 : waitsOk examboardref37_Eligible.T1.2 examboardref37_Eligible.B1 = true := by kernel_rfl
def examboardref37_Eligible.T2 : Bool × List (List Nat × List Nat) := (true, [([], []), ([0], [0]), ([1], [1]), ([2, 1], [2]), ([], []), ([3, 4, 3], [3, 4]), ([5], [5]), ([6, 5, 0, 1, 2, 3, 4, 5, 6], [6])])
def examboardref37_Eligible.B2 : List Nat := [0, 1, 3, 7, 0, 31, 63, 127]
theorem examboardref37_Eligible.tab2 : rtab .any (opsOf Try.f14 2) = examboardref37_Eligible.T2 := by kernel_rfl
theorem examboardref37_Eligible.bits2 : waitsOk examboardref37_Eligible.T2.2 examboardref37_Eligible.B2 = true := by kernel_rfl
set_option maxHeartbeats 8000000 in
set_option maxRecDepth 100000 in
theorem examboardref37_Eligible.calls (k : Nat) (a0 : Int) (a1 : Int) (a2_0 : Bool) (A2_1 : Option Addr) (c2_1 : Nat) (l2_1 : List Int) (A2_2 : Option Addr) (c2_2 : Nat) (l2_2 : List Int) (a3 : Int) (r : Bool) (w : World) (hr2_1 : Kd.C (Kd.int .u32) w A2_1 l2_1.length l2_1) (hc2_1 : l2_1.length ≤ c2_1) (hr2_2 : Kd.C (Kd.int .u32) w A2_2 l2_2.length l2_2) (hc2_2 : l2_2.length ≤ c2_2) (h : examboardref37_Eligible.f k a0 a1 a2_0 l2_1 l2_2 a3 = some r) :
  Calls Try.prog 14 #[.int .i64 a0, .int .i64 a1, .agg #[.bool a2_0, .slice A2_1 l2_1.length c2_1, .slice A2_2 l2_2.length c2_2], .int .i64 a3] w fun e w' => e = .returned (.bool r) ∧ Below w.heap.size w w' := by
 have hu29 := Try.underlying29
 have HR2_1 := mk0 hr2_1
 have HC2_1 := mk0 hc2_1
 clear hr2_1 hc2_1
 have HR2_2 := mk0 hr2_2
 have HC2_2 := mk0 hc2_2
 clear hr2_2 hc2_2
 have HB := mk0 (Below.refl w.heap.size w)
 have H : ((examboardref37_limited.f a1).bind fun t898 => ((examboardref37_limited.f a3).bind fun t899 => ((examboardref37_whole.f k (wrap64 ((wrap64 (t898 + 1)) + t899))).bind fun bt900 => ((examboardref03_Mul.f k a2_0 l2_1 l2_2 bt900.1 bt900.2.1 bt900.2.2).bind fun bt907 => ((examboardref37_limited.f a0).bind fun t915 => ((examboardref37_whole.f k (wrap64 (t915 + 1))).bind fun bt916 => ((examboardref03_Cmp.f k bt916.1 bt916.2.1 bt916.2.2 bt907.1 bt907.2.1 bt907.2.2).bind fun t923 => (some (decide (t923 ≤ 0)))))))))) = some r := h
 clear h
 obtain ⟨t898, A5, H⟩ := bindA H
 obtain ⟨t899, A6, H⟩ := bindA H
 obtain ⟨⟨t900, t901, t904⟩, A7, H⟩ := bindA H
 obtain ⟨⟨t907, t908, t911⟩, A8, H⟩ := bindA H
 obtain ⟨t915, A9, H⟩ := bindA H
 obtain ⟨⟨t916, t917, t920⟩, A10, H⟩ := bindA H
 obtain ⟨t923, A11, H⟩ := bindA H
 obtain rfl := Option.some.inj H
 go_enter Try.func14, Try.ntmps14
 try go_wp2_with (first | ((with_reducible refine gate_dst (N := 6) rfl ?_); refine box_event rfl (N := 6) rfl (cs := #[.bool a2_0, .slice A2_1 l2_1.length c2_1, .slice A2_2 l2_2.length c2_2]) (t := 29) (by go_simp <;> rfl) ?_; intro gb897 hg w12 hbox hb; have BK897 := mk0 (hbox); have GE897 := geB hg HB; replace HB := (by first | exact hbS HB hb | exact hbD HB hb); clear hb hbox hg))
 replace BK897 := mk0 (blk_drew BK897.out)
 replace HB := mk0 (b1 HB.out)
 refine start_ (n := 11) (S := fun w' => w'.cell? ⟨gb897, 0, none⟩ = some (.bool a2_0) ∧ w'.cell? ⟨gb897, 1, none⟩ = some (.slice A2_1 l2_1.length c2_1) ∧ w'.cell? ⟨gb897, 2, none⟩ = some (.slice A2_2 l2_2.length c2_2)) (ds := []) (bv 11 0) (by kernel_rfl) rfl rfl ⟨(blk_cell BK897.out 0).trans rfl, (blk_cell BK897.out 1).trans rfl, (blk_cell BK897.out 2).trans rfl⟩ (fun hHeld => ?_); refine with_tabW examboardref37_Eligible.tab1 examboardref37_Eligible.bits1 (fun HT_ HW_ => ?_)
 generalize w12.drew = w13 at BK897 HB hHeld ⊢
 refine puA (i := 1) (N := 11) (v := ?_) (a' := ?_) (bv 11 2) HT_ ?_ ?_ ?_; rotate_left; (intro w'; go_simp; with_reducible rfl); rotate_left; (simp only [Act.put, sA, sZ, sS, i64_w, i32_w]; rfl)
 refine puA (i := 4) (N := 14) (v := ?_) (a' := ?_) (bv 11 18) HT_ ?_ ?_ ?_; rotate_left; (intro w'; go_simp; with_reducible rfl); rotate_left; (simp only [Act.put, sA, sZ, sS, i64_w, i32_w]; rfl)
 refine take_ (i := 0) (N := some 10) (v := ?_) (a' := ?_) (bv 11 19) rfl rfl (take_ofW HT_.out HW_.out (by kernel_rfl)) (fun _ _ _ h => h) (Or.inl ⟨by rfl, ?_⟩) hHeld ?_ ?_; rotate_left; (rintro w' ⟨s0, s1, s2⟩; go_simp; with_reducible rfl); rotate_left; (simp only [Act.put, sA, sZ, sS, i64_w, i32_w]; rfl)
 refine join_ (σ := Value × Value × Value × Value × Nat) 1 (bv 11 1023) (fun s_ => [(12, .int .i64 t898), (15, .int .i64 t899), (17, .agg #[.bool t900, s_.1, s_.2.1]), (18, .agg #[.bool t907, s_.2.2.1, s_.2.2.2.1]), (9, .pointer (some ⟨s_.2.2.2.2, 0, none⟩)), (13, .int .i64 (wrap64 (t898 + 1))), (16, .int .i64 (wrap64 ((wrap64 (t898 + 1)) + t899)))]) (fun s_ w' => (w'.cell? ⟨gb897, 0, none⟩ = some (.bool a2_0) ∧ w'.cell? ⟨gb897, 1, none⟩ = some (.slice A2_1 l2_1.length c2_1) ∧ w'.cell? ⟨gb897, 2, none⟩ = some (.slice A2_2 l2_2.length c2_2)) ∧ (Kd.R (Kd.int .u32) 87 w' w.heap.size (fun k_ => some k_ ≠ (s_.2.1 : Value).ownBlock ∧ some k_ ≠ (s_.2.2.1 : Value).ownBlock ∧ some k_ ≠ (s_.2.2.2.1 : Value).ownBlock) s_.1 t901) ∧ (Kd.R (Kd.int .u32) 87 w' w.heap.size (fun k_ => some k_ ≠ (s_.1 : Value).ownBlock ∧ some k_ ≠ (s_.2.2.1 : Value).ownBlock ∧ some k_ ≠ (s_.2.2.2.1 : Value).ownBlock) s_.2.1 t904) ∧ (Kd.R (Kd.int .u32) 87 w' w.heap.size (fun k_ => some k_ ≠ (s_.1 : Value).ownBlock ∧ some k_ ≠ (s_.2.1 : Value).ownBlock ∧ some k_ ≠ (s_.2.2.2.1 : Value).ownBlock) s_.2.2.1 t908) ∧ (Kd.R (Kd.int .u32) 87 w' w.heap.size (fun k_ => some k_ ≠ (s_.1 : Value).ownBlock ∧ some k_ ≠ (s_.2.1 : Value).ownBlock ∧ some k_ ≠ (s_.2.2.1 : Value).ownBlock) s_.2.2.2.1 t911) ∧ (w'.heap[gb897]? = some (.cells #[.bool a2_0, .slice A2_1 l2_1.length c2_1, .slice A2_2 l2_2.length c2_2] 29 (0, 0))) ∧ (w'.heap[s_.2.2.2.2]? = some (.cells #[.bool false, .slice none 0 0, .slice none 0 0] 29 (0, 0))) ∧ (w.heap.size ≤ s_.2.2.2.2) ∧ (w.heap.size ≤ s_.2.2.2.2) ∧ (gb897 ≠ s_.2.2.2.2) ∧ (s_.2.2.2.2 ≠ gb897) ∧ (Below w.heap.size w w')) ?_ ?_
 rotate_left
 ·intro hJ2_5_7_8_9
  refine join_ (σ := Value × Value × Value × Value) 2 (bv 11 511) (fun s_ => [(12, .int .i64 t898), (15, .int .i64 t899), (17, .agg #[.bool t900, s_.1, s_.2.1]), (18, .agg #[.bool t907, s_.2.2.1, s_.2.2.2]), (13, .int .i64 (wrap64 (t898 + 1))), (16, .int .i64 (wrap64 ((wrap64 (t898 + 1)) + t899)))]) (fun s_ w' => (w'.cell? ⟨gb897, 0, none⟩ = some (.bool a2_0) ∧ w'.cell? ⟨gb897, 1, none⟩ = some (.slice A2_1 l2_1.length c2_1) ∧ w'.cell? ⟨gb897, 2, none⟩ = some (.slice A2_2 l2_2.length c2_2)) ∧ (Kd.R (Kd.int .u32) 87 w' w.heap.size (fun k_ => some k_ ≠ (s_.2.1 : Value).ownBlock ∧ some k_ ≠ (s_.2.2.1 : Value).ownBlock ∧ some k_ ≠ (s_.2.2.2 : Value).ownBlock) s_.1 t901) ∧ (Kd.R (Kd.int .u32) 87 w' w.heap.size (fun k_ => some k_ ≠ (s_.1 : Value).ownBlock ∧ some k_ ≠ (s_.2.2.1 : Value).ownBlock ∧ some k_ ≠ (s_.2.2.2 : Value).ownBlock) s_.2.1 t904) ∧ (Kd.R (Kd.int .u32) 87 w' w.heap.size (fun k_ => some k_ ≠ (s_.1 : Value).ownBlock ∧ some k_ ≠ (s_.2.1 : Value).ownBlock ∧ some k_ ≠ (s_.2.2.2 : Value).ownBlock) s_.2.2.1 t908) ∧ (Kd.R (Kd.int .u32) 87 w' w.heap.size (fun k_ => some k_ ≠ (s_.1 : Value).ownBlock ∧ some k_ ≠ (s_.2.1 : Value).ownBlock ∧ some k_ ≠ (s_.2.2.1 : Value).ownBlock) s_.2.2.2 t911) ∧ (w'.heap[gb897]? = some (.cells #[.bool a2_0, .slice A2_1 l2_1.length c2_1, .slice A2_2 l2_2.length c2_2] 29 (0, 0))) ∧ (Below w.heap.size w w')) ?_ ?_
  rotate_left
  ·intro hJ2_5_7_8
   refine join_ (σ := Value × Value × Nat) 2 (bv 11 767) (fun s_ => [(12, .int .i64 t898), (15, .int .i64 t899), (17, .agg #[.bool t900, s_.1, s_.2.1]), (9, .pointer (some ⟨s_.2.2, 0, none⟩)), (13, .int .i64 (wrap64 (t898 + 1))), (16, .int .i64 (wrap64 ((wrap64 (t898 + 1)) + t899)))]) (fun s_ w' => (w'.cell? ⟨gb897, 0, none⟩ = some (.bool a2_0) ∧ w'.cell? ⟨gb897, 1, none⟩ = some (.slice A2_1 l2_1.length c2_1) ∧ w'.cell? ⟨gb897, 2, none⟩ = some (.slice A2_2 l2_2.length c2_2)) ∧ (Kd.R (Kd.int .u32) 87 w' w.heap.size (fun k_ => some k_ ≠ (s_.2.1 : Value).ownBlock) s_.1 t901) ∧ (Kd.R (Kd.int .u32) 87 w' w.heap.size (fun k_ => some k_ ≠ (s_.1 : Value).ownBlock) s_.2.1 t904) ∧ (w'.heap[gb897]? = some (.cells #[.bool a2_0, .slice A2_1 l2_1.length c2_1, .slice A2_2 l2_2.length c2_2] 29 (0, 0))) ∧ (w'.heap[s_.2.2]? = some (.cells #[.bool false, .slice none 0 0, .slice none 0 0] 29 (0, 0))) ∧ (w.heap.size ≤ s_.2.2) ∧ (w.heap.size ≤ s_.2.2) ∧ (gb897 ≠ s_.2.2) ∧ (s_.2.2 ≠ gb897) ∧ (Below w.heap.size w w')) ?_ ?_
   rotate_left
   ·intro hJ2_5_7_9
    refine join_ (σ := Value × Value) 3 (bv 11 255) (fun s_ => [(12, .int .i64 t898), (15, .int .i64 t899), (17, .agg #[.bool t900, s_.1, s_.2]), (13, .int .i64 (wrap64 (t898 + 1))), (16, .int .i64 (wrap64 ((wrap64 (t898 + 1)) + t899)))]) (fun s_ w' => (w'.cell? ⟨gb897, 0, none⟩ = some (.bool a2_0) ∧ w'.cell? ⟨gb897, 1, none⟩ = some (.slice A2_1 l2_1.length c2_1) ∧ w'.cell? ⟨gb897, 2, none⟩ = some (.slice A2_2 l2_2.length c2_2)) ∧ (Kd.R (Kd.int .u32) 87 w' w.heap.size (fun k_ => some k_ ≠ (s_.2 : Value).ownBlock) s_.1 t901) ∧ (Kd.R (Kd.int .u32) 87 w' w.heap.size (fun k_ => some k_ ≠ (s_.1 : Value).ownBlock) s_.2 t904) ∧ (w'.heap[gb897]? = some (.cells #[.bool a2_0, .slice A2_1 l2_1.length c2_1, .slice A2_2 l2_2.length c2_2] 29 (0, 0))) ∧ (Below w.heap.size w w')) ?_ ?_
    rotate_left
    ·intro hJ2_5_7
     refine join_ (σ := Nat) 3 (bv 11 639) (fun s_ => [(12, .int .i64 t898), (15, .int .i64 t899), (9, .pointer (some ⟨s_, 0, none⟩)), (13, .int .i64 (wrap64 (t898 + 1))), (16, .int .i64 (wrap64 ((wrap64 (t898 + 1)) + t899)))]) (fun s_ w' => (w'.cell? ⟨gb897, 0, none⟩ = some (.bool a2_0) ∧ w'.cell? ⟨gb897, 1, none⟩ = some (.slice A2_1 l2_1.length c2_1) ∧ w'.cell? ⟨gb897, 2, none⟩ = some (.slice A2_2 l2_2.length c2_2)) ∧ (w'.heap[gb897]? = some (.cells #[.bool a2_0, .slice A2_1 l2_1.length c2_1, .slice A2_2 l2_2.length c2_2] 29 (0, 0))) ∧ (w'.heap[s_]? = some (.cells #[.bool false, .slice none 0 0, .slice none 0 0] 29 (0, 0))) ∧ (w.heap.size ≤ s_) ∧ (w.heap.size ≤ s_) ∧ (gb897 ≠ s_) ∧ (s_ ≠ gb897) ∧ (Below w.heap.size w w')) ?_ ?_
     rotate_left
     ·intro hJ2_5_9
      refine join_ (σ := Unit) 4 (bv 11 127) (fun s_ => [(12, .int .i64 t898), (15, .int .i64 t899), (13, .int .i64 (wrap64 (t898 + 1))), (16, .int .i64 (wrap64 ((wrap64 (t898 + 1)) + t899)))]) (fun s_ w' => (w'.cell? ⟨gb897, 0, none⟩ = some (.bool a2_0) ∧ w'.cell? ⟨gb897, 1, none⟩ = some (.slice A2_1 l2_1.length c2_1) ∧ w'.cell? ⟨gb897, 2, none⟩ = some (.slice A2_2 l2_2.length c2_2)) ∧ (w'.heap[gb897]? = some (.cells #[.bool a2_0, .slice A2_1 l2_1.length c2_1, .slice A2_2 l2_2.length c2_2] 29 (0, 0))) ∧ (Below w.heap.size w w')) ?_ ?_
      rotate_left
      ·intro hJ2_5
       refine join_ (σ := Nat) 5 (bv 11 543) (fun s_ => [(12, .int .i64 t898), (9, .pointer (some ⟨s_, 0, none⟩)), (13, .int .i64 (wrap64 (t898 + 1)))]) (fun s_ w' => (w'.cell? ⟨gb897, 0, none⟩ = some (.bool a2_0) ∧ w'.cell? ⟨gb897, 1, none⟩ = some (.slice A2_1 l2_1.length c2_1) ∧ w'.cell? ⟨gb897, 2, none⟩ = some (.slice A2_2 l2_2.length c2_2)) ∧ (w'.heap[gb897]? = some (.cells #[.bool a2_0, .slice A2_1 l2_1.length c2_1, .slice A2_2 l2_2.length c2_2] 29 (0, 0))) ∧ (w'.heap[s_]? = some (.cells #[.bool false, .slice none 0 0, .slice none 0 0] 29 (0, 0))) ∧ (w.heap.size ≤ s_) ∧ (w.heap.size ≤ s_) ∧ (gb897 ≠ s_) ∧ (s_ ≠ gb897) ∧ (Below w.heap.size w w')) ?_ ?_
       rotate_left
       ·intro hJ2_9
        refine join_ (σ := Unit) 6 (bv 11 31) (fun s_ => [(12, .int .i64 t898), (13, .int .i64 (wrap64 (t898 + 1)))]) (fun s_ w' => (w'.cell? ⟨gb897, 0, none⟩ = some (.bool a2_0) ∧ w'.cell? ⟨gb897, 1, none⟩ = some (.slice A2_1 l2_1.length c2_1) ∧ w'.cell? ⟨gb897, 2, none⟩ = some (.slice A2_2 l2_2.length c2_2)) ∧ (w'.heap[gb897]? = some (.cells #[.bool a2_0, .slice A2_1 l2_1.length c2_1, .slice A2_2 l2_2.length c2_2] 29 (0, 0))) ∧ (Below w.heap.size w w')) ?_ ?_
        rotate_left
        ·intro hJ2
         refine join_ (σ := Nat) 7 (bv 11 531) (fun s_ => [(9, .pointer (some ⟨s_, 0, none⟩))]) (fun s_ w' => (w'.cell? ⟨gb897, 0, none⟩ = some (.bool a2_0) ∧ w'.cell? ⟨gb897, 1, none⟩ = some (.slice A2_1 l2_1.length c2_1) ∧ w'.cell? ⟨gb897, 2, none⟩ = some (.slice A2_2 l2_2.length c2_2)) ∧ (w'.heap[gb897]? = some (.cells #[.bool a2_0, .slice A2_1 l2_1.length c2_1, .slice A2_2 l2_2.length c2_2] 29 (0, 0))) ∧ (w'.heap[s_]? = some (.cells #[.bool false, .slice none 0 0, .slice none 0 0] 29 (0, 0))) ∧ (w.heap.size ≤ s_) ∧ (w.heap.size ≤ s_) ∧ (gb897 ≠ s_) ∧ (s_ ≠ gb897) ∧ (Below w.heap.size w w')) ?_ ?_
         rotate_left
         ·intro hJ9
          refine two_ (i := 2) (j := 9) (Ni := some 12) (Nj := some 9) (bv 11 23) (bv 11 531) rfl rfl rfl rfl (two_of HT_.out (by kernel_rfl)) (by decide) (by decide) (fun K hK => ?_) (fun K hK => ?_)
          ·skip
           refine goes_ Try.func34 (by kernel_rfl) rfl #[.int .i64 a1] (by rfl) rfl rfl (by go_simp <;> rfl) ?_
           with_reducible refine (examboardref37_limited.calls a1 t898 _ A5.out).mono ?_
           rintro e w' ⟨rfl, ⟨nd, rfl⟩⟩
           refine ⟨_, rfl, ?_⟩
           refine hK.out _ _ ⟨(blk_cell BK897.out 0).trans rfl, (blk_cell BK897.out 1).trans rfl, (blk_cell BK897.out 2).trans rfl⟩ (fun hHeld => ?_)
           clear hK K
           refine norm_ (a' := ?_) ?_ ?_
           rotate_left
           ·show Act.put _ (some 12) _ = _
            simp only [Act.put, sA, sZ, sS, i64_w, i32_w]
            rfl
           refine puA (i := 3) (N := 13) (v := ?_) (a' := ?_) (bv 11 31) HT_ ?_ ?_ ?_; rotate_left; (intro w'; go_simp; with_reducible rfl); rotate_left; (simp only [Act.put, sA, sZ, sS, i64_w, i32_w]; rfl)
           exact norm_ (by first | (simp only [putAll, Act.put, sA, sZ, sS]; done) | (simp only [putAll, Act.put, sA, sZ, sS]; rfl)) (hJ2 () _ ⟨hHeld, (by (with_reducible repeat refine blk_drewN ?_ _); exact BK897.out), (by repeat (first | exact HB.out | apply bN | apply b1 | apply bA | refine bS ?_ GE897.out))⟩)
          ·skip
           refine box_step ?hg (N := 9) ?hd (cs := #[.bool false, .slice none 0 0, .slice none 0 0]) (t := 29) ?hr ?_; (case hd => rfl); (case hg => rfl); (case hr => go_simp <;> rfl)
           intro gb914 hg w14 hbox hb
           have BK914 := mk0 (hbox)
           have GW914 := mk0 ((by rw [hg]; exact (bZ (by repeat (first | exact HB.out | apply bN | apply b1 | apply bA | refine bS ?_ GE897.out))) : w.heap.size ≤ gb914))
           have GE914 := mk0 ((by rw [hg]; exact (bZ (by repeat (first | exact HB.out | apply bN | apply b1 | apply bA | refine bS ?_ GE897.out))) : w.heap.size ≤ gb914))
           replace HB := mk0 (below_step (by repeat (first | exact HB.out | apply bN | apply b1 | apply bA | refine bS ?_ GE897.out)) hb)
           have NB897_914 := nbA hg BK897
           have NB914_897 := nbB hg BK897
           replace BK897 := (by first | exact bkB BK897 hb | exact bkD BK897 hb)
           clear hb hbox hg
           refine hK.out _ _ ⟨(blk_cell BK897.out 0).trans rfl, (blk_cell BK897.out 1).trans rfl, (blk_cell BK897.out 2).trans rfl⟩ (fun hHeld => ?_)
           clear hK K
           refine norm_ (a' := ?_) ?_ ?_
           rotate_left
           ·show Act.put _ (some 9) _ = _
            simp only [Act.put, sA, sZ, sS, i64_w, i32_w]
            rfl
           exact norm_ (by first | (simp only [putAll, Act.put, sA, sZ, sS]; done) | (simp only [putAll, Act.put, sA, sZ, sS]; rfl)) (hJ9 (gb914) _ ⟨hHeld, (by (with_reducible repeat refine blk_drewN ?_ _); exact BK897.out), (by (with_reducible repeat refine blk_drewN ?_ _); exact BK914.out), GW914.out, GE914.out, NB897_914.out, NB914_897.out, (by repeat (first | exact HB.out | apply bN | apply b1 | apply bA | refine bS ?_ GE897.out | refine bS ?_ GE914.out))⟩)
         ·skip
          rintro gb914 w15 ⟨hS_, h0_, h1_, h2_, h3_, h4_, h5_, h6_⟩
          replace BK897 : Aside0 (w15.heap[gb897]? = some (.cells #[.bool a2_0, .slice A2_1 l2_1.length c2_1, .slice A2_2 l2_2.length c2_2] 29 (0, 0))) := ⟨h0_⟩
          have BK914 : Aside0 (w15.heap[gb914]? = some (.cells #[.bool false, .slice none 0 0, .slice none 0 0] 29 (0, 0))) := ⟨h1_⟩
          have GW914 : Aside0 (w.heap.size ≤ gb914) := ⟨h2_⟩
          have GE914 : Aside0 (w.heap.size ≤ gb914) := ⟨h3_⟩
          have NB897_914 : Aside0 (gb897 ≠ gb914) := ⟨h4_⟩
          have NB914_897 : Aside0 (gb914 ≠ gb897) := ⟨h5_⟩
          replace HB : Aside0 (Below w.heap.size w w15) := ⟨h6_⟩
          clear h0_ h1_ h2_ h3_ h4_ h5_ h6_
          have hHeld : w15.cell? ⟨gb897, 0, none⟩ = some (.bool a2_0) ∧ w15.cell? ⟨gb897, 1, none⟩ = some (.slice A2_1 l2_1.length c2_1) ∧ w15.cell? ⟨gb897, 2, none⟩ = some (.slice A2_2 l2_2.length c2_2) := hS_
          refine norm_ (a' := ?_) ?_ ?_
          rotate_left
          ·simp only [putAll, Act.put, sA, sZ, sS]
           rfl
          refine one_ (i := 2) (N := some 12) (bv 11 535) rfl rfl (one_of HT_.out (by kernel_rfl)) (by decide) (fun K hK => ?_)
          refine goes_ Try.func34 (by kernel_rfl) rfl #[.int .i64 a1] (by rfl) rfl rfl (by go_simp <;> rfl) ?_
          with_reducible refine (examboardref37_limited.calls a1 t898 _ A5.out).mono ?_
          rintro e w' ⟨rfl, ⟨nd, rfl⟩⟩
          refine ⟨_, rfl, ?_⟩
          refine hK.out _ _ ⟨(blk_cell BK897.out 0).trans rfl, (blk_cell BK897.out 1).trans rfl, (blk_cell BK897.out 2).trans rfl⟩ (fun hHeld => ?_)
          clear hK K
          refine norm_ (a' := ?_) ?_ ?_
          rotate_left
          ·show Act.put _ (some 12) _ = _
           simp only [Act.put, sA, sZ, sS, i64_w, i32_w]
           rfl
          refine puA (i := 3) (N := 13) (v := ?_) (a' := ?_) (bv 11 543) HT_ ?_ ?_ ?_; rotate_left; (intro w'; go_simp; with_reducible rfl); rotate_left; (simp only [Act.put, sA, sZ, sS, i64_w, i32_w]; rfl)
          exact norm_ (by first | (simp only [putAll, Act.put, sA, sZ, sS]; done) | (simp only [putAll, Act.put, sA, sZ, sS]; rfl)) (hJ2_9 (gb914) _ ⟨hHeld, (by (with_reducible repeat refine blk_drewN ?_ _); exact BK897.out), (by (with_reducible repeat refine blk_drewN ?_ _); exact BK914.out), GW914.out, GE914.out, NB897_914.out, NB914_897.out, (by repeat (first | exact HB.out | apply bN | apply b1 | apply bA | refine bS ?_ GE897.out | refine bS ?_ GE914.out))⟩)
        ·skip
         rintro _ w14 ⟨hS_, h0_, h1_⟩
         replace BK897 : Aside0 (w14.heap[gb897]? = some (.cells #[.bool a2_0, .slice A2_1 l2_1.length c2_1, .slice A2_2 l2_2.length c2_2] 29 (0, 0))) := ⟨h0_⟩
         replace HB : Aside0 (Below w.heap.size w w14) := ⟨h1_⟩
         clear h0_ h1_
         have hHeld : w14.cell? ⟨gb897, 0, none⟩ = some (.bool a2_0) ∧ w14.cell? ⟨gb897, 1, none⟩ = some (.slice A2_1 l2_1.length c2_1) ∧ w14.cell? ⟨gb897, 2, none⟩ = some (.slice A2_2 l2_2.length c2_2) := hS_
         refine norm_ (a' := ?_) ?_ ?_
         rotate_left
         ·simp only [putAll, Act.put, sA, sZ, sS]
          rfl
         refine two_ (i := 5) (j := 9) (Ni := some 15) (Nj := some 9) (bv 11 63) (bv 11 543) rfl rfl rfl rfl (two_of HT_.out (by kernel_rfl)) (by decide) (by decide) (fun K hK => ?_) (fun K hK => ?_)
         ·skip
          refine goes_ Try.func34 (by kernel_rfl) rfl #[.int .i64 a3] (by rfl) rfl rfl (by go_simp <;> rfl) ?_
          with_reducible refine (examboardref37_limited.calls a3 t899 _ A6.out).mono ?_
          rintro e w' ⟨rfl, ⟨nd, rfl⟩⟩
          refine ⟨_, rfl, ?_⟩
          refine hK.out _ _ ⟨(blk_cell BK897.out 0).trans rfl, (blk_cell BK897.out 1).trans rfl, (blk_cell BK897.out 2).trans rfl⟩ (fun hHeld => ?_)
          clear hK K
          refine norm_ (a' := ?_) ?_ ?_
          rotate_left
          ·show Act.put _ (some 15) _ = _
           simp only [Act.put, sA, sZ, sS, i64_w, i32_w]
           rfl
          refine puA (i := 6) (N := 16) (v := ?_) (a' := ?_) (bv 11 127) HT_ ?_ ?_ ?_; rotate_left; (intro w'; go_simp; with_reducible rfl); rotate_left; (simp only [Act.put, sA, sZ, sS, i64_w, i32_w]; rfl)
          exact norm_ (by first | (simp only [putAll, Act.put, sA, sZ, sS]; done) | (simp only [putAll, Act.put, sA, sZ, sS]; rfl)) (hJ2_5 () _ ⟨hHeld, (by (with_reducible repeat refine blk_drewN ?_ _); exact BK897.out), (by repeat (first | exact HB.out | apply bN | apply b1 | apply bA | refine bS ?_ GE897.out))⟩)
         ·skip
          refine box_step ?hg (N := 9) ?hd (cs := #[.bool false, .slice none 0 0, .slice none 0 0]) (t := 29) ?hr ?_; (case hd => rfl); (case hg => rfl); (case hr => go_simp <;> rfl)
          intro gb914 hg w15 hbox hb
          have BK914 := mk0 (hbox)
          have GW914 := mk0 ((by rw [hg]; exact (bZ (by repeat (first | exact HB.out | apply bN | apply b1 | apply bA | refine bS ?_ GE897.out))) : w.heap.size ≤ gb914))
          have GE914 := mk0 ((by rw [hg]; exact (bZ (by repeat (first | exact HB.out | apply bN | apply b1 | apply bA | refine bS ?_ GE897.out))) : w.heap.size ≤ gb914))
          replace HB := mk0 (below_step (by repeat (first | exact HB.out | apply bN | apply b1 | apply bA | refine bS ?_ GE897.out)) hb)
          have NB897_914 := nbA hg BK897
          have NB914_897 := nbB hg BK897
          replace BK897 := (by first | exact bkB BK897 hb | exact bkD BK897 hb)
          clear hb hbox hg
          refine hK.out _ _ ⟨(blk_cell BK897.out 0).trans rfl, (blk_cell BK897.out 1).trans rfl, (blk_cell BK897.out 2).trans rfl⟩ (fun hHeld => ?_)
          clear hK K
          refine norm_ (a' := ?_) ?_ ?_
          rotate_left
          ·show Act.put _ (some 9) _ = _
           simp only [Act.put, sA, sZ, sS, i64_w, i32_w]
           rfl
          exact norm_ (by first | (simp only [putAll, Act.put, sA, sZ, sS]; done) | (simp only [putAll, Act.put, sA, sZ, sS]; rfl)) (hJ2_9 (gb914) _ ⟨hHeld, (by (with_reducible repeat refine blk_drewN ?_ _); exact BK897.out), (by (with_reducible repeat refine blk_drewN ?_ _); exact BK914.out), GW914.out, GE914.out, NB897_914.out, NB914_897.out, (by repeat (first | exact HB.out | apply bN | apply b1 | apply bA | refine bS ?_ GE897.out | refine bS ?_ GE914.out))⟩)
       ·skip
        rintro gb914 w15 ⟨hS_, h0_, h1_, h2_, h3_, h4_, h5_, h6_⟩
        replace BK897 : Aside0 (w15.heap[gb897]? = some (.cells #[.bool a2_0, .slice A2_1 l2_1.length c2_1, .slice A2_2 l2_2.length c2_2] 29 (0, 0))) := ⟨h0_⟩
        have BK914 : Aside0 (w15.heap[gb914]? = some (.cells #[.bool false, .slice none 0 0, .slice none 0 0] 29 (0, 0))) := ⟨h1_⟩
        have GW914 : Aside0 (w.heap.size ≤ gb914) := ⟨h2_⟩
        have GE914 : Aside0 (w.heap.size ≤ gb914) := ⟨h3_⟩
        have NB897_914 : Aside0 (gb897 ≠ gb914) := ⟨h4_⟩
        have NB914_897 : Aside0 (gb914 ≠ gb897) := ⟨h5_⟩
        replace HB : Aside0 (Below w.heap.size w w15) := ⟨h6_⟩
        clear h0_ h1_ h2_ h3_ h4_ h5_ h6_
        have hHeld : w15.cell? ⟨gb897, 0, none⟩ = some (.bool a2_0) ∧ w15.cell? ⟨gb897, 1, none⟩ = some (.slice A2_1 l2_1.length c2_1) ∧ w15.cell? ⟨gb897, 2, none⟩ = some (.slice A2_2 l2_2.length c2_2) := hS_
        refine norm_ (a' := ?_) ?_ ?_
        rotate_left
        ·simp only [putAll, Act.put, sA, sZ, sS]
         rfl
        refine one_ (i := 5) (N := some 15) (bv 11 575) rfl rfl (one_of HT_.out (by kernel_rfl)) (by decide) (fun K hK => ?_)
        refine goes_ Try.func34 (by kernel_rfl) rfl #[.int .i64 a3] (by rfl) rfl rfl (by go_simp <;> rfl) ?_
        with_reducible refine (examboardref37_limited.calls a3 t899 _ A6.out).mono ?_
        rintro e w' ⟨rfl, ⟨nd, rfl⟩⟩
        refine ⟨_, rfl, ?_⟩
        refine hK.out _ _ ⟨(blk_cell BK897.out 0).trans rfl, (blk_cell BK897.out 1).trans rfl, (blk_cell BK897.out 2).trans rfl⟩ (fun hHeld => ?_)
        clear hK K
        refine norm_ (a' := ?_) ?_ ?_
        rotate_left
        ·show Act.put _ (some 15) _ = _
         simp only [Act.put, sA, sZ, sS, i64_w, i32_w]
         rfl
        refine puA (i := 6) (N := 16) (v := ?_) (a' := ?_) (bv 11 639) HT_ ?_ ?_ ?_; rotate_left; (intro w'; go_simp; with_reducible rfl); rotate_left; (simp only [Act.put, sA, sZ, sS, i64_w, i32_w]; rfl)
        exact norm_ (by first | (simp only [putAll, Act.put, sA, sZ, sS]; done) | (simp only [putAll, Act.put, sA, sZ, sS]; rfl)) (hJ2_5_9 (gb914) _ ⟨hHeld, (by (with_reducible repeat refine blk_drewN ?_ _); exact BK897.out), (by (with_reducible repeat refine blk_drewN ?_ _); exact BK914.out), GW914.out, GE914.out, NB897_914.out, NB914_897.out, (by repeat (first | exact HB.out | apply bN | apply b1 | apply bA | refine bS ?_ GE897.out | refine bS ?_ GE914.out))⟩)
      ·skip
       rintro _ w14 ⟨hS_, h0_, h1_⟩
       replace BK897 : Aside0 (w14.heap[gb897]? = some (.cells #[.bool a2_0, .slice A2_1 l2_1.length c2_1, .slice A2_2 l2_2.length c2_2] 29 (0, 0))) := ⟨h0_⟩
       replace HB : Aside0 (Below w.heap.size w w14) := ⟨h1_⟩
       clear h0_ h1_
       have hHeld : w14.cell? ⟨gb897, 0, none⟩ = some (.bool a2_0) ∧ w14.cell? ⟨gb897, 1, none⟩ = some (.slice A2_1 l2_1.length c2_1) ∧ w14.cell? ⟨gb897, 2, none⟩ = some (.slice A2_2 l2_2.length c2_2) := hS_
       refine norm_ (a' := ?_) ?_ ?_
       rotate_left
       ·simp only [putAll, Act.put, sA, sZ, sS]
        rfl
       refine two_ (i := 7) (j := 9) (Ni := some 17) (Nj := some 9) (bv 11 255) (bv 11 639) rfl rfl rfl rfl (two_of HT_.out (by kernel_rfl)) (by decide) (by decide) (fun K hK => ?_) (fun K hK => ?_)
       ·skip
        refine goes_ Try.func33 (by kernel_rfl) rfl #[.int .i64 (wrap64 ((wrap64 (t898 + 1)) + t899))] (by rfl) rfl rfl (by go_simp <;> rfl) ?_
        with_reducible refine (examboardref37_whole.calls k (wrap64 ((wrap64 (t898 + 1)) + t899)) t900 t901 t904 _ A7.out).mono ?_
        rintro e w15 ⟨v902, v905, rfl, ho0, ho1, hb⟩
        refine ⟨_, rfl, ?_⟩
        have HO903 := mk0 (Rl ho0 (bZ (by repeat (first | exact HB.out | apply bN | apply b1 | apply bA | refine bS ?_ GE897.out))))
        have HO906 := mk0 (Rl ho1 (bZ (by repeat (first | exact HB.out | apply bN | apply b1 | apply bA | refine bS ?_ GE897.out))))
        replace BK897 := (by first | exact bkB BK897 hb | exact bkD BK897 hb)
        replace HB := mk0 (below_step (by repeat (first | exact HB.out | apply bN | apply b1 | apply bA | refine bS ?_ GE897.out)) hb)
        refine hK.out _ _ ⟨(blk_cell BK897.out 0).trans rfl, (blk_cell BK897.out 1).trans rfl, (blk_cell BK897.out 2).trans rfl⟩ (fun hHeld => ?_)
        clear hK K
        refine norm_ (a' := ?_) ?_ ?_
        rotate_left
        ·show Act.put _ (some 17) _ = _
         simp only [Act.put, sA, sZ, sS, i64_w, i32_w]
         rfl
        exact norm_ (by first | (simp only [putAll, Act.put, sA, sZ, sS]; done) | (simp only [putAll, Act.put, sA, sZ, sS]; rfl)) (hJ2_5_7 (v902, v905) _ ⟨hHeld, (by (with_reducible repeat apply Kd.R_drewN); exact HO903.out), (by (with_reducible repeat apply Kd.R_drewN); exact HO906.out), (by (with_reducible repeat refine blk_drewN ?_ _); exact BK897.out), (by repeat (first | exact HB.out | apply bN | apply b1 | apply bA | refine bS ?_ GE897.out))⟩)
       ·skip
        refine box_step ?hg (N := 9) ?hd (cs := #[.bool false, .slice none 0 0, .slice none 0 0]) (t := 29) ?hr ?_; (case hd => rfl); (case hg => rfl); (case hr => go_simp <;> rfl)
        intro gb914 hg w15 hbox hb
        have BK914 := mk0 (hbox)
        have GW914 := mk0 ((by rw [hg]; exact (bZ (by repeat (first | exact HB.out | apply bN | apply b1 | apply bA | refine bS ?_ GE897.out))) : w.heap.size ≤ gb914))
        have GE914 := mk0 ((by rw [hg]; exact (bZ (by repeat (first | exact HB.out | apply bN | apply b1 | apply bA | refine bS ?_ GE897.out))) : w.heap.size ≤ gb914))
        replace HB := mk0 (below_step (by repeat (first | exact HB.out | apply bN | apply b1 | apply bA | refine bS ?_ GE897.out)) hb)
        have NB897_914 := nbA hg BK897
        have NB914_897 := nbB hg BK897
        replace BK897 := (by first | exact bkB BK897 hb | exact bkD BK897 hb)
        clear hb hbox hg
        refine hK.out _ _ ⟨(blk_cell BK897.out 0).trans rfl, (blk_cell BK897.out 1).trans rfl, (blk_cell BK897.out 2).trans rfl⟩ (fun hHeld => ?_)
        clear hK K
        refine norm_ (a' := ?_) ?_ ?_
        rotate_left
        ·show Act.put _ (some 9) _ = _
         simp only [Act.put, sA, sZ, sS, i64_w, i32_w]
         rfl
        exact norm_ (by first | (simp only [putAll, Act.put, sA, sZ, sS]; done) | (simp only [putAll, Act.put, sA, sZ, sS]; rfl)) (hJ2_5_9 (gb914) _ ⟨hHeld, (by (with_reducible repeat refine blk_drewN ?_ _); exact BK897.out), (by (with_reducible repeat refine blk_drewN ?_ _); exact BK914.out), GW914.out, GE914.out, NB897_914.out, NB914_897.out, (by repeat (first | exact HB.out | apply bN | apply b1 | apply bA | refine bS ?_ GE897.out | refine bS ?_ GE914.out))⟩)
     ·skip
      rintro gb914 w15 ⟨hS_, h0_, h1_, h2_, h3_, h4_, h5_, h6_⟩
      replace BK897 : Aside0 (w15.heap[gb897]? = some (.cells #[.bool a2_0, .slice A2_1 l2_1.length c2_1, .slice A2_2 l2_2.length c2_2] 29 (0, 0))) := ⟨h0_⟩
      have BK914 : Aside0 (w15.heap[gb914]? = some (.cells #[.bool false, .slice none 0 0, .slice none 0 0] 29 (0, 0))) := ⟨h1_⟩
      have GW914 : Aside0 (w.heap.size ≤ gb914) := ⟨h2_⟩
      have GE914 : Aside0 (w.heap.size ≤ gb914) := ⟨h3_⟩
      have NB897_914 : Aside0 (gb897 ≠ gb914) := ⟨h4_⟩
      have NB914_897 : Aside0 (gb914 ≠ gb897) := ⟨h5_⟩
      replace HB : Aside0 (Below w.heap.size w w15) := ⟨h6_⟩
      clear h0_ h1_ h2_ h3_ h4_ h5_ h6_
      have hHeld : w15.cell? ⟨gb897, 0, none⟩ = some (.bool a2_0) ∧ w15.cell? ⟨gb897, 1, none⟩ = some (.slice A2_1 l2_1.length c2_1) ∧ w15.cell? ⟨gb897, 2, none⟩ = some (.slice A2_2 l2_2.length c2_2) := hS_
      refine norm_ (a' := ?_) ?_ ?_
      rotate_left
      ·simp only [putAll, Act.put, sA, sZ, sS]
       rfl
      refine one_ (i := 7) (N := some 17) (bv 11 767) rfl rfl (one_of HT_.out (by kernel_rfl)) (by decide) (fun K hK => ?_)
      refine goes_ Try.func33 (by kernel_rfl) rfl #[.int .i64 (wrap64 ((wrap64 (t898 + 1)) + t899))] (by rfl) rfl rfl (by go_simp <;> rfl) ?_
      with_reducible refine (examboardref37_whole.calls k (wrap64 ((wrap64 (t898 + 1)) + t899)) t900 t901 t904 _ A7.out).mono ?_
      rintro e w16 ⟨v902, v905, rfl, ho0, ho1, hb⟩
      refine ⟨_, rfl, ?_⟩
      have HO903 := mk0 (Rl ho0 (bZ (by repeat (first | exact HB.out | apply bN | apply b1 | apply bA | refine bS ?_ GE897.out | refine bS ?_ GE914.out))))
      have HO906 := mk0 (Rl ho1 (bZ (by repeat (first | exact HB.out | apply bN | apply b1 | apply bA | refine bS ?_ GE897.out | refine bS ?_ GE914.out))))
      replace BK897 := (by first | exact bkB BK897 hb | exact bkD BK897 hb)
      replace BK914 := (by first | exact bkB BK914 hb | exact bkD BK914 hb)
      replace HB := mk0 (below_step (by repeat (first | exact HB.out | apply bN | apply b1 | apply bA | refine bS ?_ GE897.out | refine bS ?_ GE914.out)) hb)
      refine hK.out _ _ ⟨(blk_cell BK897.out 0).trans rfl, (blk_cell BK897.out 1).trans rfl, (blk_cell BK897.out 2).trans rfl⟩ (fun hHeld => ?_)
      clear hK K
      refine norm_ (a' := ?_) ?_ ?_
      rotate_left
      ·show Act.put _ (some 17) _ = _
       simp only [Act.put, sA, sZ, sS, i64_w, i32_w]
       rfl
      exact norm_ (by first | (simp only [putAll, Act.put, sA, sZ, sS]; done) | (simp only [putAll, Act.put, sA, sZ, sS]; rfl)) (hJ2_5_7_9 (v902, v905, gb914) _ ⟨hHeld, (by (with_reducible repeat apply Kd.R_drewN); exact HO903.out), (by (with_reducible repeat apply Kd.R_drewN); exact HO906.out), (by (with_reducible repeat refine blk_drewN ?_ _); exact BK897.out), (by (with_reducible repeat refine blk_drewN ?_ _); exact BK914.out), GW914.out, GE914.out, NB897_914.out, NB914_897.out, (by repeat (first | exact HB.out | apply bN | apply b1 | apply bA | refine bS ?_ GE897.out | refine bS ?_ GE914.out))⟩)
    ·skip
     rintro ⟨v902, v905⟩ w15 ⟨hS_, h0_, h1_, h2_, h3_⟩
     have HO903 : Aside0 (Kd.R (Kd.int .u32) 87 w15 w.heap.size (fun k_ => some k_ ≠ (v905 : Value).ownBlock) v902 t901) := ⟨h0_⟩
     have HO906 : Aside0 (Kd.R (Kd.int .u32) 87 w15 w.heap.size (fun k_ => some k_ ≠ (v902 : Value).ownBlock) v905 t904) := ⟨h1_⟩
     replace BK897 : Aside0 (w15.heap[gb897]? = some (.cells #[.bool a2_0, .slice A2_1 l2_1.length c2_1, .slice A2_2 l2_2.length c2_2] 29 (0, 0))) := ⟨h2_⟩
     replace HB : Aside0 (Below w.heap.size w w15) := ⟨h3_⟩
     clear h0_ h1_ h2_ h3_
     have hHeld : w15.cell? ⟨gb897, 0, none⟩ = some (.bool a2_0) ∧ w15.cell? ⟨gb897, 1, none⟩ = some (.slice A2_1 l2_1.length c2_1) ∧ w15.cell? ⟨gb897, 2, none⟩ = some (.slice A2_2 l2_2.length c2_2) := hS_
     obtain ⟨Ao16, co16, eo16⟩ := Kd.R_slice HO903.out
     (first | subst eo16 | (injection eo16 with f1_ f2_ f3_; have f4_ := f1_.symm; have f5_ := f3_.symm; clear f1_ f2_ f3_; subst f4_; subst f5_))
     obtain ⟨Ao17, co17, eo17⟩ := Kd.R_slice HO906.out
     (first | subst eo17 | (injection eo17 with f1_ f2_ f3_; have f4_ := f1_.symm; have f5_ := f3_.symm; clear f1_ f2_ f3_; subst f4_; subst f5_))
     refine norm_ (a' := ?_) ?_ ?_
     rotate_left
     ·simp only [putAll, Act.put, sA, sZ, sS]
      rfl
     refine two_ (i := 8) (j := 9) (Ni := some 18) (Nj := some 9) (bv 11 511) (bv 11 767) rfl rfl rfl rfl (two_of HT_.out (by kernel_rfl)) (by decide) (by decide) (fun K hK => ?_) (fun K hK => ?_)
     ·skip
      refine goes_ Try.func32 (by kernel_rfl) rfl #[.agg #[.bool a2_0, .slice A2_1 l2_1.length c2_1, .slice A2_2 l2_2.length c2_2], .agg #[.bool t900, .slice Ao16 t901.length co16, .slice Ao17 t904.length co17]] (by rfl) rfl rfl (by go_simp <;> rfl) ?_
      with_reducible refine (examboardref03_Mul.calls k a2_0 _ _ l2_1 _ _ l2_2 t900 _ _ t901 _ _ t904 t907 t908 t911 _ ?side1 ?side2 ?side3 ?side4 ?side5 ?side6 ?side7 ?side8 A8.out).mono ?_
      (case side1 => repeat (first | exact (Cb HR2_1.out HB.out) | (with_reducible refine Kd.C_alloc ?_ _) | (with_reducible refine Kd.C_drewN ?_ _) | (with_reducible refine Kd.C_drew ?_)))
      (case side2 => exact HC2_1.out)
      (case side3 => repeat (first | exact (Cb HR2_2.out HB.out) | (with_reducible refine Kd.C_alloc ?_ _) | (with_reducible refine Kd.C_drewN ?_ _) | (with_reducible refine Kd.C_drew ?_)))
      (case side4 => exact HC2_2.out)
      (case side5 => repeat (first | exact (Kd.R_reads' HO903.out).2.2 | (with_reducible refine Kd.C_alloc ?_ _) | (with_reducible refine Kd.C_drewN ?_ _) | (with_reducible refine Kd.C_drew ?_)))
      (case side6 => exact (Kd.R_reads' HO903.out).2.1)
      (case side7 => repeat (first | exact (Kd.R_reads' HO906.out).2.2 | (with_reducible refine Kd.C_alloc ?_ _) | (with_reducible refine Kd.C_drewN ?_ _) | (with_reducible refine Kd.C_drew ?_)))
      (case side8 => exact (Kd.R_reads' HO906.out).2.1)
      rintro e w18 ⟨v909, v912, rfl, ho0, ho1, hb⟩
      refine ⟨_, rfl, ?_⟩
      have HO910 := mk0 (Rl (Rn (Rn ho0 (Rq (by (with_reducible repeat apply Kd.R_drewN); exact HO903.out))) (Rq (by (with_reducible repeat apply Kd.R_drewN); exact HO906.out))) (bZ (by repeat (first | exact HB.out | apply bN | apply b1 | apply bA | refine bS ?_ GE897.out))))
      have HO913 := mk0 (Rl (Rn (Rn ho1 (Rq (by (with_reducible repeat apply Kd.R_drewN); exact HO903.out))) (Rq (by (with_reducible repeat apply Kd.R_drewN); exact HO906.out))) (bZ (by repeat (first | exact HB.out | apply bN | apply b1 | apply bA | refine bS ?_ GE897.out))))
      replace HO903 := mk0 (Rm (Kd.R_told (Kd.R_told (Kd.R_old (by (with_reducible repeat apply Kd.R_drewN); exact HO903.out) hb) (Rs ho0)) (Rs ho1)) (fun _ h_ => h_.1))
      replace HO906 := mk0 (Rm (Kd.R_told (Kd.R_told (Kd.R_old (by (with_reducible repeat apply Kd.R_drewN); exact HO906.out) hb) (Rs ho0)) (Rs ho1)) (fun _ h_ => h_.1))
      replace BK897 := (by first | exact bkB BK897 hb | exact bkD BK897 hb)
      replace HB := mk0 (below_step (by repeat (first | exact HB.out | apply bN | apply b1 | apply bA | refine bS ?_ GE897.out)) hb)
      refine hK.out _ _ ⟨(blk_cell BK897.out 0).trans rfl, (blk_cell BK897.out 1).trans rfl, (blk_cell BK897.out 2).trans rfl⟩ (fun hHeld => ?_)
      clear hK K
      refine norm_ (a' := ?_) ?_ ?_
      rotate_left
      ·show Act.put _ (some 18) _ = _
       simp only [Act.put, sA, sZ, sS, i64_w, i32_w]
       rfl
      exact norm_ (by first | (simp only [putAll, Act.put, sA, sZ, sS]; done) | (simp only [putAll, Act.put, sA, sZ, sS]; rfl)) (hJ2_5_7_8 (.slice Ao16 t901.length co16, .slice Ao17 t904.length co17, v909, v912) _ ⟨hHeld, (by (with_reducible repeat apply Kd.R_drewN); exact Rm HO903.out (fun _ hk => ⟨hk.1.1, ⟨hk.1.2, hk.2⟩⟩)), (by (with_reducible repeat apply Kd.R_drewN); exact Rm HO906.out (fun _ hk => ⟨hk.1.1, ⟨hk.1.2, hk.2⟩⟩)), (by (with_reducible repeat apply Kd.R_drewN); exact Rm HO910.out (fun _ hk => ⟨hk.1.2, ⟨hk.2, hk.1.1⟩⟩)), (by (with_reducible repeat apply Kd.R_drewN); exact Rm HO913.out (fun _ hk => ⟨hk.1.2, ⟨hk.2, hk.1.1⟩⟩)), (by (with_reducible repeat refine blk_drewN ?_ _); exact BK897.out), (by repeat (first | exact HB.out | apply bN | apply b1 | apply bA | refine bS ?_ GE897.out))⟩)
     ·skip
      refine box_step ?hg (N := 9) ?hd (cs := #[.bool false, .slice none 0 0, .slice none 0 0]) (t := 29) ?hr ?_; (case hd => rfl); (case hg => rfl); (case hr => go_simp <;> rfl)
      intro gb914 hg w16 hbox hb
      replace HO903 := (by first | exact rB HO903 hb | exact rD HO903 hb)
      replace HO906 := (by first | exact rB HO906 hb | exact rD HO906 hb)
      have BK914 := mk0 (hbox)
      have GW914 := mk0 ((by rw [hg]; exact (bZ (by repeat (first | exact HB.out | apply bN | apply b1 | apply bA | refine bS ?_ GE897.out))) : w.heap.size ≤ gb914))
      have GE914 := mk0 ((by rw [hg]; exact (bZ (by repeat (first | exact HB.out | apply bN | apply b1 | apply bA | refine bS ?_ GE897.out))) : w.heap.size ≤ gb914))
      replace HB := mk0 (below_step (by repeat (first | exact HB.out | apply bN | apply b1 | apply bA | refine bS ?_ GE897.out)) hb)
      have NB897_914 := nbA hg BK897
      have NB914_897 := nbB hg BK897
      replace BK897 := (by first | exact bkB BK897 hb | exact bkD BK897 hb)
      clear hb hbox hg
      refine hK.out _ _ ⟨(blk_cell BK897.out 0).trans rfl, (blk_cell BK897.out 1).trans rfl, (blk_cell BK897.out 2).trans rfl⟩ (fun hHeld => ?_)
      clear hK K
      refine norm_ (a' := ?_) ?_ ?_
      rotate_left
      ·show Act.put _ (some 9) _ = _
       simp only [Act.put, sA, sZ, sS, i64_w, i32_w]
       rfl
      exact norm_ (by first | (simp only [putAll, Act.put, sA, sZ, sS]; done) | (simp only [putAll, Act.put, sA, sZ, sS]; rfl)) (hJ2_5_7_9 (_, _, gb914) _ ⟨hHeld, (by (with_reducible repeat apply Kd.R_drewN); exact HO903.out), (by (with_reducible repeat apply Kd.R_drewN); exact HO906.out), (by (with_reducible repeat refine blk_drewN ?_ _); exact BK897.out), (by (with_reducible repeat refine blk_drewN ?_ _); exact BK914.out), GW914.out, GE914.out, NB897_914.out, NB914_897.out, (by repeat (first | exact HB.out | apply bN | apply b1 | apply bA | refine bS ?_ GE897.out | refine bS ?_ GE914.out))⟩)
   ·skip
    rintro ⟨v902, v905, gb914⟩ w16 ⟨hS_, h0_, h1_, h2_, h3_, h4_, h5_, h6_, h7_, h8_⟩
    have HO903 : Aside0 (Kd.R (Kd.int .u32) 87 w16 w.heap.size (fun k_ => some k_ ≠ (v905 : Value).ownBlock) v902 t901) := ⟨h0_⟩
    have HO906 : Aside0 (Kd.R (Kd.int .u32) 87 w16 w.heap.size (fun k_ => some k_ ≠ (v902 : Value).ownBlock) v905 t904) := ⟨h1_⟩
    replace BK897 : Aside0 (w16.heap[gb897]? = some (.cells #[.bool a2_0, .slice A2_1 l2_1.length c2_1, .slice A2_2 l2_2.length c2_2] 29 (0, 0))) := ⟨h2_⟩
    have BK914 : Aside0 (w16.heap[gb914]? = some (.cells #[.bool false, .slice none 0 0, .slice none 0 0] 29 (0, 0))) := ⟨h3_⟩
    have GW914 : Aside0 (w.heap.size ≤ gb914) := ⟨h4_⟩
    have GE914 : Aside0 (w.heap.size ≤ gb914) := ⟨h5_⟩
    have NB897_914 : Aside0 (gb897 ≠ gb914) := ⟨h6_⟩
    have NB914_897 : Aside0 (gb914 ≠ gb897) := ⟨h7_⟩
    replace HB : Aside0 (Below w.heap.size w w16) := ⟨h8_⟩
    clear h0_ h1_ h2_ h3_ h4_ h5_ h6_ h7_ h8_
    have hHeld : w16.cell? ⟨gb897, 0, none⟩ = some (.bool a2_0) ∧ w16.cell? ⟨gb897, 1, none⟩ = some (.slice A2_1 l2_1.length c2_1) ∧ w16.cell? ⟨gb897, 2, none⟩ = some (.slice A2_2 l2_2.length c2_2) := hS_
    obtain ⟨Ao17, co17, eo17⟩ := Kd.R_slice HO903.out
    (first | subst eo17 | (injection eo17 with f1_ f2_ f3_; have f4_ := f1_.symm; have f5_ := f3_.symm; clear f1_ f2_ f3_; subst f4_; subst f5_))
    obtain ⟨Ao18, co18, eo18⟩ := Kd.R_slice HO906.out
    (first | subst eo18 | (injection eo18 with f1_ f2_ f3_; have f4_ := f1_.symm; have f5_ := f3_.symm; clear f1_ f2_ f3_; subst f4_; subst f5_))
    refine norm_ (a' := ?_) ?_ ?_
    rotate_left
    ·simp only [putAll, Act.put, sA, sZ, sS]
     rfl
    refine one_ (i := 8) (N := some 18) (bv 11 1023) rfl rfl (one_of HT_.out (by kernel_rfl)) (by decide) (fun K hK => ?_)
    refine goes_ Try.func32 (by kernel_rfl) rfl #[.agg #[.bool a2_0, .slice A2_1 l2_1.length c2_1, .slice A2_2 l2_2.length c2_2], .agg #[.bool t900, .slice Ao17 t901.length co17, .slice Ao18 t904.length co18]] (by rfl) rfl rfl (by go_simp <;> rfl) ?_
    with_reducible refine (examboardref03_Mul.calls k a2_0 _ _ l2_1 _ _ l2_2 t900 _ _ t901 _ _ t904 t907 t908 t911 _ ?side1 ?side2 ?side3 ?side4 ?side5 ?side6 ?side7 ?side8 A8.out).mono ?_
    (case side1 => repeat (first | exact (Cb HR2_1.out HB.out) | (with_reducible refine Kd.C_alloc ?_ _) | (with_reducible refine Kd.C_drewN ?_ _) | (with_reducible refine Kd.C_drew ?_)))
    (case side2 => exact HC2_1.out)
    (case side3 => repeat (first | exact (Cb HR2_2.out HB.out) | (with_reducible refine Kd.C_alloc ?_ _) | (with_reducible refine Kd.C_drewN ?_ _) | (with_reducible refine Kd.C_drew ?_)))
    (case side4 => exact HC2_2.out)
    (case side5 => repeat (first | exact (Kd.R_reads' HO903.out).2.2 | (with_reducible refine Kd.C_alloc ?_ _) | (with_reducible refine Kd.C_drewN ?_ _) | (with_reducible refine Kd.C_drew ?_)))
    (case side6 => exact (Kd.R_reads' HO903.out).2.1)
    (case side7 => repeat (first | exact (Kd.R_reads' HO906.out).2.2 | (with_reducible refine Kd.C_alloc ?_ _) | (with_reducible refine Kd.C_drewN ?_ _) | (with_reducible refine Kd.C_drew ?_)))
    (case side8 => exact (Kd.R_reads' HO906.out).2.1)
    rintro e w19 ⟨v909, v912, rfl, ho0, ho1, hb⟩
    refine ⟨_, rfl, ?_⟩
    have HO910 := mk0 (Rl (Rn (Rn ho0 (Rq (by (with_reducible repeat apply Kd.R_drewN); exact HO903.out))) (Rq (by (with_reducible repeat apply Kd.R_drewN); exact HO906.out))) (bZ (by repeat (first | exact HB.out | apply bN | apply b1 | apply bA | refine bS ?_ GE897.out | refine bS ?_ GE914.out))))
    have HO913 := mk0 (Rl (Rn (Rn ho1 (Rq (by (with_reducible repeat apply Kd.R_drewN); exact HO903.out))) (Rq (by (with_reducible repeat apply Kd.R_drewN); exact HO906.out))) (bZ (by repeat (first | exact HB.out | apply bN | apply b1 | apply bA | refine bS ?_ GE897.out | refine bS ?_ GE914.out))))
    replace HO903 := mk0 (Rm (Kd.R_told (Kd.R_told (Kd.R_old (by (with_reducible repeat apply Kd.R_drewN); exact HO903.out) hb) (Rs ho0)) (Rs ho1)) (fun _ h_ => h_.1))
    replace HO906 := mk0 (Rm (Kd.R_told (Kd.R_told (Kd.R_old (by (with_reducible repeat apply Kd.R_drewN); exact HO906.out) hb) (Rs ho0)) (Rs ho1)) (fun _ h_ => h_.1))
    replace BK897 := (by first | exact bkB BK897 hb | exact bkD BK897 hb)
    replace BK914 := (by first | exact bkB BK914 hb | exact bkD BK914 hb)
    replace HB := mk0 (below_step (by repeat (first | exact HB.out | apply bN | apply b1 | apply bA | refine bS ?_ GE897.out | refine bS ?_ GE914.out)) hb)
    refine hK.out _ _ ⟨(blk_cell BK897.out 0).trans rfl, (blk_cell BK897.out 1).trans rfl, (blk_cell BK897.out 2).trans rfl⟩ (fun hHeld => ?_)
    clear hK K
    refine norm_ (a' := ?_) ?_ ?_
    rotate_left
    ·show Act.put _ (some 18) _ = _
     simp only [Act.put, sA, sZ, sS, i64_w, i32_w]
     rfl
    exact norm_ (by first | (simp only [putAll, Act.put, sA, sZ, sS]; done) | (simp only [putAll, Act.put, sA, sZ, sS]; rfl)) (hJ2_5_7_8_9 (.slice Ao17 t901.length co17, .slice Ao18 t904.length co18, v909, v912, gb914) _ ⟨hHeld, (by (with_reducible repeat apply Kd.R_drewN); exact Rm HO903.out (fun _ hk => ⟨hk.1.1, ⟨hk.1.2, hk.2⟩⟩)), (by (with_reducible repeat apply Kd.R_drewN); exact Rm HO906.out (fun _ hk => ⟨hk.1.1, ⟨hk.1.2, hk.2⟩⟩)), (by (with_reducible repeat apply Kd.R_drewN); exact Rm HO910.out (fun _ hk => ⟨hk.1.2, ⟨hk.2, hk.1.1⟩⟩)), (by (with_reducible repeat apply Kd.R_drewN); exact Rm HO913.out (fun _ hk => ⟨hk.1.2, ⟨hk.2, hk.1.1⟩⟩)), (by (with_reducible repeat refine blk_drewN ?_ _); exact BK897.out), (by (with_reducible repeat refine blk_drewN ?_ _); exact BK914.out), GW914.out, GE914.out, NB897_914.out, NB914_897.out, (by repeat (first | exact HB.out | apply bN | apply b1 | apply bA | refine bS ?_ GE897.out | refine bS ?_ GE914.out))⟩)
  ·skip
   rintro ⟨v902, v905, v909, v912⟩ w18 ⟨hS_, h0_, h1_, h2_, h3_, h4_, h5_⟩
   have HO903 : Aside0 (Kd.R (Kd.int .u32) 87 w18 w.heap.size (fun k_ => some k_ ≠ (v905 : Value).ownBlock ∧ some k_ ≠ (v909 : Value).ownBlock ∧ some k_ ≠ (v912 : Value).ownBlock) v902 t901) := ⟨h0_⟩
   have HO906 : Aside0 (Kd.R (Kd.int .u32) 87 w18 w.heap.size (fun k_ => some k_ ≠ (v902 : Value).ownBlock ∧ some k_ ≠ (v909 : Value).ownBlock ∧ some k_ ≠ (v912 : Value).ownBlock) v905 t904) := ⟨h1_⟩
   have HO910 : Aside0 (Kd.R (Kd.int .u32) 87 w18 w.heap.size (fun k_ => some k_ ≠ (v902 : Value).ownBlock ∧ some k_ ≠ (v905 : Value).ownBlock ∧ some k_ ≠ (v912 : Value).ownBlock) v909 t908) := ⟨h2_⟩
   have HO913 : Aside0 (Kd.R (Kd.int .u32) 87 w18 w.heap.size (fun k_ => some k_ ≠ (v902 : Value).ownBlock ∧ some k_ ≠ (v905 : Value).ownBlock ∧ some k_ ≠ (v909 : Value).ownBlock) v912 t911) := ⟨h3_⟩
   replace BK897 : Aside0 (w18.heap[gb897]? = some (.cells #[.bool a2_0, .slice A2_1 l2_1.length c2_1, .slice A2_2 l2_2.length c2_2] 29 (0, 0))) := ⟨h4_⟩
   replace HB : Aside0 (Below w.heap.size w w18) := ⟨h5_⟩
   clear h0_ h1_ h2_ h3_ h4_ h5_
   have hHeld : w18.cell? ⟨gb897, 0, none⟩ = some (.bool a2_0) ∧ w18.cell? ⟨gb897, 1, none⟩ = some (.slice A2_1 l2_1.length c2_1) ∧ w18.cell? ⟨gb897, 2, none⟩ = some (.slice A2_2 l2_2.length c2_2) := hS_
   refine norm_ (a' := ?_) ?_ ?_
   rotate_left
   ·simp only [putAll, Act.put, sA, sZ, sS]
    rfl
   refine one_ (i := 9) (N := some 9) (bv 11 1023) rfl rfl (one_of HT_.out (by kernel_rfl)) (by decide) (fun K hK => ?_)
   refine box_step ?hg (N := 9) ?hd (cs := #[.bool false, .slice none 0 0, .slice none 0 0]) (t := 29) ?hr ?_; (case hd => rfl); (case hg => rfl); (case hr => go_simp <;> rfl)
   intro gb914 hg w19 hbox hb
   replace HO903 := (by first | exact rB HO903 hb | exact rD HO903 hb)
   replace HO906 := (by first | exact rB HO906 hb | exact rD HO906 hb)
   replace HO910 := (by first | exact rB HO910 hb | exact rD HO910 hb)
   replace HO913 := (by first | exact rB HO913 hb | exact rD HO913 hb)
   have BK914 := mk0 (hbox)
   have GW914 := mk0 ((by rw [hg]; exact (bZ (by repeat (first | exact HB.out | apply bN | apply b1 | apply bA | refine bS ?_ GE897.out))) : w.heap.size ≤ gb914))
   have GE914 := mk0 ((by rw [hg]; exact (bZ (by repeat (first | exact HB.out | apply bN | apply b1 | apply bA | refine bS ?_ GE897.out))) : w.heap.size ≤ gb914))
   replace HB := mk0 (below_step (by repeat (first | exact HB.out | apply bN | apply b1 | apply bA | refine bS ?_ GE897.out)) hb)
   have NB897_914 := nbA hg BK897
   have NB914_897 := nbB hg BK897
   replace BK897 := (by first | exact bkB BK897 hb | exact bkD BK897 hb)
   clear hb hbox hg
   refine hK.out _ _ ⟨(blk_cell BK897.out 0).trans rfl, (blk_cell BK897.out 1).trans rfl, (blk_cell BK897.out 2).trans rfl⟩ (fun hHeld => ?_)
   clear hK K
   refine norm_ (a' := ?_) ?_ ?_
   rotate_left
   ·show Act.put _ (some 9) _ = _
    simp only [Act.put, sA, sZ, sS, i64_w, i32_w]
    rfl
   exact norm_ (by first | (simp only [putAll, Act.put, sA, sZ, sS]; done) | (simp only [putAll, Act.put, sA, sZ, sS]; rfl)) (hJ2_5_7_8_9 (v902, v905, v909, v912, gb914) _ ⟨hHeld, (by (with_reducible repeat apply Kd.R_drewN); exact HO903.out), (by (with_reducible repeat apply Kd.R_drewN); exact HO906.out), (by (with_reducible repeat apply Kd.R_drewN); exact HO910.out), (by (with_reducible repeat apply Kd.R_drewN); exact HO913.out), (by (with_reducible repeat refine blk_drewN ?_ _); exact BK897.out), (by (with_reducible repeat refine blk_drewN ?_ _); exact BK914.out), GW914.out, GE914.out, NB897_914.out, NB914_897.out, (by repeat (first | exact HB.out | apply bN | apply b1 | apply bA | refine bS ?_ GE897.out | refine bS ?_ GE914.out))⟩)
 rintro ⟨v902, v905, v909, v912, gb914⟩ w19 ⟨hS_, h0_, h1_, h2_, h3_, h4_, h5_, h6_, h7_, h8_, h9_, h10_⟩
 have HO903 : Aside0 (Kd.R (Kd.int .u32) 87 w19 w.heap.size (fun k_ => some k_ ≠ (v905 : Value).ownBlock ∧ some k_ ≠ (v909 : Value).ownBlock ∧ some k_ ≠ (v912 : Value).ownBlock) v902 t901) := ⟨h0_⟩
 have HO906 : Aside0 (Kd.R (Kd.int .u32) 87 w19 w.heap.size (fun k_ => some k_ ≠ (v902 : Value).ownBlock ∧ some k_ ≠ (v909 : Value).ownBlock ∧ some k_ ≠ (v912 : Value).ownBlock) v905 t904) := ⟨h1_⟩
 have HO910 : Aside0 (Kd.R (Kd.int .u32) 87 w19 w.heap.size (fun k_ => some k_ ≠ (v902 : Value).ownBlock ∧ some k_ ≠ (v905 : Value).ownBlock ∧ some k_ ≠ (v912 : Value).ownBlock) v909 t908) := ⟨h2_⟩
 have HO913 : Aside0 (Kd.R (Kd.int .u32) 87 w19 w.heap.size (fun k_ => some k_ ≠ (v902 : Value).ownBlock ∧ some k_ ≠ (v905 : Value).ownBlock ∧ some k_ ≠ (v909 : Value).ownBlock) v912 t911) := ⟨h3_⟩
 replace BK897 : Aside0 (w19.heap[gb897]? = some (.cells #[.bool a2_0, .slice A2_1 l2_1.length c2_1, .slice A2_2 l2_2.length c2_2] 29 (0, 0))) := ⟨h4_⟩
 have BK914 : Aside0 (w19.heap[gb914]? = some (.cells #[.bool false, .slice none 0 0, .slice none 0 0] 29 (0, 0))) := ⟨h5_⟩
 have GW914 : Aside0 (w.heap.size ≤ gb914) := ⟨h6_⟩
 have GE914 : Aside0 (w.heap.size ≤ gb914) := ⟨h7_⟩
 have NB897_914 : Aside0 (gb897 ≠ gb914) := ⟨h8_⟩
 have NB914_897 : Aside0 (gb914 ≠ gb897) := ⟨h9_⟩
 replace HB : Aside0 (Below w.heap.size w w19) := ⟨h10_⟩
 clear h0_ h1_ h2_ h3_ h4_ h5_ h6_ h7_ h8_ h9_ h10_
 have hHeld : w19.cell? ⟨gb897, 0, none⟩ = some (.bool a2_0) ∧ w19.cell? ⟨gb897, 1, none⟩ = some (.slice A2_1 l2_1.length c2_1) ∧ w19.cell? ⟨gb897, 2, none⟩ = some (.slice A2_2 l2_2.length c2_2) := hS_
 obtain ⟨Ao21, co21, eo21⟩ := Kd.R_slice HO910.out
 (first | subst eo21 | (injection eo21 with f1_ f2_ f3_; have f4_ := f1_.symm; have f5_ := f3_.symm; clear f1_ f2_ f3_; subst f4_; subst f5_))
 obtain ⟨Ao23, co23, eo23⟩ := Kd.R_slice HO913.out
 (first | subst eo23 | (injection eo23 with f1_ f2_ f3_; have f4_ := f1_.symm; have f5_ := f3_.symm; clear f1_ f2_ f3_; subst f4_; subst f5_))
 refine norm_ (a' := ?_) ?_ ?_
 rotate_left
 ·simp only [putAll, Act.put, sA, sZ, sS]
  rfl
 refine one_ (i := 10) (N := none) (bv 11 2047) rfl rfl (one_of HT_.out (by kernel_rfl)) (by decide) (fun K hK => ?_)
 have hs20 : w19.cell? ⟨gb914, 0, none⟩ = some (.bool false) := (blk_cell BK914.out 0).trans rfl
 have hfs20 := blk_frozen BK914.out 0
 have hns20_0 := NB897_914.out
 have hms20_0 := NB914_897.out
 have hs22 : w19.cell? ⟨gb914, 1, none⟩ = some (.slice none 0 0) := (blk_cell BK914.out 1).trans rfl
 have hfs22 := blk_frozen BK914.out 1
 have hns22_0 := NB897_914.out
 have hms22_0 := NB914_897.out
 have hs24 : w19.cell? ⟨gb914, 2, none⟩ = some (.slice none 0 0) := (blk_cell BK914.out 2).trans rfl
 have hfs24 := blk_frozen BK914.out 2
 have hns24_0 := NB897_914.out
 have hms24_0 := NB914_897.out
 refine skip_ (w1 := ?_) (by rfl) rfl ?_ ?_
 rotate_left
 ·go_simp
  rfl
 refine hK.out _ _ ⟨((cell_far (p := ⟨gb914, _, none⟩) NB897_914.out _).trans (((cell_far (p := ⟨gb914, _, none⟩) NB897_914.out _).trans (((cell_far (p := ⟨gb914, _, none⟩) NB897_914.out _).trans (hHeld.1)))))), ((cell_far (p := ⟨gb914, _, none⟩) NB897_914.out _).trans (((cell_far (p := ⟨gb914, _, none⟩) NB897_914.out _).trans (((cell_far (p := ⟨gb914, _, none⟩) NB897_914.out _).trans (hHeld.2.1)))))), ((cell_far (p := ⟨gb914, _, none⟩) NB897_914.out _).trans (((cell_far (p := ⟨gb914, _, none⟩) NB897_914.out _).trans (((cell_far (p := ⟨gb914, _, none⟩) NB897_914.out _).trans (hHeld.2.2))))))⟩ (fun hHeld => ?_)
 clear hK K
 refine done_ (done_of HT_.out (by kernel_rfl)) ?_
 try go_wp2
 have n0_ : Aside0 (Kd.R (Kd.int .u32) 87 (((w19.setCell ⟨gb914, 0, none⟩ (.bool t907)).setCell ⟨gb914, 1, none⟩ (.slice Ao21 t908.length co21)).setCell ⟨gb914, 2, none⟩ (.slice Ao23 t911.length co23)) w.heap.size (fun k_ => some k_ ≠ (v905 : Value).ownBlock ∧ some k_ ≠ (.slice Ao21 t908.length co21 : Value).ownBlock ∧ some k_ ≠ (.slice Ao23 t911.length co23 : Value).ownBlock) v902 t901) := ⟨by (with_reducible repeat apply Kd.R_drewN); exact Rm (Rf (p := ⟨gb914, 2, none⟩) (Rf (p := ⟨gb914, 1, none⟩) (Rf (p := ⟨gb914, 0, none⟩) (Rt HO903.out BK914.out (by decide)) (fun _ hk => hk.2) (.bool t907)) (fun _ hk => hk.2) (.slice Ao21 t908.length co21)) (fun _ hk => hk.2) (.slice Ao23 t911.length co23)) (fun _ hk => ⟨hk.1.1, ⟨hk.1.2.1, hk.1.2.2⟩⟩)⟩
 have n1_ : Aside0 (Kd.R (Kd.int .u32) 87 (((w19.setCell ⟨gb914, 0, none⟩ (.bool t907)).setCell ⟨gb914, 1, none⟩ (.slice Ao21 t908.length co21)).setCell ⟨gb914, 2, none⟩ (.slice Ao23 t911.length co23)) w.heap.size (fun k_ => some k_ ≠ (v902 : Value).ownBlock ∧ some k_ ≠ (.slice Ao21 t908.length co21 : Value).ownBlock ∧ some k_ ≠ (.slice Ao23 t911.length co23 : Value).ownBlock) v905 t904) := ⟨by (with_reducible repeat apply Kd.R_drewN); exact Rm (Rf (p := ⟨gb914, 2, none⟩) (Rf (p := ⟨gb914, 1, none⟩) (Rf (p := ⟨gb914, 0, none⟩) (Rt HO906.out BK914.out (by decide)) (fun _ hk => hk.2) (.bool t907)) (fun _ hk => hk.2) (.slice Ao21 t908.length co21)) (fun _ hk => hk.2) (.slice Ao23 t911.length co23)) (fun _ hk => ⟨hk.1.1, ⟨hk.1.2.1, hk.1.2.2⟩⟩)⟩
 have n2_ : Aside0 (Kd.R (Kd.int .u32) 87 (((w19.setCell ⟨gb914, 0, none⟩ (.bool t907)).setCell ⟨gb914, 1, none⟩ (.slice Ao21 t908.length co21)).setCell ⟨gb914, 2, none⟩ (.slice Ao23 t911.length co23)) w.heap.size (fun k_ => some k_ ≠ (v902 : Value).ownBlock ∧ some k_ ≠ (v905 : Value).ownBlock ∧ some k_ ≠ (.slice Ao23 t911.length co23 : Value).ownBlock) (.slice Ao21 t908.length co21) t908) := ⟨by (with_reducible repeat apply Kd.R_drewN); exact Rm (Rf (p := ⟨gb914, 2, none⟩) (Rf (p := ⟨gb914, 1, none⟩) (Rf (p := ⟨gb914, 0, none⟩) (Rt HO910.out BK914.out (by decide)) (fun _ hk => hk.2) (.bool t907)) (fun _ hk => hk.2) (.slice Ao21 t908.length co21)) (fun _ hk => hk.2) (.slice Ao23 t911.length co23)) (fun _ hk => ⟨hk.1.1, ⟨hk.1.2.1, hk.1.2.2⟩⟩)⟩
 have n3_ : Aside0 (Kd.R (Kd.int .u32) 87 (((w19.setCell ⟨gb914, 0, none⟩ (.bool t907)).setCell ⟨gb914, 1, none⟩ (.slice Ao21 t908.length co21)).setCell ⟨gb914, 2, none⟩ (.slice Ao23 t911.length co23)) w.heap.size (fun k_ => some k_ ≠ (v902 : Value).ownBlock ∧ some k_ ≠ (v905 : Value).ownBlock ∧ some k_ ≠ (.slice Ao21 t908.length co21 : Value).ownBlock) (.slice Ao23 t911.length co23) t911) := ⟨by (with_reducible repeat apply Kd.R_drewN); exact Rm (Rf (p := ⟨gb914, 2, none⟩) (Rf (p := ⟨gb914, 1, none⟩) (Rf (p := ⟨gb914, 0, none⟩) (Rt HO913.out BK914.out (by decide)) (fun _ hk => hk.2) (.bool t907)) (fun _ hk => hk.2) (.slice Ao21 t908.length co21)) (fun _ hk => hk.2) (.slice Ao23 t911.length co23)) (fun _ hk => ⟨hk.1.1, ⟨hk.1.2.1, hk.1.2.2⟩⟩)⟩
 have n4_ : Aside0 ((((w19.setCell ⟨gb914, 0, none⟩ (.bool t907)).setCell ⟨gb914, 1, none⟩ (.slice Ao21 t908.length co21)).setCell ⟨gb914, 2, none⟩ (.slice Ao23 t911.length co23)).heap[gb897]? = some (.cells #[.bool a2_0, .slice A2_1 l2_1.length c2_1, .slice A2_2 l2_2.length c2_2] 29 (0, 0))) := ⟨by (with_reducible repeat refine blk_drewN ?_ _); refine blk_far ?_ NB897_914.out _; (with_reducible repeat refine blk_drewN ?_ _); refine blk_far ?_ NB897_914.out _; (with_reducible repeat refine blk_drewN ?_ _); refine blk_far ?_ NB897_914.out _; (with_reducible repeat refine blk_drewN ?_ _); exact BK897.out⟩
 have n5_ : Aside0 ((((w19.setCell ⟨gb914, 0, none⟩ (.bool t907)).setCell ⟨gb914, 1, none⟩ (.slice Ao21 t908.length co21)).setCell ⟨gb914, 2, none⟩ (.slice Ao23 t911.length co23)).heap[gb914]? = some (.cells #[.bool t907, .slice Ao21 t908.length co21, .slice Ao23 t911.length co23] 29 (0, 0))) := ⟨by (with_reducible repeat refine blk_drewN ?_ _); refine blk_put (cs := #[.bool t907, .slice Ao21 t908.length co21, .slice none 0 0]) ?_ 2 _ rfl; (with_reducible repeat refine blk_drewN ?_ _); refine blk_put (cs := #[.bool t907, .slice none 0 0, .slice none 0 0]) ?_ 1 _ rfl; (with_reducible repeat refine blk_drewN ?_ _); refine blk_put (cs := #[.bool false, .slice none 0 0, .slice none 0 0]) ?_ 0 _ rfl; (with_reducible repeat refine blk_drewN ?_ _); exact BK914.out⟩
 have n6_ : Aside0 (Below w.heap.size w (((w19.setCell ⟨gb914, 0, none⟩ (.bool t907)).setCell ⟨gb914, 1, none⟩ (.slice Ao21 t908.length co21)).setCell ⟨gb914, 2, none⟩ (.slice Ao23 t911.length co23))) := ⟨by repeat (first | exact HB.out | apply bN | apply b1 | apply bA | refine bS ?_ GE897.out | refine bS ?_ GE914.out)⟩
 (try clear HO903)
 (try clear HO906)
 (try clear HO910)
 (try clear HO913)
 (try clear BK897)
 (try clear BK914)
 (try clear HB)
 generalize (((w19.setCell ⟨gb914, 0, none⟩ (.bool t907)).setCell ⟨gb914, 1, none⟩ (.slice Ao21 t908.length co21)).setCell ⟨gb914, 2, none⟩ (.slice Ao23 t911.length co23)) = w25 at n0_ n1_ n2_ n3_ n4_ n5_ n6_ ⊢
 have HO903 := n0_
 have HO906 := n1_
 have HO910 := n2_
 have HO913 := n3_
 have BK897 := n4_
 have BK914 := n5_
 have HB := n6_
 clear n0_ n1_ n2_ n3_ n4_ n5_ n6_
 replace HO903 := mk0 (Kd.R_drew HO903.out)
 replace HO906 := mk0 (Kd.R_drew HO906.out)
 replace HO910 := mk0 (Kd.R_drew HO910.out)
 replace HO913 := mk0 (Kd.R_drew HO913.out)
 replace BK897 := mk0 (blk_drew BK897.out)
 replace BK914 := mk0 (blk_drew BK914.out)
 replace HB := mk0 (b1 HB.out)
 refine start_ (n := 8) (S := fun w' => w'.cell? ⟨gb914, 0, none⟩ = some (.bool t907) ∧ w'.cell? ⟨gb914, 1, none⟩ = some (.slice Ao21 t908.length co21) ∧ w'.cell? ⟨gb914, 2, none⟩ = some (.slice Ao23 t911.length co23)) (ds := []) (bv 8 0) (by kernel_rfl) rfl rfl ⟨(blk_cell BK914.out 0).trans rfl, (blk_cell BK914.out 1).trans rfl, (blk_cell BK914.out 2).trans rfl⟩ (fun hHeld => ?_); refine with_tabW examboardref37_Eligible.tab2 examboardref37_Eligible.bits2 (fun HT_ HW_ => ?_)
 generalize w25.drew = w26 at HO903 HO906 HO910 HO913 BK897 BK914 HB hHeld ⊢
 refine puA (i := 0) (N := 19) (v := ?_) (a' := ?_) (bv 8 1) HT_ ?_ ?_ ?_; rotate_left; (intro w'; go_simp; with_reducible rfl); rotate_left; (simp only [Act.put, sA, sZ, sS, i64_w, i32_w]; rfl)
 refine take_ (i := 4) (N := some 23) (v := ?_) (a' := ?_) (bv 8 17) rfl rfl (take_ofW HT_.out HW_.out (by kernel_rfl)) (fun _ _ _ h => h) (Or.inl ⟨by rfl, ?_⟩) hHeld ?_ ?_; rotate_left; (rintro w' ⟨s0, s1, s2⟩; go_simp; with_reducible rfl); rotate_left; (simp only [Act.put, sA, sZ, sS, i64_w, i32_w]; rfl)
 refine one_ (i := 1) (N := some 20) (bv 8 19) rfl rfl (one_of HT_.out (by kernel_rfl)) (by decide) (fun K hK => ?_)
 refine goes_ Try.func34 (by kernel_rfl) rfl #[.int .i64 a0] (by rfl) rfl rfl (by go_simp <;> rfl) ?_
 with_reducible refine (examboardref37_limited.calls a0 t915 _ A9.out).mono ?_
 rintro e w' ⟨rfl, ⟨nd, rfl⟩⟩
 refine ⟨_, rfl, ?_⟩
 refine hK.out _ _ ⟨(blk_cell BK914.out 0).trans rfl, (blk_cell BK914.out 1).trans rfl, (blk_cell BK914.out 2).trans rfl⟩ (fun hHeld => ?_)
 clear hK K
 refine norm_ (a' := ?_) ?_ ?_
 rotate_left
 ·show Act.put _ (some 20) _ = _
  simp only [Act.put, sA, sZ, sS, i64_w, i32_w]
  rfl
 refine puA (i := 2) (N := 21) (v := ?_) (a' := ?_) (bv 8 23) HT_ ?_ ?_ ?_; rotate_left; (intro w'; go_simp; with_reducible rfl); rotate_left; (simp only [Act.put, sA, sZ, sS, i64_w, i32_w]; rfl)
 refine one_ (i := 3) (N := some 22) (bv 8 31) rfl rfl (one_of HT_.out (by kernel_rfl)) (by decide) (fun K hK => ?_)
 refine goes_ Try.func33 (by kernel_rfl) rfl #[.int .i64 (wrap64 (t915 + 1))] (by rfl) rfl rfl (by go_simp <;> rfl) ?_
 with_reducible refine (examboardref37_whole.calls k (wrap64 (t915 + 1)) t916 t917 t920 _ A10.out).mono ?_
 rintro e w27 ⟨v918, v921, rfl, ho0, ho1, hb⟩
 refine ⟨_, rfl, ?_⟩
 have HO919 := mk0 (Rl (Rn (Rn (Rn (Rn ho0 (Rq (by (with_reducible repeat apply Kd.R_drewN); exact HO903.out))) (Rq (by (with_reducible repeat apply Kd.R_drewN); exact HO906.out))) (Rq (by (with_reducible repeat apply Kd.R_drewN); exact HO910.out))) (Rq (by (with_reducible repeat apply Kd.R_drewN); exact HO913.out))) (bZ (by repeat (first | exact HB.out | apply bN | apply b1 | apply bA | refine bS ?_ GE897.out | refine bS ?_ GE914.out))))
 have HO922 := mk0 (Rl (Rn (Rn (Rn (Rn ho1 (Rq (by (with_reducible repeat apply Kd.R_drewN); exact HO903.out))) (Rq (by (with_reducible repeat apply Kd.R_drewN); exact HO906.out))) (Rq (by (with_reducible repeat apply Kd.R_drewN); exact HO910.out))) (Rq (by (with_reducible repeat apply Kd.R_drewN); exact HO913.out))) (bZ (by repeat (first | exact HB.out | apply bN | apply b1 | apply bA | refine bS ?_ GE897.out | refine bS ?_ GE914.out))))
 replace HO903 := mk0 (Rm (Kd.R_told (Kd.R_told (Kd.R_old (by (with_reducible repeat apply Kd.R_drewN); exact HO903.out) hb) (Rs ho0)) (Rs ho1)) (fun _ h_ => h_.1))
 replace HO906 := mk0 (Rm (Kd.R_told (Kd.R_told (Kd.R_old (by (with_reducible repeat apply Kd.R_drewN); exact HO906.out) hb) (Rs ho0)) (Rs ho1)) (fun _ h_ => h_.1))
 replace HO910 := mk0 (Rm (Kd.R_told (Kd.R_told (Kd.R_old (by (with_reducible repeat apply Kd.R_drewN); exact HO910.out) hb) (Rs ho0)) (Rs ho1)) (fun _ h_ => h_.1))
 replace HO913 := mk0 (Rm (Kd.R_told (Kd.R_told (Kd.R_old (by (with_reducible repeat apply Kd.R_drewN); exact HO913.out) hb) (Rs ho0)) (Rs ho1)) (fun _ h_ => h_.1))
 replace BK897 := (by first | exact bkB BK897 hb | exact bkD BK897 hb)
 replace BK914 := (by first | exact bkB BK914 hb | exact bkD BK914 hb)
 replace HB := mk0 (below_step (by repeat (first | exact HB.out | apply bN | apply b1 | apply bA | refine bS ?_ GE897.out | refine bS ?_ GE914.out)) hb)
 obtain ⟨Ao28, co28, eo28⟩ := Kd.R_slice HO919.out
 (first | subst eo28 | (injection eo28 with f1_ f2_ f3_; have f4_ := f1_.symm; have f5_ := f3_.symm; clear f1_ f2_ f3_; subst f4_; subst f5_))
 obtain ⟨Ao29, co29, eo29⟩ := Kd.R_slice HO922.out
 (first | subst eo29 | (injection eo29 with f1_ f2_ f3_; have f4_ := f1_.symm; have f5_ := f3_.symm; clear f1_ f2_ f3_; subst f4_; subst f5_))
 refine hK.out _ _ ⟨(blk_cell BK914.out 0).trans rfl, (blk_cell BK914.out 1).trans rfl, (blk_cell BK914.out 2).trans rfl⟩ (fun hHeld => ?_)
 clear hK K
 refine norm_ (a' := ?_) ?_ ?_
 rotate_left
 ·show Act.put _ (some 22) _ = _
  simp only [Act.put, sA, sZ, sS, i64_w, i32_w]
  rfl
 refine one_ (i := 5) (N := some 24) (bv 8 63) rfl rfl (one_of HT_.out (by kernel_rfl)) (by decide) (fun K hK => ?_)
 refine goes_ Try.func35 (by kernel_rfl) rfl #[.agg #[.bool t916, .slice Ao28 t917.length co28, .slice Ao29 t920.length co29], .agg #[.bool t907, .slice Ao21 t908.length co21, .slice Ao23 t911.length co23]] (by rfl) rfl rfl (by go_simp <;> rfl) ?_
 with_reducible refine (examboardref03_Cmp.calls k t916 _ _ t917 _ _ t920 t907 _ _ t908 _ _ t911 t923 _ ?side1 ?side2 ?side3 ?side4 ?side5 ?side6 ?side7 ?side8 A11.out).mono ?_
 (case side1 => repeat (first | exact (Kd.R_reads' HO919.out).2.2 | (with_reducible refine Kd.C_alloc ?_ _) | (with_reducible refine Kd.C_drewN ?_ _) | (with_reducible refine Kd.C_drew ?_)))
 (case side2 => exact (Kd.R_reads' HO919.out).2.1)
 (case side3 => repeat (first | exact (Kd.R_reads' HO922.out).2.2 | (with_reducible refine Kd.C_alloc ?_ _) | (with_reducible refine Kd.C_drewN ?_ _) | (with_reducible refine Kd.C_drew ?_)))
 (case side4 => exact (Kd.R_reads' HO922.out).2.1)
 (case side5 => repeat (first | exact (Kd.R_reads' HO910.out).2.2 | (with_reducible refine Kd.C_alloc ?_ _) | (with_reducible refine Kd.C_drewN ?_ _) | (with_reducible refine Kd.C_drew ?_)))
 (case side6 => exact (Kd.R_reads' HO910.out).2.1)
 (case side7 => repeat (first | exact (Kd.R_reads' HO913.out).2.2 | (with_reducible refine Kd.C_alloc ?_ _) | (with_reducible refine Kd.C_drewN ?_ _) | (with_reducible refine Kd.C_drew ?_)))
 (case side8 => exact (Kd.R_reads' HO913.out).2.1)
 rintro e w30 ⟨rfl, hb⟩
 refine ⟨_, rfl, ?_⟩
 replace HO903 := (by first | exact rB HO903 hb | exact rD HO903 hb)
 replace HO906 := (by first | exact rB HO906 hb | exact rD HO906 hb)
 replace HO910 := (by first | exact rB HO910 hb | exact rD HO910 hb)
 replace HO913 := (by first | exact rB HO913 hb | exact rD HO913 hb)
 replace HO919 := (by first | exact rB HO919 hb | exact rD HO919 hb)
 replace HO922 := (by first | exact rB HO922 hb | exact rD HO922 hb)
 replace BK897 := (by first | exact bkB BK897 hb | exact bkD BK897 hb)
 replace BK914 := (by first | exact bkB BK914 hb | exact bkD BK914 hb)
 replace HB := mk0 (below_step (by repeat (first | exact HB.out | apply bN | apply b1 | apply bA | refine bS ?_ GE897.out | refine bS ?_ GE914.out)) hb)
 refine hK.out _ _ ⟨(blk_cell BK914.out 0).trans rfl, (blk_cell BK914.out 1).trans rfl, (blk_cell BK914.out 2).trans rfl⟩ (fun hHeld => ?_)
 clear hK K
 refine norm_ (a' := ?_) ?_ ?_
 rotate_left
 ·show Act.put _ (some 24) _ = _
  simp only [Act.put, sA, sZ, sS, i64_w, i32_w]
  rfl
 refine puA (i := 6) (N := 25) (v := ?_) (a' := ?_) (bv 8 127) HT_ ?_ ?_ ?_; rotate_left; (intro w'; go_simp; with_reducible rfl); rotate_left; (simp only [Act.put, sA, sZ, sS, i64_w, i32_w]; rfl)
 refine puA (i := 7) (N := 8) (v := ?_) (a' := ?_) (bv 8 255) HT_ ?_ ?_ ?_; rotate_left; (intro w'; go_simp; with_reducible rfl); rotate_left; (simp only [Act.put, sA, sZ, sS, i64_w, i32_w]; rfl)
 refine done_ (done_of HT_.out (by kernel_rfl)) ?_
 try go_wp2
 go_ret
 exact ⟨by first | rfl | (simp [errW_none, errW_some] <;> rfl) | (simp [*, errW_none, errW_some] <;> rfl), by repeat (first | exact HB.out | apply bN | apply b1 | apply bA | refine bS ?_ GE897.out | refine bS ?_ GE914.out)⟩
def exposure_Count.l0 : Nat → Int → Int → List (S50) → Int → Int → Option (Int)
 | 0, _, _, _, _, _ => none
 | k + 1, x1, x5, x8, x9, x10 => if x10 < x9 then (if 0 ≤ x10 then (if x10 < (x8.length : Int) then (if ((rd_T50 x8 x10).f0) = x1 then ((exposure_bounded.f ((rd_T50 x8 x10).f1)).bind fun t960 => ((exposure_bounded.f (wrap64 (x5 + t960))).bind fun t961 => (exposure_Count.l0 k x1 t961 x8 x9 (wrap64 (x10 + 1))))) else (exposure_Count.l0 k x1 x5 x8 x9 (wrap64 (x10 + 1)))) else (none)) else (none)) else (some x5)
def exposure_Count.f (k : Nat) (l0 : List (S50)) (a1 : Int) : Option (Int) := exposure_Count.l0 k a1 0 l0 (l0.length : Int) 0
def exposure_Rate.f (k : Nat) (l0 : List (S50)) (a1 : Int) (a2 : Int) : Option (Bool × List Int × List Int × Int) := if a2 < 1 then ((exposure_fraction.f k 0 1).bind fun bt963 => (some (bt963.1, bt963.2.1, bt963.2.2, 20))) else ((exposure_Count.f k l0 a1).bind fun t970 => ((exposure_bounded.f a2).bind fun t971 => ((exposure_fraction.f k t970 t971).bind fun bt972 => (some (bt972.1, bt972.2.1, bt972.2.2, 0)))))
def examboardref37_Count.l0 : Nat → List (S50) → Int → Int → Int → Option (Int)
 | 0, _, _, _, _ => none
 | k + 1, x0, x1, x5, x6 => if x6 < (x0.length : Int) then (if 0 ≤ x6 then (if ((rd_T50 x0 x6).f0) = x1 then ((examboardref37_limited.f ((rd_T50 x0 x6).f1)).bind fun t981 => ((examboardref37_limited.f (wrap64 (x5 + t981))).bind fun t982 => (examboardref37_Count.l0 k x0 x1 t982 (wrap64 (x6 + 1))))) else (examboardref37_Count.l0 k x0 x1 x5 (wrap64 (x6 + 1)))) else (none)) else (some x5)
def examboardref37_Count.f (k : Nat) (l0 : List (S50)) (a1 : Int) : Option (Int) := examboardref37_Count.l0 k l0 a1 0 0
def examboardref37_Rate.f (k : Nat) (l0 : List (S50)) (a1 : Int) (a2 : Int) : Option (Bool × List Int × List Int × Int) := if a2 < 1 then ((examboardref37_whole.f k 0).bind fun bt984 => (some (bt984.1, bt984.2.1, bt984.2.2, 20))) else ((examboardref37_Count.f k l0 a1).bind fun t991 => ((examboardref37_limited.f a2).bind fun t992 => ((examboardref03_Of.f k t991 t992).bind fun bt993 => (some (bt993.1, bt993.2.1, bt993.2.2.1, 0)))))
def examboardlaw37_limbs.l0 : Nat → List Int → List Int → Int → Option (Bool)
 | 0, _, _, _ => none
 | k + 1, x0, x1, x5 => if x5 < (x0.length : Int) then (if 0 ≤ x5 then (if x5 < (x1.length : Int) then (if (rd x0 x5) = (rd x1 x5) then (examboardlaw37_limbs.l0 k x0 x1 (wrap64 (x5 + 1))) else (some false)) else (none)) else (none)) else (some true)
def examboardlaw37_limbs.f (k : Nat) (l0 : List Int) (l1 : List Int) : Option (Bool) := if (l0.length : Int) = (l1.length : Int) then (examboardlaw37_limbs.l0 k l0 l1 0) else (some false)
def examboardlaw37_same.f (k : Nat) (a0_0 : Bool) (l0_1 : List Int) (l0_2 : List Int) (a1_0 : Bool) (l1_1 : List Int) (l1_2 : List Int) : Option (Bool) := if (a0_0 == a1_0) = true then ((examboardlaw37_limbs.f k l0_1 l1_1).bind fun t1006 => (if t1006 = true then ((examboardlaw37_limbs.f k l0_2 l1_2).bind fun t1007 => (some t1007)) else (some false))) else (some false)
def examboardlaw37_ExposureCounts.f (k : Nat) (l0 : List (S50)) (a1 : Int) (a2 : Int) (a3_0 : Bool) (l3_1 : List Int) (l3_2 : List Int) (a4 : Int) : Option (Bool) := (examboardlaw37_large.f a3_0 l3_1 l3_2).bind fun t1009 => (if t1009 = true then (some true) else ((exposure_Count.f k l0 a1).bind fun t1010 => ((exposure_Rate.f k l0 a1 a2).bind fun bt1011 => ((examboardref37_Rate.f k l0 a1 a2).bind fun bt1020 => ((examboardref37_Count.f k l0 a1).bind fun t1029 => (if t1010 = t1029 then (if bt1011.2.2.2 = bt1020.2.2.2 then ((examboardlaw37_same.f k bt1011.1 bt1011.2.1 bt1011.2.2.1 bt1020.1 bt1020.2.1 bt1020.2.2.1).bind fun t1030 => (if t1030 = true then ((exposure_Eligible.f k t1010 a2 a3_0 l3_1 l3_2 a4).bind fun t1031 => ((examboardref37_Eligible.f k t1010 a2 a3_0 l3_1 l3_2 a4).bind fun t1032 => (some (t1031 == t1032)))) else (some false))) else (some false)) else (some false)))))))
set_option maxHeartbeats 8000000 in
set_option maxRecDepth 100000 in
theorem exposure_Count.calls (k : Nat) (A0 : Option Addr) (c0 : Nat) (l0 : List (S50)) (a1 : Int) (r : Int) (w : World) (hr0 : Kd.C k50 w A0 l0.length l0) (hc0 : l0.length ≤ c0) (h : exposure_Count.f k l0 a1 = some r) :
  Calls Try.prog 17 #[.slice A0 l0.length c0, .int .i64 a1] w fun e w' => e = .returned (.int .i64 r) ∧ Below w.heap.size w w' := by
 have hu50 := Try.underlying50
 have HR0 := mk0 hr0
 have HC0 := mk0 hc0
 clear hr0 hc0
 have HB := mk0 (Below.refl w.heap.size w)
 have H : (exposure_Count.l0 k a1 0 l0 (l0.length : Int) 0) = some r := h
 clear h
 have H' := mk0 H
 clear H
 go_enter Try.func17, Try.ntmps17
 go_wp2
 go_loopg [5, 10] k (fun kq v5 v10 w' => ∃ (x5_1 : Int) (x10_1 : Int), v5 = .int .i64 x5_1 ∧ v10 = .int .i64 x10_1 ∧ Aside0 (exposure_Count.l0 kq a1 x5_1 l0 (l0.length : Int) x10_1 = some r) ∧ Aside0 (kq ≤ k) ∧ Aside0 (Below w.heap.size w w'))
 case atStart => exact ⟨(0), (0), (by first | rfl | (simp; done) | (simp [*]; done)), (by first | rfl | (simp; done) | (simp [*]; done)), H', ⟨Nat.le_refl _⟩, ⟨by repeat (first | exact HB.out | apply bN | apply b1 | apply bA)⟩⟩
 case round =>
  clear H'
  try clear c1
  try clear p2
  obtain ⟨x5_1, x10_1, rfl, rfl, HA, HK1, HB⟩ := hrel
  cases gk with
  | zero => exact absurd HA.out (by simp [exposure_Count.l0])
  | succ k1 =>
   have H := HA.out
   clear HA
   simp only [exposure_Count.l0] at H
   by_cases c3 : x10_1 < (l0.length : Int)
   ·rw [if_pos c3] at H
    have c3b0 : decide (x10_1 < (l0.length : Int)) = true := decide_eq_true c3
    clear c3
    by_cases c4 : 0 ≤ x10_1
    ·rw [if_pos c4] at H
     have c4b0 : decide (0 ≤ x10_1) = true := decide_eq_true c4
     clear c4
     by_cases c5 : x10_1 < (l0.length : Int)
     ·rw [if_pos c5] at H
      have c5b0 : decide (x10_1 < (l0.length : Int)) = true := decide_eq_true c5
      clear c5
      by_cases c6 : ((rd_T50 l0 x10_1).f0) = a1
      ·rw [if_pos c6] at H
       have c6b0 : (((rd_T50 l0 x10_1).f0) == a1) = true := beq_iff_eq.mpr c6
       have c6b1 : (((rd_T50 l0 x10_1).f0) != a1) = false := bne_eq_false_iff_eq.mpr c6
       clear c6
       obtain ⟨t960, A7, H⟩ := bindA H
       obtain ⟨t961, A8, H⟩ := bindA H
       have H' := mk0 H
       clear H
       have p958 : 0 ≤ (x10_1 : Int) := of_decide_eq_true (by assumption)
       have q958 : x10_1 < (l0.length : Int) := of_decide_eq_true (by assumption)
       obtain ⟨ad958, e958, hx958_0, hx958_1⟩ := at_T50 HR0.out x10_1 p958 q958
       cases e958
       replace hx958_0 := (HB.out.cell (World.block_lt_of_cell? w _ hx958_0)).trans hx958_0
       replace hx958_1 := (HB.out.cell (World.block_lt_of_cell? w _ hx958_1)).trans hx958_1
       replace p958 := eq_true p958
       replace q958 := eq_true q958
       go_wp2_with (first | ((with_reducible refine gate_dst (N := 7) rfl ?_); refine box_event rfl (N := 7) rfl (cs := #[.int .i64 0, .int .i64 0]) (t := 50) (by go_simp <;> rfl) ?_; intro gb959 hg w9 hbox hb; have BK959 := mk0 (hbox); have GE959 := geB hg HB; replace HB := hbS HB hb; clear hb hbox hg; obtain ⟨hcz10_0, hcz10_1, hfz10_0, hfz10_1⟩ := cz2 BK959) | ((with_reducible refine gate_callee (f := 31) rfl ?_); refine goA 21 Try.func31 #[.int .i64 ((rd_T50 l0 x10_1).f1)] ?_; (with_reducible refine (exposure_bounded.calls ((rd_T50 l0 x10_1).f1) t960 _ A7.out).mono ?_); rintro e w11 ⟨rfl, hb⟩; refine ⟨_, rfl, ?_⟩; replace BK959 := mk0 (blk_below (g := gb959) (o := .cells #[.int .i64 ((rd_T50 l0 x10_1).f0), .int .i64 ((rd_T50 l0 x10_1).f1)] 50 (0, 0)) (by refine blk_put (cs := #[.int .i64 ((rd_T50 l0 x10_1).f0), .int .i64 0]) ?_ 1 _ rfl; refine blk_put (cs := #[.int .i64 0, .int .i64 0]) ?_ 0 _ rfl; exact BK959.out) hb); replace HB := mk0 (below_step (by repeat (first | exact HB.out | refine bS ?_ GE959.out)) hb)) | ((with_reducible refine gate_callee (f := 31) rfl ?_); refine goA 23 Try.func31 #[.int .i64 (wrap64 (x5_1 + t960))] ?_; (with_reducible refine (exposure_bounded.calls (wrap64 (x5_1 + t960)) t961 _ A8.out).mono ?_); rintro e w12 ⟨rfl, hb⟩; refine ⟨_, rfl, ?_⟩; replace BK959 := bkB BK959 hb; replace HB := hbS HB hb))
       go_roundg k1
       case measure => have := HK1.out; omega
       case rel => exact ⟨(t961), (wrap64 (x10_1 + 1)), (by first | rfl | (simp; done) | (simp [*]; done)), (by first | rfl | (simp; done) | (simp [*]; done)), H', ⟨by have := HK1.out; omega⟩, ⟨by repeat (first | exact HB.out | apply bN | apply b1 | apply bA | refine bS ?_ GE959.out)⟩⟩
      ·rw [if_neg c6] at H
       have c6b0 : (((rd_T50 l0 x10_1).f0) == a1) = false := beq_eq_false_iff_ne.mpr c6
       have c6b1 : (((rd_T50 l0 x10_1).f0) != a1) = true := bne_iff_ne.mpr c6
       have H' := mk0 H
       clear H
       have p958 : 0 ≤ (x10_1 : Int) := of_decide_eq_true (by assumption)
       have q958 : x10_1 < (l0.length : Int) := of_decide_eq_true (by assumption)
       obtain ⟨ad958, e958, hx958_0, hx958_1⟩ := at_T50 HR0.out x10_1 p958 q958
       cases e958
       replace hx958_0 := (HB.out.cell (World.block_lt_of_cell? w _ hx958_0)).trans hx958_0
       replace hx958_1 := (HB.out.cell (World.block_lt_of_cell? w _ hx958_1)).trans hx958_1
       replace p958 := eq_true p958
       replace q958 := eq_true q958
       go_wp2_with (first | ((with_reducible refine gate_dst (N := 7) rfl ?_); refine box_event rfl (N := 7) rfl (cs := #[.int .i64 0, .int .i64 0]) (t := 50) (by go_simp <;> rfl) ?_; intro gb959 hg w13 hbox hb; have BK959 := mk0 (hbox); have GE959 := geB hg HB; replace HB := hbS HB hb; clear hb hbox hg; obtain ⟨hcz14_0, hcz14_1, hfz14_0, hfz14_1⟩ := cz2 BK959))
       go_roundg k1
       case measure => have := HK1.out; omega
       case rel => exact ⟨(x5_1), (wrap64 (x10_1 + 1)), (by first | rfl | (simp; done) | (simp [*]; done)), (by first | rfl | (simp; done) | (simp [*]; done)), H', ⟨by have := HK1.out; omega⟩, ⟨by repeat (first | exact HB.out | apply bN | apply b1 | apply bA | refine bS ?_ GE959.out)⟩⟩
     ·rw [if_neg c5] at H
      exact absurd H (by simp)
    ·rw [if_neg c4] at H
     exact absurd H (by simp)
   ·rw [if_neg c3] at H
    have c3b0 : decide (x10_1 < (l0.length : Int)) = false := decide_eq_false c3
    clear c3
    obtain rfl := Option.some.inj H
    go_wp2
    go_ret
    exact ⟨by first | rfl | (simp [errW_none, errW_some] <;> rfl) | (simp [*, errW_none, errW_some] <;> rfl), by repeat (first | exact HB.out | apply bN | apply b1 | apply bA)⟩
set_option maxHeartbeats 8000000 in
set_option maxRecDepth 100000 in
theorem exposure_Rate.calls (k : Nat) (A0 : Option Addr) (c0 : Nat) (l0 : List (S50)) (a1 : Int) (a2 : Int) (r1 : Bool) (r2 : List Int) (r3 : List Int) (r4 : Int) (w : World) (hr0 : Kd.C k50 w A0 l0.length l0) (hc0 : l0.length ≤ c0) (h : exposure_Rate.f k l0 a1 a2 = some (r1, r2, r3, r4)) :
  Calls Try.prog 18 #[.slice A0 l0.length c0, .int .i64 a1, .int .i64 a2] w fun e w' => ∃ v1_ v2_ : Value, e = .returned (.tuple #[.agg #[.bool r1, v1_, v2_], .int .i64 r4]) ∧ Kd.R (Kd.int .u32) 87 w' w.heap.size (fun k_ => (w.heap.size ≤ k_)) v1_ r2 ∧ Kd.V (Kd.int .u32) 87 w' w.heap.size (fun k_ => (w.heap.size ≤ k_) ∧ some k_ ≠ (v1_ : Value).ownBlock) v2_ r3 ∧ Below w.heap.size w w' := by
 have hu29 := Try.underlying29
 have HR0 := mk0 hr0
 have HC0 := mk0 hc0
 clear hr0 hc0
 have HB := mk0 (Below.refl w.heap.size w)
 have H : (if a2 < 1 then ((exposure_fraction.f k 0 1).bind fun bt963 => (some (bt963.1, bt963.2.1, bt963.2.2, 20))) else ((exposure_Count.f k l0 a1).bind fun t970 => ((exposure_bounded.f a2).bind fun t971 => ((exposure_fraction.f k t970 t971).bind fun bt972 => (some (bt972.1, bt972.2.1, bt972.2.2, 0)))))) = some (r1, r2, r3, r4) := h
 clear h
 by_cases c4 : a2 < 1
 ·rw [if_pos c4] at H
  have c4b0 : decide (a2 < 1) = true := decide_eq_true c4
  clear c4
  obtain ⟨⟨t963, t964, t967⟩, A5, H⟩ := bindA H
  simp only [Option.some.injEq, Prod.mk.injEq] at H
  obtain ⟨rfl, rfl, rfl, rfl⟩ := H
  go_enter Try.func18, Try.ntmps18
  go_wp2_with (first | ((with_reducible refine gate_dst (N := 6) rfl ?_); refine box_event rfl (N := 6) rfl (cs := #[.bool false, .slice none 0 0, .slice none 0 0]) (t := 29) (by go_simp <;> rfl) ?_; intro gb962 hg w6 hbox hb; have BK962 := mk0 (hbox); have GE962 := geB hg HB; replace HB := hbS HB hb; clear hb hbox hg) | ((with_reducible refine gate_callee (f := 30) rfl ?_); refine goA 10 Try.func30 #[.int .i64 0, .int .i64 1] ?_; (with_reducible refine (exposure_fraction.calls k 0 1 t963 t964 t967 _ A5.out).mono ?_); rintro e w7 ⟨v965, v968, rfl, ho0, ho1, hb⟩; refine ⟨_, rfl, ?_⟩; have HO966 := mk0 (Rl (Kd.R_newM (M := fun k_ => (w.heap.size ≤ k_)) (Rm (ok' := fun k_ => True) ho0 tv) (bZ HB.out) (fun k_ h_ => h_)) (bZ HB.out)); have HO969 := mk0 (Vl (Vm (ok' := fun k_ => (w.heap.size ≤ k_) ∧ some k_ ≠ (v965 : Value).ownBlock ∧ k_ ≠ gb962) ho1 (fun k_ hk_ => ⟨(Nat.le_trans (bZ HB.out) hk_.1), hk_.2, (Kd.freshB BK962.out k_ hk_.1)⟩)) (bZ HB.out)); replace BK962 := bkB BK962 hb; replace HB := hbS HB hb; obtain ⟨hcz8_0, hcz8_1, hcz8_2, hfz8_0, hfz8_1, hfz8_2⟩ := cz3 BK962; obtain ⟨Ao9, co9, eo9⟩ := Kd.R_slice HO966.out; subst eo9; obtain ⟨Ao10, co10, eo10⟩ := Kd.V_slice HO969.out; subst eo10))
  refine bodyPost_ret (results_ct rfl _ _ gb962 29 #[.bool t963, .slice Ao9 t964.length co9, .slice Ao10 t967.length co10] (0, 0) _ rfl (by refine blk_put (cs := #[.bool t963, .slice Ao9 t964.length co9, .slice none 0 0]) ?_ 2 _ rfl; refine blk_put (cs := #[.bool t963, .slice none 0 0, .slice none 0 0]) ?_ 1 _ rfl; refine blk_put (cs := #[.bool false, .slice none 0 0, .slice none 0 0]) ?_ 0 _ rfl; exact BK962.out) Try.underlying29 rfl (by kernel_rfl)) rfl ?_
  exact ⟨_, _, by first | rfl | (simp [errW_none, errW_some] <;> rfl) | (simp [*, errW_none, errW_some] <;> rfl), Rm (Rf (p := ⟨gb962, 2, none⟩) (Rf (p := ⟨gb962, 1, none⟩) (Rf (p := ⟨gb962, 0, none⟩) (Rt HO966.out BK962.out (by decide)) (fun _ hk => hk.2) (.bool t963)) (fun _ hk => hk.2) (.slice Ao9 t964.length co9)) (fun _ hk => hk.2) (.slice Ao10 t967.length co10)) (fun _ hk => hk.1.1), Vm (Vf (p := ⟨gb962, 2, none⟩) (Vf (p := ⟨gb962, 1, none⟩) (Vf (p := ⟨gb962, 0, none⟩) (Vm HO969.out (fun k_ hk => (⟨hk, hk.2.2⟩ : _ ∧ k_ ≠ gb962))) (fun _ hk => hk.2) (.bool t963)) (fun _ hk => hk.2) (.slice Ao9 t964.length co9)) (fun _ hk => hk.2) (.slice Ao10 t967.length co10)) (fun _ hk => ⟨hk.1.1, hk.1.2.1⟩), by repeat (first | exact HB.out | apply bN | apply b1 | apply bA | refine bS ?_ GE962.out)⟩
 ·rw [if_neg c4] at H
  have c4b0 : decide (a2 < 1) = false := decide_eq_false c4
  clear c4
  obtain ⟨t970, A11, H⟩ := bindA H
  obtain ⟨t971, A12, H⟩ := bindA H
  obtain ⟨⟨t972, t973, t976⟩, A13, H⟩ := bindA H
  simp only [Option.some.injEq, Prod.mk.injEq] at H
  obtain ⟨rfl, rfl, rfl, rfl⟩ := H
  go_enter Try.func18, Try.ntmps18
  go_wp2_with (first | ((with_reducible refine gate_dst (N := 6) rfl ?_); refine box_event rfl (N := 6) rfl (cs := #[.bool false, .slice none 0 0, .slice none 0 0]) (t := 29) (by go_simp <;> rfl) ?_; intro gb962 hg w14 hbox hb; have BK962 := mk0 (hbox); have GE962 := geB hg HB; replace HB := hbS HB hb; clear hb hbox hg) | ((with_reducible refine gate_callee (f := 17) rfl ?_); refine goA 13 Try.func17 #[.slice A0 l0.length c0, .int .i64 a1] ?_; (with_reducible refine (exposure_Count.calls k _ _ l0 a1 t970 _ (by exact Cb HR0.out HB.out) HC0.out A11.out).mono ?_); rintro e w15 ⟨rfl, hb⟩; refine ⟨_, rfl, ?_⟩; replace BK962 := bkB BK962 hb; replace HB := hbS HB hb) | ((with_reducible refine gate_callee (f := 31) rfl ?_); refine goA 15 Try.func31 #[.int .i64 a2] ?_; (with_reducible refine (exposure_bounded.calls a2 t971 _ A12.out).mono ?_); rintro e w16 ⟨rfl, hb⟩; refine ⟨_, rfl, ?_⟩; replace BK962 := bkB BK962 hb; replace HB := hbS HB hb) | ((with_reducible refine gate_callee (f := 30) rfl ?_); refine goA 16 Try.func30 #[.int .i64 t970, .int .i64 t971] ?_; (with_reducible refine (exposure_fraction.calls k t970 t971 t972 t973 t976 _ A13.out).mono ?_); rintro e w17 ⟨v974, v977, rfl, ho0, ho1, hb⟩; refine ⟨_, rfl, ?_⟩; have HO975 := mk0 (Rl (Kd.R_newM (M := fun k_ => (w.heap.size ≤ k_)) (Rm (ok' := fun k_ => True) ho0 tv) (bZ HB.out) (fun k_ h_ => h_)) (bZ HB.out)); have HO978 := mk0 (Vl (Vm (ok' := fun k_ => (w.heap.size ≤ k_) ∧ some k_ ≠ (v974 : Value).ownBlock ∧ k_ ≠ gb962) ho1 (fun k_ hk_ => ⟨(Nat.le_trans (bZ HB.out) hk_.1), hk_.2, (Kd.freshB BK962.out k_ hk_.1)⟩)) (bZ HB.out)); replace BK962 := bkB BK962 hb; replace HB := hbS HB hb; obtain ⟨hcz18_0, hcz18_1, hcz18_2, hfz18_0, hfz18_1, hfz18_2⟩ := cz3 BK962; obtain ⟨Ao19, co19, eo19⟩ := Kd.R_slice HO975.out; subst eo19; obtain ⟨Ao20, co20, eo20⟩ := Kd.V_slice HO978.out; subst eo20))
  refine bodyPost_ret (results_ct rfl _ _ gb962 29 #[.bool t972, .slice Ao19 t973.length co19, .slice Ao20 t976.length co20] (0, 0) _ rfl (by refine blk_put (cs := #[.bool t972, .slice Ao19 t973.length co19, .slice none 0 0]) ?_ 2 _ rfl; refine blk_put (cs := #[.bool t972, .slice none 0 0, .slice none 0 0]) ?_ 1 _ rfl; refine blk_put (cs := #[.bool false, .slice none 0 0, .slice none 0 0]) ?_ 0 _ rfl; exact BK962.out) Try.underlying29 rfl (by kernel_rfl)) rfl ?_
  exact ⟨_, _, by first | rfl | (simp [errW_none, errW_some] <;> rfl) | (simp [*, errW_none, errW_some] <;> rfl), Rm (Rf (p := ⟨gb962, 2, none⟩) (Rf (p := ⟨gb962, 1, none⟩) (Rf (p := ⟨gb962, 0, none⟩) (Rt HO975.out BK962.out (by decide)) (fun _ hk => hk.2) (.bool t972)) (fun _ hk => hk.2) (.slice Ao19 t973.length co19)) (fun _ hk => hk.2) (.slice Ao20 t976.length co20)) (fun _ hk => hk.1.1), Vm (Vf (p := ⟨gb962, 2, none⟩) (Vf (p := ⟨gb962, 1, none⟩) (Vf (p := ⟨gb962, 0, none⟩) (Vm HO978.out (fun k_ hk => (⟨hk, hk.2.2⟩ : _ ∧ k_ ≠ gb962))) (fun _ hk => hk.2) (.bool t972)) (fun _ hk => hk.2) (.slice Ao19 t973.length co19)) (fun _ hk => hk.2) (.slice Ao20 t976.length co20)) (fun _ hk => ⟨hk.1.1, hk.1.2.1⟩), by repeat (first | exact HB.out | apply bN | apply b1 | apply bA | refine bS ?_ GE962.out)⟩
set_option maxHeartbeats 8000000 in
set_option maxRecDepth 100000 in
theorem examboardref37_Count.calls (k : Nat) (A0 : Option Addr) (c0 : Nat) (l0 : List (S50)) (a1 : Int) (r : Int) (w : World) (hr0 : Kd.C k50 w A0 l0.length l0) (hc0 : l0.length ≤ c0) (h : examboardref37_Count.f k l0 a1 = some r) :
  Calls Try.prog 20 #[.slice A0 l0.length c0, .int .i64 a1] w fun e w' => e = .returned (.int .i64 r) ∧ Drawn0 w w' := by
 have HR0 := mk0 hr0
 have HC0 := mk0 hc0
 clear hr0 hc0
 have H : (examboardref37_Count.l0 k l0 a1 0 0) = some r := h
 clear h
 have H' := mk0 H
 clear H
 go_enter Try.func20, Try.ntmps20
 go_wp2
 go_loopg [5, 6] k (fun kq v5 v6 w' => ∃ (x5_1 : Int) (x6_1 : Int), v5 = .int .i64 x5_1 ∧ v6 = .int .i64 x6_1 ∧ Aside0 (examboardref37_Count.l0 kq l0 a1 x5_1 x6_1 = some r) ∧ Aside0 (kq ≤ k) ∧ Drawn0 w w')
 case atStart => exact ⟨(0), (0), (by first | rfl | (simp; done) | (simp [*]; done)), (by first | rfl | (simp; done) | (simp [*]; done)), H', ⟨Nat.le_refl _⟩, by repeat (first | exact Drawn0.refl _ | apply Drawn0.step)⟩
 case round =>
  clear H'
  try clear c2
  try clear p2
  obtain ⟨x5_1, x6_1, rfl, rfl, HA, HK1, ⟨m1, rfl⟩⟩ := hrel
  cases gk with
  | zero => exact absurd HA.out (by simp [examboardref37_Count.l0])
  | succ k1 =>
   have H := HA.out
   clear HA
   simp only [examboardref37_Count.l0] at H
   by_cases c3 : x6_1 < (l0.length : Int)
   ·rw [if_pos c3] at H
    have c3b0 : decide (x6_1 < (l0.length : Int)) = true := decide_eq_true c3
    clear c3
    by_cases c4 : 0 ≤ x6_1
    ·rw [if_pos c4] at H
     have c4b0 : decide (0 ≤ x6_1) = true := decide_eq_true c4
     clear c4
     by_cases c5 : ((rd_T50 l0 x6_1).f0) = a1
     ·rw [if_pos c5] at H
      have c5b0 : (((rd_T50 l0 x6_1).f0) == a1) = true := beq_iff_eq.mpr c5
      have c5b1 : (((rd_T50 l0 x6_1).f0) != a1) = false := bne_eq_false_iff_eq.mpr c5
      clear c5
      obtain ⟨t981, A6, H⟩ := bindA H
      obtain ⟨t982, A7, H⟩ := bindA H
      have H' := mk0 H
      clear H
      have p979 : 0 ≤ (x6_1 : Int) := of_decide_eq_true (by assumption)
      have q979 : x6_1 < (l0.length : Int) := of_decide_eq_true (by assumption)
      obtain ⟨ad979, e979, hx979_0, hx979_1⟩ := at_T50 HR0.out x6_1 p979 q979
      cases e979
      replace p979 := eq_true p979
      replace q979 := eq_true q979
      have p980 : 0 ≤ (x6_1 : Int) := of_decide_eq_true (by assumption)
      have q980 : x6_1 < (l0.length : Int) := of_decide_eq_true (by assumption)
      obtain ⟨ad980, e980, hx980_0, hx980_1⟩ := at_T50 HR0.out x6_1 p980 q980
      obtain rfl : ad979 = ad980 := (by injection e980)
      replace p980 := eq_true p980
      replace q980 := eq_true q980
      go_wp2_with (first | ((with_reducible refine gate_callee (f := 34) rfl ?_); refine goA 26 Try.func34 #[.int .i64 ((rd_T50 l0 x6_1).f1)] ?_; (with_reducible refine (examboardref37_limited.calls ((rd_T50 l0 x6_1).f1) t981 _ A6.out).mono ?_); rintro e w' ⟨rfl, ⟨nd, rfl⟩⟩; refine ⟨_, rfl, ?_⟩) | ((with_reducible refine gate_callee (f := 34) rfl ?_); refine goA 28 Try.func34 #[.int .i64 (wrap64 (x5_1 + t981))] ?_; (with_reducible refine (examboardref37_limited.calls (wrap64 (x5_1 + t981)) t982 _ A7.out).mono ?_); rintro e w' ⟨rfl, ⟨nd, rfl⟩⟩; refine ⟨_, rfl, ?_⟩))
      go_roundg k1
      case measure => have := HK1.out; omega
      case rel => exact ⟨(t982), (wrap64 (x6_1 + 1)), (by first | rfl | (simp; done) | (simp [*]; done)), (by first | rfl | (simp; done) | (simp [*]; done)), H', ⟨by have := HK1.out; omega⟩, by repeat (first | exact Drawn0.refl _ | apply Drawn0.step)⟩
     ·rw [if_neg c5] at H
      have c5b0 : (((rd_T50 l0 x6_1).f0) == a1) = false := beq_eq_false_iff_ne.mpr c5
      have c5b1 : (((rd_T50 l0 x6_1).f0) != a1) = true := bne_iff_ne.mpr c5
      have H' := mk0 H
      clear H
      have p979 : 0 ≤ (x6_1 : Int) := of_decide_eq_true (by assumption)
      have q979 : x6_1 < (l0.length : Int) := of_decide_eq_true (by assumption)
      obtain ⟨ad979, e979, hx979_0, hx979_1⟩ := at_T50 HR0.out x6_1 p979 q979
      cases e979
      replace p979 := eq_true p979
      replace q979 := eq_true q979
      go_wp2
      go_roundg k1
      case measure => have := HK1.out; omega
      case rel => exact ⟨(x5_1), (wrap64 (x6_1 + 1)), (by first | rfl | (simp; done) | (simp [*]; done)), (by first | rfl | (simp; done) | (simp [*]; done)), H', ⟨by have := HK1.out; omega⟩, by repeat (first | exact Drawn0.refl _ | apply Drawn0.step)⟩
    ·rw [if_neg c4] at H
     exact absurd H (by simp)
   ·rw [if_neg c3] at H
    have c3b0 : decide (x6_1 < (l0.length : Int)) = false := decide_eq_false c3
    clear c3
    obtain rfl := Option.some.inj H
    go_wp2
    go_ret
    exact ⟨by first | rfl | (simp; done) | (simp [*]; done), by repeat (first | exact Drawn0.refl _ | apply Drawn0.step)⟩
set_option maxHeartbeats 8000000 in
set_option maxRecDepth 100000 in
theorem examboardref37_Rate.calls (k : Nat) (A0 : Option Addr) (c0 : Nat) (l0 : List (S50)) (a1 : Int) (a2 : Int) (r1 : Bool) (r2 : List Int) (r3 : List Int) (r4 : Int) (w : World) (hr0 : Kd.C k50 w A0 l0.length l0) (hc0 : l0.length ≤ c0) (h : examboardref37_Rate.f k l0 a1 a2 = some (r1, r2, r3, r4)) :
  Calls Try.prog 19 #[.slice A0 l0.length c0, .int .i64 a1, .int .i64 a2] w fun e w' => ∃ v1_ v2_ : Value, e = .returned (.tuple #[.agg #[.bool r1, v1_, v2_], .int .i64 r4]) ∧ Kd.R (Kd.int .u32) 87 w' w.heap.size (fun k_ => some k_ ≠ (v2_ : Value).ownBlock) v1_ r2 ∧ Kd.R (Kd.int .u32) 87 w' w.heap.size (fun k_ => some k_ ≠ (v1_ : Value).ownBlock) v2_ r3 ∧ Below w.heap.size w w' := by
 have hu29 := Try.underlying29
 have HR0 := mk0 hr0
 have HC0 := mk0 hc0
 clear hr0 hc0
 have HB := mk0 (Below.refl w.heap.size w)
 have H : (if a2 < 1 then ((examboardref37_whole.f k 0).bind fun bt984 => (some (bt984.1, bt984.2.1, bt984.2.2, 20))) else ((examboardref37_Count.f k l0 a1).bind fun t991 => ((examboardref37_limited.f a2).bind fun t992 => ((examboardref03_Of.f k t991 t992).bind fun bt993 => (some (bt993.1, bt993.2.1, bt993.2.2.1, 0)))))) = some (r1, r2, r3, r4) := h
 clear h
 by_cases c4 : a2 < 1
 ·rw [if_pos c4] at H
  have c4b0 : decide (a2 < 1) = true := decide_eq_true c4
  clear c4
  obtain ⟨⟨t984, t985, t988⟩, A5, H⟩ := bindA H
  simp only [Option.some.injEq, Prod.mk.injEq] at H
  obtain ⟨rfl, rfl, rfl, rfl⟩ := H
  go_enter Try.func19, Try.ntmps19
  go_wp2_with (first | ((with_reducible refine gate_dst (N := 6) rfl ?_); refine box_event rfl (N := 6) rfl (cs := #[.bool false, .slice none 0 0, .slice none 0 0]) (t := 29) (by go_simp <;> rfl) ?_; intro gb983 hg w6 hbox hb; have BK983 := mk0 (hbox); have GE983 := geB hg HB; replace HB := (by first | exact hbS HB hb | exact hbD HB hb); clear hb hbox hg) | ((with_reducible refine gate_callee (f := 33) rfl ?_); refine goesL_ (some 12) rfl rfl Try.func33 (by kernel_rfl) rfl #[.int .i64 0] rfl (by (try simp only [mA, mC, mN]); first | done | rfl | (simp only [lD, lT]; rfl)) ?_; (with_reducible refine (examboardref37_whole.calls k 0 t984 t985 t988 _ A5.out).mono ?_); rintro e w7 ⟨v986, v989, rfl, ho0, ho1, hb⟩; refine ⟨_, rfl, ?_⟩; have HO987 := mk0 (Kd.R_lower ho0 (below_size (by repeat (first | exact HB.out | apply pw_below_drewN | apply below_drew1 | apply below_alloc)))); have HO990 := mk0 (Kd.R_lower ho1 (below_size (by repeat (first | exact HB.out | apply pw_below_drewN | apply below_drew1 | apply below_alloc)))); replace BK983 := (by first | exact bkB BK983 hb | exact bkD BK983 hb); replace HB := (by first | exact hbS HB hb | exact hbD HB hb); obtain ⟨hcz8_0, hcz8_1, hcz8_2, hfz8_0, hfz8_1, hfz8_2⟩ := cz3 BK983; obtain ⟨Ao9, co9, eo9⟩ := Kd.R_slice HO987.out; subst eo9; obtain ⟨Ao10, co10, eo10⟩ := Kd.R_slice HO990.out; subst eo10))
  refine bodyPost_ret (results_ct rfl _ _ gb983 29 #[.bool t984, .slice Ao9 t985.length co9, .slice Ao10 t988.length co10] (0, 0) _ rfl (by (with_reducible repeat refine blk_drewN ?_ _); refine blk_put (cs := #[.bool t984, .slice Ao9 t985.length co9, .slice none 0 0]) ?_ 2 _ rfl; (with_reducible repeat refine blk_drewN ?_ _); refine blk_put (cs := #[.bool t984, .slice none 0 0, .slice none 0 0]) ?_ 1 _ rfl; (with_reducible repeat refine blk_drewN ?_ _); refine blk_put (cs := #[.bool false, .slice none 0 0, .slice none 0 0]) ?_ 0 _ rfl; (with_reducible repeat refine blk_drewN ?_ _); exact BK983.out) Try.underlying29 rfl (by kernel_rfl)) rfl ?_
  exact ⟨_, _, by first | rfl | (simp [errW_none, errW_some] <;> rfl) | (simp [*, errW_none, errW_some] <;> rfl), by (with_reducible repeat apply Kd.R_drewN); exact Kd.R_mono (Kd.R_far (p := ⟨gb983, 2, none⟩) (Kd.R_far (p := ⟨gb983, 1, none⟩) (Kd.R_far (p := ⟨gb983, 0, none⟩) (Kd.R_types HO987.out BK983.out (by decide)) (fun _ hk => hk.2) (.bool t984)) (fun _ hk => hk.2) (.slice Ao9 t985.length co9)) (fun _ hk => hk.2) (.slice Ao10 t988.length co10)) (fun _ hk => hk.1), by (with_reducible repeat apply Kd.R_drewN); exact Kd.R_mono (Kd.R_far (p := ⟨gb983, 2, none⟩) (Kd.R_far (p := ⟨gb983, 1, none⟩) (Kd.R_far (p := ⟨gb983, 0, none⟩) (Kd.R_types HO990.out BK983.out (by decide)) (fun _ hk => hk.2) (.bool t984)) (fun _ hk => hk.2) (.slice Ao9 t985.length co9)) (fun _ hk => hk.2) (.slice Ao10 t988.length co10)) (fun _ hk => hk.1), by repeat (first | exact HB.out | apply pw_below_drewN | apply below_drew1 | apply below_alloc | refine below_set ?_ GE983.out)⟩
 ·rw [if_neg c4] at H
  have c4b0 : decide (a2 < 1) = false := decide_eq_false c4
  clear c4
  obtain ⟨t991, A11, H⟩ := bindA H
  obtain ⟨t992, A12, H⟩ := bindA H
  obtain ⟨⟨t993, t994, t997, t1000⟩, A13, H⟩ := bindA H
  simp only [Option.some.injEq, Prod.mk.injEq] at H
  obtain ⟨rfl, rfl, rfl, rfl⟩ := H
  go_enter Try.func19, Try.ntmps19
  go_wp2_with (first | ((with_reducible refine gate_dst (N := 6) rfl ?_); refine box_event rfl (N := 6) rfl (cs := #[.bool false, .slice none 0 0, .slice none 0 0]) (t := 29) (by go_simp <;> rfl) ?_; intro gb983 hg w14 hbox hb; have BK983 := mk0 (hbox); have GE983 := geB hg HB; replace HB := (by first | exact hbS HB hb | exact hbD HB hb); clear hb hbox hg) | ((with_reducible refine gate_callee (f := 20) rfl ?_); refine goesL_ (some 16) rfl rfl Try.func20 (by kernel_rfl) rfl #[.slice A0 l0.length c0, .int .i64 a1] rfl (by (try simp only [mA, mC, mN]); first | done | rfl | (simp only [lD, lT]; rfl)) ?_; (with_reducible refine (examboardref37_Count.calls k _ _ l0 a1 t991 _ (by exact Kd.C_below HR0.out HB.out) HC0.out A11.out).mono ?_); rintro e w' ⟨rfl, ⟨nd, rfl⟩⟩; refine ⟨_, rfl, ?_⟩; (try (rw [drewN_self w14]; generalize hq_ : World.drewN w14 _ = w14; replace BK983 : Aside0 (w14.heap[gb983]? = some (.cells #[.bool false, .slice none 0 0, .slice none 0 0] 29 (0, 0))) := ⟨by rw [← hq_]; exact (by (with_reducible repeat refine blk_drewN ?_ _); exact BK983.out)⟩; replace HB : Aside0 (Below w.heap.size w w14) := ⟨by rw [← hq_]; exact (by repeat (first | exact HB.out | apply pw_below_drewN | apply below_drew1 | apply below_alloc))⟩; clear hq_))) | ((with_reducible refine gate_callee (f := 34) rfl ?_); refine goesL_ (some 18) rfl rfl Try.func34 (by kernel_rfl) rfl #[.int .i64 a2] rfl (by (try simp only [mA, mC, mN]); first | done | rfl | (simp only [lD, lT]; rfl)) ?_; (with_reducible refine (examboardref37_limited.calls a2 t992 _ A12.out).mono ?_); rintro e w' ⟨rfl, ⟨nd, rfl⟩⟩; refine ⟨_, rfl, ?_⟩; (try (rw [drewN_self w14]; generalize hq_ : World.drewN w14 _ = w14; replace BK983 : Aside0 (w14.heap[gb983]? = some (.cells #[.bool false, .slice none 0 0, .slice none 0 0] 29 (0, 0))) := ⟨by rw [← hq_]; exact (by (with_reducible repeat refine blk_drewN ?_ _); exact BK983.out)⟩; replace HB : Aside0 (Below w.heap.size w w14) := ⟨by rw [← hq_]; exact (by repeat (first | exact HB.out | apply pw_below_drewN | apply below_drew1 | apply below_alloc))⟩; clear hq_))) | ((with_reducible refine gate_callee (f := 40) rfl ?_); refine goesL_ (some 19) rfl rfl Try.func40 (by kernel_rfl) rfl #[.int .i64 t991, .int .i64 t992] rfl (by (try simp only [mA, mC, mN]); first | done | rfl | (simp only [lD, lT]; rfl)) ?_; (with_reducible refine (examboardref03_Of.calls k t991 t992 t993 t994 t997 t1000 _ A13.out).mono ?_); rintro e w15 ⟨v995, v998, rfl, ho0, ho1, hb⟩; refine ⟨_, rfl, ?_⟩; have HO996 := mk0 (Kd.R_lower ho0 (below_size (by repeat (first | exact HB.out | apply pw_below_drewN | apply below_drew1 | apply below_alloc)))); have HO999 := mk0 (Kd.R_lower ho1 (below_size (by repeat (first | exact HB.out | apply pw_below_drewN | apply below_drew1 | apply below_alloc)))); replace BK983 := (by first | exact bkB BK983 hb | exact bkD BK983 hb); replace HB := (by first | exact hbS HB hb | exact hbD HB hb)) | ((with_reducible refine gate_dst (N := 8) rfl ?_); refine box_event rfl (N := 8) rfl (cs := #[.bool false, .slice none 0 0, .slice none 0 0]) (t := 29) (by go_simp <;> rfl) ?_; intro gb1001 hg w16 hbox hb; replace HO996 := (by first | exact rB HO996 hb | exact rD HO996 hb); replace HO999 := (by first | exact rB HO999 hb | exact rD HO999 hb); have BK1001 := mk0 (hbox); have GE1001 := geB hg HB; replace HB := (by first | exact hbS HB hb | exact hbD HB hb); have NB983_1001 := nbA hg BK983; have NB1001_983 := nbB hg BK983; replace BK983 := (by first | exact bkB BK983 hb | exact bkD BK983 hb); clear hb hbox hg; have hnb17 := NB1001_983.out; have hnc17 := NB983_1001.out; obtain ⟨hcz18_0, hcz18_1, hcz18_2, hfz18_0, hfz18_1, hfz18_2⟩ := cz3 BK1001; obtain ⟨Ao19, co19, eo19⟩ := Kd.R_slice HO996.out; subst eo19; obtain ⟨Ao20, co20, eo20⟩ := Kd.R_slice HO999.out; subst eo20; obtain ⟨hcz21_0, hcz21_1, hcz21_2, hfz21_0, hfz21_1, hfz21_2⟩ := cz3 BK983))
  refine bodyPost_ret (results_ct rfl _ _ gb983 29 #[.bool t993, .slice Ao19 t994.length co19, .slice Ao20 t997.length co20] (0, 0) _ rfl (by (with_reducible repeat refine blk_drewN ?_ _); refine blk_put (cs := #[.bool t993, .slice Ao19 t994.length co19, .slice none 0 0]) ?_ 2 _ rfl; (with_reducible repeat refine blk_drewN ?_ _); refine blk_put (cs := #[.bool t993, .slice none 0 0, .slice none 0 0]) ?_ 1 _ rfl; (with_reducible repeat refine blk_drewN ?_ _); refine blk_put (cs := #[.bool false, .slice none 0 0, .slice none 0 0]) ?_ 0 _ rfl; (with_reducible repeat refine blk_drewN ?_ _); refine blk_far ?_ NB983_1001.out _; (with_reducible repeat refine blk_drewN ?_ _); refine blk_far ?_ NB983_1001.out _; (with_reducible repeat refine blk_drewN ?_ _); refine blk_far ?_ NB983_1001.out _; (with_reducible repeat refine blk_drewN ?_ _); exact BK983.out) Try.underlying29 rfl (by kernel_rfl)) rfl ?_
  exact ⟨_, _, by first | rfl | (simp [errW_none, errW_some] <;> rfl) | (simp [*, errW_none, errW_some] <;> rfl), by (with_reducible repeat apply Kd.R_drewN); exact Kd.R_mono (Kd.R_far (p := ⟨gb983, 2, none⟩) (Kd.R_far (p := ⟨gb983, 1, none⟩) (Kd.R_far (p := ⟨gb983, 0, none⟩) (Kd.R_far (p := ⟨gb1001, 2, none⟩) (Kd.R_far (p := ⟨gb1001, 1, none⟩) (Kd.R_far (p := ⟨gb1001, 0, none⟩) (Kd.R_types (Kd.R_types HO996.out BK1001.out (by decide)) BK983.out (by decide)) (fun _ hk => hk.1.2) (.bool t993)) (fun _ hk => hk.1.2) (.slice Ao19 t994.length co19)) (fun _ hk => hk.1.2) (.slice Ao20 t997.length co20)) (fun _ hk => hk.2) (.bool t993)) (fun _ hk => hk.2) (.slice Ao19 t994.length co19)) (fun _ hk => hk.2) (.slice Ao20 t997.length co20)) (fun _ hk => hk.1.1), by (with_reducible repeat apply Kd.R_drewN); exact Kd.R_mono (Kd.R_far (p := ⟨gb983, 2, none⟩) (Kd.R_far (p := ⟨gb983, 1, none⟩) (Kd.R_far (p := ⟨gb983, 0, none⟩) (Kd.R_far (p := ⟨gb1001, 2, none⟩) (Kd.R_far (p := ⟨gb1001, 1, none⟩) (Kd.R_far (p := ⟨gb1001, 0, none⟩) (Kd.R_types (Kd.R_types HO999.out BK1001.out (by decide)) BK983.out (by decide)) (fun _ hk => hk.1.2) (.bool t993)) (fun _ hk => hk.1.2) (.slice Ao19 t994.length co19)) (fun _ hk => hk.1.2) (.slice Ao20 t997.length co20)) (fun _ hk => hk.2) (.bool t993)) (fun _ hk => hk.2) (.slice Ao19 t994.length co19)) (fun _ hk => hk.2) (.slice Ao20 t997.length co20)) (fun _ hk => hk.1.1), by repeat (first | exact HB.out | apply pw_below_drewN | apply below_drew1 | apply below_alloc | refine below_set ?_ GE983.out | refine below_set ?_ GE1001.out)⟩
set_option maxHeartbeats 8000000 in
set_option maxRecDepth 100000 in
theorem examboardlaw37_limbs.calls (k : Nat) (A0 : Option Addr) (c0 : Nat) (l0 : List Int) (A1 : Option Addr) (c1 : Nat) (l1 : List Int) (r : Bool) (w : World) (hr0 : Kd.C (Kd.int .u32) w A0 l0.length l0) (hc0 : l0.length ≤ c0) (hr1 : Kd.C (Kd.int .u32) w A1 l1.length l1) (hc1 : l1.length ≤ c1) (h : examboardlaw37_limbs.f k l0 l1 = some r) :
  Calls Try.prog 41 #[.slice A0 l0.length c0, .slice A1 l1.length c1] w fun e w' => e = .returned (.bool r) ∧ Drawn0 w w' := by
 have HR0 := mk0 hr0
 have HC0 := mk0 hc0
 clear hr0 hc0
 have HR1 := mk0 hr1
 have HC1 := mk0 hc1
 clear hr1 hc1
 have H : (if (l0.length : Int) = (l1.length : Int) then (examboardlaw37_limbs.l0 k l0 l1 0) else (some false)) = some r := h
 clear h
 by_cases c3 : (l0.length : Int) = (l1.length : Int)
 ·rw [if_pos c3] at H
  have c3b0 : ((l0.length : Int) == (l1.length : Int)) = true := beq_iff_eq.mpr c3
  have c3b1 : ((l0.length : Int) != (l1.length : Int)) = false := bne_eq_false_iff_eq.mpr c3
  have c3b2 : (l0.length == l1.length) = true := by first | simpa using c3 | (simp at c3 ⊢; omega)
  clear c3
  have H' := mk0 H
  clear H
  go_enter Try.func41, Try.ntmps41
  go_wp2
  repeat (go_quiet (fail); try go_wp2)
  go_loopg [5] k (fun kq v5 w' => ∃ (x5_1 : Int), v5 = .int .i64 x5_1 ∧ Aside0 (examboardlaw37_limbs.l0 kq l0 l1 x5_1 = some r) ∧ Aside0 (kq ≤ k) ∧ Drawn0 w w')
  case atStart => exact ⟨(0), (by first | rfl | (simp; done) | (simp [*]; done)), H', ⟨Nat.le_refl _⟩, by repeat (first | exact Drawn0.refl _ | apply Drawn0.step)⟩
  case round =>
   clear H'
   try clear c1
   try clear p2
   try clear c3
   try clear c3b0
   try clear c3b1
   try clear c3b2
   obtain ⟨x5_1, rfl, HA, HK1, ⟨m1, rfl⟩⟩ := hrel
   cases gk with
   | zero => exact absurd HA.out (by simp [examboardlaw37_limbs.l0])
   | succ k1 =>
    have H := HA.out
    clear HA
    simp only [examboardlaw37_limbs.l0] at H
    by_cases c4 : x5_1 < (l0.length : Int)
    ·rw [if_pos c4] at H
     have c4b0 : decide (x5_1 < (l0.length : Int)) = true := decide_eq_true c4
     clear c4
     by_cases c5 : 0 ≤ x5_1
     ·rw [if_pos c5] at H
      have c5b0 : decide (0 ≤ x5_1) = true := decide_eq_true c5
      clear c5
      by_cases c6 : x5_1 < (l1.length : Int)
      ·rw [if_pos c6] at H
       have c6b0 : decide (x5_1 < (l1.length : Int)) = true := decide_eq_true c6
       clear c6
       by_cases c7 : (rd l0 x5_1) = (rd l1 x5_1)
       ·rw [if_pos c7] at H
        have c7b0 : ((rd l0 x5_1) == (rd l1 x5_1)) = true := beq_iff_eq.mpr c7
        have c7b1 : ((rd l0 x5_1) != (rd l1 x5_1)) = false := bne_eq_false_iff_eq.mpr c7
        clear c7
        have H' := mk0 H
        clear H
        have p1002 : 0 ≤ (x5_1 : Int) := of_decide_eq_true (by assumption)
        have q1002 : x5_1 < (l0.length : Int) := of_decide_eq_true (by assumption)
        obtain ⟨ad1002, e1002, hx1002_0⟩ := Kd.at_int HR0.out x5_1 p1002 q1002
        cases e1002
        replace p1002 := eq_true p1002
        replace q1002 := eq_true q1002
        have p1003 : 0 ≤ (x5_1 : Int) := of_decide_eq_true (by assumption)
        have q1003 : x5_1 < (l1.length : Int) := of_decide_eq_true (by assumption)
        obtain ⟨ad1003, e1003, hx1003_0⟩ := Kd.at_int HR1.out x5_1 p1003 q1003
        cases e1003
        replace p1003 := eq_true p1003
        replace q1003 := eq_true q1003
        go_wp2
        repeat (go_quiet (fail); try go_wp2)
        go_roundg k1
        case measure => have := HK1.out; omega
        case rel => exact ⟨(wrap64 (x5_1 + 1)), (by first | rfl | (simp; done) | (simp [*]; done)), H', ⟨by have := HK1.out; omega⟩, by repeat (first | exact Drawn0.refl _ | apply Drawn0.step)⟩
       ·rw [if_neg c7] at H
        have c7b0 : ((rd l0 x5_1) == (rd l1 x5_1)) = false := beq_eq_false_iff_ne.mpr c7
        have c7b1 : ((rd l0 x5_1) != (rd l1 x5_1)) = true := bne_iff_ne.mpr c7
        obtain rfl := Option.some.inj H
        have p1002 : 0 ≤ (x5_1 : Int) := of_decide_eq_true (by assumption)
        have q1002 : x5_1 < (l0.length : Int) := of_decide_eq_true (by assumption)
        obtain ⟨ad1002, e1002, hx1002_0⟩ := Kd.at_int HR0.out x5_1 p1002 q1002
        cases e1002
        replace p1002 := eq_true p1002
        replace q1002 := eq_true q1002
        have p1003 : 0 ≤ (x5_1 : Int) := of_decide_eq_true (by assumption)
        have q1003 : x5_1 < (l1.length : Int) := of_decide_eq_true (by assumption)
        obtain ⟨ad1003, e1003, hx1003_0⟩ := Kd.at_int HR1.out x5_1 p1003 q1003
        cases e1003
        replace p1003 := eq_true p1003
        replace q1003 := eq_true q1003
        go_wp2
        repeat (go_quiet (fail); try go_wp2)
        go_ret
        exact ⟨by first | rfl | (simp; done) | (simp [*]; done), by repeat (first | exact Drawn0.refl _ | apply Drawn0.step)⟩
      ·rw [if_neg c6] at H
       exact absurd H (by simp)
     ·rw [if_neg c5] at H
      exact absurd H (by simp)
    ·rw [if_neg c4] at H
     have c4b0 : decide (x5_1 < (l0.length : Int)) = false := decide_eq_false c4
     clear c4
     obtain rfl := Option.some.inj H
     go_wp2
     repeat (go_quiet (fail); try go_wp2)
     go_ret
     exact ⟨by first | rfl | (simp; done) | (simp [*]; done), by repeat (first | exact Drawn0.refl _ | apply Drawn0.step)⟩
 ·rw [if_neg c3] at H
  have c3b0 : ((l0.length : Int) == (l1.length : Int)) = false := beq_eq_false_iff_ne.mpr c3
  have c3b1 : ((l0.length : Int) != (l1.length : Int)) = true := bne_iff_ne.mpr c3
  have c3b2 : (l0.length == l1.length) = false := by first | simpa using c3 | (simp at c3 ⊢; omega)
  obtain rfl := Option.some.inj H
  go_enter Try.func41, Try.ntmps41
  go_wp2
  repeat (go_quiet (fail); try go_wp2)
  go_ret
  exact ⟨by first | rfl | (simp; done) | (simp [*]; done), by repeat (first | exact Drawn0.refl _ | apply Drawn0.step)⟩
set_option maxHeartbeats 8000000 in
set_option maxRecDepth 100000 in
theorem examboardlaw37_same.calls (k : Nat) (a0_0 : Bool) (A0_1 : Option Addr) (c0_1 : Nat) (l0_1 : List Int) (A0_2 : Option Addr) (c0_2 : Nat) (l0_2 : List Int) (a1_0 : Bool) (A1_1 : Option Addr) (c1_1 : Nat) (l1_1 : List Int) (A1_2 : Option Addr) (c1_2 : Nat) (l1_2 : List Int) (r : Bool) (w : World) (hr0_1 : Kd.C (Kd.int .u32) w A0_1 l0_1.length l0_1) (hc0_1 : l0_1.length ≤ c0_1) (hr0_2 : Kd.C (Kd.int .u32) w A0_2 l0_2.length l0_2) (hc0_2 : l0_2.length ≤ c0_2) (hr1_1 : Kd.C (Kd.int .u32) w A1_1 l1_1.length l1_1) (hc1_1 : l1_1.length ≤ c1_1) (hr1_2 : Kd.C (Kd.int .u32) w A1_2 l1_2.length l1_2) (hc1_2 : l1_2.length ≤ c1_2) (h : examboardlaw37_same.f k a0_0 l0_1 l0_2 a1_0 l1_1 l1_2 = some r) :
  Calls Try.prog 21 #[.agg #[.bool a0_0, .slice A0_1 l0_1.length c0_1, .slice A0_2 l0_2.length c0_2], .agg #[.bool a1_0, .slice A1_1 l1_1.length c1_1, .slice A1_2 l1_2.length c1_2]] w fun e w' => e = .returned (.bool r) ∧ Below w.heap.size w w' := by
 have hu29 := Try.underlying29
 have HR0_1 := mk0 hr0_1
 have HC0_1 := mk0 hc0_1
 clear hr0_1 hc0_1
 have HR0_2 := mk0 hr0_2
 have HC0_2 := mk0 hc0_2
 clear hr0_2 hc0_2
 have HR1_1 := mk0 hr1_1
 have HC1_1 := mk0 hc1_1
 clear hr1_1 hc1_1
 have HR1_2 := mk0 hr1_2
 have HC1_2 := mk0 hc1_2
 clear hr1_2 hc1_2
 have HB := mk0 (Below.refl w.heap.size w)
 have H : (if (a0_0 == a1_0) = true then ((examboardlaw37_limbs.f k l0_1 l1_1).bind fun t1006 => (if t1006 = true then ((examboardlaw37_limbs.f k l0_2 l1_2).bind fun t1007 => (some t1007)) else (some false))) else (some false)) = some r := h
 clear h
 by_cases c3 : (a0_0 == a1_0) = true
 ·rw [if_pos c3] at H
  have c3b0 : (a0_0 == a1_0) = true := c3
  (try (have c3b1 : decide (a0_0 = a1_0) = true := by simpa using c3))
  (try (have c3b2 : (a0_0 == a1_0) = true := by simpa using c3))
  clear c3
  obtain ⟨t1006, A4, H⟩ := bindA H
  by_cases c5 : t1006 = true
  ·subst c5
   have H1 : ((examboardlaw37_limbs.f k l0_2 l1_2).bind fun t1007 => (some t1007)) = some r := by rw [if_pos rfl] at H; exact H
   clear H
   have H := H1
   clear H1
   obtain ⟨t1007, A6, H⟩ := bindA H
   obtain rfl := Option.some.inj H
   go_enter Try.func21, Try.ntmps21
   go_wp2_with (first | ((with_reducible refine gate_dst (N := 2) rfl ?_); refine box_event rfl (N := 2) rfl (cs := #[.bool a0_0, .slice A0_1 l0_1.length c0_1, .slice A0_2 l0_2.length c0_2]) (t := 29) (by go_simp <;> rfl) ?_; intro gb1004 hg w7 hbox hb; have BK1004 := mk0 (hbox); have GE1004 := geB hg HB; replace HB := (by first | exact hbS HB hb | exact hbD HB hb); clear hb hbox hg) | ((with_reducible refine gate_dst (N := 3) rfl ?_); refine box_event rfl (N := 3) rfl (cs := #[.bool a1_0, .slice A1_1 l1_1.length c1_1, .slice A1_2 l1_2.length c1_2]) (t := 29) (by go_simp <;> rfl) ?_; intro gb1005 hg w8 hbox hb; have BK1005 := mk0 (hbox); have GE1005 := geB hg HB; replace HB := (by first | exact hbS HB hb | exact hbD HB hb); have NB1004_1005 := nbA hg BK1004; have NB1005_1004 := nbB hg BK1004; replace BK1004 := (by first | exact bkB BK1004 hb | exact bkD BK1004 hb); clear hb hbox hg; have hnb9 := NB1004_1005.out; have hnc9 := NB1005_1004.out; obtain ⟨hcz10_0, hcz10_1, hcz10_2, hfz10_0, hfz10_1, hfz10_2⟩ := cz3 BK1004; obtain ⟨hcz11_0, hcz11_1, hcz11_2, hfz11_0, hfz11_1, hfz11_2⟩ := cz3 BK1005) | (go_at_call 41; (with_reducible refine (examboardlaw37_limbs.calls k _ _ l0_1 _ _ l1_1 true _ (by exact Cb HR0_1.out HB.out) HC0_1.out (by exact Cb HR1_1.out HB.out) HC1_1.out A4.out).mono ?_); rintro e w' ⟨rfl, ⟨nd, rfl⟩⟩) | (go_at_call 41; (with_reducible refine (examboardlaw37_limbs.calls k _ _ l0_2 _ _ l1_2 t1007 _ (by repeat (first | exact (Cb HR0_2.out (by repeat (first | exact HB.out | apply bN | apply b1 | apply bA))) | (with_reducible refine Kd.C_alloc ?_ _) | (with_reducible refine Kd.C_drewN ?_ _) | (with_reducible refine Kd.C_drew ?_))) HC0_2.out (by repeat (first | exact (Cb HR1_2.out (by repeat (first | exact HB.out | apply bN | apply b1 | apply bA))) | (with_reducible refine Kd.C_alloc ?_ _) | (with_reducible refine Kd.C_drewN ?_ _) | (with_reducible refine Kd.C_drew ?_))) HC1_2.out A6.out).mono ?_); rintro e w' ⟨rfl, ⟨nd, rfl⟩⟩))
   go_ret
   exact ⟨by first | rfl | (simp [errW_none, errW_some] <;> rfl) | (simp [*, errW_none, errW_some] <;> rfl), by repeat (first | exact HB.out | apply bN | apply b1 | apply bA | refine bS ?_ GE1004.out | refine bS ?_ GE1005.out)⟩
  ·replace c5 := Bool.eq_false_iff.mpr c5
   subst c5
   have H1 : (some false) = some r := by rw [if_neg (show ¬ (false = true) by decide)] at H; exact H
   clear H
   have H := H1
   clear H1
   obtain rfl := Option.some.inj H
   go_enter Try.func21, Try.ntmps21
   go_wp2_with (first | ((with_reducible refine gate_dst (N := 2) rfl ?_); refine box_event rfl (N := 2) rfl (cs := #[.bool a0_0, .slice A0_1 l0_1.length c0_1, .slice A0_2 l0_2.length c0_2]) (t := 29) (by go_simp <;> rfl) ?_; intro gb1004 hg w12 hbox hb; have BK1004 := mk0 (hbox); have GE1004 := geB hg HB; replace HB := (by first | exact hbS HB hb | exact hbD HB hb); clear hb hbox hg) | ((with_reducible refine gate_dst (N := 3) rfl ?_); refine box_event rfl (N := 3) rfl (cs := #[.bool a1_0, .slice A1_1 l1_1.length c1_1, .slice A1_2 l1_2.length c1_2]) (t := 29) (by go_simp <;> rfl) ?_; intro gb1005 hg w13 hbox hb; have BK1005 := mk0 (hbox); have GE1005 := geB hg HB; replace HB := (by first | exact hbS HB hb | exact hbD HB hb); have NB1004_1005 := nbA hg BK1004; have NB1005_1004 := nbB hg BK1004; replace BK1004 := (by first | exact bkB BK1004 hb | exact bkD BK1004 hb); clear hb hbox hg; have hnb14 := NB1004_1005.out; have hnc14 := NB1005_1004.out; obtain ⟨hcz15_0, hcz15_1, hcz15_2, hfz15_0, hfz15_1, hfz15_2⟩ := cz3 BK1004; obtain ⟨hcz16_0, hcz16_1, hcz16_2, hfz16_0, hfz16_1, hfz16_2⟩ := cz3 BK1005) | (go_at_call 41; (with_reducible refine (examboardlaw37_limbs.calls k _ _ l0_1 _ _ l1_1 false _ (by exact Cb HR0_1.out HB.out) HC0_1.out (by exact Cb HR1_1.out HB.out) HC1_1.out A4.out).mono ?_); rintro e w' ⟨rfl, ⟨nd, rfl⟩⟩))
   go_ret
   exact ⟨by first | rfl | (simp [errW_none, errW_some] <;> rfl) | (simp [*, errW_none, errW_some] <;> rfl), by repeat (first | exact HB.out | apply bN | apply b1 | apply bA | refine bS ?_ GE1004.out | refine bS ?_ GE1005.out)⟩
 ·rw [if_neg c3] at H
  have c3b0 : (a0_0 == a1_0) = false := by simpa using c3
  (try (have c3b1 : decide (a0_0 = a1_0) = false := by simpa using c3))
  (try (have c3b2 : (a0_0 == a1_0) = false := by simpa using c3))
  (try (have c3b3 : ¬ (a0_0 = a1_0) := by simpa using c3))
  clear c3
  obtain rfl := Option.some.inj H
  go_enter Try.func21, Try.ntmps21
  go_wp2_with (first | ((with_reducible refine gate_dst (N := 2) rfl ?_); refine box_event rfl (N := 2) rfl (cs := #[.bool a0_0, .slice A0_1 l0_1.length c0_1, .slice A0_2 l0_2.length c0_2]) (t := 29) (by go_simp <;> rfl) ?_; intro gb1004 hg w17 hbox hb; have BK1004 := mk0 (hbox); have GE1004 := geB hg HB; replace HB := (by first | exact hbS HB hb | exact hbD HB hb); clear hb hbox hg) | ((with_reducible refine gate_dst (N := 3) rfl ?_); refine box_event rfl (N := 3) rfl (cs := #[.bool a1_0, .slice A1_1 l1_1.length c1_1, .slice A1_2 l1_2.length c1_2]) (t := 29) (by go_simp <;> rfl) ?_; intro gb1005 hg w18 hbox hb; have BK1005 := mk0 (hbox); have GE1005 := geB hg HB; replace HB := (by first | exact hbS HB hb | exact hbD HB hb); have NB1004_1005 := nbA hg BK1004; have NB1005_1004 := nbB hg BK1004; replace BK1004 := (by first | exact bkB BK1004 hb | exact bkD BK1004 hb); clear hb hbox hg; have hnb19 := NB1004_1005.out; have hnc19 := NB1005_1004.out; obtain ⟨hcz20_0, hcz20_1, hcz20_2, hfz20_0, hfz20_1, hfz20_2⟩ := cz3 BK1004; obtain ⟨hcz21_0, hcz21_1, hcz21_2, hfz21_0, hfz21_1, hfz21_2⟩ := cz3 BK1005))
  go_ret
  exact ⟨by first | rfl | (simp [errW_none, errW_some] <;> rfl) | (simp [*, errW_none, errW_some] <;> rfl), by repeat (first | exact HB.out | apply bN | apply b1 | apply bA | refine bS ?_ GE1004.out | refine bS ?_ GE1005.out)⟩
def examboardlaw37_ExposureCounts.T6 : Bool × List (List Nat × List Nat) := (true, [([], []), ([], []), ([], []), ([1, 2], [1, 2]), ([0, 3], [0, 3]), ([4, 3], [4]), ([5], [5]), ([5], [5]), ([6, 7, 5], [5, 6, 7]), ([5, 8], [5, 8]), ([9, 5], [9]), ([10], [10]), ([10], [10]), ([11, 12, 10, 10], [10, 11, 12]), ([10, 13], [10, 13]), ([14, 13], [14]), ([15], [15]), ([15], [15]), ([15], [15]), ([15], [15]), ([16, 17, 18, 19, 15, 15], [15, 16, 17, 18, 19]), ([15], [15]), ([15], [15]), ([15], [15]), ([15], [15]), ([21, 22, 23, 24, 20, 15], [15, 21, 22, 23, 24]), ([20, 25, 15], [15, 20, 25]), ([15, 26], [15, 26]), ([27, 25, 0, 1, 2, 3, 4, 5, 6, 7, 8, 9, 10, 11, 12, 13, 14, 15, 16, 17, 18, 19, 20, 21, 22, 23, 24, 25, 26, 27], [27])])
def examboardlaw37_ExposureCounts.B6 : List Nat := [0, 0, 0, 6, 15, 31, 63, 63, 255, 511, 1023, 2047, 2047, 8191, 16383, 32767, 65535, 65535, 65535, 65535, 1048575, 65535, 65535, 65535, 65535, 33554431, 67108863, 134217727, 268435455]
theorem examboardlaw37_ExposureCounts.tab6 : rtab .any (opsOf Try.f6 6) = examboardlaw37_ExposureCounts.T6 := by kernel_rfl
theorem examboardlaw37_ExposureCounts.bits6 : waitsOk examboardlaw37_ExposureCounts.T6.2 examboardlaw37_ExposureCounts.B6 = true := by kernel_rfl
set_option maxHeartbeats 8000000 in
set_option maxRecDepth 100000 in
theorem examboardlaw37_ExposureCounts.calls (k : Nat) (A0 : Option Addr) (c0 : Nat) (l0 : List (S50)) (a1 : Int) (a2 : Int) (a3_0 : Bool) (A3_1 : Option Addr) (c3_1 : Nat) (l3_1 : List Int) (A3_2 : Option Addr) (c3_2 : Nat) (l3_2 : List Int) (a4 : Int) (r : Bool) (w : World) (hr0 : Kd.C k50 w A0 l0.length l0) (hc0 : l0.length ≤ c0) (hr3_1 : Kd.C (Kd.int .u32) w A3_1 l3_1.length l3_1) (hc3_1 : l3_1.length ≤ c3_1) (hr3_2 : Kd.C (Kd.int .u32) w A3_2 l3_2.length l3_2) (hc3_2 : l3_2.length ≤ c3_2) (h : examboardlaw37_ExposureCounts.f k l0 a1 a2 a3_0 l3_1 l3_2 a4 = some r) (hrt : r = true) :
  Calls Try.prog 6 #[.slice A0 l0.length c0, .int .i64 a1, .int .i64 a2, .agg #[.bool a3_0, .slice A3_1 l3_1.length c3_1, .slice A3_2 l3_2.length c3_2], .int .i64 a4] w fun e w' => e = .returned (.bool r) ∧ Below w.heap.size w w' := by
 have hu29 := Try.underlying29
 have HR0 := mk0 hr0
 have HC0 := mk0 hc0
 clear hr0 hc0
 have HR3_1 := mk0 hr3_1
 have HC3_1 := mk0 hc3_1
 clear hr3_1 hc3_1
 have HR3_2 := mk0 hr3_2
 have HC3_2 := mk0 hc3_2
 clear hr3_2 hc3_2
 have HB := mk0 (Below.refl w.heap.size w)
 have H : ((examboardlaw37_large.f a3_0 l3_1 l3_2).bind fun t1009 => (if t1009 = true then (some true) else ((exposure_Count.f k l0 a1).bind fun t1010 => ((exposure_Rate.f k l0 a1 a2).bind fun bt1011 => ((examboardref37_Rate.f k l0 a1 a2).bind fun bt1020 => ((examboardref37_Count.f k l0 a1).bind fun t1029 => (if t1010 = t1029 then (if bt1011.2.2.2 = bt1020.2.2.2 then ((examboardlaw37_same.f k bt1011.1 bt1011.2.1 bt1011.2.2.1 bt1020.1 bt1020.2.1 bt1020.2.2.1).bind fun t1030 => (if t1030 = true then ((exposure_Eligible.f k t1010 a2 a3_0 l3_1 l3_2 a4).bind fun t1031 => ((examboardref37_Eligible.f k t1010 a2 a3_0 l3_1 l3_2 a4).bind fun t1032 => (some (t1031 == t1032)))) else (some false))) else (some false)) else (some false)))))))) = some r := h
 clear h
 obtain ⟨t1009, A6, H⟩ := bindA H
 by_cases c7 : t1009 = true
 ·subst c7
  have H1 : (some true) = some r := by rw [if_pos rfl] at H; exact H
  clear H
  have H := H1
  clear H1
  obtain rfl := Option.some.inj H
  go_enter Try.func6, Try.ntmps6
  go_wp2_with (first | ((with_reducible refine gate_dst (N := 8) rfl ?_); refine box_event rfl (N := 8) rfl (cs := #[.bool a3_0, .slice A3_1 l3_1.length c3_1, .slice A3_2 l3_2.length c3_2]) (t := 29) (by go_simp <;> rfl) ?_; intro gb1008 hg w8 hbox hb; have BK1008 := mk0 (hbox); have GE1008 := geB hg HB; replace HB := (by first | exact hbS HB hb | exact hbD HB hb); clear hb hbox hg; obtain ⟨hcz9_0, hcz9_1, hcz9_2, hfz9_0, hfz9_1, hfz9_2⟩ := cz3 BK1008) | ((with_reducible refine gate_callee (f := 10) rfl ?_); refine goA 17 Try.func10 #[.agg #[.bool a3_0, .slice A3_1 l3_1.length c3_1, .slice A3_2 l3_2.length c3_2]] ?_; (with_reducible refine (examboardlaw37_large.calls a3_0 _ _ l3_1 _ _ l3_2 true _ (by exact Cb HR3_1.out HB.out) HC3_1.out (by exact Cb HR3_2.out HB.out) HC3_2.out A6.out).mono ?_); rintro e w10 ⟨rfl, hb⟩; refine ⟨_, rfl, ?_⟩; replace BK1008 := (by first | exact bkB BK1008 hb | exact bkD BK1008 hb); replace HB := (by first | exact hbS HB hb | exact hbD HB hb)))
  go_ret
  exact ⟨by first | rfl | (simp [errW_none, errW_some] <;> rfl) | (simp [*, errW_none, errW_some] <;> rfl), by repeat (first | exact HB.out | apply bN | apply b1 | apply bA | refine bS ?_ GE1008.out)⟩
 ·replace c7 := Bool.eq_false_iff.mpr c7
  subst c7
  have H1 : ((exposure_Count.f k l0 a1).bind fun t1010 => ((exposure_Rate.f k l0 a1 a2).bind fun bt1011 => ((examboardref37_Rate.f k l0 a1 a2).bind fun bt1020 => ((examboardref37_Count.f k l0 a1).bind fun t1029 => (if t1010 = t1029 then (if bt1011.2.2.2 = bt1020.2.2.2 then ((examboardlaw37_same.f k bt1011.1 bt1011.2.1 bt1011.2.2.1 bt1020.1 bt1020.2.1 bt1020.2.2.1).bind fun t1030 => (if t1030 = true then ((exposure_Eligible.f k t1010 a2 a3_0 l3_1 l3_2 a4).bind fun t1031 => ((examboardref37_Eligible.f k t1010 a2 a3_0 l3_1 l3_2 a4).bind fun t1032 => (some (t1031 == t1032)))) else (some false))) else (some false)) else (some false)))))) = some r := by rw [if_neg (show ¬ (false = true) by decide)] at H; exact H
  clear H
  have H := H1
  clear H1
  obtain ⟨t1010, A11, H⟩ := bindA H
  obtain ⟨⟨t1011, t1012, t1015, t1018⟩, A12, H⟩ := bindA H
  obtain ⟨⟨t1020, t1021, t1024, t1027⟩, A13, H⟩ := bindA H
  obtain ⟨t1029, A14, H⟩ := bindA H
  by_cases c15 : t1010 = t1029
  ·rw [if_pos c15] at H
   have c15b0 : (t1010 == t1029) = true := beq_iff_eq.mpr c15
   have c15b1 : (t1010 != t1029) = false := bne_eq_false_iff_eq.mpr c15
   clear c15
   by_cases c16 : t1018 = t1027
   ·rw [if_pos c16] at H
    have c16b0 : (t1018 == t1027) = true := beq_iff_eq.mpr c16
    have c16b1 : (t1018 != t1027) = false := bne_eq_false_iff_eq.mpr c16
    clear c16
    obtain ⟨t1030, A17, H⟩ := bindA H
    by_cases c18 : t1030 = true
    ·subst c18
     have H1 : ((exposure_Eligible.f k t1010 a2 a3_0 l3_1 l3_2 a4).bind fun t1031 => ((examboardref37_Eligible.f k t1010 a2 a3_0 l3_1 l3_2 a4).bind fun t1032 => (some (t1031 == t1032)))) = some r := by rw [if_pos rfl] at H; exact H
     clear H
     have H := H1
     clear H1
     obtain ⟨t1031, A19, H⟩ := bindA H
     obtain ⟨t1032, A20, H⟩ := bindA H
     obtain rfl := Option.some.inj H
     go_enter Try.func6, Try.ntmps6
     try go_wp2_with (first | ((with_reducible refine gate_dst (N := 8) rfl ?_); refine box_event rfl (N := 8) rfl (cs := #[.bool a3_0, .slice A3_1 l3_1.length c3_1, .slice A3_2 l3_2.length c3_2]) (t := 29) (by go_simp <;> rfl) ?_; intro gb1008 hg w21 hbox hb; have BK1008 := mk0 (hbox); have GE1008 := geB hg HB; replace HB := (by first | exact hbS HB hb | exact hbD HB hb); clear hb hbox hg; obtain ⟨hcz22_0, hcz22_1, hcz22_2, hfz22_0, hfz22_1, hfz22_2⟩ := cz3 BK1008) | ((with_reducible refine gate_callee (f := 10) rfl ?_); refine goA 17 Try.func10 #[.agg #[.bool a3_0, .slice A3_1 l3_1.length c3_1, .slice A3_2 l3_2.length c3_2]] ?_; (with_reducible refine (examboardlaw37_large.calls a3_0 _ _ l3_1 _ _ l3_2 false _ (by exact Cb HR3_1.out HB.out) HC3_1.out (by exact Cb HR3_2.out HB.out) HC3_2.out A6.out).mono ?_); rintro e w23 ⟨rfl, hb⟩; refine ⟨_, rfl, ?_⟩; replace BK1008 := (by first | exact bkB BK1008 hb | exact bkD BK1008 hb); replace HB := (by first | exact hbS HB hb | exact hbD HB hb)) | ((with_reducible refine gate_callee (f := 17) rfl ?_); refine goA 20 Try.func17 #[.slice A0 l0.length c0, .int .i64 a1] ?_; (with_reducible refine (exposure_Count.calls k _ _ l0 a1 t1010 _ (by exact Cb HR0.out HB.out) HC0.out A11.out).mono ?_); rintro e w24 ⟨rfl, hb⟩; refine ⟨_, rfl, ?_⟩; replace BK1008 := (by first | exact bkB BK1008 hb | exact bkD BK1008 hb); replace HB := (by first | exact hbS HB hb | exact hbD HB hb)) | ((with_reducible refine gate_callee (f := 18) rfl ?_); refine goA 25 Try.func18 #[.slice A0 l0.length c0, .int .i64 a1, .int .i64 a2] ?_; (with_reducible refine (exposure_Rate.calls k _ _ l0 a1 a2 t1011 t1012 t1015 t1018 _ (by exact Cb HR0.out HB.out) HC0.out A12.out).mono ?_); rintro e w25 ⟨v1013, v1016, rfl, ho0, ho1, hb⟩; refine ⟨_, rfl, ?_⟩; have HO1014 := mk0 (Rl (Rm (ok' := fun k_ => True) ho0 tv) (bZ (by repeat (first | exact HB.out | apply bN | apply b1 | apply bA)))); have HO1017 := mk0 (Vl (Vm (ok' := fun k_ => some k_ ≠ (v1013 : Value).ownBlock ∧ k_ ≠ gb1008) ho1 (fun k_ hk_ => ⟨hk_.2, (Kd.freshB (g := gb1008) (o := .cells #[.bool a3_0, .slice A3_1 l3_1.length c3_1, .slice A3_2 l3_2.length c3_2] 29 (0, 0)) (by (with_reducible repeat refine blk_drewN ?_ _); exact BK1008.out) k_ hk_.1)⟩)) (bZ (by repeat (first | exact HB.out | apply bN | apply b1 | apply bA)))); replace BK1008 := (by first | exact bkB BK1008 hb | exact bkD BK1008 hb); replace HB := (by first | exact hbS HB hb | exact hbD HB hb)) | ((with_reducible refine gate_dst (N := 12) rfl ?_); refine box_event rfl (N := 12) rfl (cs := #[.bool false, .slice none 0 0, .slice none 0 0]) (t := 29) (by go_simp <;> rfl) ?_; intro gb1019 hg w26 hbox hb; replace HO1014 := (by first | exact rB HO1014 hb | exact rD HO1014 hb); replace HO1017 := mk0 (Kd.V_below (Kd.V_elderB (by (with_reducible repeat apply Kd.V_drewN); exact HO1017.out) gb1019 (Nat.le_of_eq hg.symm)) hb); have BK1019 := mk0 (hbox); have GE1019 := geB hg HB; replace HB := (by first | exact hbS HB hb | exact hbD HB hb); have NB1008_1019 := nbA hg BK1008; have NB1019_1008 := nbB hg BK1008; replace BK1008 := (by first | exact bkB BK1008 hb | exact bkD BK1008 hb); clear hb hbox hg; have hnb27 := NB1019_1008.out; have hnc27 := NB1008_1019.out; obtain ⟨hcz28_0, hcz28_1, hcz28_2, hfz28_0, hfz28_1, hfz28_2⟩ := cz3 BK1019; obtain ⟨Ao29, co29, eo29⟩ := Kd.R_slice HO1014.out; subst eo29; obtain ⟨Ao30, co30, eo30⟩ := Kd.V_slice HO1017.out; subst eo30) | ((with_reducible refine gate_callee (f := 19) rfl ?_); refine goA 32 Try.func19 #[.slice A0 l0.length c0, .int .i64 a1, .int .i64 a2] ?_; (with_reducible refine (examboardref37_Rate.calls k _ _ l0 a1 a2 t1020 t1021 t1024 t1027 _ (by exact Cb HR0.out (by repeat (first | exact HB.out | apply bN | apply b1 | apply bA | refine bS ?_ GE1019.out))) HC0.out A13.out).mono ?_); rintro e w31 ⟨v1022, v1025, rfl, ho0, ho1, hb⟩; refine ⟨_, rfl, ?_⟩; replace HO1017 := mk0 (Vm (Kd.V_told (Kd.V_told (Kd.V_old (by (with_reducible repeat apply Kd.V_drewN); exact (Vm (Vf (p := ⟨gb1019, 2, none⟩) (Vf (p := ⟨gb1019, 1, none⟩) (Vf (p := ⟨gb1019, 0, none⟩) (Vm HO1017.out (fun k_ hk => (⟨hk, hk.2⟩ : _ ∧ k_ ≠ gb1019))) (fun _ hk => hk.2) (.bool t1011)) (fun _ hk => hk.2) (.slice Ao29 t1012.length co29)) (fun _ hk => hk.2) (.slice Ao30 t1015.length co30)) (fun _ h_ => h_.1))) hb) (Rs ho0)) (Rs ho1)) (fun _ h_ => h_.1)); have HO1023 := mk0 (Rl (Rn ho0 (Rq (by (with_reducible repeat apply Kd.R_drewN); exact (Rm (Rf (p := ⟨gb1019, 2, none⟩) (Rf (p := ⟨gb1019, 1, none⟩) (Rf (p := ⟨gb1019, 0, none⟩) (Rt HO1014.out BK1019.out (by decide)) (fun _ hk => hk.2) (.bool t1011)) (fun _ hk => hk.2) (.slice Ao29 t1012.length co29)) (fun _ hk => hk.2) (.slice Ao30 t1015.length co30)) (fun _ h_ => h_.1))))) (bZ (by repeat (first | exact HB.out | apply bN | apply b1 | apply bA | refine bS ?_ GE1019.out)))); have HO1026 := mk0 (Rl (Rn ho1 (Rq (by (with_reducible repeat apply Kd.R_drewN); exact (Rm (Rf (p := ⟨gb1019, 2, none⟩) (Rf (p := ⟨gb1019, 1, none⟩) (Rf (p := ⟨gb1019, 0, none⟩) (Rt HO1014.out BK1019.out (by decide)) (fun _ hk => hk.2) (.bool t1011)) (fun _ hk => hk.2) (.slice Ao29 t1012.length co29)) (fun _ hk => hk.2) (.slice Ao30 t1015.length co30)) (fun _ h_ => h_.1))))) (bZ (by repeat (first | exact HB.out | apply bN | apply b1 | apply bA | refine bS ?_ GE1019.out)))); replace HO1014 := mk0 (Rm (Kd.R_told (Kd.R_told (Kd.R_old (by (with_reducible repeat apply Kd.R_drewN); exact (Rm (Rf (p := ⟨gb1019, 2, none⟩) (Rf (p := ⟨gb1019, 1, none⟩) (Rf (p := ⟨gb1019, 0, none⟩) (Rt HO1014.out BK1019.out (by decide)) (fun _ hk => hk.2) (.bool t1011)) (fun _ hk => hk.2) (.slice Ao29 t1012.length co29)) (fun _ hk => hk.2) (.slice Ao30 t1015.length co30)) (fun _ h_ => h_.1))) hb) (Rs ho0)) (Rs ho1)) (fun _ h_ => h_.1)); replace BK1008 := mk0 (blk_below (g := gb1008) (o := .cells #[.bool a3_0, .slice A3_1 l3_1.length c3_1, .slice A3_2 l3_2.length c3_2] 29 (0, 0)) (by (with_reducible repeat refine blk_drewN ?_ _); refine blk_far ?_ NB1008_1019.out _; (with_reducible repeat refine blk_drewN ?_ _); refine blk_far ?_ NB1008_1019.out _; (with_reducible repeat refine blk_drewN ?_ _); refine blk_far ?_ NB1008_1019.out _; (with_reducible repeat refine blk_drewN ?_ _); exact BK1008.out) hb); replace BK1019 := mk0 (blk_below (g := gb1019) (o := .cells #[.bool t1011, .slice Ao29 t1012.length co29, .slice Ao30 t1015.length co30] 29 (0, 0)) (by (with_reducible repeat refine blk_drewN ?_ _); refine blk_put (cs := #[.bool t1011, .slice Ao29 t1012.length co29, .slice none 0 0]) ?_ 2 _ rfl; (with_reducible repeat refine blk_drewN ?_ _); refine blk_put (cs := #[.bool t1011, .slice none 0 0, .slice none 0 0]) ?_ 1 _ rfl; (with_reducible repeat refine blk_drewN ?_ _); refine blk_put (cs := #[.bool false, .slice none 0 0, .slice none 0 0]) ?_ 0 _ rfl; (with_reducible repeat refine blk_drewN ?_ _); exact BK1019.out) hb); replace HB := mk0 (below_step (by repeat (first | exact HB.out | apply bN | apply b1 | apply bA | refine bS ?_ GE1019.out)) hb)) | ((with_reducible refine gate_dst (N := 14) rfl ?_); refine box_event rfl (N := 14) rfl (cs := #[.bool false, .slice none 0 0, .slice none 0 0]) (t := 29) (by go_simp <;> rfl) ?_; intro gb1028 hg w32 hbox hb; replace HO1014 := (by first | exact rB HO1014 hb | exact rD HO1014 hb); replace HO1017 := mk0 (Kd.V_below (Kd.V_elderB (by (with_reducible repeat apply Kd.V_drewN); exact HO1017.out) gb1028 (Nat.le_of_eq hg.symm)) hb); replace HO1023 := (by first | exact rB HO1023 hb | exact rD HO1023 hb); replace HO1026 := (by first | exact rB HO1026 hb | exact rD HO1026 hb); have BK1028 := mk0 (hbox); have GE1028 := geB hg HB; replace HB := (by first | exact hbS HB hb | exact hbD HB hb); have NB1008_1028 := nbA hg BK1008; have NB1028_1008 := nbB hg BK1008; replace BK1008 := (by first | exact bkB BK1008 hb | exact bkD BK1008 hb); have NB1019_1028 := nbA hg BK1019; have NB1028_1019 := nbB hg BK1019; replace BK1019 := (by first | exact bkB BK1019 hb | exact bkD BK1019 hb); clear hb hbox hg; have hnb33 := NB1028_1008.out; have hnc33 := NB1008_1028.out; have hnb34 := NB1028_1019.out; have hnc34 := NB1019_1028.out; obtain ⟨hcz35_0, hcz35_1, hcz35_2, hfz35_0, hfz35_1, hfz35_2⟩ := cz3 BK1028; obtain ⟨Ao36, co36, eo36⟩ := Kd.R_slice HO1023.out; subst eo36; obtain ⟨Ao37, co37, eo37⟩ := Kd.R_slice HO1026.out; subst eo37))
     have n0_ : Aside0 (Kd.R (Kd.int .u32) 87 (((w32.setCell ⟨gb1028, 0, none⟩ (.bool t1020)).setCell ⟨gb1028, 1, none⟩ (.slice Ao36 t1021.length co36)).setCell ⟨gb1028, 2, none⟩ (.slice Ao37 t1024.length co37)) w.heap.size (fun k_ => some k_ ≠ (.slice Ao36 t1021.length co36 : Value).ownBlock ∧ some k_ ≠ (.slice Ao37 t1024.length co37 : Value).ownBlock) (.slice Ao29 t1012.length co29) t1012) := ⟨by (with_reducible repeat apply Kd.R_drewN); exact Rm (Rf (p := ⟨gb1028, 2, none⟩) (Rf (p := ⟨gb1028, 1, none⟩) (Rf (p := ⟨gb1028, 0, none⟩) (Rt HO1014.out BK1028.out (by decide)) (fun _ hk => hk.2) (.bool t1020)) (fun _ hk => hk.2) (.slice Ao36 t1021.length co36)) (fun _ hk => hk.2) (.slice Ao37 t1024.length co37)) (fun _ hk => ⟨hk.1.1.2, hk.1.2⟩)⟩
     have n1_ : Aside0 (Kd.V (Kd.int .u32) 87 (((w32.setCell ⟨gb1028, 0, none⟩ (.bool t1020)).setCell ⟨gb1028, 1, none⟩ (.slice Ao36 t1021.length co36)).setCell ⟨gb1028, 2, none⟩ (.slice Ao37 t1024.length co37)) w.heap.size (fun k_ => some k_ ≠ (.slice Ao29 t1012.length co29 : Value).ownBlock ∧ some k_ ≠ (.slice Ao36 t1021.length co36 : Value).ownBlock ∧ some k_ ≠ (.slice Ao37 t1024.length co37 : Value).ownBlock ∧ k_ ≠ gb1008 ∧ k_ ≠ gb1019 ∧ k_ ≠ gb1028) (.slice Ao30 t1015.length co30) t1015) := ⟨by (with_reducible repeat apply Kd.V_drewN); exact Vm (Vf (p := ⟨gb1028, 2, none⟩) (Vf (p := ⟨gb1028, 1, none⟩) (Vf (p := ⟨gb1028, 0, none⟩) (Vm HO1017.out (fun k_ hk => (⟨hk, hk.2⟩ : _ ∧ k_ ≠ gb1028))) (fun _ hk => hk.2) (.bool t1020)) (fun _ hk => hk.2) (.slice Ao36 t1021.length co36)) (fun _ hk => hk.2) (.slice Ao37 t1024.length co37)) (fun _ hk => ⟨hk.1.1.1.1.1.1, ⟨hk.1.1.1.2, ⟨hk.1.1.2, ⟨hk.1.1.1.1.1.2, ⟨hk.1.1.1.1.2, hk.1.2⟩⟩⟩⟩⟩)⟩
     have n2_ : Aside0 (Kd.R (Kd.int .u32) 87 (((w32.setCell ⟨gb1028, 0, none⟩ (.bool t1020)).setCell ⟨gb1028, 1, none⟩ (.slice Ao36 t1021.length co36)).setCell ⟨gb1028, 2, none⟩ (.slice Ao37 t1024.length co37)) w.heap.size (fun k_ => some k_ ≠ (.slice Ao29 t1012.length co29 : Value).ownBlock ∧ some k_ ≠ (.slice Ao37 t1024.length co37 : Value).ownBlock) (.slice Ao36 t1021.length co36) t1021) := ⟨by (with_reducible repeat apply Kd.R_drewN); exact Rm (Rf (p := ⟨gb1028, 2, none⟩) (Rf (p := ⟨gb1028, 1, none⟩) (Rf (p := ⟨gb1028, 0, none⟩) (Rt HO1023.out BK1028.out (by decide)) (fun _ hk => hk.2) (.bool t1020)) (fun _ hk => hk.2) (.slice Ao36 t1021.length co36)) (fun _ hk => hk.2) (.slice Ao37 t1024.length co37)) (fun _ hk => ⟨hk.1.2, hk.1.1⟩)⟩
     have n3_ : Aside0 (Kd.R (Kd.int .u32) 87 (((w32.setCell ⟨gb1028, 0, none⟩ (.bool t1020)).setCell ⟨gb1028, 1, none⟩ (.slice Ao36 t1021.length co36)).setCell ⟨gb1028, 2, none⟩ (.slice Ao37 t1024.length co37)) w.heap.size (fun k_ => some k_ ≠ (.slice Ao29 t1012.length co29 : Value).ownBlock ∧ some k_ ≠ (.slice Ao36 t1021.length co36 : Value).ownBlock) (.slice Ao37 t1024.length co37) t1024) := ⟨by (with_reducible repeat apply Kd.R_drewN); exact Rm (Rf (p := ⟨gb1028, 2, none⟩) (Rf (p := ⟨gb1028, 1, none⟩) (Rf (p := ⟨gb1028, 0, none⟩) (Rt HO1026.out BK1028.out (by decide)) (fun _ hk => hk.2) (.bool t1020)) (fun _ hk => hk.2) (.slice Ao36 t1021.length co36)) (fun _ hk => hk.2) (.slice Ao37 t1024.length co37)) (fun _ hk => ⟨hk.1.2, hk.1.1⟩)⟩
     have n4_ : Aside0 ((((w32.setCell ⟨gb1028, 0, none⟩ (.bool t1020)).setCell ⟨gb1028, 1, none⟩ (.slice Ao36 t1021.length co36)).setCell ⟨gb1028, 2, none⟩ (.slice Ao37 t1024.length co37)).heap[gb1008]? = some (.cells #[.bool a3_0, .slice A3_1 l3_1.length c3_1, .slice A3_2 l3_2.length c3_2] 29 (0, 0))) := ⟨by (with_reducible repeat refine blk_drewN ?_ _); refine blk_far ?_ NB1008_1028.out _; (with_reducible repeat refine blk_drewN ?_ _); refine blk_far ?_ NB1008_1028.out _; (with_reducible repeat refine blk_drewN ?_ _); refine blk_far ?_ NB1008_1028.out _; (with_reducible repeat refine blk_drewN ?_ _); exact BK1008.out⟩
     have n5_ : Aside0 ((((w32.setCell ⟨gb1028, 0, none⟩ (.bool t1020)).setCell ⟨gb1028, 1, none⟩ (.slice Ao36 t1021.length co36)).setCell ⟨gb1028, 2, none⟩ (.slice Ao37 t1024.length co37)).heap[gb1019]? = some (.cells #[.bool t1011, .slice Ao29 t1012.length co29, .slice Ao30 t1015.length co30] 29 (0, 0))) := ⟨by (with_reducible repeat refine blk_drewN ?_ _); refine blk_far ?_ NB1019_1028.out _; (with_reducible repeat refine blk_drewN ?_ _); refine blk_far ?_ NB1019_1028.out _; (with_reducible repeat refine blk_drewN ?_ _); refine blk_far ?_ NB1019_1028.out _; (with_reducible repeat refine blk_drewN ?_ _); exact BK1019.out⟩
     have n6_ : Aside0 ((((w32.setCell ⟨gb1028, 0, none⟩ (.bool t1020)).setCell ⟨gb1028, 1, none⟩ (.slice Ao36 t1021.length co36)).setCell ⟨gb1028, 2, none⟩ (.slice Ao37 t1024.length co37)).heap[gb1028]? = some (.cells #[.bool t1020, .slice Ao36 t1021.length co36, .slice Ao37 t1024.length co37] 29 (0, 0))) := ⟨by (with_reducible repeat refine blk_drewN ?_ _); refine blk_put (cs := #[.bool t1020, .slice Ao36 t1021.length co36, .slice none 0 0]) ?_ 2 _ rfl; (with_reducible repeat refine blk_drewN ?_ _); refine blk_put (cs := #[.bool t1020, .slice none 0 0, .slice none 0 0]) ?_ 1 _ rfl; (with_reducible repeat refine blk_drewN ?_ _); refine blk_put (cs := #[.bool false, .slice none 0 0, .slice none 0 0]) ?_ 0 _ rfl; (with_reducible repeat refine blk_drewN ?_ _); exact BK1028.out⟩
     have n7_ : Aside0 (Below w.heap.size w (((w32.setCell ⟨gb1028, 0, none⟩ (.bool t1020)).setCell ⟨gb1028, 1, none⟩ (.slice Ao36 t1021.length co36)).setCell ⟨gb1028, 2, none⟩ (.slice Ao37 t1024.length co37))) := ⟨by repeat (first | exact HB.out | apply bN | apply b1 | apply bA | refine bS ?_ GE1008.out | refine bS ?_ GE1019.out | refine bS ?_ GE1028.out)⟩
     (try clear HO1014)
     (try clear HO1017)
     (try clear HO1023)
     (try clear HO1026)
     (try clear BK1008)
     (try clear BK1019)
     (try clear BK1028)
     (try clear HB)
     generalize (((w32.setCell ⟨gb1028, 0, none⟩ (.bool t1020)).setCell ⟨gb1028, 1, none⟩ (.slice Ao36 t1021.length co36)).setCell ⟨gb1028, 2, none⟩ (.slice Ao37 t1024.length co37)) = w38 at n0_ n1_ n2_ n3_ n4_ n5_ n6_ n7_ ⊢
     have HO1014 := n0_
     have HO1017 := n1_
     have HO1023 := n2_
     have HO1026 := n3_
     have BK1008 := n4_
     have BK1019 := n5_
     have BK1028 := n6_
     have HB := n7_
     clear n0_ n1_ n2_ n3_ n4_ n5_ n6_ n7_
     replace HO1014 := mk0 (Kd.R_drew HO1014.out)
     replace HO1017 := mk0 (Kd.V_drew HO1017.out)
     replace HO1023 := mk0 (Kd.R_drew HO1023.out)
     replace HO1026 := mk0 (Kd.R_drew HO1026.out)
     replace BK1008 := mk0 (blk_drew BK1008.out)
     replace BK1019 := mk0 (blk_drew BK1019.out)
     replace BK1028 := mk0 (blk_drew BK1028.out)
     replace HB := mk0 (b1 HB.out)
     refine start_ (n := 29) (S := fun w' => w'.cell? ⟨gb1019, 0, none⟩ = some (.bool t1011) ∧ w'.cell? ⟨gb1019, 1, none⟩ = some (.slice Ao29 t1012.length co29) ∧ w'.cell? ⟨gb1019, 2, none⟩ = some (.slice Ao30 t1015.length co30) ∧ w'.cell? ⟨gb1028, 0, none⟩ = some (.bool t1020) ∧ w'.cell? ⟨gb1028, 1, none⟩ = some (.slice Ao36 t1021.length co36) ∧ w'.cell? ⟨gb1028, 2, none⟩ = some (.slice Ao37 t1024.length co37) ∧ w'.cell? ⟨gb1008, 0, none⟩ = some (.bool a3_0) ∧ w'.cell? ⟨gb1008, 1, none⟩ = some (.slice A3_1 l3_1.length c3_1) ∧ w'.cell? ⟨gb1008, 2, none⟩ = some (.slice A3_2 l3_2.length c3_2)) (ds := []) (bv 29 0) (by kernel_rfl) rfl rfl ⟨(blk_cell BK1019.out 0).trans rfl, (blk_cell BK1019.out 1).trans rfl, (blk_cell BK1019.out 2).trans rfl, (blk_cell BK1028.out 0).trans rfl, (blk_cell BK1028.out 1).trans rfl, (blk_cell BK1028.out 2).trans rfl, (blk_cell BK1008.out 0).trans rfl, (blk_cell BK1008.out 1).trans rfl, (blk_cell BK1008.out 2).trans rfl⟩ (fun hHeld => ?_); refine with_tabW examboardlaw37_ExposureCounts.tab6 examboardlaw37_ExposureCounts.bits6 (fun HT_ HW_ => ?_)
     generalize w38.drew = w39 at HO1014 HO1017 HO1023 HO1026 BK1008 BK1019 BK1028 HB hHeld ⊢
     refine puA (i := 0) (N := 35) (v := ?_) (a' := ?_) (bv 29 1) HT_ ?_ ?_ ?_; rotate_left; (intro w'; go_simp; with_reducible rfl); rotate_left; (simp only [Act.put, sA, sZ, sS, i64_w, i32_w]; rfl)
     refine puA (i := 1) (N := 36) (v := ?_) (a' := ?_) (bv 29 3) HT_ ?_ ?_ ?_; rotate_left; (intro w'; go_simp; with_reducible rfl); rotate_left; (simp only [Act.put, sA, sZ, sS, i64_w, i32_w]; rfl)
     refine puA (i := 2) (N := 37) (v := ?_) (a' := ?_) (bv 29 7) HT_ ?_ ?_ ?_; rotate_left; (intro w'; go_simp; with_reducible rfl); rotate_left; (simp only [Act.put, sA, sZ, sS, i64_w, i32_w]; rfl)
     refine one_ (i := 3) (N := some 38) (bv 29 15) rfl rfl (one_of HT_.out (by kernel_rfl)) (by decide) (fun K hK => ?_)
     refine goes_ Try.func20 (by kernel_rfl) rfl #[.slice A0 l0.length c0, .int .i64 a1] (by rfl) rfl rfl (by go_simp <;> rfl) ?_
     with_reducible refine (examboardref37_Count.calls k _ _ l0 a1 t1029 _ ?side1 ?side2 A14.out).mono ?_
     (case side1 => repeat (first | exact (Cb HR0.out HB.out) | (with_reducible refine Kd.C_alloc ?_ _) | (with_reducible refine Kd.C_drewN ?_ _) | (with_reducible refine Kd.C_drew ?_)))
     (case side2 => exact HC0.out)
     rintro e w' ⟨rfl, ⟨nd, rfl⟩⟩
     refine ⟨_, rfl, ?_⟩
     refine hK.out _ _ ⟨(blk_cell BK1019.out 0).trans rfl, (blk_cell BK1019.out 1).trans rfl, (blk_cell BK1019.out 2).trans rfl, (blk_cell BK1028.out 0).trans rfl, (blk_cell BK1028.out 1).trans rfl, (blk_cell BK1028.out 2).trans rfl, (blk_cell BK1008.out 0).trans rfl, (blk_cell BK1008.out 1).trans rfl, (blk_cell BK1008.out 2).trans rfl⟩ (fun hHeld => ?_)
     clear hK K
     refine norm_ (a' := ?_) ?_ ?_
     rotate_left
     ·show Act.put _ (some 38) _ = _
      simp only [Act.put, sA, sZ, sS, i64_w, i32_w]
      rfl
     refine puA (i := 4) (N := 39) (v := ?_) (a' := ?_) (bv 29 31) HT_ ?_ ?_ ?_; rotate_left; (intro w'; go_simp; with_reducible rfl); rotate_left; (simp only [Act.put, sA, sZ, sS, i64_w, i32_w]; rfl)
     refine puA (i := 5) (N := 40) (v := ?_) (a' := ?_) (bv 29 63) HT_ ?_ ?_ ?_; rotate_left; (intro w'; go_simp; with_reducible rfl); rotate_left; (simp only [Act.put, sA, sZ, sS, i64_w, i32_w]; rfl)
     refine puA (i := 6) (N := 41) (v := ?_) (a' := ?_) (bv 29 127) HT_ ?_ ?_ ?_; rotate_left; (intro w'; go_simp; with_reducible rfl); rotate_left; (simp only [Act.put, sA, sZ, sS, i64_w, i32_w]; rfl)
     refine puA (i := 7) (N := 42) (v := ?_) (a' := ?_) (bv 29 255) HT_ ?_ ?_ ?_; rotate_left; (intro w'; go_simp; with_reducible rfl); rotate_left; (simp only [Act.put, sA, sZ, sS, i64_w, i32_w]; rfl)
     refine puA (i := 8) (N := 43) (v := ?_) (a' := ?_) (bv 29 511) HT_ ?_ ?_ ?_; rotate_left; (intro w'; go_simp; with_reducible rfl); rotate_left; (simp only [Act.put, sA, sZ, sS, i64_w, i32_w]; rfl)
     refine puA (i := 9) (N := 44) (v := ?_) (a' := ?_) (bv 29 1023) HT_ ?_ ?_ ?_; rotate_left; (intro w'; go_simp; with_reducible rfl); rotate_left; (simp only [Act.put, sA, sZ, sS, i64_w, i32_w]; rfl)
     refine puA (i := 10) (N := 45) (v := ?_) (a' := ?_) (bv 29 2047) HT_ ?_ ?_ ?_; rotate_left; (intro w'; go_simp; with_reducible rfl); rotate_left; (simp only [Act.put, sA, sZ, sS, i64_w, i32_w]; rfl)
     refine take_ (i := 11) (N := some 46) (v := ?_) (a' := ?_) (bv 29 4095) rfl rfl (take_ofW HT_.out HW_.out (by kernel_rfl)) (fun _ _ _ h => h) (Or.inl ⟨by rfl, ?_⟩) hHeld ?_ ?_; rotate_left; (rintro w' ⟨s0, s1, s2, s3, s4, s5, s6, s7, s8⟩; go_simp; with_reducible rfl); rotate_left; (simp only [Act.put, sA, sZ, sS, i64_w, i32_w]; rfl)
     refine take_ (i := 12) (N := some 47) (v := ?_) (a' := ?_) (bv 29 8191) rfl rfl (take_ofW HT_.out HW_.out (by kernel_rfl)) (fun _ _ _ h => h) (Or.inl ⟨by rfl, ?_⟩) hHeld ?_ ?_; rotate_left; (rintro w' ⟨s0, s1, s2, s3, s4, s5, s6, s7, s8⟩; go_simp; with_reducible rfl); rotate_left; (simp only [Act.put, sA, sZ, sS, i64_w, i32_w]; rfl)
     refine one_ (i := 13) (N := some 48) (bv 29 16383) rfl rfl (one_of HT_.out (by kernel_rfl)) (by decide) (fun K hK => ?_)
     refine goes_ Try.func21 (by kernel_rfl) rfl #[.agg #[.bool t1011, .slice Ao29 t1012.length co29, .slice Ao30 t1015.length co30], .agg #[.bool t1020, .slice Ao36 t1021.length co36, .slice Ao37 t1024.length co37]] (by rfl) rfl rfl (by go_simp <;> rfl) ?_
     with_reducible refine (examboardlaw37_same.calls k t1011 _ _ t1012 _ _ t1015 t1020 _ _ t1021 _ _ t1024 true _ ?side1 ?side2 ?side3 ?side4 ?side5 ?side6 ?side7 ?side8 A17.out).mono ?_
     (case side1 => repeat (first | exact (Kd.R_reads' HO1014.out).2.2 | (with_reducible refine Kd.C_alloc ?_ _) | (with_reducible refine Kd.C_drewN ?_ _) | (with_reducible refine Kd.C_drew ?_)))
     (case side2 => exact (Kd.R_reads' HO1014.out).2.1)
     (case side3 => repeat (first | exact (Kd.V_reads' HO1017.out).2.2 | (with_reducible refine Kd.C_alloc ?_ _) | (with_reducible refine Kd.C_drewN ?_ _) | (with_reducible refine Kd.C_drew ?_)))
     (case side4 => exact (Kd.V_reads' HO1017.out).2.1)
     (case side5 => repeat (first | exact (Kd.R_reads' HO1023.out).2.2 | (with_reducible refine Kd.C_alloc ?_ _) | (with_reducible refine Kd.C_drewN ?_ _) | (with_reducible refine Kd.C_drew ?_)))
     (case side6 => exact (Kd.R_reads' HO1023.out).2.1)
     (case side7 => repeat (first | exact (Kd.R_reads' HO1026.out).2.2 | (with_reducible refine Kd.C_alloc ?_ _) | (with_reducible refine Kd.C_drewN ?_ _) | (with_reducible refine Kd.C_drew ?_)))
     (case side8 => exact (Kd.R_reads' HO1026.out).2.1)
     rintro e w40 ⟨rfl, hb⟩
     refine ⟨_, rfl, ?_⟩
     replace HO1014 := (by first | exact rB HO1014 hb | exact rD HO1014 hb)
     replace HO1017 := mk0 (Kd.V_below (by (with_reducible repeat apply Kd.V_drewN); exact HO1017.out) hb)
     replace HO1023 := (by first | exact rB HO1023 hb | exact rD HO1023 hb)
     replace HO1026 := (by first | exact rB HO1026 hb | exact rD HO1026 hb)
     replace BK1008 := (by first | exact bkB BK1008 hb | exact bkD BK1008 hb)
     replace BK1019 := (by first | exact bkB BK1019 hb | exact bkD BK1019 hb)
     replace BK1028 := (by first | exact bkB BK1028 hb | exact bkD BK1028 hb)
     replace HB := mk0 (below_step (by repeat (first | exact HB.out | apply bN | apply b1 | apply bA | refine bS ?_ GE1008.out | refine bS ?_ GE1019.out | refine bS ?_ GE1028.out)) hb)
     refine hK.out _ _ ⟨(blk_cell BK1019.out 0).trans rfl, (blk_cell BK1019.out 1).trans rfl, (blk_cell BK1019.out 2).trans rfl, (blk_cell BK1028.out 0).trans rfl, (blk_cell BK1028.out 1).trans rfl, (blk_cell BK1028.out 2).trans rfl, (blk_cell BK1008.out 0).trans rfl, (blk_cell BK1008.out 1).trans rfl, (blk_cell BK1008.out 2).trans rfl⟩ (fun hHeld => ?_)
     clear hK K
     refine norm_ (a' := ?_) ?_ ?_
     rotate_left
     ·show Act.put _ (some 48) _ = _
      simp only [Act.put, sA, sZ, sS, i64_w, i32_w]
      rfl
     refine puA (i := 14) (N := 49) (v := ?_) (a' := ?_) (bv 29 32767) HT_ ?_ ?_ ?_; rotate_left; (intro w'; go_simp; with_reducible rfl); rotate_left; (simp only [Act.put, sA, sZ, sS, i64_w, i32_w]; rfl)
     refine puA (i := 15) (N := 50) (v := ?_) (a' := ?_) (bv 29 65535) HT_ ?_ ?_ ?_; rotate_left; (intro w'; go_simp; with_reducible rfl); rotate_left; (simp only [Act.put, sA, sZ, sS, i64_w, i32_w]; rfl)
     refine puA (i := 16) (N := 51) (v := ?_) (a' := ?_) (bv 29 131071) HT_ ?_ ?_ ?_; rotate_left; (intro w'; go_simp; with_reducible rfl); rotate_left; (simp only [Act.put, sA, sZ, sS, i64_w, i32_w]; rfl)
     refine puA (i := 17) (N := 52) (v := ?_) (a' := ?_) (bv 29 262143) HT_ ?_ ?_ ?_; rotate_left; (intro w'; go_simp; with_reducible rfl); rotate_left; (simp only [Act.put, sA, sZ, sS, i64_w, i32_w]; rfl)
     refine puA (i := 19) (N := 54) (v := ?_) (a' := ?_) (bv 29 786431) HT_ ?_ ?_ ?_; rotate_left; (intro w'; go_simp; with_reducible rfl); rotate_left; (simp only [Act.put, sA, sZ, sS, i64_w, i32_w]; rfl)
     refine puA (i := 21) (N := 56) (v := ?_) (a' := ?_) (bv 29 2883583) HT_ ?_ ?_ ?_; rotate_left; (intro w'; go_simp; with_reducible rfl); rotate_left; (simp only [Act.put, sA, sZ, sS, i64_w, i32_w]; rfl)
     refine puA (i := 22) (N := 57) (v := ?_) (a' := ?_) (bv 29 7077887) HT_ ?_ ?_ ?_; rotate_left; (intro w'; go_simp; with_reducible rfl); rotate_left; (simp only [Act.put, sA, sZ, sS, i64_w, i32_w]; rfl)
     refine puA (i := 24) (N := 59) (v := ?_) (a' := ?_) (bv 29 23855103) HT_ ?_ ?_ ?_; rotate_left; (intro w'; go_simp; with_reducible rfl); rotate_left; (simp only [Act.put, sA, sZ, sS, i64_w, i32_w]; rfl)
     refine take_ (i := 18) (N := some 53) (v := ?_) (a' := ?_) (bv 29 24117247) rfl rfl (take_ofW HT_.out HW_.out (by kernel_rfl)) (fun _ _ _ h => h) (Or.inl ⟨by rfl, ?_⟩) hHeld ?_ ?_; rotate_left; (rintro w' ⟨s0, s1, s2, s3, s4, s5, s6, s7, s8⟩; go_simp; with_reducible rfl); rotate_left; (simp only [Act.put, sA, sZ, sS, i64_w, i32_w]; rfl)
     refine take_ (i := 23) (N := some 58) (v := ?_) (a' := ?_) (bv 29 32505855) rfl rfl (take_ofW HT_.out HW_.out (by kernel_rfl)) (fun _ _ _ h => h) (Or.inl ⟨by rfl, ?_⟩) hHeld ?_ ?_; rotate_left; (rintro w' ⟨s0, s1, s2, s3, s4, s5, s6, s7, s8⟩; go_simp; with_reducible rfl); rotate_left; (simp only [Act.put, sA, sZ, sS, i64_w, i32_w]; rfl)
     refine one_ (i := 20) (N := some 55) (bv 29 33554431) rfl rfl (one_of HT_.out (by kernel_rfl)) (by decide) (fun K hK => ?_)
     refine goes_ Try.func13 (by kernel_rfl) rfl #[.int .i64 t1010, .int .i64 a2, .agg #[.bool a3_0, .slice A3_1 l3_1.length c3_1, .slice A3_2 l3_2.length c3_2], .int .i64 a4] (by rfl) rfl rfl (by go_simp <;> rfl) ?_
     with_reducible refine (exposure_Eligible.calls k t1010 a2 a3_0 _ _ l3_1 _ _ l3_2 a4 t1031 _ ?side1 ?side2 ?side3 ?side4 A19.out).mono ?_
     (case side1 => repeat (first | exact (Cb HR3_1.out HB.out) | (with_reducible refine Kd.C_alloc ?_ _) | (with_reducible refine Kd.C_drewN ?_ _) | (with_reducible refine Kd.C_drew ?_)))
     (case side2 => exact HC3_1.out)
     (case side3 => repeat (first | exact (Cb HR3_2.out HB.out) | (with_reducible refine Kd.C_alloc ?_ _) | (with_reducible refine Kd.C_drewN ?_ _) | (with_reducible refine Kd.C_drew ?_)))
     (case side4 => exact HC3_2.out)
     rintro e w41 ⟨rfl, hb⟩
     refine ⟨_, rfl, ?_⟩
     replace HO1014 := (by first | exact rB HO1014 hb | exact rD HO1014 hb)
     replace HO1017 := mk0 (Kd.V_below (by (with_reducible repeat apply Kd.V_drewN); exact HO1017.out) hb)
     replace HO1023 := (by first | exact rB HO1023 hb | exact rD HO1023 hb)
     replace HO1026 := (by first | exact rB HO1026 hb | exact rD HO1026 hb)
     replace BK1008 := (by first | exact bkB BK1008 hb | exact bkD BK1008 hb)
     replace BK1019 := (by first | exact bkB BK1019 hb | exact bkD BK1019 hb)
     replace BK1028 := (by first | exact bkB BK1028 hb | exact bkD BK1028 hb)
     replace HB := mk0 (below_step (by repeat (first | exact HB.out | apply bN | apply b1 | apply bA | refine bS ?_ GE1008.out | refine bS ?_ GE1019.out | refine bS ?_ GE1028.out)) hb)
     refine hK.out _ _ ⟨(blk_cell BK1019.out 0).trans rfl, (blk_cell BK1019.out 1).trans rfl, (blk_cell BK1019.out 2).trans rfl, (blk_cell BK1028.out 0).trans rfl, (blk_cell BK1028.out 1).trans rfl, (blk_cell BK1028.out 2).trans rfl, (blk_cell BK1008.out 0).trans rfl, (blk_cell BK1008.out 1).trans rfl, (blk_cell BK1008.out 2).trans rfl⟩ (fun hHeld => ?_)
     clear hK K
     refine norm_ (a' := ?_) ?_ ?_
     rotate_left
     ·show Act.put _ (some 55) _ = _
      simp only [Act.put, sA, sZ, sS, i64_w, i32_w]
      rfl
     refine one_ (i := 25) (N := some 60) (bv 29 67108863) rfl rfl (one_of HT_.out (by kernel_rfl)) (by decide) (fun K hK => ?_)
     refine goes_ Try.func14 (by kernel_rfl) rfl #[.int .i64 t1010, .int .i64 a2, .agg #[.bool a3_0, .slice A3_1 l3_1.length c3_1, .slice A3_2 l3_2.length c3_2], .int .i64 a4] (by rfl) rfl rfl (by go_simp <;> rfl) ?_
     with_reducible refine (examboardref37_Eligible.calls k t1010 a2 a3_0 _ _ l3_1 _ _ l3_2 a4 t1032 _ ?side1 ?side2 ?side3 ?side4 A20.out).mono ?_
     (case side1 => repeat (first | exact (Cb HR3_1.out HB.out) | (with_reducible refine Kd.C_alloc ?_ _) | (with_reducible refine Kd.C_drewN ?_ _) | (with_reducible refine Kd.C_drew ?_)))
     (case side2 => exact HC3_1.out)
     (case side3 => repeat (first | exact (Cb HR3_2.out HB.out) | (with_reducible refine Kd.C_alloc ?_ _) | (with_reducible refine Kd.C_drewN ?_ _) | (with_reducible refine Kd.C_drew ?_)))
     (case side4 => exact HC3_2.out)
     rintro e w42 ⟨rfl, hb⟩
     refine ⟨_, rfl, ?_⟩
     replace HO1014 := (by first | exact rB HO1014 hb | exact rD HO1014 hb)
     replace HO1017 := mk0 (Kd.V_below (by (with_reducible repeat apply Kd.V_drewN); exact HO1017.out) hb)
     replace HO1023 := (by first | exact rB HO1023 hb | exact rD HO1023 hb)
     replace HO1026 := (by first | exact rB HO1026 hb | exact rD HO1026 hb)
     replace BK1008 := (by first | exact bkB BK1008 hb | exact bkD BK1008 hb)
     replace BK1019 := (by first | exact bkB BK1019 hb | exact bkD BK1019 hb)
     replace BK1028 := (by first | exact bkB BK1028 hb | exact bkD BK1028 hb)
     replace HB := mk0 (below_step (by repeat (first | exact HB.out | apply bN | apply b1 | apply bA | refine bS ?_ GE1008.out | refine bS ?_ GE1019.out | refine bS ?_ GE1028.out)) hb)
     refine hK.out _ _ ⟨(blk_cell BK1019.out 0).trans rfl, (blk_cell BK1019.out 1).trans rfl, (blk_cell BK1019.out 2).trans rfl, (blk_cell BK1028.out 0).trans rfl, (blk_cell BK1028.out 1).trans rfl, (blk_cell BK1028.out 2).trans rfl, (blk_cell BK1008.out 0).trans rfl, (blk_cell BK1008.out 1).trans rfl, (blk_cell BK1008.out 2).trans rfl⟩ (fun hHeld => ?_)
     clear hK K
     refine norm_ (a' := ?_) ?_ ?_
     rotate_left
     ·show Act.put _ (some 60) _ = _
      simp only [Act.put, sA, sZ, sS, i64_w, i32_w]
      rfl
     refine puA (i := 26) (N := 61) (v := ?_) (a' := ?_) (bv 29 134217727) HT_ ?_ ?_ ?_; rotate_left; (intro w'; go_simp; with_reducible rfl); rotate_left; (simp only [Act.put, sA, sZ, sS, i64_w, i32_w]; rfl)
     refine puA (i := 27) (N := 62) (v := ?_) (a' := ?_) (bv 29 268435455) HT_ ?_ ?_ ?_; rotate_left; (intro w'; go_simp; with_reducible rfl); rotate_left; (simp only [Act.put, sA, sZ, sS, i64_w, i32_w]; rfl)
     refine puA (i := 28) (N := 10) (v := ?_) (a' := ?_) (bv 29 536870911) HT_ ?_ ?_ ?_; rotate_left; (intro w'; go_simp; with_reducible rfl); rotate_left; (simp only [Act.put, sA, sZ, sS, i64_w, i32_w]; rfl)
     refine done_ (done_of HT_.out (by kernel_rfl)) ?_
     try go_wp2
     go_ret
     exact ⟨by first | rfl | (simp [errW_none, errW_some] <;> rfl) | (simp [*, errW_none, errW_some] <;> rfl), by repeat (first | exact HB.out | apply bN | apply b1 | apply bA | refine bS ?_ GE1008.out | refine bS ?_ GE1019.out | refine bS ?_ GE1028.out)⟩
    ·replace c18 := Bool.eq_false_iff.mpr c18
     subst c18
     have H1 : (some false) = some r := by rw [if_neg (show ¬ (false = true) by decide)] at H; exact H
     clear H
     have H := H1
     clear H1
     exact absurd ((Option.some.inj H).trans hrt) (by decide)
   ·rw [if_neg c16] at H
    have c16b0 : (t1018 == t1027) = false := beq_eq_false_iff_ne.mpr c16
    have c16b1 : (t1018 != t1027) = true := bne_iff_ne.mpr c16
    exact absurd ((Option.some.inj H).trans hrt) (by decide)
  ·rw [if_neg c15] at H
   have c15b0 : (t1010 == t1029) = false := beq_eq_false_iff_ne.mpr c15
   have c15b1 : (t1010 != t1029) = true := bne_iff_ne.mpr c15
   exact absurd ((Option.some.inj H).trans hrt) (by decide)
end Go.Proofs.Ythamhjmhgcpdgaa.Q
end
section
namespace Go.Proofs.Ythamhjmhgcpdgaa.Th
open Go.RowKit Go.Proofs.YthamhjmhgcpdgaaW.PrintWords Go.Proofs.YthamhjmhgcpdgaaW.PrintLast Go.Proofs.YthamhjmhgcpdgaaW.PrintMore
set_option linter.unusedVariables false
set_option linter.unusedSimpArgs false
def val : List Int → Nat
 | [] => 0
 | x :: xs => x.toNat + 4294967296 * val xs
def okl (l : List Int) : Prop := ∀ x ∈ l, 0 ≤ x ∧ x < 4294967296
def limbs (n : Nat) : List Int := if h : n = 0 then [] else ((n % 4294967296 : Nat) : Int) :: limbs (n / 4294967296)
termination_by n
decreasing_by omega
def tl (l : List Int) : Nat → Nat
 | 0 => 0
 | n + 1 => if l.getD n 0 = 0 then tl l n else n + 1
theorem tl_le (l : List Int) (n : Nat) : tl l n ≤ n := by
 induction n with
 | zero => simp [tl]
 | succ n ih => unfold tl; split <;> omega
theorem okl_nil : okl [] := fun _ h => by cases h
theorem okl_cons {x : Int} {l : List Int} : okl (x :: l) ↔ (0 ≤ x ∧ x < 4294967296) ∧ okl l := by simp [okl]
theorem okl_append {a b : List Int} : okl (a ++ b) ↔ okl a ∧ okl b := by
 constructor
 ·intro h; exact ⟨fun x hx => h x (List.mem_append_left _ hx), fun x hx => h x (List.mem_append_right _ hx)⟩
 ·rintro ⟨h1, h2⟩ x hx
  rcases List.mem_append.1 hx with h | h
  ·exact h1 x h
  ·exact h2 x h
theorem okl_take {l : List Int} (h : okl l) (n : Nat) : okl (l.take n) := fun x hx => h x (List.mem_of_mem_take hx)
theorem okl_drop {l : List Int} (h : okl l) (n : Nat) : okl (l.drop n) := fun x hx => h x (List.mem_of_mem_drop hx)
theorem okl_set {l : List Int} (h : okl l) (n : Nat) {x : Int} (h0 : 0 ≤ x) (h1 : x < 4294967296) : okl (l.set n x) := fun y hy => by
 rcases List.mem_or_eq_of_mem_set hy with h2 | h2
 ·exact h y h2
 ·subst h2; exact ⟨h0, h1⟩
theorem okl_replicate (n : Nat) : okl (List.replicate n 0) := fun x hx => by
 rw [List.mem_replicate] at hx; rw [hx.2]; decide
theorem okl_rd {l : List Int} (h : okl l) (i : Int) : 0 ≤ rd l i ∧ rd l i < 4294967296 := by
 unfold rd
 by_cases hi : i.toNat < l.length
 ·rw [List.getD_eq_getElem?_getD, List.getElem?_eq_getElem hi]; exact h _ (List.getElem_mem hi)
 ·rw [List.getD_eq_getElem?_getD, List.getElem?_eq_none (by omega)]; decide
theorem val_append (a b : List Int) : val (a ++ b) = val a + 4294967296 ^ a.length * val b := by
 induction a with
 | nil => simp [val]
 | cons x xs ih => simp only [List.cons_append, val, ih, List.length_cons]; grind
theorem val_lt {l : List Int} (h : okl l) : val l < 4294967296 ^ l.length := by
 induction l with
 | nil => simp [val]
 | cons x xs ih =>
  have h1 := okl_cons.1 h
  have h2 := ih h1.2
  simp only [val, List.length_cons, Nat.pow_succ]
  have : x.toNat < 4294967296 := by omega
  omega
theorem val_replicate (n : Nat) : val (List.replicate n 0) = 0 := by
 induction n with
 | zero => rfl
 | succ n ih => rw [List.replicate_succ, val, ih]; rfl
theorem val_take_drop (l : List Int) (n : Nat) (h : n ≤ l.length) : val l = val (l.take n) + 4294967296 ^ n * val (l.drop n) := by
 have := val_append (l.take n) (l.drop n)
 rw [List.take_append_drop, List.length_take, Nat.min_eq_left h] at this
 exact this
theorem val_drop_one (l : List Int) (n : Nat) (h : n < l.length) : val (l.drop n) = (l.getD n 0).toNat + 4294967296 * val (l.drop (n + 1)) := by
 rw [List.drop_eq_getElem_cons h, val, List.getD_eq_getElem?_getD, List.getElem?_eq_getElem h]; rfl
theorem val_take_succ (l : List Int) (n : Nat) (h : n < l.length) : val (l.take (n + 1)) = val (l.take n) + 4294967296 ^ n * (l.getD n 0).toNat := by
 have h1 : l.take (n + 1) = l.take n ++ [l.getD n 0] := by
  rw [List.take_succ_eq_append_getElem h, List.getD_eq_getElem?_getD, List.getElem?_eq_getElem h]; rfl
 rw [h1, val_append, List.length_take, Nat.min_eq_left (by omega)]
 simp [val]
theorem val_tl (l : List Int) (n : Nat) (h : n ≤ l.length) : val (l.take (tl l n)) = val (l.take n) := by
 induction n with
 | zero => rfl
 | succ n ih =>
  unfold tl
  by_cases h0 : l.getD n 0 = 0
  ·rw [if_pos h0, ih (by omega), val_take_succ l n (by omega), h0]; simp
  ·rw [if_neg h0]
theorem limbs_zero : limbs 0 = [] := by rw [limbs]; rfl
theorem limbs_pos {n : Nat} (h : n ≠ 0) : limbs n = ((n % 4294967296 : Nat) : Int) :: limbs (n / 4294967296) := by rw [limbs, dif_neg h]
theorem okl_limbs (n : Nat) : okl (limbs n) := by
 induction n using Nat.strongRecOn with
 | _ n ih =>
  by_cases h : n = 0
  ·subst h; rw [limbs_zero]; exact okl_nil
  ·rw [limbs_pos h, okl_cons]; exact ⟨by omega, ih _ (by omega)⟩
theorem val_limbs (n : Nat) : val (limbs n) = n := by
 induction n using Nat.strongRecOn with
 | _ n ih =>
  by_cases h : n = 0
  ·subst h; rw [limbs_zero]; rfl
  ·rw [limbs_pos h, val, ih _ (by omega)]; omega
theorem limbs_val (l : List Int) (h : okl l) (hl : l ≠ [] → l.getD (l.length - 1) 0 ≠ 0) : limbs (val l) = l := by
 induction l with
 | nil => exact limbs_zero
 | cons x xs ih =>
  have h1 := okl_cons.1 h
  have hne : val (x :: xs) ≠ 0 := by
   intro h0
   simp only [val] at h0
   cases xs with
   | nil => exact hl (by simp) (by simp; omega)
   | cons y ys =>
    have h2 : limbs (val (y :: ys)) = y :: ys := ih h1.2 (fun _ => by have := hl (by simp); simpa using this)
    have h3 : val (y :: ys) = 0 := by omega
    rw [h3, limbs_zero] at h2
    cases h2
  rw [limbs_pos hne]
  simp only [val]
  have e1 : (x.toNat + 4294967296 * val xs) % 4294967296 = x.toNat := by omega
  have e2 : (x.toNat + 4294967296 * val xs) / 4294967296 = val xs := by omega
  rw [e1, e2]
  have e3 : limbs (val xs) = xs := by
   cases xs with
   | nil => exact limbs_zero
   | cons y ys => exact ih h1.2 (fun _ => by have := hl (by simp); simpa using this)
  rw [e3]
  congr 1
  omega
theorem tl_top (l : List Int) (n : Nat) (h : tl l n ≠ 0) : l.getD (tl l n - 1) 0 ≠ 0 := by
 induction n with
 | zero => exact absurd rfl h
 | succ n ih =>
  unfold tl at h ⊢
  by_cases h0 : l.getD n 0 = 0
  ·rw [if_pos h0] at h ⊢; exact ih h
  ·rw [if_neg h0]; exact h0
theorem limbs_tl {l : List Int} (h : okl l) : l.take (tl l l.length) = limbs (val l) := by
 have h1 := val_tl l l.length (Nat.le_refl _)
 rw [List.take_length] at h1
 rw [← h1]
 refine (limbs_val _ (okl_take h _) (fun hne => ?_)).symm
 have h2 := tl_le l l.length
 have h3 : (l.take (tl l l.length)).length = tl l l.length := by rw [List.length_take]; omega
 have h4 : tl l l.length ≠ 0 := fun h0 => hne (by rw [h0]; rfl)
 rw [h3, List.getD_eq_getElem?_getD, List.getElem?_take_of_lt (by omega), ← List.getD_eq_getElem?_getD]
 exact tl_top l _ h4
theorem limbs_len_le {n k : Nat} (h : n < 4294967296 ^ k) : (limbs n).length ≤ k := by
 induction k generalizing n with
 | zero => simp at h; subst h; rw [limbs_zero]; simp
 | succ k ih =>
  by_cases h0 : n = 0
  ·subst h0; rw [limbs_zero]; simp
  ·rw [limbs_pos h0, List.length_cons]
   have := ih (n := n / 4294967296) (by rw [Nat.pow_succ] at h; rw [Nat.div_lt_iff_lt_mul (by decide)]; exact h)
   omega
theorem limbs_ne_nil {n : Nat} (h : n ≠ 0) : limbs n ≠ [] := by rw [limbs_pos h]; simp
theorem limbs_eq_nil {n : Nat} : limbs n = [] ↔ n = 0 := ⟨fun h => by
 by_cases h0 : n = 0
 ·exact h0
 ·exact absurd h (limbs_ne_nil h0), fun h => by rw [h, limbs_zero]⟩
theorem limbs_top {n : Nat} (h : n ≠ 0) : (limbs n).getD ((limbs n).length - 1) 0 ≠ 0 := by
 have h1 := limbs_tl (okl_limbs n)
 rw [val_limbs] at h1
 have h2 := tl_le (limbs n) (limbs n).length
 have h3 : tl (limbs n) (limbs n).length = (limbs n).length := by
  have := congrArg List.length h1
  rw [List.length_take] at this
  omega
 have h4 := tl_top (limbs n) (limbs n).length (by rw [h3]; intro h0; exact limbs_ne_nil h (List.eq_nil_of_length_eq_zero h0))
 rwa [h3] at h4
theorem val_set (l : List Int) (n : Nat) (h : n < l.length) (x : Int) : val (l.set n x) + 4294967296 ^ n * (l.getD n 0).toNat = val l + 4294967296 ^ n * x.toNat := by
 induction l generalizing n with
 | nil => simp at h
 | cons y ys ih =>
  cases n with
  | zero => simp [val]; omega
  | succ n =>
   have := ih n (by simpa using h)
   simp only [List.set_cons_succ, val, List.getD_cons_succ]
   grind
theorem getD_okl {l : List Int} (h : okl l) (n : Nat) : 0 ≤ l.getD n 0 ∧ l.getD n 0 < 4294967296 := by
 have := okl_rd h (n : Int)
 unfold rd at this
 rwa [Int.toNat_natCast] at this
theorem mul_step {P : List Int} (hP : okl P) {n : Nat} (hn : n < P.length) {p q c t : Int} (hp0 : 0 ≤ p) (hp1 : p < 4294967296) (hq0 : 0 ≤ q) (hq1 : q < 4294967296) (hc0 : 0 ≤ c) (hc1 : c < 4294967296)
  (ht : t = c + p * q + P.getD n 0) :
  0 ≤ p * q ∧ p * q + P.getD n 0 + c < 18446744073709551616 ∧ 0 ≤ t ∧ t < 18446744073709551616 ∧ okl (P.set n (t % 4294967296)) ∧ 0 ≤ t / 4294967296 ∧ t / 4294967296 < 4294967296 ∧
   val (P.set n (t % 4294967296)) + 4294967296 ^ (n + 1) * (t / 4294967296).toNat = val P + 4294967296 ^ n * (c.toNat + p.toNat * q.toNat) := by
 obtain ⟨p, rfl⟩ := Int.eq_ofNat_of_zero_le hp0
 obtain ⟨q, rfl⟩ := Int.eq_ofNat_of_zero_le hq0
 obtain ⟨c, rfl⟩ := Int.eq_ofNat_of_zero_le hc0
 have hg := getD_okl hP n
 obtain ⟨g, hgg⟩ := Int.eq_ofNat_of_zero_le hg.1
 have hpq : p * q ≤ 4294967295 * 4294967295 := Nat.mul_le_mul (by omega) (by omega)
 have hcast : (p : Int) * (q : Int) = ((p * q : Nat) : Int) := by simp
 rw [hcast] at ht ⊢
 have hs := val_set P n hn (t % 4294967296)
 rw [hgg] at ht hs hg ⊢
 refine ⟨by omega, by omega, by omega, by omega, okl_set hP n (by omega) (by omega), by omega, by omega, ?_⟩
 have e1 : (t % 4294967296).toNat + 4294967296 * (t / 4294967296).toNat = c + p * q + g := by omega
 simp only [Int.toNat_natCast] at hs ⊢
 have e2 : 4294967296 ^ (n + 1) * (t / 4294967296).toNat = 4294967296 ^ n * (4294967296 * (t / 4294967296).toNat) := by rw [Nat.pow_succ]; grind
 have e3 : 4294967296 ^ n * (t % 4294967296).toNat + 4294967296 ^ n * (4294967296 * (t / 4294967296).toNat) = 4294967296 ^ n * (c + p * q) + 4294967296 ^ n * g := by
  rw [← Nat.mul_add, e1, Nat.mul_add]
 omega
end Go.Proofs.Ythamhjmhgcpdgaa.Th
end
section
namespace Go.Proofs.Ythamhjmhgcpdgaa.Big
open Go.RowKit Go.Proofs.YthamhjmhgcpdgaaW.PrintWords Go.Proofs.YthamhjmhgcpdgaaW.PrintLast Go.Proofs.YthamhjmhgcpdgaaW.PrintMore Go.Proofs.Ythamhjmhgcpdgaa.Q Go.Proofs.Ythamhjmhgcpdgaa.Th
set_option linter.unusedVariables false
set_option linter.unusedSimpArgs false
theorem wrap64_id {x : Int} (h0 : -9223372036854775808 ≤ x) (h1 : x < 9223372036854775808) : wrap64 x = x := by unfold wrap64; omega
theorem wrapu64 (x : Int) : IntKind.u64.wrap x = x % 18446744073709551616 := by simp [IntKind.wrap, IntKind.bits, IntKind.signed]
theorem wrapu64_id {x : Int} (h0 : 0 ≤ x) (h1 : x < 18446744073709551616) : IntKind.u64.wrap x = x := by rw [wrapu64]; omega
theorem and_low {x : Int} (h0 : 0 ≤ x) (h1 : x < 18446744073709551616) : Go.bits .and .u64 x 4294967295 = x % 4294967296 :=
 bits_mask .u64 64 (by decide) (fun n a b => wrapu64_id a b) 32 (by decide) x h0 h1
theorem or_high {x y : Int} (hx0 : 0 ≤ x) (hx1 : x < 4294967296) (hy0 : 0 ≤ y) (hy1 : y < 4294967296) : Go.bits .or .u64 (x * 4294967296) y = x * 4294967296 + y :=
 bits_join .u64 64 (by decide) (fun n a b => wrapu64_id a b) 32 _ _ (by omega) (by omega) (by omega) hy0 (by omega) (by omega)
abbrev lenok (l : List Int) : Prop := l.length ≤ 1099511627776
abbrev lenok2 (l : List Int) : Prop := l.length ≤ 17592186044416
theorem Ev.ite_pos {α : Type} {p : Prop} [Decidable p] {a b : Nat → Option α} {r : α} (h : p) (k : Ev a r) : Ev (fun n => if p then a n else b n) r := Ev.congr (fun n => if_pos h) k
theorem Ev.ite_neg {α : Type} {p : Prop} [Decidable p] {a b : Nat → Option α} {r : α} (h : ¬ p) (k : Ev b r) : Ev (fun n => if p then a n else b n) r := Ev.congr (fun n => if_neg h) k
theorem rd_nat (l : List Int) (n : Nat) : rd l (n : Int) = l.getD n 0 := by unfold rd; rw [Int.toNat_natCast]
theorem trim_loop (l : List Int) (n : Nat) (hn : n ≤ l.length) (hl : lenok2 l) : Ev (fun k => nat_trim.l0 k l n) (l.take (tl l n)) := by
 induction n with
 | zero =>
  refine Ev.step (f := fun _ => some (l.take 0)) (fun k => ?_) (Ev.now _)
  simp only [nat_trim.l0]
  rw [if_neg (by omega), if_pos (by omega), if_pos (by omega)]
  rfl
 | succ n ih =>
  have hw : wrap64 (((n + 1 : Nat) : Int) - 1) = (n : Int) := by rw [wrap64_id (by omega) (by unfold lenok2 at hl; omega)]; omega
  unfold tl
  by_cases h0 : l.getD n 0 = 0
  ·rw [if_pos h0]
   refine Ev.step (fun k => ?_) (ih (by omega))
   simp only [nat_trim.l0]
   rw [if_pos (by omega), hw, if_pos (by omega), if_pos (by omega), rd_nat, if_pos h0]
  ·rw [if_neg h0]
   refine Ev.step (f := fun _ => some (l.take (n + 1))) (fun k => ?_) (Ev.now _)
   simp only [nat_trim.l0]
   rw [if_pos (by omega), hw, if_pos (by omega), if_pos (by omega), rd_nat, if_neg h0, if_pos (by omega), if_pos (by omega)]
   rfl
theorem trim_ev2 {l : List Int} (h : okl l) (hl : lenok2 l) : Ev (fun k => nat_trim.f k l) (limbs (val l)) := by
 rw [← limbs_tl h]
 exact trim_loop l l.length (Nat.le_refl _) hl
theorem trim_ev {l : List Int} (h : okl l) (hl : lenok l) : Ev (fun k => nat_trim.f k l) (limbs (val l)) := trim_ev2 h (by unfold lenok at hl; unfold lenok2; omega)
theorem limbs_val_len {l : List Int} (h : okl l) : (limbs (val l)).length ≤ l.length := limbs_len_le (val_lt h)
theorem norm_ev {l : List Int} (h : okl l) (hl : lenok l) : Ev (fun k => nat_Norm.f k l) (limbs (val l)) := by
 have h1 := limbs_val_len h
 unfold lenok at hl
 refine Ev.bind (a := limbs (val l)) (f := fun k t131 => if ([] : List Int).length + t131.length < 35184372088832 then (some ([] ++ t131)) else none) (trim_ev h hl) ?_
 refine Ev.ite_pos ?_ (Ev.now _)
 simp only [List.length_nil]; omega
theorem of_two {a : Int} (h0 : 0 ≤ a) (h1 : a < 18446744073709551616) : okl [a % 4294967296, a / 4294967296 % 4294967296] ∧ val [a % 4294967296, a / 4294967296 % 4294967296] = a.toNat := by
 refine ⟨?_, ?_⟩
 ·intro x hx; simp at hx; omega
 ·simp only [val]; omega
theorem of_ev {a : Int} (h0 : 0 ≤ a) (h1 : a < 18446744073709551616) : Ev (fun k => nat_Of.f k a) (limbs a.toNat) := by
 obtain ⟨h2, h3⟩ := of_two h0 h1
 rw [← h3]
 refine Ev.bind (f := fun _ t => some t) ?_ (Ev.now _)
 rw [and_low h0 h1, show a % 4294967296 % 4294967296 = a % 4294967296 by omega]
 exact trim_ev h2 (by unfold lenok; simp)
def cmpI (a b : Nat) : Int := if a < b then -1 else if b < a then 1 else 0
theorem cmp_loop (a b : List Int) (ha : okl a) (hb : okl b) (hl : a.length = b.length) (hla : lenok a) (n : Nat) (hn : n ≤ a.length) (he : val (a.drop n) = val (b.drop n)) :
  Ev (fun k => nat_Cmp.l0 k a b ((n : Int) - 1)) (cmpI (val a) (val b)) := by
 induction n with
 | zero =>
  refine Ev.step (f := fun _ => some 0) (fun k => ?_) (by
   rw [List.drop_zero, List.drop_zero] at he
   rw [he, cmpI, if_neg (by omega), if_neg (by omega)]; exact Ev.now _)
  simp only [nat_Cmp.l0]
  rw [if_neg (by omega)]
 | succ n ih =>
  unfold lenok at hla
  have e1 : ((n + 1 : Nat) : Int) - 1 = n := by omega
  have e2 := val_drop_one a n (by omega)
  have e3 := val_drop_one b n (by omega)
  have v1 := val_take_drop a n (by omega)
  have v2 := val_take_drop b n (by omega)
  have b1 := val_lt (okl_take ha n)
  have b2 := val_lt (okl_take hb n)
  rw [List.length_take, Nat.min_eq_left (by omega)] at b1 b2
  have r1 := okl_rd ha n
  have r2 := okl_rd hb n
  rw [rd_nat] at r1 r2
  rw [e1]
  by_cases h1 : a.getD n 0 < b.getD n 0
  ·refine Ev.step (f := fun _ => some (-1)) (fun k => ?_) ?_
   ·simp only [nat_Cmp.l0]
    rw [if_pos (by omega), if_pos (by omega), if_pos (by omega), if_pos (by omega), rd_nat, rd_nat, if_pos h1]
   ·have : val (a.drop n) + 1 ≤ val (b.drop n) := by omega
    have h2 : 4294967296 ^ n * (val (a.drop n) + 1) ≤ 4294967296 ^ n * val (b.drop n) := Nat.mul_le_mul_left _ this
    rw [Nat.mul_add] at h2
    rw [cmpI, if_pos (by omega)]
    exact Ev.now _
  ·by_cases h2 : b.getD n 0 < a.getD n 0
   ·refine Ev.step (f := fun _ => some 1) (fun k => ?_) ?_
    ·simp only [nat_Cmp.l0]
     rw [if_pos (by omega), if_pos (by omega), if_pos (by omega), if_pos (by omega), rd_nat, rd_nat, if_neg h1, if_pos (by omega)]
    ·have : val (b.drop n) + 1 ≤ val (a.drop n) := by omega
     have h3 : 4294967296 ^ n * (val (b.drop n) + 1) ≤ 4294967296 ^ n * val (a.drop n) := Nat.mul_le_mul_left _ this
     rw [Nat.mul_add] at h3
     rw [cmpI, if_neg (by omega), if_pos (by omega)]
     exact Ev.now _
   ·refine Ev.step (fun k => ?_) (ih (by omega) (by omega))
    simp only [nat_Cmp.l0]
    rw [if_pos (by omega), if_pos (by omega), if_pos (by omega), if_pos (by omega), rd_nat, rd_nat, if_neg h1, if_neg (by omega), wrap64_id (by omega) (by omega)]
theorem pow_mono {a b : Nat} (h : a ≤ b) : 4294967296 ^ a ≤ 4294967296 ^ b := Nat.pow_le_pow_right (by decide) h
theorem limbs_len_mono {a b : Nat} (h : a ≤ b) : (limbs a).length ≤ (limbs b).length := by
 apply limbs_len_le
 have := val_lt (okl_limbs b)
 rw [val_limbs] at this
 omega
theorem cmp_ev {a b : List Int} (ha : okl a) (hb : okl b) (hla : lenok a) (hlb : lenok b) : Ev (fun k => nat_Cmp.f k a b) (cmpI (val a) (val b)) := by
 have l1 := limbs_val_len ha
 have l2 := limbs_val_len hb
 refine Ev.bind (trim_ev ha hla) (Ev.bind (trim_ev hb hlb) ?_)
 by_cases he : (limbs (val a)).length = (limbs (val b)).length
 ·refine Ev.ite_pos (by omega) ?_
  have := cmp_loop (limbs (val a)) (limbs (val b)) (okl_limbs _) (okl_limbs _) he (by unfold lenok at *; omega) (limbs (val a)).length (Nat.le_refl _) (by rw [List.drop_length, he, List.drop_length])
  rw [val_limbs, val_limbs] at this
  rw [wrap64_id (by omega) (by unfold lenok at *; omega)]
  exact this
 ·refine Ev.ite_neg (by omega) ?_
  by_cases h1 : (limbs (val a)).length < (limbs (val b)).length
  ·refine Ev.ite_pos (by omega) ?_
   have h2 : val a < val b := by
    rcases Nat.lt_or_ge (val a) (val b) with h | h
    ·exact h
    ·have := limbs_len_mono h; omega
   rw [cmpI, if_pos h2]; exact Ev.now _
  ·refine Ev.ite_neg (by omega) ?_
   have h2 : val b < val a := by
    rcases Nat.lt_or_ge (val b) (val a) with h | h
    ·exact h
    ·have := limbs_len_mono h; omega
   rw [cmpI, if_neg (by omega), if_pos h2]; exact Ev.now _
theorem divSmall_loop (a : List Int) (ha : okl a) (hla : lenok a) (d : Int) (hd0 : 0 < d) (hd1 : d < 4294967296) (n : Nat) (hn : n ≤ a.length) (q : List Int) (hq : okl q) (hql : q.length = a.length) (r : Int) (hr0 : 0 ≤ r) (hr1 : r < d)
  (hv : val (a.drop n) = val (q.drop n) * d.toNat + r.toNat) :
  ∃ q' r', okl q' ∧ q'.length = a.length ∧ 0 ≤ r' ∧ r' < d ∧ val a = val q' * d.toNat + r'.toNat ∧ Ev (fun k => nat_divSmall.l0 k a d q r ((n : Int) - 1)) (limbs (val q'), r') := by
 induction n generalizing q r with
 | zero =>
  refine ⟨q, r, hq, hql, hr0, hr1, by simpa using hv, ?_⟩
  refine Ev.step (f := fun k => (nat_trim.f k q).bind fun t => some (t, r % 4294967296)) (fun k => ?_) ?_
  ·simp only [nat_divSmall.l0]
   rw [if_neg (by omega)]
  ·have e : r % 4294967296 = r := by omega
   rw [e]
   exact Ev.bind (f := fun _ t => some (t, r)) (trim_ev hq (by unfold lenok at *; omega)) (Ev.now _)
 | succ n ih =>
  unfold lenok at hla
  have r1 := okl_rd ha n
  rw [rd_nat] at r1
  have e1 : ((n + 1 : Nat) : Int) - 1 = n := by omega
  obtain ⟨x, hx⟩ : ∃ x, x = r * 4294967296 + a.getD n 0 := ⟨_, rfl⟩
  have hx0 : 0 ≤ x := by omega
  have hx1 : x < d * 4294967296 := by omega
  have hdiv0 : 0 ≤ x / d := Int.ediv_nonneg hx0 (by omega)
  have hdiv1 : x / d < 4294967296 := Int.ediv_lt_of_lt_mul hd0 (by rw [Int.mul_comm]; exact hx1)
  have hm0 := Int.emod_nonneg x (show d ≠ 0 by omega)
  have hm1 := Int.emod_lt_of_pos x hd0
  have hmd := Int.mul_ediv_add_emod x d
  have e2 := val_drop_one a n (by omega)
  have e3 : val ((q.set n (x / d)).drop n) = (x / d).toNat + 4294967296 * val (q.drop (n + 1)) := by
   rw [val_drop_one _ n (by rw [List.length_set]; omega), List.getD_eq_getElem?_getD, List.getElem?_set_self (by omega), List.drop_set_of_lt (by omega)]
   rfl
  obtain ⟨q', r', h1, h2, h3, h4, h5, h6⟩ := ih (by omega) (q.set n (x / d)) (okl_set hq n hdiv0 hdiv1) (by rw [List.length_set]; exact hql) (x % d) hm0 hm1 (by
   rw [e2, hv, e3]
   have hc : (x / d).toNat * d.toNat + (x % d).toNat = r.toNat * 4294967296 + (a.getD n 0).toNat := by
    have h7 : (((x / d).toNat * d.toNat + (x % d).toNat : Nat) : Int) = ((r.toNat * 4294967296 + (a.getD n 0).toNat : Nat) : Int) := by
     rw [Int.natCast_add, Int.natCast_mul, Int.natCast_add, Int.natCast_mul, Int.toNat_of_nonneg hdiv0, Int.toNat_of_nonneg (show (0:Int) ≤ d by omega), Int.toNat_of_nonneg hm0, Int.toNat_of_nonneg hr0, Int.toNat_of_nonneg r1.1]
     rw [Int.mul_comm (x / d) d]; omega
    exact Int.ofNat.inj h7
   grind)
  refine ⟨q', r', h1, h2, h3, h4, h5, ?_⟩
  rw [e1]
  refine Ev.step (fun k => ?_) h6
  simp only [nat_divSmall.l0]
  rw [if_pos (by omega), if_pos (by omega), if_pos (by omega), wrapu64_id (x := d) (by omega) (by omega), if_neg (by omega), if_pos (by omega), rd_nat, wrapu64_id (x := a.getD n 0) (by omega) (by omega), wrapu64_id (x := r * 4294967296) (by omega) (by omega), or_high hr0 (by omega) r1.1 r1.2, ← hx, Int.tdiv_eq_ediv_of_nonneg hx0, Int.tmod_eq_emod_of_nonneg hx0, wrapu64_id (x := x / d) hdiv0 (by omega), show x / d % 4294967296 = x / d by omega, wrap64_id (by omega) (by omega), Int.toNat_natCast]
theorem divSmall_ev {a : List Int} (ha : okl a) (hla : lenok a) {d : Int} (hd0 : 0 < d) (hd1 : d < 4294967296) : Ev (fun k => nat_divSmall.f k a d) (limbs (val a / d.toNat), ((val a % d.toNat : Nat) : Int)) := by
 unfold lenok at hla
 obtain ⟨q', r', h1, h2, h3, h4, h5, h6⟩ := divSmall_loop a ha hla d hd0 hd1 a.length (Nat.le_refl _) (List.replicate a.length 0) (okl_replicate _) (by simp) 0 (by omega) hd0 (by
  rw [List.drop_length, List.drop_of_length_le (by simp)]; simp [val])
 have hq : val a / d.toNat = val q' := by
  rw [h5]
  exact Nat.div_eq_of_lt_le (by omega) (by rw [Nat.add_mul]; omega)
 have hr : val a % d.toNat = r'.toNat := by
  rw [h5, Nat.mul_comm, Nat.mul_add_mod, Nat.mod_eq_of_lt (by omega)]
 rw [hq, hr, Int.toNat_of_nonneg h3]
 refine Ev.ite_pos (by omega) (Ev.ite_pos (by omega) ?_)
 rw [Int.toNat_natCast, wrap64_id (by omega) (by omega)]
 exact h6
theorem mul_inner (a b : List Int) (ha : okl a) (hb : okl b) (hla : lenok a) (hlb : lenok b) (i : Nat) (hi : i < a.length) {r : List Int} (V : Nat)
  (K : ∀ P : List Int, okl P → P.length = a.length + b.length → (∀ m, i + 1 + b.length ≤ m → P.getD m 0 = 0) → val P = V + 4294967296 ^ i * ((a.getD i 0).toNat * val b) → Ev (fun k => nat_Mul.l0 k b P a (a.length : Int) ((i + 1 : Nat) : Int)) r)
  (d : Nat) : ∀ (j : Nat) (P : List Int) (c : Int), j + d = b.length → okl P → P.length = a.length + b.length → (∀ m, i + b.length ≤ m → P.getD m 0 = 0) → 0 ≤ c → c < 4294967296 →
   val P + 4294967296 ^ (i + j) * c.toNat = V + 4294967296 ^ i * ((a.getD i 0).toNat * val (b.take j)) →
   Ev (fun k => nat_Mul.l1 k b P (i : Int) (a.getD i 0) c a (a.length : Int) (i : Int) b (b.length : Int) (j : Int)) r := by
 unfold lenok at hla hlb
 have hx := getD_okl ha i
 induction d with
 | zero =>
  intro j P c hj hP hPl hz hc0 hc1 hv
  obtain rfl : j = b.length := by omega
  have hs := val_set P (i + b.length) (by omega) c
  rw [hz _ (Nat.le_refl _)] at hs
  have e : b.take b.length = b := List.take_length
  rw [e] at hv
  refine Ev.step (fun k => ?_) (K (P.set (i + b.length) c) (okl_set hP _ hc0 hc1) (by rw [List.length_set]; exact hPl) ?_ (by simp at hs; omega))
  ·simp only [nat_Mul.l1]
   rw [if_neg (by omega), wrap64_id (x := (i : Int) + (b.length : Int)) (by omega) (by omega), if_pos (by omega), if_pos (by omega), wrap64_id (x := (i : Int) + 1) (by omega) (by omega), show c % 4294967296 = c by omega,
    show ((i : Int) + (b.length : Int)).toNat = i + b.length by omega]
   rfl
  ·intro m hm
   rw [List.getD_eq_getElem?_getD, List.getElem?_set_ne (by omega), ← List.getD_eq_getElem?_getD]
   exact hz m (by omega)
 | succ d ih =>
  intro j P c hj hP hPl hz hc0 hc1 hv
  have hq := getD_okl hb j
  obtain ⟨t, ht⟩ : ∃ t, t = c + a.getD i 0 * b.getD j 0 + P.getD (i + j) 0 := ⟨_, rfl⟩
  obtain ⟨h1, h2, h3, h4, h5, h6, h7, h8⟩ := mul_step hP (n := i + j) (by omega) hx.1 hx.2 hq.1 hq.2 hc0 hc1 ht
  have hP2 := getD_okl hP (i + j)
  have e1 : val (b.take (j + 1)) = val (b.take j) + 4294967296 ^ j * (b.getD j 0).toNat := val_take_succ b j (by omega)
  refine Ev.step (fun k => ?_) (ih (j + 1) (P.set (i + j) (t % 4294967296)) (t / 4294967296) (by omega) h5 (by rw [List.length_set]; exact hPl) ?_ h6 h7 ?_)
  ·simp only [nat_Mul.l1]
   rw [if_pos (by omega), if_pos (by omega), if_pos (by omega), wrap64_id (x := (i : Int) + (j : Int)) (by omega) (by omega), if_pos (by omega), if_pos (by omega), rd_nat, show (i : Int) + (j : Int) = ((i + j : Nat) : Int) by omega, rd_nat,
    wrapu64_id (x := a.getD i 0) (by omega) (by omega), wrapu64_id (x := b.getD j 0) (by omega) (by omega), wrapu64_id (x := P.getD (i + j) 0) (by omega) (by omega),
    wrapu64_id (x := a.getD i 0 * b.getD j 0) h1 (by omega), wrapu64_id (x := a.getD i 0 * b.getD j 0 + P.getD (i + j) 0) (by omega) (by omega),
    ← Int.add_assoc, ← ht, wrapu64_id (x := t) h3 h4, and_low h3 h4, show t % 4294967296 % 4294967296 = t % 4294967296 by omega, wrap64_id (x := (j : Int) + 1) (by omega) (by omega), Int.toNat_natCast]
   rfl
  ·intro m hm
   rw [List.getD_eq_getElem?_getD, List.getElem?_set_ne (by omega), ← List.getD_eq_getElem?_getD]
   exact hz m hm
  ·rw [show i + (j + 1) = i + j + 1 by omega, h8, e1, Nat.mul_add (4294967296 ^ (i + j)), ← Nat.add_assoc, hv]
   have e2 : 4294967296 ^ (i + j) = 4294967296 ^ i * 4294967296 ^ j := Nat.pow_add _ _ _
   rw [e2]
   grind
theorem mul_outer (a b : List Int) (ha : okl a) (hb : okl b) (hla : lenok a) (hlb : lenok b) (d : Nat) : ∀ (i : Nat) (P : List Int), i + d = a.length → okl P → P.length = a.length + b.length →
  (∀ m, i + b.length ≤ m → P.getD m 0 = 0) → val P = val (a.take i) * val b → Ev (fun k => nat_Mul.l0 k b P a (a.length : Int) (i : Int)) (limbs (val a * val b)) := by
 induction d with
 | zero =>
  intro i P hi hP hPl hz hv
  obtain rfl : i = a.length := by omega
  rw [List.take_length] at hv
  unfold lenok at hla hlb
  rw [← hv]
  refine Ev.step (f := fun k => (nat_trim.f k P).bind fun t => some t) (fun k => ?_) (Ev.bind (f := fun _ t => some t) (trim_ev2 hP (by unfold lenok2; omega)) (Ev.now _))
  simp only [nat_Mul.l0]
  rw [if_neg (by omega)]
 | succ d ih =>
  intro i P hi hP hPl hz hv
  have hla' := hla
  unfold lenok at hla'
  refine Ev.step (fun k => ?_) (mul_inner a b ha hb hla hlb i (by omega) (val (a.take i) * val b) (fun P' h1 h2 h3 h4 => ih (i + 1) P' (by omega) h1 h2 h3 (by rw [h4, val_take_succ a i (by omega)]; grind)) b.length 0 P 0 (by omega) hP hPl hz (by omega) (by omega) (by simp [val, hv]))
  simp only [nat_Mul.l0]
  rw [if_pos (by omega), if_pos (by omega), if_pos (by omega), rd_nat]
  rfl
theorem mul_ev {a b : List Int} (ha : okl a) (hb : okl b) (hla : lenok a) (hlb : lenok b) : Ev (fun k => nat_Mul.f k a b) (limbs (val a * val b)) := by
 have l1 := limbs_val_len ha
 have l2 := limbs_val_len hb
 refine Ev.bind (trim_ev ha hla) (Ev.bind (trim_ev hb hlb) ?_)
 have hj1 : ∀ x y : List Int, Ev (fun k => nat_Mul.j0 k x y true) [] := fun x y => Ev.step (f := fun _ => some []) (fun k => by simp only [nat_Mul.j0, if_true]) (Ev.now _)
 by_cases h1 : val a = 0
 ·rw [h1, Nat.zero_mul, limbs_zero]
  exact Ev.ite_pos (by simp) (hj1 _ _)
 ·have h1' := List.length_pos_iff.2 (limbs_ne_nil h1)
  refine Ev.ite_neg (by omega) ?_
  by_cases h2 : val b = 0
  ·rw [h2, Nat.mul_zero, limbs_zero]
   exact hj1 _ _
  ·have h2' := List.length_pos_iff.2 (limbs_ne_nil h2)
   have e : (((limbs (val b)).length : Int) == 0) = false := by simp only [beq_eq_false_iff_ne]; omega
   rw [e]
   unfold lenok at hla hlb
   have w : wrap64 (((limbs (val a)).length : Int) + ((limbs (val b)).length : Int)) = ((limbs (val a)).length + (limbs (val b)).length : Nat) := by rw [wrap64_id (by omega) (by omega)]; omega
   refine Ev.step (f := fun k => nat_Mul.l0 k (limbs (val b)) (List.replicate ((limbs (val a)).length + (limbs (val b)).length) 0) (limbs (val a)) ((limbs (val a)).length : Int) 0) (fun k => ?_) ?_
   ·simp only [nat_Mul.j0]
    rw [if_neg (by decide), w, if_pos (by omega), if_pos (by omega), Int.toNat_natCast]
   ·have := mul_outer (limbs (val a)) (limbs (val b)) (okl_limbs _) (okl_limbs _) (by unfold lenok; omega) (by unfold lenok; omega) (limbs (val a)).length 0 (List.replicate ((limbs (val a)).length + (limbs (val b)).length) 0) (by omega) (okl_replicate _) (by simp) (fun m _ => by
      rw [List.getD_eq_getElem?_getD, List.getElem?_replicate]; split <;> rfl) (by simp [val, val_replicate])
    rw [val_limbs, val_limbs] at this
    exact this
theorem pow_le31 {n : Nat} (h : n ≤ 31) : 2 ^ n ≤ 2147483648 ∧ 0 < 2 ^ n := ⟨Nat.pow_le_pow_right (by decide) h, Nat.two_pow_pos n⟩
theorem shl_u64 {x : Int} {n : Nat} (h0 : 0 ≤ x) (h1 : x < 4294967296) (hn : n ≤ 31) : shl .u64 x (n : Int) = x * (2 ^ n : Nat) := by
 obtain ⟨p1, p2⟩ := pow_le31 hn
 obtain ⟨x, rfl⟩ := Int.eq_ofNat_of_zero_le h0
 have h2 : x * 2 ^ n ≤ 4294967295 * 2147483648 := Nat.mul_le_mul (by omega) p1
 unfold shl
 rw [Int.toNat_natCast, Nat.min_eq_left (by simp [IntKind.bits]; omega), show (x : Int) * (2 : Int) ^ n = ((x * 2 ^ n : Nat) : Int) by simp, wrapu64_id (by omega) (by omega)]
 simp
theorem shr_u64 {x : Int} {n : Nat} (hn : n ≤ 31) : shr .u64 x (n : Int) = x / (2 ^ n : Nat) := by
 unfold shr
 rw [Int.toNat_natCast, Nat.min_eq_left (by simp [IntKind.bits]; omega)]
 simp
theorem or_low {c x : Int} {n : Nat} (hn : n ≤ 31) (hc0 : 0 ≤ c) (hc1 : c < (2 ^ n : Nat)) (h0 : 0 ≤ x) (h1 : x < 4294967296) : Go.bits .or .u64 c (x * (2 ^ n : Nat)) = c + x * (2 ^ n : Nat) := by
 obtain ⟨p1, p2⟩ := pow_le31 hn
 obtain ⟨x, rfl⟩ := Int.eq_ofNat_of_zero_le h0
 obtain ⟨c, rfl⟩ := Int.eq_ofNat_of_zero_le hc0
 have h2 : x * 2 ^ n ≤ 4294967295 * 2147483648 := Nat.mul_le_mul (by omega) p1
 have h3 : c < 2 ^ n := by exact_mod_cast hc1
 have e : (x : Int) * ((2 ^ n : Nat) : Int) = ((x * 2 ^ n : Nat) : Int) := by simp
 rw [e, (bits_nat .u64 64 (by decide) (fun n a b => wrapu64_id a b) c (x * 2 ^ n) (by omega) (by omega)).2, Nat.or_comm, Nat.mul_comm, ← Nat.two_pow_add_eq_or_of_lt h3]
 simp [Int.add_comm]
theorem shiftUp_loop (a : List Int) (ha : okl a) (hla : lenok a) (s : Nat) (hs : s ≤ 31) (d : Nat) : ∀ (i : Nat) (o : List Int) (c : Int), i + d = a.length → okl o → o.length = a.length + 1 → 0 ≤ c → c < (2 ^ s : Nat) →
  val (o.take i) + 4294967296 ^ i * c.toNat = val (a.take i) * 2 ^ s →
  ∃ r, okl r ∧ r.length = a.length + 1 ∧ val r = val a * 2 ^ s ∧ Ev (fun k => nat_shiftUp.l0 k a (s : Int) o c a (a.length : Int) (i : Int)) r := by
 unfold lenok at hla
 obtain ⟨p1, p2⟩ := pow_le31 hs
 induction d with
 | zero =>
  intro i o c hi ho hol hc0 hc1 hv
  obtain rfl : i = a.length := by omega
  rw [List.take_length] at hv
  refine ⟨o.set a.length c, okl_set ho _ hc0 (by omega), by rw [List.length_set]; exact hol, ?_, ?_⟩
  ·have e1 : (o.set a.length c) = o.take a.length ++ [c] := by
    rw [List.set_eq_take_append_cons_drop, if_pos (by omega), List.drop_of_length_le (by omega)]
   rw [e1, val_append, List.length_take, Nat.min_eq_left (by omega)]
   simp only [val]
   omega
  ·refine Ev.step (f := fun _ => some (o.set a.length c)) (fun k => ?_) (Ev.now _)
   simp only [nat_shiftUp.l0]
   rw [if_neg (by omega), if_pos (by omega), if_pos (by omega), Int.toNat_natCast, show c % 4294967296 = c by omega]
 | succ d ih =>
  intro i o c hi ho hol hc0 hc1 hv
  have hx := getD_okl ha i
  obtain ⟨t, ht⟩ : ∃ t, t = c + a.getD i 0 * (2 ^ s : Nat) := ⟨_, rfl⟩
  have hm : 0 ≤ a.getD i 0 * ((2 ^ s : Nat) : Int) := Int.mul_nonneg hx.1 (by omega)
  have hm2 : (a.getD i 0 + 1) * ((2 ^ s : Nat) : Int) ≤ 4294967296 * ((2 ^ s : Nat) : Int) := Int.mul_le_mul_of_nonneg_right (by omega) (by omega)
  rw [Int.add_mul, Int.one_mul] at hm2
  have ht0 : 0 ≤ t := by omega
  have ht1 : t < 4294967296 * ((2 ^ s : Nat) : Int) := by omega
  have ht2 : t / 4294967296 < (2 ^ s : Nat) := by omega
  have e1 : (o.set i (t % 4294967296)).take (i + 1) = o.take i ++ [t % 4294967296] := by
   rw [List.set_eq_take_append_cons_drop, if_pos (by omega), List.take_append, List.length_take, Nat.min_eq_left (by omega), List.take_take, Nat.min_eq_right (by omega), show i + 1 - i = 1 by omega]
   rfl
  obtain ⟨r, h1, h2, h3, h4⟩ := ih (i + 1) (o.set i (t % 4294967296)) (t / 4294967296) (by omega) (okl_set ho _ (by omega) (by omega)) (by rw [List.length_set]; exact hol) (by omega) ht2 (by
   rw [e1, val_append, List.length_take, Nat.min_eq_left (by omega), val_take_succ a i (by omega), Nat.add_mul, ← hv]
   have e2 : (t % 4294967296).toNat + 4294967296 * (t / 4294967296).toNat = c.toNat + (a.getD i 0).toNat * 2 ^ s := by
    have : ((a.getD i 0).toNat * 2 ^ s : Nat) = (a.getD i 0 * ((2 ^ s : Nat) : Int)).toNat := by
     obtain ⟨x, hxx⟩ := Int.eq_ofNat_of_zero_le hx.1
     rw [hxx]
     have : (x : Int) * ((2 ^ s : Nat) : Int) = ((x * 2 ^ s : Nat) : Int) := by simp
     rw [this]; rfl
    omega
   simp only [val]
   rw [Nat.pow_succ]
   grind)
  refine ⟨r, h1, h2, h3, Ev.step (fun k => ?_) h4⟩
  simp only [nat_shiftUp.l0]
  rw [if_pos (by omega), if_pos (by omega), if_pos (by omega), if_pos (by omega), if_pos (by omega), rd_nat, wrapu64_id (x := a.getD i 0) (by omega) (by omega), shl_u64 hx.1 hx.2 hs, or_low hs hc0 hc1 hx.1 hx.2, ← ht,
   and_low ht0 (by omega), show t % 4294967296 % 4294967296 = t % 4294967296 by omega, wrap64_id (x := (i : Int) + 1) (by omega) (by omega), Int.toNat_natCast]
  rfl
theorem shiftUp_ev {a : List Int} (ha : okl a) (hla : lenok a) {s : Nat} (hs : s ≤ 31) : ∃ r, okl r ∧ r.length = a.length + 1 ∧ val r = val a * 2 ^ s ∧ Ev (fun k => nat_shiftUp.f k a (s : Int)) r := by
 have hla' := hla
 unfold lenok at hla'
 obtain ⟨r, h1, h2, h3, h4⟩ := shiftUp_loop a ha hla s hs a.length 0 (List.replicate (a.length + 1) 0) 0 (by omega) (okl_replicate _) (by simp) (by omega) (by have := (pow_le31 hs).2; omega) (by simp [val])
 refine ⟨r, h1, h2, h3, ?_⟩
 have w : wrap64 ((a.length : Int) + 1) = ((a.length + 1 : Nat) : Int) := by rw [wrap64_id (by omega) (by omega)]; rfl
 unfold nat_shiftUp.f
 simp only [w]
 refine Ev.ite_pos (by omega) (Ev.ite_pos (by omega) ?_)
 rw [Int.toNat_natCast]
 exact h4
def dn (a : List Int) (s i : Nat) : Int := ((a.getD i 0 + 4294967296 * a.getD (i + 1) 0) / ((2 ^ s : Nat) : Int)) % 4294967296
theorem dn_val (a o : List Int) (ha : okl a) (s : Nat) (hs : s ≤ 31) (hol : o.length = a.length) (ho : ∀ i, i < a.length → o.getD i 0 = dn a s i) (d : Nat) : ∀ i, i + d = a.length → val (o.drop i) = val (a.drop i) / 2 ^ s := by
 obtain ⟨p1, p2⟩ := pow_le31 hs
 induction d with
 | zero =>
  intro i hi
  rw [List.drop_of_length_le (by omega), List.drop_of_length_le (by omega)]
  simp [val]
 | succ d ih =>
  intro i hi
  have h1 := ih (i + 1) (by omega)
  rw [val_drop_one o i (by omega), val_drop_one a i (by omega), ho i (by omega), h1]
  have hx := getD_okl ha i
  have hy := getD_okl ha (i + 1)
  obtain ⟨x, hx'⟩ := Int.eq_ofNat_of_zero_le hx.1
  obtain ⟨y, hy'⟩ := Int.eq_ofNat_of_zero_le hy.1
  obtain ⟨V, hV⟩ : ∃ V, V = val (a.drop (i + 1)) := ⟨_, rfl⟩
  have hVy : V % 4294967296 = y := by
   rw [hV]
   by_cases h2 : i + 1 < a.length
   ·rw [val_drop_one a (i + 1) h2, hy', Int.toNat_natCast]; omega
   ·rw [List.drop_of_length_le (by omega)]
    rw [List.getD_eq_getElem?_getD, List.getElem?_eq_none (by omega)] at hy'
    simp at hy'
    simp [val]; omega
  rw [← hV]
  unfold dn
  rw [hx', hy']
  have e1 : ((((x : Int) + 4294967296 * (y : Int)) / ((2 ^ s : Nat) : Int)) % 4294967296).toNat = (x + 4294967296 * y) / 2 ^ s % 4294967296 := by
   have : ((x : Int) + 4294967296 * (y : Int)) = ((x + 4294967296 * y : Nat) : Int) := by simp
   rw [this, ← Int.natCast_ediv]
   omega
  rw [e1, Int.toNat_natCast]
  have hx2 : x < 4294967296 := by omega
  obtain ⟨e, he⟩ : ∃ e, 4294967296 = 2 ^ s * e := ⟨2 ^ (32 - s), by rw [← Nat.pow_add, show s + (32 - s) = 32 by omega]⟩
  have hVm := Nat.div_add_mod V 4294967296
  rw [hVy] at hVm
  have e2 : x + 4294967296 * V = (x + 4294967296 * y) + 2 ^ s * (e * (4294967296 * (V / 4294967296))) := by
   have : 4294967296 * V = 4294967296 * y + 4294967296 * (4294967296 * (V / 4294967296)) := by omega
   have h9 : 2 ^ s * (e * (4294967296 * (V / 4294967296))) = 4294967296 * (4294967296 * (V / 4294967296)) := by rw [← Nat.mul_assoc (2 ^ s), ← he]
   rw [this, h9]; omega
  have e3 : (x + 4294967296 * V) / 2 ^ s = (x + 4294967296 * y) / 2 ^ s + e * (4294967296 * (V / 4294967296)) := by rw [e2, Nat.add_mul_div_left _ _ p2]
  have e4 : (x + 4294967296 * V) / 2 ^ s % 4294967296 = (x + 4294967296 * y) / 2 ^ s % 4294967296 := by
   rw [e3, show e * (4294967296 * (V / 4294967296)) = 4294967296 * (e * (V / 4294967296)) by grind, Nat.add_mul_mod_self_left]
  have hVd := Nat.div_add_mod V (2 ^ s)
  have hVr := Nat.mod_lt V p2
  have e5 : (x + 4294967296 * V) / 2 ^ s = (x + 4294967296 * (V % 2 ^ s)) / 2 ^ s + 4294967296 * (V / 2 ^ s) := by
   have : x + 4294967296 * V = (x + 4294967296 * (V % 2 ^ s)) + 2 ^ s * (4294967296 * (V / 2 ^ s)) := by
    have h7 : 4294967296 * V = 4294967296 * (2 ^ s * (V / 2 ^ s) + V % 2 ^ s) := by rw [hVd]
    rw [h7]; grind
   rw [this, Nat.add_mul_div_left _ _ p2]
  have e6 : (x + 4294967296 * (V % 2 ^ s)) / 2 ^ s < 4294967296 := by
   rw [Nat.div_lt_iff_lt_mul p2]
   have : 4294967296 * (V % 2 ^ s + 1) ≤ 4294967296 * 2 ^ s := Nat.mul_le_mul_left _ (by omega)
   omega
  rw [← e4, e5, Nat.add_mul_mod_self_left, Nat.mod_eq_of_lt e6]
theorem shiftDown_loop (a : List Int) (ha : okl a) (hla : lenok2 a) (s : Nat) (hs : s ≤ 31) (d : Nat) : ∀ (i : Nat) (o : List Int), i + d = a.length → okl o → o.length = a.length → (∀ j, j < i → o.getD j 0 = dn a s j) →
  Ev (fun k => nat_shiftDown.l0 k a (s : Int) o (a.length : Int) (i : Int)) (limbs (val a / 2 ^ s)) := by
 unfold lenok2 at hla
 obtain ⟨p1, p2⟩ := pow_le31 hs
 induction d with
 | zero =>
  intro i o hi ho hol hd
  obtain rfl : i = a.length := by omega
  have := dn_val a o ha s hs hol hd a.length 0 (by omega)
  rw [List.drop_zero, List.drop_zero] at this
  rw [← this]
  refine Ev.step (f := fun k => (nat_trim.f k o).bind fun t => some t) (fun k => ?_) (Ev.bind (f := fun _ t => some t) (trim_ev2 ho (by unfold lenok2; omega)) (Ev.now _))
  simp only [nat_shiftDown.l0]
  rw [if_neg (by omega)]
 | succ d ih =>
  intro i o hi ho hol hd
  have hx := getD_okl ha i
  have hy := getD_okl ha (i + 1)
  have hdn : 0 ≤ dn a s i ∧ dn a s i < 4294967296 := by unfold dn; omega
  refine Ev.step (fun k => ?_) (ih (i + 1) (o.set i (dn a s i)) (by omega) (okl_set ho _ hdn.1 hdn.2) (by rw [List.length_set]; exact hol) (fun j hj => ?_))
  ·obtain ⟨t, ht⟩ : ∃ t, t = a.getD i 0 + 4294967296 * a.getD (i + 1) 0 := ⟨_, rfl⟩
   have hds : dn a s i = t / ((2 ^ s : Nat) : Int) % 4294967296 := by rw [ht]; rfl
   have ht0 : 0 ≤ t / ((2 ^ s : Nat) : Int) := Int.ediv_nonneg (by omega) (by omega)
   have ht1 : t / ((2 ^ s : Nat) : Int) < 18446744073709551616 := Int.ediv_lt_of_lt_mul (by omega) (by
    have : 18446744073709551616 * 1 ≤ 18446744073709551616 * ((2 ^ s : Nat) : Int) := Int.mul_le_mul_of_nonneg_left (by omega) (by omega)
    omega)
   have hor : Go.bits .or .u64 (a.getD i 0) (a.getD (i + 1) 0 * 4294967296) = t := by
    obtain ⟨x, hx'⟩ := Int.eq_ofNat_of_zero_le hx.1
    obtain ⟨y, hy'⟩ := Int.eq_ofNat_of_zero_le hy.1
    rw [ht, hx', hy']
    have e : (y : Int) * 4294967296 = ((4294967296 * y : Nat) : Int) := by omega
    rw [e, (bits_nat .u64 64 (by decide) (fun n a b => wrapu64_id a b) x (4294967296 * y) (by omega) (by omega)).2, Nat.or_comm, show (4294967296 : Nat) = 2 ^ 32 from rfl, ← Nat.two_pow_add_eq_or_of_lt (by omega)]
    omega
   simp only [nat_shiftDown.l0]
   rw [if_pos (by omega), if_pos (by omega), if_pos (by omega), wrap64_id (x := (i : Int) + 1) (by omega) (by omega)]
   by_cases h2 : i + 1 < a.length
   ·rw [if_pos (by omega), if_pos (by omega), if_pos (by omega), if_pos (by omega), rd_nat, show (i : Int) + 1 = ((i + 1 : Nat) : Int) by omega, rd_nat, wrapu64_id (x := a.getD i 0) (by omega) (by omega), wrapu64_id (x := a.getD (i + 1) 0) (by omega) (by omega),
     wrapu64_id (x := a.getD (i + 1) 0 * 4294967296) (by omega) (by omega), hor, shr_u64 hs, and_low ht0 ht1, Int.toNat_natCast, hds, show t / ((2 ^ s : Nat) : Int) % 4294967296 % 4294967296 = t / ((2 ^ s : Nat) : Int) % 4294967296 by omega]
   ·have hy0 : a.getD (i + 1) 0 = 0 := by rw [List.getD_eq_getElem?_getD, List.getElem?_eq_none (by omega)]; rfl
    rw [hy0] at ht
    rw [if_neg (by omega), if_pos (by omega), if_pos (by omega), rd_nat, wrapu64_id (x := a.getD i 0) (by omega) (by omega), show a.getD i 0 = t by omega, shr_u64 hs, and_low ht0 ht1, Int.toNat_natCast, hds, show t / ((2 ^ s : Nat) : Int) % 4294967296 % 4294967296 = t / ((2 ^ s : Nat) : Int) % 4294967296 by omega]
    rfl
  ·by_cases hji : j = i
   ·subst hji
    rw [List.getD_eq_getElem?_getD, List.getElem?_set_self (by omega)]; rfl
   ·rw [List.getD_eq_getElem?_getD, List.getElem?_set_ne (by omega), ← List.getD_eq_getElem?_getD]
    exact hd j (by omega)
theorem shiftDown_ev {a : List Int} (ha : okl a) (hla : lenok2 a) {s : Nat} (hs : s ≤ 31) : Ev (fun k => nat_shiftDown.f k a (s : Int)) (limbs (val a / 2 ^ s)) := by
 have hla' := hla
 unfold lenok2 at hla'
 unfold nat_shiftDown.f
 refine Ev.ite_pos (by omega) (Ev.ite_pos (by omega) ?_)
 rw [Int.toNat_natCast]
 exact shiftDown_loop a ha hla s hs a.length 0 _ (by omega) (okl_replicate _) (by simp) (fun j hj => by omega)
theorem tdown {t : Int} (h0 : -4294967297 ≤ t) (h1 : t < 4294967296) :
  Go.bits .and .u64 (IntKind.u64.wrap t) 4294967295 = t % 4294967296 ∧ IntKind.u64.wrap t / 9223372036854775808 = (if t < 0 then 1 else 0) := by
 have hw : 0 ≤ IntKind.u64.wrap t ∧ IntKind.u64.wrap t < 18446744073709551616 := by rw [wrapu64]; omega
 refine ⟨?_, ?_⟩
 ·rw [and_low hw.1 hw.2, wrapu64]; omega
 ·rw [wrapu64]; split <;> omega
theorem wrapu64_sub (x y z : Int) : IntKind.u64.wrap (IntKind.u64.wrap (x - y) - z) = IntKind.u64.wrap (x - y - z) := by
 rw [wrapu64, wrapu64, wrapu64]; omega
theorem sub_loop (v : List Int) (hv : okl v) (hlv : lenok v) (q : Int) (hq0 : 0 ≤ q) (hq1 : q < 4294967296) (U : Nat) (d : Nat) : ∀ (i : Nat) (u : List Int) (b c : Int), i + d = v.length → okl u → u.length = v.length + 1 →
  (b = 0 ∨ b = 1) → 0 ≤ c → c < 4294967296 → val u + q.toNat * val (v.take i) = U + 4294967296 ^ i * (b.toNat + c.toNat) →
  ∃ neg r, okl r ∧ r.length = v.length + 1 ∧ val r + q.toNat * val v = U + (if neg then 4294967296 ^ (v.length + 1) else 0) ∧ Ev (fun k => nat_subtract.l0 k u v q b c v (v.length : Int) (i : Int)) (neg, r) := by
 unfold lenok at hlv
 induction d with
 | zero =>
  intro i u b c hi hu hul hb hc0 hc1 hs
  obtain rfl : i = v.length := by omega
  have hx := getD_okl hu v.length
  obtain ⟨t, ht⟩ : ∃ t, t = u.getD v.length 0 - b - c := ⟨_, rfl⟩
  have td := tdown (t := t) (by omega) (by omega)
  rw [List.take_length] at hs
  refine ⟨decide (t < 0), u.set v.length (t % 4294967296), okl_set hu _ (by omega) (by omega), by rw [List.length_set]; exact hul, ?_, ?_⟩
  ·have h1 := val_set u v.length (by omega) (t % 4294967296)
   have e1 : (t % 4294967296).toNat + b.toNat + c.toNat = (u.getD v.length 0).toNat + 4294967296 * (if t < 0 then 1 else 0) := by split <;> omega
   have e2 : 4294967296 ^ v.length * ((t % 4294967296).toNat + b.toNat + c.toNat) = 4294967296 ^ v.length * ((u.getD v.length 0).toNat + 4294967296 * (if t < 0 then 1 else 0)) := by rw [e1]
   have e3 : (if decide (t < 0) = true then 4294967296 ^ (v.length + 1) else 0) = 4294967296 ^ v.length * (4294967296 * (if t < 0 then 1 else 0)) := by
    by_cases h : t < 0 <;> simp [h, Nat.pow_succ]
   rw [e3]
   generalize (if t < 0 then 1 else 0) = z at e2 ⊢
   grind
  ·refine Ev.step (f := fun _ => some (decide (t < 0), u.set v.length (t % 4294967296))) (fun k => ?_) (Ev.now _)
   simp only [nat_subtract.l0]
   rw [if_neg (by omega), if_pos (by omega), if_pos (by omega), rd_nat, wrapu64_id (x := u.getD v.length 0) (by omega) (by omega), wrapu64_sub, ← ht, td.1, td.2, Int.toNat_natCast, show t % 4294967296 % 4294967296 = t % 4294967296 by omega]
   by_cases h : t < 0 <;> simp [h]
 | succ d ih =>
  intro i u b c hi hu hul hb hc0 hc1 hs
  have hx := getD_okl hu i
  have hy := getD_okl hv i
  obtain ⟨x, hx'⟩ := Int.eq_ofNat_of_zero_le hy.1
  obtain ⟨qn, rfl⟩ := Int.eq_ofNat_of_zero_le hq0
  have hp : qn * x ≤ 4294967295 * 4294967295 := Nat.mul_le_mul (by omega) (by omega)
  have hcast : (qn : Int) * (v.getD i 0) = ((qn * x : Nat) : Int) := by rw [hx']; simp
  obtain ⟨m, hm⟩ : ∃ m, m = c + (qn : Int) * (v.getD i 0) := ⟨_, rfl⟩
  have hm0 : 0 ≤ m := by omega
  have hm1 : m < 18446744069414584321 := by omega
  obtain ⟨t, ht⟩ : ∃ t, t = u.getD i 0 - b - m % 4294967296 := ⟨_, rfl⟩
  have td := tdown (t := t) (by omega) (by omega)
  obtain ⟨neg, r, h1, h2, h3, h4⟩ := ih (i + 1) (u.set i (t % 4294967296)) (if t < 0 then 1 else 0) (m / 4294967296) (by omega) (okl_set hu _ (by omega) (by omega)) (by rw [List.length_set]; exact hul) (by split <;> simp) (by omega) (by omega) (by
   have h1 := val_set u i (by omega) (t % 4294967296)
   have e1 : (t % 4294967296).toNat + b.toNat + c.toNat + qn * x = (u.getD i 0).toNat + 4294967296 * ((if t < 0 then (1 : Int) else 0).toNat + (m / 4294967296).toNat) := by split <;> omega
   have e2 : 4294967296 ^ i * ((t % 4294967296).toNat + b.toNat + c.toNat + qn * x) = 4294967296 ^ i * ((u.getD i 0).toNat + 4294967296 * ((if t < 0 then (1 : Int) else 0).toNat + (m / 4294967296).toNat)) := by rw [e1]
   have e4 : val (v.take (i + 1)) = val (v.take i) + 4294967296 ^ i * x := by rw [val_take_succ v i (by omega), hx']; rfl
   rw [e4, Nat.pow_succ]
   rw [Int.toNat_natCast] at hs ⊢
   generalize ((if t < 0 then (1 : Int) else 0).toNat + (m / 4294967296).toNat) = z at e2 ⊢
   grind)
  refine ⟨neg, r, h1, h2, h3, Ev.step (fun k => ?_) h4⟩
  simp only [nat_subtract.l0]
  rw [if_pos (by omega), if_pos (by omega), if_pos (by omega), if_pos (by omega), rd_nat, rd_nat, wrapu64_id (x := u.getD i 0) (by omega) (by omega), wrapu64_id (x := v.getD i 0) (by omega) (by omega), wrapu64_id (x := (qn : Int) * v.getD i 0) (by omega) (by omega), ← hm, wrapu64_id (x := m) (by omega) (by omega),
   and_low hm0 (by omega), wrapu64_sub, ← ht, td.1, td.2, show t % 4294967296 % 4294967296 = t % 4294967296 by omega, wrap64_id (x := (i : Int) + 1) (by omega) (by omega), Int.toNat_natCast]
  rfl
theorem subtract_ev {u v : List Int} (hu : okl u) (hv : okl v) (hlv : lenok v) {q : Int} (hq0 : 0 ≤ q) (hq1 : q < 4294967296) {lo : Nat} (hl : lo + v.length + 1 ≤ u.length) :
  ∃ neg w, okl w ∧ w.length = v.length + 1 ∧ val w + q.toNat * val v = val ((u.drop lo).take (v.length + 1)) + (if neg then 4294967296 ^ (v.length + 1) else 0) ∧
   Ev (fun k => nat_subtract.f k u (lo : Int) ((lo + v.length + 1 : Nat) : Int) v q) (neg, u.take lo ++ w ++ u.drop (lo + v.length + 1)) := by
 have e : (u.take (lo + v.length + 1)).drop lo = (u.drop lo).take (v.length + 1) := by rw [List.drop_take]; congr 1; omega
 obtain ⟨neg, w, h1, h2, h3, h4⟩ := sub_loop v hv hlv q hq0 hq1 (val ((u.drop lo).take (v.length + 1))) v.length 0 ((u.drop lo).take (v.length + 1)) 0 0 (by omega) (okl_take (okl_drop hu _) _) (by rw [List.length_take, List.length_drop]; omega) (.inl rfl) (by omega) (by omega) (by simp [val])
 refine ⟨neg, w, h1, h2, h3, ?_⟩
 unfold nat_subtract.f
 refine Ev.ite_pos (by omega) (Ev.ite_pos (by omega) (Ev.ite_pos (by omega) ?_))
 simp only [Int.toNat_natCast]
 rw [e]
 exact Ev.bind (f := fun _ t => some (t.1, u.take lo ++ t.2 ++ u.drop (lo + v.length + 1))) h4 (Ev.now _)
theorem add_loop (v : List Int) (hv : okl v) (hlv : lenok v) (U : Nat) (d : Nat) : ∀ (i : Nat) (u : List Int) (c : Int), i + d = v.length → okl u → u.length = v.length + 1 →
  0 ≤ c → c < 4294967296 → val u + 4294967296 ^ i * c.toNat = U + val (v.take i) →
  ∃ r, okl r ∧ r.length = v.length + 1 ∧ (∃ z : Nat, val r + z * 4294967296 ^ (v.length + 1) = U + val v) ∧ Ev (fun k => nat_addBack.l0 k u v c v (v.length : Int) (i : Int)) r := by
 unfold lenok at hlv
 induction d with
 | zero =>
  intro i u c hi hu hul hc0 hc1 hs
  obtain rfl : i = v.length := by omega
  have hx := getD_okl hu v.length
  rw [List.take_length] at hs
  obtain ⟨t, ht⟩ : ∃ t, t = u.getD v.length 0 + c := ⟨_, rfl⟩
  refine ⟨u.set v.length (t % 4294967296), okl_set hu _ (by omega) (by omega), by rw [List.length_set]; exact hul, ⟨(t / 4294967296).toNat, ?_⟩, ?_⟩
  ·have h1 := val_set u v.length (by omega) (t % 4294967296)
   have e1 : (t % 4294967296).toNat + 4294967296 * (t / 4294967296).toNat = (u.getD v.length 0).toNat + c.toNat := by omega
   have e2 : 4294967296 ^ v.length * ((t % 4294967296).toNat + 4294967296 * (t / 4294967296).toNat) = 4294967296 ^ v.length * ((u.getD v.length 0).toNat + c.toNat) := by rw [e1]
   rw [Nat.pow_succ]
   grind
  ·refine Ev.step (f := fun _ => some (u.set v.length (t % 4294967296))) (fun k => ?_) (Ev.now _)
   simp only [nat_addBack.l0]
   rw [if_neg (by omega), if_pos (by omega), if_pos (by omega), rd_nat, Int.toNat_natCast, show c % 4294967296 = c by omega, ← ht]
 | succ d ih =>
  intro i u c hi hu hul hc0 hc1 hs
  have hx := getD_okl hu i
  have hy := getD_okl hv i
  obtain ⟨t, ht⟩ : ∃ t, t = c + (u.getD i 0 + v.getD i 0) := ⟨_, rfl⟩
  obtain ⟨r, h1, h2, h3, h4⟩ := ih (i + 1) (u.set i (t % 4294967296)) (t / 4294967296) (by omega) (okl_set hu _ (by omega) (by omega)) (by rw [List.length_set]; exact hul) (by omega) (by omega) (by
   have h1 := val_set u i (by omega) (t % 4294967296)
   have e1 : (t % 4294967296).toNat + 4294967296 * (t / 4294967296).toNat = c.toNat + (u.getD i 0).toNat + (v.getD i 0).toNat := by omega
   have e2 : 4294967296 ^ i * ((t % 4294967296).toNat + 4294967296 * (t / 4294967296).toNat) = 4294967296 ^ i * (c.toNat + (u.getD i 0).toNat + (v.getD i 0).toNat) := by rw [e1]
   rw [val_take_succ v i (by omega), Nat.pow_succ]
   grind)
  refine ⟨r, h1, h2, h3, Ev.step (fun k => ?_) h4⟩
  simp only [nat_addBack.l0]
  rw [if_pos (by omega), if_pos (by omega), if_pos (by omega), if_pos (by omega), rd_nat, rd_nat, wrapu64_id (x := u.getD i 0) (by omega) (by omega), wrapu64_id (x := v.getD i 0) (by omega) (by omega), wrapu64_id (x := u.getD i 0 + v.getD i 0) (by omega) (by omega), ← ht, wrapu64_id (x := t) (by omega) (by omega),
   and_low (by omega) (by omega), show t % 4294967296 % 4294967296 = t % 4294967296 by omega, wrap64_id (x := (i : Int) + 1) (by omega) (by omega), Int.toNat_natCast]
  rfl
theorem addBack_ev {u v : List Int} (hu : okl u) (hv : okl v) (hlv : lenok v) {lo : Nat} (hl : lo + v.length + 1 ≤ u.length) :
  ∃ w, okl w ∧ w.length = v.length + 1 ∧ (∃ z : Nat, val w + z * 4294967296 ^ (v.length + 1) = val ((u.drop lo).take (v.length + 1)) + val v) ∧
   Ev (fun k => nat_addBack.f k u (lo : Int) ((lo + v.length + 1 : Nat) : Int) v) (u.take lo ++ w ++ u.drop (lo + v.length + 1)) := by
 have e : (u.take (lo + v.length + 1)).drop lo = (u.drop lo).take (v.length + 1) := by rw [List.drop_take]; congr 1; omega
 obtain ⟨w, h1, h2, h3, h4⟩ := add_loop v hv hlv (val ((u.drop lo).take (v.length + 1))) v.length 0 ((u.drop lo).take (v.length + 1)) 0 (by omega) (okl_take (okl_drop hu _) _) (by rw [List.length_take, List.length_drop]; omega) (by omega) (by omega) (by simp [val])
 refine ⟨w, h1, h2, h3, ?_⟩
 unfold nat_addBack.f
 refine Ev.ite_pos (by omega) (Ev.ite_pos (by omega) (Ev.ite_pos (by omega) ?_))
 simp only [Int.toNat_natCast]
 rw [e]
 exact Ev.bind (f := fun _ t => some (u.take lo ++ t ++ u.drop (lo + v.length + 1))) h4 (Ev.now _)
end Go.Proofs.Ythamhjmhgcpdgaa.Big
end
