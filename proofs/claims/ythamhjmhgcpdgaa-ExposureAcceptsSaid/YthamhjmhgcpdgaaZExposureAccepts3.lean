/- Lemmas and contracts for the law ExposureAccepts: words of the print, contracts of the functions that the law reaches, and what these compute, as far as the law needs them; packed by a program of this session. -/
import Derived.Test.YthamhjmhgcpdgaaZExposureAccepts2
section
namespace Go.Proofs.Ythamhjmhgcpdgaa.Q
open Go.RowKit Go.Proofs.YthamhjmhgcpdgaaW.PrintWords Go.Proofs.YthamhjmhgcpdgaaW.PrintLast Go.Proofs.YthamhjmhgcpdgaaW.PrintMore Go.Proofs.Ythamhjmhgcpdgaa.MyWords
attribute [local go_sem] max2_int max_two
set_option linter.unusedVariables false
set_option linter.unusedSimpArgs false
set_option maxHeartbeats 8000000 in
set_option maxRecDepth 100000 in
theorem examboardref03_reduce.calls (k : Nat) (a0_0 : Bool) (A0_1 : Option Addr) (c0_1 : Nat) (l0_1 : List Int) (A1 : Option Addr) (c1 : Nat) (l1 : List Int) (r1 : Bool) (r2 : List Int) (r3 : List Int) (w : World) (hr0_1 : Kd.C (Kd.int .u32) w A0_1 l0_1.length l0_1) (hc0_1 : l0_1.length ≤ c0_1) (hr1 : Kd.C (Kd.int .u32) w A1 l1.length l1) (hc1 : l1.length ≤ c1) (h : examboardref03_reduce.f k a0_0 l0_1 l1 = some (r1, r2, r3)) :
  Calls Try.prog 57 #[.agg #[.bool a0_0, .slice A0_1 l0_1.length c0_1], .slice A1 l1.length c1] w fun e w' => ∃ v1_ v2_ : Value, e = .returned (.agg #[.bool r1, v1_, v2_]) ∧ Kd.R (Kd.int .u32) 87 w' w.heap.size (fun k_ => some k_ ≠ (v2_ : Value).ownBlock) v1_ r2 ∧ Kd.R (Kd.int .u32) 87 w' w.heap.size (fun k_ => some k_ ≠ (v1_ : Value).ownBlock) v2_ r3 ∧ Below w.heap.size w w' := by
 have hu27 := Try.underlying27
 have hu29 := Try.underlying29
 have HR0_1 := mk0 hr0_1
 have HC0_1 := mk0 hc0_1
 clear hr0_1 hc0_1
 have HR1 := mk0 hr1
 have HC1 := mk0 hc1
 clear hr1 hc1
 have HB := mk0 (Below.refl w.heap.size w)
 have H : ((examboardref02_Norm.f k a0_0 l0_1).bind fun bt545 => ((examboardref01_Bits.f k bt545.2).bind fun t550 => (if t550 = 0 then ((examboardref03_zero.f k).bind fun bt551 => (some (bt551.1, bt551.2.1, bt551.2.2))) else ((examboardref01_Gcd.f k bt545.2 l1).bind fun t558 => ((examboardref01_DivMod.f k bt545.2 t558).bind fun bt561 => ((examboardref01_DivMod.f k l1 t558).bind fun bt568 => ((examboardref02_Make.f k bt545.1 bt561.1).bind fun bt575 => (some (bt575.1, bt575.2, bt568.1))))))))) = some (r1, r2, r3) := h
 clear h
 obtain ⟨⟨t545, t546⟩, A3, H⟩ := bindA H
 obtain ⟨t550, A4, H⟩ := bindA H
 by_cases c5 : t550 = 0
 ·rw [if_pos c5] at H
  have c5b0 : (t550 == 0) = true := beq_iff_eq.mpr c5
  have c5b1 : (t550 != 0) = false := bne_eq_false_iff_eq.mpr c5
  clear c5
  obtain ⟨⟨t551, t552, t555⟩, A6, H⟩ := bindA H
  simp only [Option.some.injEq, Prod.mk.injEq] at H
  obtain ⟨rfl, rfl, rfl⟩ := H
  go_enter Try.func57, Try.ntmps57
  go_wp2_with (first | ((with_reducible refine gate_dst (N := 2) rfl ?_); refine box_event rfl (N := 2) rfl (cs := #[.bool a0_0, .slice A0_1 l0_1.length c0_1]) (t := 27) (by first | (go_simp; done) | (go_simp; rfl)) ?_; intro gb543 hg w7 hbox hb; have BK543 := mk0 (hbox); have GE543 := geB hg HB; replace HB := hbS HB hb; clear hb hbox hg) | ((with_reducible refine gate_dst (N := 4) rfl ?_); refine box_event rfl (N := 4) rfl (cs := #[.bool false, .slice none 0 0, .slice none 0 0]) (t := 29) (by first | (go_simp; done) | (go_simp; rfl)) ?_; intro gb544 hg w8 hbox hb; have BK544 := mk0 (hbox); have GE544 := geB hg HB; replace HB := hbS HB hb; have NB543_544 := nbA hg BK543; have NB544_543 := nbB hg BK543; replace BK543 := bkB BK543 hb; clear hb hbox hg; have hnb9 := NB543_544.out; have hnc9 := NB544_543.out; have hcz10_0 : w8.cell? ⟨gb543, 0, none⟩ = some (.bool a0_0) := (blk_cell BK543.out 0).trans rfl; have hcz10_1 : w8.cell? ⟨gb543, 1, none⟩ = some (.slice A0_1 l0_1.length c0_1) := (blk_cell BK543.out 1).trans rfl; have hfz10_0 := blk_frozen BK543.out 0; have hfz10_1 := blk_frozen BK543.out 1) | ((with_reducible refine gate_callee (f := 84) rfl ?_); refine goesL_ (some 14) rfl rfl Try.func84 (by kernel_rfl) rfl #[.agg #[.bool a0_0, .slice A0_1 l0_1.length c0_1]] rfl (by first | (go_simp; done) | (go_simp; rfl)) ?_; (with_reducible refine (examboardref02_Norm.calls k a0_0 _ _ l0_1 t545 t546 _ (by exact Kd.C_below HR0_1.out HB.out) HC0_1.out A3.out).mono ?_); rintro e w11 ⟨v547, rfl, ho0, hb⟩; refine ⟨_, rfl, ?_⟩; have HO548 := mk0 (Kd.R_lower ho0 (below_size HB.out)); replace BK543 := bkB BK543 hb; replace BK544 := bkB BK544 hb; replace HB := hbS HB hb) | ((with_reducible refine gate_dst (N := 5) rfl ?_); refine box_event rfl (N := 5) rfl (cs := #[.bool false, .slice none 0 0]) (t := 27) (by first | (go_simp; done) | (go_simp; rfl)) ?_; intro gb549 hg w12 hbox hb; replace HO548 := rB HO548 hb; have BK549 := mk0 (hbox); have GE549 := geB hg HB; replace HB := hbS HB hb; have NB543_549 := nbA hg BK543; have NB549_543 := nbB hg BK543; replace BK543 := bkB BK543 hb; have NB544_549 := nbA hg BK544; have NB549_544 := nbB hg BK544; replace BK544 := bkB BK544 hb; clear hb hbox hg; have hnb13 := NB549_543.out; have hnc13 := NB543_549.out; have hnb14 := NB549_544.out; have hnc14 := NB544_549.out; have hcz15_0 : w12.cell? ⟨gb549, 0, none⟩ = some (.bool false) := (blk_cell BK549.out 0).trans rfl; have hcz15_1 : w12.cell? ⟨gb549, 1, none⟩ = some (.slice none 0 0) := (blk_cell BK549.out 1).trans rfl; have hfz15_0 := blk_frozen BK549.out 0; have hfz15_1 := blk_frozen BK549.out 1; obtain ⟨Ao16, co16, eo16⟩ := Kd.R_slice HO548.out; subst eo16) | ((with_reducible refine gate_callee (f := 85) rfl ?_); refine goesL_ (some 17) rfl rfl Try.func85 (by kernel_rfl) rfl #[.slice Ao16 t546.length co16] rfl (by first | (go_simp; done) | (go_simp; rfl)) ?_; (with_reducible refine (examboardref01_Bits.calls k _ _ t546 t550 _ (by refine (Kd.R_reads' (e := 87) (base := w.heap.size) (ok := fun k_ => True) (n := t546.length) (c := co16) ?_).2.2; exact ((Kd.R_mono (Kd.R_far (p := ⟨gb549, 1, none⟩) (Kd.R_far (p := ⟨gb549, 0, none⟩) (Kd.R_types HO548.out BK549.out (by decide)) (fun _ hk => hk.2) (.bool t545)) (fun _ hk => hk.2) (.slice Ao16 t546.length co16)) (fun _ h_ => h_.1)))) (by exact (Kd.R_reads' HO548.out).2.1) A4.out).mono ?_); rintro e w17 ⟨rfl, hb⟩; refine ⟨_, rfl, ?_⟩; replace HO548 := mk0 (Kd.R_below ((Kd.R_mono (Kd.R_far (p := ⟨gb549, 1, none⟩) (Kd.R_far (p := ⟨gb549, 0, none⟩) (Kd.R_types HO548.out BK549.out (by decide)) (fun _ hk => hk.2) (.bool t545)) (fun _ hk => hk.2) (.slice Ao16 t546.length co16)) (fun _ h_ => h_.1))) hb); replace BK543 := mk0 (blk_below (g := gb543) (o := .cells #[.bool a0_0, .slice A0_1 l0_1.length c0_1] 27 (0, 0)) (by refine blk_far ?_ NB543_549.out _; refine blk_far ?_ NB543_549.out _; exact BK543.out) hb); replace BK544 := mk0 (blk_below (g := gb544) (o := .cells #[.bool false, .slice none 0 0, .slice none 0 0] 29 (0, 0)) (by refine blk_far ?_ NB544_549.out _; refine blk_far ?_ NB544_549.out _; exact BK544.out) hb); replace BK549 := mk0 (blk_below (g := gb549) (o := .cells #[.bool t545, .slice Ao16 t546.length co16] 27 (0, 0)) (by refine blk_put (cs := #[.bool t545, .slice none 0 0]) ?_ 1 _ rfl; refine blk_put (cs := #[.bool false, .slice none 0 0]) ?_ 0 _ rfl; exact BK549.out) hb); replace HB := mk0 (below_step (by repeat (first | exact HB.out | refine below_set ?_ GE544.out | refine below_set ?_ GE549.out)) hb)) | ((with_reducible refine gate_callee (f := 86) rfl ?_); refine goesL_ (some 19) rfl rfl Try.func86 (by kernel_rfl) rfl #[] rfl (by first | (go_simp; done) | (go_simp; rfl)) ?_; (with_reducible refine (examboardref03_zero.calls k  t551 t552 t555 _ A6.out).mono ?_); rintro e w18 ⟨v553, v556, rfl, ho0, ho1, hb⟩; refine ⟨_, rfl, ?_⟩; have HO554 := mk0 (Kd.R_lower (Kd.R_new' ho0 (Kd.R_lt HO548.out)) (below_size HB.out)); have HO557 := mk0 (Kd.R_lower (Kd.R_new' ho1 (Kd.R_lt HO548.out)) (below_size HB.out)); replace HO548 := mk0 (Kd.R_mono (Kd.R_told (Kd.R_told (Kd.R_old HO548.out hb) (Kd.R_base ho0)) (Kd.R_base ho1)) (fun _ h_ => h_.1)); replace BK543 := bkB BK543 hb; replace BK544 := bkB BK544 hb; replace BK549 := bkB BK549 hb; replace HB := hbS HB hb; have hcz19_0 : w18.cell? ⟨gb544, 0, none⟩ = some (.bool false) := (blk_cell BK544.out 0).trans rfl; have hcz19_1 : w18.cell? ⟨gb544, 1, none⟩ = some (.slice none 0 0) := (blk_cell BK544.out 1).trans rfl; have hcz19_2 : w18.cell? ⟨gb544, 2, none⟩ = some (.slice none 0 0) := (blk_cell BK544.out 2).trans rfl; have hfz19_0 := blk_frozen BK544.out 0; have hfz19_1 := blk_frozen BK544.out 1; have hfz19_2 := blk_frozen BK544.out 2; obtain ⟨Ao20, co20, eo20⟩ := Kd.R_slice HO554.out; subst eo20; obtain ⟨Ao21, co21, eo21⟩ := Kd.R_slice HO557.out; subst eo21))
  refine bodyPost_ret (results_cell_row rfl _ _ gb544 29 #[.bool t551, .slice Ao20 t552.length co20, .slice Ao21 t555.length co21] (0, 0) _ rfl (by refine blk_put (cs := #[.bool t551, .slice Ao20 t552.length co20, .slice none 0 0]) ?_ 2 _ rfl; refine blk_put (cs := #[.bool t551, .slice none 0 0, .slice none 0 0]) ?_ 1 _ rfl; refine blk_put (cs := #[.bool false, .slice none 0 0, .slice none 0 0]) ?_ 0 _ rfl; exact BK544.out) Try.underlying29 rfl (by kernel_rfl)) rfl ?_
  exact ⟨_, _, by first | rfl | (simp [errW_none, errW_some] <;> rfl) | (simp [*, errW_none, errW_some] <;> rfl), Kd.R_mono (Kd.R_far (p := ⟨gb544, 2, none⟩) (Kd.R_far (p := ⟨gb544, 1, none⟩) (Kd.R_far (p := ⟨gb544, 0, none⟩) (Kd.R_types HO554.out BK544.out (by decide)) (fun _ hk => hk.2) (.bool t551)) (fun _ hk => hk.2) (.slice Ao20 t552.length co20)) (fun _ hk => hk.2) (.slice Ao21 t555.length co21)) (fun _ hk => hk.1.1), Kd.R_mono (Kd.R_far (p := ⟨gb544, 2, none⟩) (Kd.R_far (p := ⟨gb544, 1, none⟩) (Kd.R_far (p := ⟨gb544, 0, none⟩) (Kd.R_types HO557.out BK544.out (by decide)) (fun _ hk => hk.2) (.bool t551)) (fun _ hk => hk.2) (.slice Ao20 t552.length co20)) (fun _ hk => hk.2) (.slice Ao21 t555.length co21)) (fun _ hk => hk.1.1), by repeat (first | exact HB.out | refine below_set ?_ GE543.out | refine below_set ?_ GE544.out | refine below_set ?_ GE549.out)⟩
 ·rw [if_neg c5] at H
  have c5b0 : (t550 == 0) = false := beq_eq_false_iff_ne.mpr c5
  have c5b1 : (t550 != 0) = true := bne_iff_ne.mpr c5
  obtain ⟨t558, A22, H⟩ := bindA H
  obtain ⟨⟨t561, t562, t563⟩, A23, H⟩ := bindA H
  obtain ⟨⟨t568, t569, t570⟩, A24, H⟩ := bindA H
  obtain ⟨⟨t575, t576⟩, A25, H⟩ := bindA H
  simp only [Option.some.injEq, Prod.mk.injEq] at H
  obtain ⟨rfl, rfl, rfl⟩ := H
  go_enter Try.func57, Try.ntmps57
  go_wp2_with (first | ((with_reducible refine gate_dst (N := 2) rfl ?_); refine box_event rfl (N := 2) rfl (cs := #[.bool a0_0, .slice A0_1 l0_1.length c0_1]) (t := 27) (by first | (go_simp; done) | (go_simp; rfl)) ?_; intro gb543 hg w26 hbox hb; have BK543 := mk0 (hbox); have GE543 := geB hg HB; replace HB := hbS HB hb; clear hb hbox hg) | ((with_reducible refine gate_dst (N := 4) rfl ?_); refine box_event rfl (N := 4) rfl (cs := #[.bool false, .slice none 0 0, .slice none 0 0]) (t := 29) (by first | (go_simp; done) | (go_simp; rfl)) ?_; intro gb544 hg w27 hbox hb; have BK544 := mk0 (hbox); have GE544 := geB hg HB; replace HB := hbS HB hb; have NB543_544 := nbA hg BK543; have NB544_543 := nbB hg BK543; replace BK543 := bkB BK543 hb; clear hb hbox hg; have hnb28 := NB543_544.out; have hnc28 := NB544_543.out; have hcz29_0 : w27.cell? ⟨gb543, 0, none⟩ = some (.bool a0_0) := (blk_cell BK543.out 0).trans rfl; have hcz29_1 : w27.cell? ⟨gb543, 1, none⟩ = some (.slice A0_1 l0_1.length c0_1) := (blk_cell BK543.out 1).trans rfl; have hfz29_0 := blk_frozen BK543.out 0; have hfz29_1 := blk_frozen BK543.out 1) | ((with_reducible refine gate_callee (f := 84) rfl ?_); refine goesL_ (some 14) rfl rfl Try.func84 (by kernel_rfl) rfl #[.agg #[.bool a0_0, .slice A0_1 l0_1.length c0_1]] rfl (by first | (go_simp; done) | (go_simp; rfl)) ?_; (with_reducible refine (examboardref02_Norm.calls k a0_0 _ _ l0_1 t545 t546 _ (by exact Kd.C_below HR0_1.out HB.out) HC0_1.out A3.out).mono ?_); rintro e w30 ⟨v547, rfl, ho0, hb⟩; refine ⟨_, rfl, ?_⟩; have HO548 := mk0 (Kd.R_lower ho0 (below_size HB.out)); replace BK543 := bkB BK543 hb; replace BK544 := bkB BK544 hb; replace HB := hbS HB hb) | ((with_reducible refine gate_dst (N := 5) rfl ?_); refine box_event rfl (N := 5) rfl (cs := #[.bool false, .slice none 0 0]) (t := 27) (by first | (go_simp; done) | (go_simp; rfl)) ?_; intro gb549 hg w31 hbox hb; replace HO548 := rB HO548 hb; have BK549 := mk0 (hbox); have GE549 := geB hg HB; replace HB := hbS HB hb; have NB543_549 := nbA hg BK543; have NB549_543 := nbB hg BK543; replace BK543 := bkB BK543 hb; have NB544_549 := nbA hg BK544; have NB549_544 := nbB hg BK544; replace BK544 := bkB BK544 hb; clear hb hbox hg; have hnb32 := NB549_543.out; have hnc32 := NB543_549.out; have hnb33 := NB549_544.out; have hnc33 := NB544_549.out; have hcz34_0 : w31.cell? ⟨gb549, 0, none⟩ = some (.bool false) := (blk_cell BK549.out 0).trans rfl; have hcz34_1 : w31.cell? ⟨gb549, 1, none⟩ = some (.slice none 0 0) := (blk_cell BK549.out 1).trans rfl; have hfz34_0 := blk_frozen BK549.out 0; have hfz34_1 := blk_frozen BK549.out 1; obtain ⟨Ao35, co35, eo35⟩ := Kd.R_slice HO548.out; subst eo35) | ((with_reducible refine gate_callee (f := 85) rfl ?_); refine goesL_ (some 17) rfl rfl Try.func85 (by kernel_rfl) rfl #[.slice Ao35 t546.length co35] rfl (by first | (go_simp; done) | (go_simp; rfl)) ?_; (with_reducible refine (examboardref01_Bits.calls k _ _ t546 t550 _ (by refine (Kd.R_reads' (e := 87) (base := w.heap.size) (ok := fun k_ => True) (n := t546.length) (c := co35) ?_).2.2; exact ((Kd.R_mono (Kd.R_far (p := ⟨gb549, 1, none⟩) (Kd.R_far (p := ⟨gb549, 0, none⟩) (Kd.R_types HO548.out BK549.out (by decide)) (fun _ hk => hk.2) (.bool t545)) (fun _ hk => hk.2) (.slice Ao35 t546.length co35)) (fun _ h_ => h_.1)))) (by exact (Kd.R_reads' HO548.out).2.1) A4.out).mono ?_); rintro e w36 ⟨rfl, hb⟩; refine ⟨_, rfl, ?_⟩; replace HO548 := mk0 (Kd.R_below ((Kd.R_mono (Kd.R_far (p := ⟨gb549, 1, none⟩) (Kd.R_far (p := ⟨gb549, 0, none⟩) (Kd.R_types HO548.out BK549.out (by decide)) (fun _ hk => hk.2) (.bool t545)) (fun _ hk => hk.2) (.slice Ao35 t546.length co35)) (fun _ h_ => h_.1))) hb); replace BK543 := mk0 (blk_below (g := gb543) (o := .cells #[.bool a0_0, .slice A0_1 l0_1.length c0_1] 27 (0, 0)) (by refine blk_far ?_ NB543_549.out _; refine blk_far ?_ NB543_549.out _; exact BK543.out) hb); replace BK544 := mk0 (blk_below (g := gb544) (o := .cells #[.bool false, .slice none 0 0, .slice none 0 0] 29 (0, 0)) (by refine blk_far ?_ NB544_549.out _; refine blk_far ?_ NB544_549.out _; exact BK544.out) hb); replace BK549 := mk0 (blk_below (g := gb549) (o := .cells #[.bool t545, .slice Ao35 t546.length co35] 27 (0, 0)) (by refine blk_put (cs := #[.bool t545, .slice none 0 0]) ?_ 1 _ rfl; refine blk_put (cs := #[.bool false, .slice none 0 0]) ?_ 0 _ rfl; exact BK549.out) hb); replace HB := mk0 (below_step (by repeat (first | exact HB.out | refine below_set ?_ GE544.out | refine below_set ?_ GE549.out)) hb); have hcz37_0 : w36.cell? ⟨gb549, 0, none⟩ = some (.bool t545) := (blk_cell BK549.out 0).trans rfl; have hcz37_1 : w36.cell? ⟨gb549, 1, none⟩ = some (.slice Ao35 t546.length co35) := (blk_cell BK549.out 1).trans rfl; have hfz37_0 := blk_frozen BK549.out 0; have hfz37_1 := blk_frozen BK549.out 1) | ((with_reducible refine gate_callee (f := 87) rfl ?_); refine goesL_ (some 23) rfl rfl Try.func87 (by kernel_rfl) rfl #[.slice Ao35 t546.length co35, .slice A1 l1.length c1] rfl (by first | (go_simp; done) | (go_simp; rfl)) ?_; (with_reducible refine (examboardref01_Gcd.calls k _ _ t546 _ _ l1 t558 _ (by exact (Kd.R_reads' HO548.out).2.2) (by exact (Kd.R_reads' HO548.out).2.1) (by exact Kd.C_below HR1.out HB.out) HC1.out A22.out).mono ?_); rintro e w38 ⟨v559, rfl, ho0, hb⟩; refine ⟨_, rfl, ?_⟩; have HO560 := mk0 (Kd.R_lower (Kd.R_new' ho0 (Kd.R_lt HO548.out)) (below_size HB.out)); replace HO548 := mk0 (Kd.R_elder' HO548.out (Kd.R_base ho0) hb); replace BK543 := bkB BK543 hb; replace BK544 := bkB BK544 hb; replace BK549 := bkB BK549 hb; replace HB := hbS HB hb; have hcz39_0 : w38.cell? ⟨gb549, 0, none⟩ = some (.bool t545) := (blk_cell BK549.out 0).trans rfl; have hcz39_1 : w38.cell? ⟨gb549, 1, none⟩ = some (.slice Ao35 t546.length co35) := (blk_cell BK549.out 1).trans rfl; have hfz39_0 := blk_frozen BK549.out 0; have hfz39_1 := blk_frozen BK549.out 1; obtain ⟨Ao40, co40, eo40⟩ := Kd.R_slice HO560.out; subst eo40) | ((with_reducible refine gate_callee (f := 88) rfl ?_); refine goesL_ (some 28) rfl rfl Try.func88 (by kernel_rfl) rfl #[.slice Ao35 t546.length co35, .slice Ao40 t558.length co40] rfl (by first | (go_simp; done) | (go_simp; rfl)) ?_; (with_reducible refine (examboardref01_DivMod.calls k _ _ t546 _ _ t558 t561 t562 t563 _ (by exact (Kd.R_reads' HO548.out).2.2) (by exact (Kd.R_reads' HO548.out).2.1) (by exact (Kd.R_reads' HO560.out).2.2) (by exact (Kd.R_reads' HO560.out).2.1) A23.out).mono ?_); rintro e w41 ⟨v564, v566, rfl, ho0, ho1, hb⟩; refine ⟨_, rfl, ?_⟩; have HO565 := mk0 (Kd.R_lower (Kd.R_new' (Kd.R_new' ho0 (Kd.R_lt HO548.out)) (Kd.R_lt HO560.out)) (below_size HB.out)); have HO567 := mk0 (Kd.R_lower (Kd.R_new' (Kd.R_new' ho1 (Kd.R_lt HO548.out)) (Kd.R_lt HO560.out)) (below_size HB.out)); replace HO548 := mk0 (Kd.R_mono (Kd.R_told (Kd.R_told (Kd.R_old HO548.out hb) (Kd.R_base ho0)) (Kd.R_base ho1)) (fun _ h_ => h_.1)); replace HO560 := mk0 (Kd.R_mono (Kd.R_told (Kd.R_told (Kd.R_old HO560.out hb) (Kd.R_base ho0)) (Kd.R_base ho1)) (fun _ h_ => h_.1)); replace BK543 := bkB BK543 hb; replace BK544 := bkB BK544 hb; replace BK549 := bkB BK549 hb; replace HB := hbS HB hb) | ((with_reducible refine gate_callee (f := 88) rfl ?_); refine goesL_ (some 35) rfl rfl Try.func88 (by kernel_rfl) rfl #[.slice A1 l1.length c1, .slice Ao40 t558.length co40] rfl (by first | (go_simp; done) | (go_simp; rfl)) ?_; (with_reducible refine (examboardref01_DivMod.calls k _ _ l1 _ _ t558 t568 t569 t570 _ (by exact Kd.C_below HR1.out HB.out) HC1.out (by exact (Kd.R_reads' HO560.out).2.2) (by exact (Kd.R_reads' HO560.out).2.1) A24.out).mono ?_); rintro e w42 ⟨v571, v573, rfl, ho0, ho1, hb⟩; refine ⟨_, rfl, ?_⟩; have HO572 := mk0 (Kd.R_lower (Kd.R_new' (Kd.R_new' (Kd.R_new' (Kd.R_new' ho0 (Kd.R_lt HO548.out)) (Kd.R_lt HO560.out)) (Kd.R_lt HO565.out)) (Kd.R_lt HO567.out)) (below_size HB.out)); have HO574 := mk0 (Kd.R_lower (Kd.R_new' (Kd.R_new' (Kd.R_new' (Kd.R_new' ho1 (Kd.R_lt HO548.out)) (Kd.R_lt HO560.out)) (Kd.R_lt HO565.out)) (Kd.R_lt HO567.out)) (below_size HB.out)); replace HO548 := mk0 (Kd.R_mono (Kd.R_told (Kd.R_told (Kd.R_old HO548.out hb) (Kd.R_base ho0)) (Kd.R_base ho1)) (fun _ h_ => h_.1)); replace HO560 := mk0 (Kd.R_mono (Kd.R_told (Kd.R_told (Kd.R_old HO560.out hb) (Kd.R_base ho0)) (Kd.R_base ho1)) (fun _ h_ => h_.1)); replace HO565 := mk0 (Kd.R_mono (Kd.R_told (Kd.R_told (Kd.R_old HO565.out hb) (Kd.R_base ho0)) (Kd.R_base ho1)) (fun _ h_ => h_.1)); replace HO567 := mk0 (Kd.R_mono (Kd.R_told (Kd.R_told (Kd.R_old HO567.out hb) (Kd.R_base ho0)) (Kd.R_base ho1)) (fun _ h_ => h_.1)); replace BK543 := bkB BK543 hb; replace BK544 := bkB BK544 hb; replace BK549 := bkB BK549 hb; replace HB := hbS HB hb; have hcz43_0 : w42.cell? ⟨gb549, 0, none⟩ = some (.bool t545) := (blk_cell BK549.out 0).trans rfl; have hcz43_1 : w42.cell? ⟨gb549, 1, none⟩ = some (.slice Ao35 t546.length co35) := (blk_cell BK549.out 1).trans rfl; have hfz43_0 := blk_frozen BK549.out 0; have hfz43_1 := blk_frozen BK549.out 1; obtain ⟨Ao44, co44, eo44⟩ := Kd.R_slice HO565.out; subst eo44) | ((with_reducible refine gate_callee (f := 62) rfl ?_); refine goesL_ (some 42) rfl rfl Try.func62 (by kernel_rfl) rfl #[.bool t545, .slice Ao44 t561.length co44] rfl (by first | (go_simp; done) | (go_simp; rfl)) ?_; (with_reducible refine (examboardref02_Make.calls k t545 _ _ t561 t575 t576 _ (by exact (Kd.R_reads' HO565.out).2.2) (by exact (Kd.R_reads' HO565.out).2.1) A25.out).mono ?_); rintro e w45 ⟨v577, rfl, ho0, hb⟩; refine ⟨_, rfl, ?_⟩; have HO578 := mk0 (Kd.R_lower (Kd.R_new' (Kd.R_new' (Kd.R_new' (Kd.R_new' (Kd.R_new' (Kd.R_new' ho0 (Kd.R_lt HO548.out)) (Kd.R_lt HO560.out)) (Kd.R_lt HO565.out)) (Kd.R_lt HO567.out)) (Kd.R_lt HO572.out)) (Kd.R_lt HO574.out)) (below_size HB.out)); replace HO548 := mk0 (Kd.R_elder' HO548.out (Kd.R_base ho0) hb); replace HO560 := mk0 (Kd.R_elder' HO560.out (Kd.R_base ho0) hb); replace HO565 := mk0 (Kd.R_elder' HO565.out (Kd.R_base ho0) hb); replace HO567 := mk0 (Kd.R_elder' HO567.out (Kd.R_base ho0) hb); replace HO572 := mk0 (Kd.R_elder' HO572.out (Kd.R_base ho0) hb); replace HO574 := mk0 (Kd.R_elder' HO574.out (Kd.R_base ho0) hb); replace BK543 := bkB BK543 hb; replace BK544 := bkB BK544 hb; replace BK549 := bkB BK549 hb; replace HB := hbS HB hb; obtain ⟨Ao46, co46, eo46⟩ := Kd.R_slice HO572.out; subst eo46; obtain ⟨Ao47, co47, eo47⟩ := Kd.R_slice HO578.out; subst eo47; have hcz48_0 : w45.cell? ⟨gb544, 0, none⟩ = some (.bool false) := (blk_cell BK544.out 0).trans rfl; have hcz48_1 : w45.cell? ⟨gb544, 1, none⟩ = some (.slice none 0 0) := (blk_cell BK544.out 1).trans rfl; have hcz48_2 : w45.cell? ⟨gb544, 2, none⟩ = some (.slice none 0 0) := (blk_cell BK544.out 2).trans rfl; have hfz48_0 := blk_frozen BK544.out 0; have hfz48_1 := blk_frozen BK544.out 1; have hfz48_2 := blk_frozen BK544.out 2))
  refine bodyPost_ret (results_cell_row rfl _ _ gb544 29 #[.bool t575, .slice Ao47 t576.length co47, .slice Ao46 t568.length co46] (0, 0) _ rfl (by refine blk_put (cs := #[.bool t575, .slice Ao47 t576.length co47, .slice none 0 0]) ?_ 2 _ rfl; refine blk_put (cs := #[.bool t575, .slice none 0 0, .slice none 0 0]) ?_ 1 _ rfl; refine blk_put (cs := #[.bool false, .slice none 0 0, .slice none 0 0]) ?_ 0 _ rfl; exact BK544.out) Try.underlying29 rfl (by kernel_rfl)) rfl ?_
  exact ⟨_, _, by first | rfl | (simp [errW_none, errW_some] <;> rfl) | (simp [*, errW_none, errW_some] <;> rfl), Kd.R_mono (Kd.R_far (p := ⟨gb544, 2, none⟩) (Kd.R_far (p := ⟨gb544, 1, none⟩) (Kd.R_far (p := ⟨gb544, 0, none⟩) (Kd.R_types HO578.out BK544.out (by decide)) (fun _ hk => hk.2) (.bool t575)) (fun _ hk => hk.2) (.slice Ao47 t576.length co47)) (fun _ hk => hk.2) (.slice Ao46 t568.length co46)) (fun _ hk => hk.1.1.2), Kd.R_mono (Kd.R_far (p := ⟨gb544, 2, none⟩) (Kd.R_far (p := ⟨gb544, 1, none⟩) (Kd.R_far (p := ⟨gb544, 0, none⟩) (Kd.R_types HO572.out BK544.out (by decide)) (fun _ hk => hk.2) (.bool t575)) (fun _ hk => hk.2) (.slice Ao47 t576.length co47)) (fun _ hk => hk.2) (.slice Ao46 t568.length co46)) (fun _ hk => hk.1.2), by repeat (first | exact HB.out | refine below_set ?_ GE543.out | refine below_set ?_ GE544.out | refine below_set ?_ GE549.out)⟩
def examboardref01_Mul.T9 : Bool × List (List Nat × List Nat) := (true, [([], []), ([], []), ([], []), ([1, 2], [1, 2]), ([0, 3], [0, 3]), ([4], [4]), ([5], [5]), ([], []), ([], []), ([7, 8], [7, 8]), ([9], [9]), ([10], [10]), ([], []), ([], []), ([12, 13], [12, 13]), ([14], [14]), ([15], [15]), ([11, 16], [11, 16]), ([6, 17], [6, 17]), ([], []), ([18, 19], [18, 19]), ([20, 0, 1, 2, 3, 4, 5, 6, 7, 8, 9, 10, 11, 12, 13, 14, 15, 16, 17, 18, 19, 20], [20])])
def examboardref01_Mul.B9 : List Nat := [0, 0, 0, 6, 15, 31, 63, 0, 0, 384, 896, 1920, 0, 0, 12288, 28672, 61440, 130944, 262143, 0, 1048575, 2097151]
theorem examboardref01_Mul.tab9 : rtab .any (opsOf Try.f60 9) = examboardref01_Mul.T9 := by kernel_rfl
theorem examboardref01_Mul.bits9 : waitsOk examboardref01_Mul.T9.2 examboardref01_Mul.B9 = true := by kernel_rfl
set_option maxHeartbeats 8000000 in
set_option maxRecDepth 100000 in
theorem examboardref01_Mul.calls (k : Nat) (A0 : Option Addr) (c0 : Nat) (l0 : List Int) (A1 : Option Addr) (c1 : Nat) (l1 : List Int) (r : List Int) (w : World) (hr0 : Kd.C (Kd.int .u32) w A0 l0.length l0) (hc0 : l0.length ≤ c0) (hr1 : Kd.C (Kd.int .u32) w A1 l1.length l1) (hc1 : l1.length ≤ c1) (h : examboardref01_Mul.f k l0 l1 = some r) :
  Calls Try.prog 60 #[.slice A0 l0.length c0, .slice A1 l1.length c1] w fun e w' => ∃ v0_ : Value, e = .returned (v0_) ∧ Kd.R (Kd.int .u32) 87 w' w.heap.size (fun _ => True) v0_ r ∧ Below w.heap.size w w' := by
 have HR0 := mk0 hr0
 have HC0 := mk0 hc0
 clear hr0 hc0
 have HR1 := mk0 hr1
 have HC1 := mk0 hc1
 clear hr1 hc1
 have HB := mk0 (Below.refl w.heap.size w)
 have H : (if 0 ≤ (wrap64 ((l0.length : Int) + (l1.length : Int))) then (if (wrap64 ((l0.length : Int) + (l1.length : Int)) : Int).toNat ≤ 70368744177664 then (examboardref01_Mul.l0 k l0 l1 (List.replicate (wrap64 ((l0.length : Int) + (l1.length : Int)) : Int).toNat 0) 0) else (none)) else (none)) = some r := h
 clear h
 obtain ⟨ji3, hji3⟩ : ∃ j_ : Int, (wrap64 ((l0.length : Int) + (l1.length : Int))) = j_ := ⟨_, rfl⟩
 replace H : (if 0 ≤ (ji3) then (if (ji3 : Int).toNat ≤ 70368744177664 then (examboardref01_Mul.l0 k l0 l1 (List.replicate (ji3 : Int).toNat 0) 0) else (none)) else (none)) = some r := by first | (rw [hji3] at H; exact H) | (simp only [hji3] at H ⊢; exact H)
 have hji3w : (IntKind.i64.wrap ((l0.length : Int) + (l1.length : Int))) = ji3 := (i64_w _).trans hji3
 by_cases c4 : 0 ≤ (ji3)
 ·rw [if_pos c4] at H
  have c4b0 := eq_true c4
  have c4b1 : decide (0 ≤ (ji3)) = true := decide_eq_true c4
  clear c4
  by_cases c5 : (ji3 : Int).toNat ≤ 70368744177664
  ·rw [if_pos c5] at H
   have c5b0 := eq_true c5
   have c5b1 : decide ((ji3 : Int).toNat ≤ 70368744177664) = true := decide_eq_true c5
   clear c5
   obtain ⟨y579, hy579⟩ : ∃ y_ : List Int, y_ = (List.replicate (ji3 : Int).toNat 0) := ⟨_, rfl⟩
   replace H : (examboardref01_Mul.l0 k l0 l1 y579 0) = some r := by first | (rw [hy579]; with_reducible exact H) | (have H2_ := (Option.bind_some _ _).symm.trans H; rw [hy579]; with_reducible exact H2_) | (have H2_ := (Option.bind_some _ _).symm.trans H; with_reducible exact H2_) | with_reducible exact H | (rw [hy579]; exact H) | exact H
   have Ny579 := mk0 hy579
   clear hy579
   have H' := mk0 H
   clear H
   go_enter Try.func60, Try.ntmps60
   go_wp2_with (first | ((with_reducible refine gate_dst (N := 15) rfl ?_); refine Kd.R_make (Kd.int .u32) _ 87 rfl (N := 15) rfl 25 _ _ rfl ji3 rfl rfl Try.underlying25 (.int .u32 0) 4 info87 rfl (by decide) (by omega) 0 (ok := fun _ => True) (okp := fun _ => True) rfl (fun _ hk => hk) trivial (of_decide_eq_true (by assumption)) (Nat.le_trans (Nat.mul_le_mul_right _ (of_decide_eq_true (by assumption) : ji3.toNat ≤ 70368744177664)) (by omega)) (Below.refl _ _) (Nat.le_refl _) ?_; intro v580 w6 ho7 hb hg_ hnew_; clear hg_ hnew_; (first | rw [← Ny579.out] at ho7 | (simp only [Int.reduceToNat] at ho7; rw [← Ny579.out] at ho7)); have HO581 := mk0 (Kd.R_lower ho7 (below_size HB.out)); replace HB := hbS HB hb; clear hb ho7))
   go_loopg [6] k (fun kq v6 w' => ∃ (x5_1 : List Int) (x6_1 : Int), v6 = .int .i64 x6_1 ∧ Aside0 (examboardref01_Mul.l0 kq l0 l1 x5_1 x6_1 = some r) ∧ Aside0 (kq ≤ k) ∧ Aside0 (Kd.R (Kd.int .u32) 87 w' w.heap.size (fun _ => True) v580 x5_1) ∧ Aside0 (Below w.heap.size w w'))
   case atStart => exact ⟨(y579), (0), (by first | rfl | (simp; done) | (simp [*]; done)), H', ⟨Nat.le_refl _⟩, ⟨HO581.out⟩, ⟨HB.out⟩⟩
   case round =>
    clear H'
    try clear c1
    try clear p2
    try clear c4
    try clear c4b0
    try clear c4b1
    try clear c5
    try clear c5b0
    try clear c5b1
    try clear c6
    try clear p6
    obtain ⟨x5_1, x6_1, rfl, HA, HK1, HO_5, HB⟩ := hrel
    cases gk with
    | zero => exact absurd HA.out (by simp [examboardref01_Mul.l0])
    | succ k1 =>
     have H := HA.out
     clear HA
     simp only [examboardref01_Mul.l0] at H
     by_cases c8 : x6_1 < (l0.length : Int)
     ·rw [if_pos c8] at H
      have c8b0 : decide (x6_1 < (l0.length : Int)) = true := decide_eq_true c8
      clear c8
      have H' := mk0 H
      clear H
      go_wp2
      go_loopg [7, 8] k1 (fun kq v7 v8 w' => ∃ (x5_2 : List Int) (x7_2 : Int) (x8_2 : Int), v7 = .int .u64 x7_2 ∧ v8 = .int .i64 x8_2 ∧ Aside0 (examboardref01_Mul.l1 kq l0 l1 x5_2 x6_1 x7_2 x8_2 = some r) ∧ Aside0 (kq ≤ k1) ∧ Aside0 (Kd.R (Kd.int .u32) 87 w' w.heap.size (fun _ => True) v580 x5_2) ∧ Aside0 (Below w.heap.size w w'))
      case atStart => exact ⟨(x5_1), (0), (0), (by first | rfl | (simp; done) | (simp [*]; done)), (by first | rfl | (simp; done) | (simp [*]; done)), H', ⟨Nat.le_refl _⟩, ⟨HO_5.out⟩, ⟨HB.out⟩⟩
      case round =>
       clear H'
       try clear c1
       try clear p2
       try clear c4
       try clear c4b0
       try clear c4b1
       try clear c5
       try clear c5b0
       try clear c5b1
       try clear c6
       try clear p6
       try clear c8
       try clear c8b0
       try clear p2
       try clear p6
       obtain ⟨x5_2, x7_2, x8_2, rfl, rfl, HA, HK2, HO_5, HB⟩ := hrel
       cases gk with
       | zero => exact absurd HA.out (by simp [examboardref01_Mul.l1])
       | succ k2 =>
        have H := HA.out
        clear HA
        simp only [examboardref01_Mul.l1] at H
        by_cases c9 : x8_2 < (l1.length : Int)
        ·rw [if_pos c9] at H
         have c9b0 : decide (x8_2 < (l1.length : Int)) = true := decide_eq_true c9
         clear c9
         obtain ⟨ji10, hji10⟩ : ∃ j_ : Int, (wrap64 (x6_1 + x8_2)) = j_ := ⟨_, rfl⟩
         replace H : (if 0 ≤ (ji10) then (if (ji10) < (x5_2.length : Int) then (if 0 ≤ x6_1 then (if x6_1 < (l0.length : Int) then (if 0 ≤ x8_2 then (examboardref01_Mul.l1 k2 l0 l1 (x5_2.set ((ji10) : Int).toNat ((IntKind.u64.wrap ((IntKind.u64.wrap ((IntKind.u64.wrap (rd x5_2 (ji10))) + (IntKind.u64.wrap ((IntKind.u64.wrap (rd l0 x6_1)) * (IntKind.u64.wrap (rd l1 x8_2)))))) + x7_2)) % 4294967296)) x6_1 ((IntKind.u64.wrap ((IntKind.u64.wrap ((IntKind.u64.wrap (rd x5_2 (ji10))) + (IntKind.u64.wrap ((IntKind.u64.wrap (rd l0 x6_1)) * (IntKind.u64.wrap (rd l1 x8_2)))))) + x7_2)) / 4294967296) (wrap64 (x8_2 + 1))) else (none)) else (none)) else (none)) else (none)) else (none)) = some r := by first | (rw [hji10] at H; exact H) | (simp only [hji10] at H ⊢; exact H)
         have hji10w : (IntKind.i64.wrap (x6_1 + x8_2)) = ji10 := (i64_w _).trans hji10
         by_cases c11 : 0 ≤ (ji10)
         ·rw [if_pos c11] at H
          have c11b0 : decide (0 ≤ (ji10)) = true := decide_eq_true c11
          clear c11
          by_cases c12 : (ji10) < (x5_2.length : Int)
          ·rw [if_pos c12] at H
           have c12b0 : decide ((ji10) < (x5_2.length : Int)) = true := decide_eq_true c12
           clear c12
           by_cases c13 : 0 ≤ x6_1
           ·rw [if_pos c13] at H
            have c13b0 : decide (0 ≤ x6_1) = true := decide_eq_true c13
            clear c13
            by_cases c14 : x6_1 < (l0.length : Int)
            ·rw [if_pos c14] at H
             have c14b0 : decide (x6_1 < (l0.length : Int)) = true := decide_eq_true c14
             clear c14
             by_cases c15 : 0 ≤ x8_2
             ·rw [if_pos c15] at H
              have c15b0 : decide (0 ≤ x8_2) = true := decide_eq_true c15
              clear c15
              obtain ⟨y588, hy588⟩ : ∃ y_ : List Int, y_ = (x5_2.set ((ji10) : Int).toNat ((IntKind.u64.wrap ((IntKind.u64.wrap ((IntKind.u64.wrap (rd x5_2 (ji10))) + (IntKind.u64.wrap ((IntKind.u64.wrap (rd l0 x6_1)) * (IntKind.u64.wrap (rd l1 x8_2)))))) + x7_2)) % 4294967296)) := ⟨_, rfl⟩
              replace H : (examboardref01_Mul.l1 k2 l0 l1 y588 x6_1 ((IntKind.u64.wrap ((IntKind.u64.wrap ((IntKind.u64.wrap (rd x5_2 (ji10))) + (IntKind.u64.wrap ((IntKind.u64.wrap (rd l0 x6_1)) * (IntKind.u64.wrap (rd l1 x8_2)))))) + x7_2)) / 4294967296) (wrap64 (x8_2 + 1))) = some r := by first | (rw [hy588]; with_reducible exact H) | (have H2_ := (Option.bind_some _ _).symm.trans H; rw [hy588]; with_reducible exact H2_) | (have H2_ := (Option.bind_some _ _).symm.trans H; with_reducible exact H2_) | with_reducible exact H | (rw [hy588]; exact H) | exact H
              have Ny588 := mk0 hy588
              clear hy588
              have H' := mk0 H
              clear H
              try go_wp2
              replace HO_5 := mk0 (Kd.R_drew HO_5.out)
              replace HB := mk0 (below_drew1 HB.out)
              obtain ⟨Ao18, co18, eo18⟩ := Kd.R_slice HO_5.out
              (first | subst eo18 | (injection eo18 with f1_ f2_ f3_; have f4_ := f1_.symm; have f5_ := f3_.symm; clear f1_ f2_ f3_; subst f4_; subst f5_))
              have p585 : 0 ≤ ((ji10) : Int) := of_decide_eq_true (by assumption)
              have q585 : (ji10) < (x5_2.length : Int) := of_decide_eq_true (by assumption)
              obtain ⟨ad585, e585, hx585_0⟩ := Kd.at_int (Kd.R_reads' HO_5.out).2.2 (ji10) p585 q585
              cases e585
              replace p585 := eq_true p585
              replace q585 := eq_true q585
              have p586 : 0 ≤ (x6_1 : Int) := of_decide_eq_true (by assumption)
              have q586 : x6_1 < (l0.length : Int) := of_decide_eq_true (by assumption)
              obtain ⟨ad586, e586, hx586_0⟩ := Kd.at_int HR0.out x6_1 p586 q586
              have hw586_0 := hx586_0
              cases e586
              replace hx586_0 := (HB.out.cell (World.block_lt_of_cell? w _ hx586_0)).trans hx586_0
              replace p586 := eq_true p586
              replace q586 := eq_true q586
              have p587 : 0 ≤ (x8_2 : Int) := of_decide_eq_true (by assumption)
              have q587 : x8_2 < (l1.length : Int) := of_decide_eq_true (by assumption)
              obtain ⟨ad587, e587, hx587_0⟩ := Kd.at_int HR1.out x8_2 p587 q587
              have hw587_0 := hx587_0
              cases e587
              replace hx587_0 := (HB.out.cell (World.block_lt_of_cell? w _ hx587_0)).trans hx587_0
              replace p587 := eq_true p587
              replace q587 := eq_true q587
              refine start_ (n := 22) (S := fun w' => w'.cell? (ad585.add ((ji10)).toNat) = some (.int .u32 (rd x5_2 (ji10))) ∧ w'.cell? (ad586.add (x6_1).toNat) = some (.int .u32 (rd l0 x6_1)) ∧ w'.cell? (ad587.add (x8_2).toNat) = some (.int .u32 (rd l1 x8_2))) (ds := []) (bv 22 0) (by kernel_rfl) rfl rfl ⟨hx585_0, ((HB.out.cell (World.block_lt_of_cell? w _ hw586_0)).trans hw586_0), ((HB.out.cell (World.block_lt_of_cell? w _ hw587_0)).trans hw587_0)⟩ (fun hHeld => ?_); refine with_tabW examboardref01_Mul.tab9 examboardref01_Mul.bits9 (fun HT_ HW_ => ?_)
              generalize wr.drew = w17 at HO_5 HB hx585_0 hx586_0 hx587_0 hHeld ⊢
              refine pure_ (i := 0) (N := some 28) (v := ?_) (a' := ?_) (bv 22 1) rfl rfl (any_of HT_.out (by kernel_rfl)) (fun _ _ _ h => h) (Or.inl ⟨by rfl, ?_⟩) ?_ ?_; rotate_left; (intro w'; go_simp; with_reducible rfl); rotate_left; (simp only [Act.put, List.setIfInBounds_toArray, List.set_cons_zero, List.set_cons_succ, i64_w, i32_w]; rfl)
              refine pure_ (i := 1) (N := some 29) (v := ?_) (a' := ?_) (bv 22 3) rfl rfl (any_of HT_.out (by kernel_rfl)) (fun _ _ _ h => h) (Or.inl ⟨by rfl, ?_⟩) ?_ ?_; rotate_left; (intro w'; go_simp; with_reducible rfl); rotate_left; (simp only [Act.put, List.setIfInBounds_toArray, List.set_cons_zero, List.set_cons_succ, i64_w, i32_w]; rfl)
              refine pure_ (i := 2) (N := some 30) (v := ?_) (a' := ?_) (bv 22 7) rfl rfl (any_of HT_.out (by kernel_rfl)) (fun _ _ _ h => h) (Or.inl ⟨by rfl, ?_⟩) ?_ ?_; rotate_left; (intro w'; go_simp; with_reducible rfl); rotate_left; (simp only [Act.put, List.setIfInBounds_toArray, List.set_cons_zero, List.set_cons_succ, i64_w, i32_w]; rfl)
              refine pure_ (i := 3) (N := some 31) (v := ?_) (a' := ?_) (bv 22 15) rfl rfl (any_of HT_.out (by kernel_rfl)) (fun _ _ _ h => h) (Or.inl ⟨by rfl, ?_⟩) ?_ ?_; rotate_left; (intro w'; go_simp; with_reducible rfl); rotate_left; (simp only [Act.put, List.setIfInBounds_toArray, List.set_cons_zero, List.set_cons_succ, i64_w, i32_w]; rfl)
              refine pure_ (i := 4) (N := some 32) (v := ?_) (a' := ?_) (bv 22 31) rfl rfl (any_of HT_.out (by kernel_rfl)) (fun _ _ _ h => h) (Or.inl ⟨by rfl, ?_⟩) ?_ ?_; rotate_left; (intro w'; go_simp; with_reducible rfl); rotate_left; (simp only [Act.put, List.setIfInBounds_toArray, List.set_cons_zero, List.set_cons_succ, i64_w, i32_w]; rfl)
              refine pure_ (i := 7) (N := some 35) (v := ?_) (a' := ?_) (bv 22 159) rfl rfl (any_of HT_.out (by kernel_rfl)) (fun _ _ _ h => h) (Or.inl ⟨by rfl, ?_⟩) ?_ ?_; rotate_left; (intro w'; go_simp; with_reducible rfl); rotate_left; (simp only [Act.put, List.setIfInBounds_toArray, List.set_cons_zero, List.set_cons_succ, i64_w, i32_w]; rfl)
              refine pure_ (i := 8) (N := some 36) (v := ?_) (a' := ?_) (bv 22 415) rfl rfl (any_of HT_.out (by kernel_rfl)) (fun _ _ _ h => h) (Or.inl ⟨by rfl, ?_⟩) ?_ ?_; rotate_left; (intro w'; go_simp; with_reducible rfl); rotate_left; (simp only [Act.put, List.setIfInBounds_toArray, List.set_cons_zero, List.set_cons_succ, i64_w, i32_w]; rfl)
              refine pure_ (i := 9) (N := some 37) (v := ?_) (a' := ?_) (bv 22 927) rfl rfl (any_of HT_.out (by kernel_rfl)) (fun _ _ _ h => h) (Or.inl ⟨by rfl, ?_⟩) ?_ ?_; rotate_left; (intro w'; go_simp; with_reducible rfl); rotate_left; (simp only [Act.put, List.setIfInBounds_toArray, List.set_cons_zero, List.set_cons_succ, i64_w, i32_w]; rfl)
              refine pure_ (i := 12) (N := some 40) (v := ?_) (a' := ?_) (bv 22 5023) rfl rfl (any_of HT_.out (by kernel_rfl)) (fun _ _ _ h => h) (Or.inl ⟨by rfl, ?_⟩) ?_ ?_; rotate_left; (intro w'; go_simp; with_reducible rfl); rotate_left; (simp only [Act.put, List.setIfInBounds_toArray, List.set_cons_zero, List.set_cons_succ, i64_w, i32_w]; rfl)
              refine pure_ (i := 13) (N := some 41) (v := ?_) (a' := ?_) (bv 22 13215) rfl rfl (any_of HT_.out (by kernel_rfl)) (fun _ _ _ h => h) (Or.inl ⟨by rfl, ?_⟩) ?_ ?_; rotate_left; (intro w'; go_simp; with_reducible rfl); rotate_left; (simp only [Act.put, List.setIfInBounds_toArray, List.set_cons_zero, List.set_cons_succ, i64_w, i32_w]; rfl)
              refine pure_ (i := 14) (N := some 42) (v := ?_) (a' := ?_) (bv 22 29599) rfl rfl (any_of HT_.out (by kernel_rfl)) (fun _ _ _ h => h) (Or.inl ⟨by rfl, ?_⟩) ?_ ?_; rotate_left; (intro w'; go_simp; with_reducible rfl); rotate_left; (simp only [Act.put, List.setIfInBounds_toArray, List.set_cons_zero, List.set_cons_succ, i64_w, i32_w]; rfl)
              refine pure_ (i := 19) (N := some 47) (v := ?_) (a' := ?_) (bv 22 553887) rfl rfl (any_of HT_.out (by kernel_rfl)) (fun _ _ _ h => h) (Or.inl ⟨by rfl, ?_⟩) ?_ ?_; rotate_left; (intro w'; go_simp; with_reducible rfl); rotate_left; (simp only [Act.put, List.setIfInBounds_toArray, List.set_cons_zero, List.set_cons_succ, i64_w, i32_w]; rfl)
              refine take_ (i := 5) (N := some 33) (v := ?_) (a' := ?_) (bv 22 553919) rfl rfl (take_ofW HT_.out HW_.out (by kernel_rfl)) (fun _ _ _ h => h) (Or.inl ⟨by rfl, ?_⟩) hHeld ?_ ?_; rotate_left; (rintro w' ⟨s0, s1, s2⟩; go_simp; with_reducible rfl); rotate_left; (simp only [Act.put, List.setIfInBounds_toArray, List.set_cons_zero, List.set_cons_succ, i64_w, i32_w]; rfl)
              refine pure_ (i := 6) (N := some 34) (v := ?_) (a' := ?_) (bv 22 553983) rfl rfl (any_of HT_.out (by kernel_rfl)) (fun _ _ _ h => h) (Or.inl ⟨by rfl, ?_⟩) ?_ ?_; rotate_left; (intro w'; go_simp; with_reducible rfl); rotate_left; (simp only [Act.put, List.setIfInBounds_toArray, List.set_cons_zero, List.set_cons_succ, i64_w, i32_w]; rfl)
              refine take_ (i := 10) (N := some 38) (v := ?_) (a' := ?_) (bv 22 555007) rfl rfl (take_ofW HT_.out HW_.out (by kernel_rfl)) (fun _ _ _ h => h) (Or.inl ⟨by rfl, ?_⟩) hHeld ?_ ?_; rotate_left; (rintro w' ⟨s0, s1, s2⟩; go_simp; with_reducible rfl); rotate_left; (simp only [Act.put, List.setIfInBounds_toArray, List.set_cons_zero, List.set_cons_succ, i64_w, i32_w]; rfl)
              refine pure_ (i := 11) (N := some 39) (v := ?_) (a' := ?_) (bv 22 557055) rfl rfl (any_of HT_.out (by kernel_rfl)) (fun _ _ _ h => h) (Or.inl ⟨by rfl, ?_⟩) ?_ ?_; rotate_left; (intro w'; go_simp; with_reducible rfl); rotate_left; (simp only [Act.put, List.setIfInBounds_toArray, List.set_cons_zero, List.set_cons_succ, i64_w, i32_w]; rfl)
              refine take_ (i := 15) (N := some 43) (v := ?_) (a' := ?_) (bv 22 589823) rfl rfl (take_ofW HT_.out HW_.out (by kernel_rfl)) (fun _ _ _ h => h) (Or.inl ⟨by rfl, ?_⟩) hHeld ?_ ?_; rotate_left; (rintro w' ⟨s0, s1, s2⟩; go_simp; with_reducible rfl); rotate_left; (simp only [Act.put, List.setIfInBounds_toArray, List.set_cons_zero, List.set_cons_succ, i64_w, i32_w]; rfl)
              refine pure_ (i := 16) (N := some 44) (v := ?_) (a' := ?_) (bv 22 655359) rfl rfl (any_of HT_.out (by kernel_rfl)) (fun _ _ _ h => h) (Or.inl ⟨by rfl, ?_⟩) ?_ ?_; rotate_left; (intro w'; go_simp; with_reducible rfl); rotate_left; (simp only [Act.put, List.setIfInBounds_toArray, List.set_cons_zero, List.set_cons_succ, i64_w, i32_w]; rfl)
              refine pure_ (i := 17) (N := some 45) (v := ?_) (a' := ?_) (bv 22 786431) rfl rfl (any_of HT_.out (by kernel_rfl)) (fun _ _ _ h => h) (Or.inl ⟨by rfl, ?_⟩) ?_ ?_; rotate_left; (intro w'; go_simp; with_reducible rfl); rotate_left; (simp only [Act.put, List.setIfInBounds_toArray, List.set_cons_zero, List.set_cons_succ, i64_w, i32_w]; rfl)
              refine pure_ (i := 18) (N := some 46) (v := ?_) (a' := ?_) (bv 22 1048575) rfl rfl (any_of HT_.out (by kernel_rfl)) (fun _ _ _ h => h) (Or.inl ⟨by rfl, ?_⟩) ?_ ?_; rotate_left; (intro w'; go_simp; with_reducible rfl); rotate_left; (simp only [Act.put, List.setIfInBounds_toArray, List.set_cons_zero, List.set_cons_succ, i64_w, i32_w]; rfl)
              refine pure_ (i := 20) (N := some 48) (v := ?_) (a' := ?_) (bv 22 2097151) rfl rfl (any_of HT_.out (by kernel_rfl)) (fun _ _ _ h => h) (Or.inl ⟨by rfl, ?_⟩) ?_ ?_; rotate_left; (intro w'; go_simp; with_reducible rfl); rotate_left; (simp only [Act.put, List.setIfInBounds_toArray, List.set_cons_zero, List.set_cons_succ, i64_w, i32_w]; rfl)
              refine pure_ (i := 21) (N := some 9) (v := ?_) (a' := ?_) (bv 22 4194303) rfl rfl (any_of HT_.out (by kernel_rfl)) (fun _ _ _ h => h) (Or.inl ⟨by rfl, ?_⟩) ?_ ?_; rotate_left; (intro w'; go_simp; with_reducible rfl); rotate_left; (simp only [Act.put, List.setIfInBounds_toArray, List.set_cons_zero, List.set_cons_succ, i64_w, i32_w]; rfl)
              refine done_ (done_of HT_.out (by kernel_rfl)) ?_
              have p16 : 0 ≤ ((ji10) : Int) := of_decide_eq_true (by assumption)
              have q16 : ((ji10) : Int) < ((x5_2.length : Int) : Int) := of_decide_eq_true (by assumption)
              obtain ⟨go16, co16, eo16, gb16, gl16, cl16, HG16⟩ := Kd.R_form HO_5.out (by omega)
              (first | cases eo16 | (injection eo16 with ea_ en_ ec_; (first | subst ea_ | (injection ea_ with ea_; subst ea_)); subst ec_; clear en_))
              have GB16 := mk0 gb16
              have GG16 := mk0 HG16
              clear gb16 gl16 HG16
              (first | simp only [add_plain] at hx585_0 | skip)
              obtain ⟨hx16_0, hf16_0⟩ := Kd.R_celln 0 HO_5.out ((ji10) : Int) p16 q16
              replace p16 := eq_true p16
              replace q16 := eq_true q16
              obtain ⟨hy19_, hz19_⟩ := Kd.R_celln 0 HO_5.out ((ji10) : Int) (of_decide_eq_true (by assumption)) (of_decide_eq_true (by assumption))
              have HP19 := Kd.R_putg HO_5.out ((ji10) : Int) ((IntKind.u64.wrap ((IntKind.u64.wrap ((IntKind.u64.wrap (rd x5_2 (ji10))) + (IntKind.u64.wrap ((IntKind.u64.wrap (rd l0 x6_1)) * (IntKind.u64.wrap (rd l1 x8_2)))))) + x7_2)) % 4294967296)
              try go_wp2_with (first | ((with_reducible refine gate_store (t := 87) (p := 55) rfl ?_); refine store_event (t := 87) (p := 55) (v := ?vo_w20) (w1 := (w17.setCell ⟨go16, ((ji10) : Int).toNat, none⟩ (.int .u32 ((IntKind.u64.wrap ((IntKind.u64.wrap ((IntKind.u64.wrap (rd x5_2 (ji10))) + (IntKind.u64.wrap ((IntKind.u64.wrap (rd l0 x6_1)) * (IntKind.u64.wrap (rd l1 x8_2)))))) + x7_2)) % 4294967296)))) ?hg ?ho ?hn ?hr ?_; (case ho => rfl); (case hg => rfl); (case hn => rfl); (case hr => first | (go_simp; done) | (go_simp; rfl)); intro w20 hw; have hg : w17.grownBy w20 (some go16) := (by rw [hw]; exact HP19.2); have hp_ : Kd.R (Kd.int .u32) 87 w20 w.heap.size (fun _ => True) (.slice (some ⟨go16, 0, none⟩) x5_2.length co18) y588 := (by rw [hw, Ny588.out]; exact HP19.1); clear HP19; replace HO_5 := mk0 (hp_); replace HB := mk0 ((by rw [hw]; exact below_set (HB.out) GB16.out : Below w.heap.size w w20)); clear hg hw hp_))
              go_roundg k2
              case measure => have := HK1.out; have := HK2.out; omega
              case rel => exact ⟨(y588), ((IntKind.u64.wrap ((IntKind.u64.wrap ((IntKind.u64.wrap (rd x5_2 (ji10))) + (IntKind.u64.wrap ((IntKind.u64.wrap (rd l0 x6_1)) * (IntKind.u64.wrap (rd l1 x8_2)))))) + x7_2)) / 4294967296), (wrap64 (x8_2 + 1)), (by first | rfl | (simp; done) | (simp only [← hji10] <;> (first | rfl | simp)) | (simp [*]; done)), (by first | rfl | (simp; done) | (simp [*]; done)), H', ⟨by have := HK1.out; have := HK2.out; omega⟩, ⟨HO_5.out⟩, ⟨HB.out⟩⟩
             ·rw [if_neg c15] at H
              exact absurd H (by simp)
            ·rw [if_neg c14] at H
             exact absurd H (by simp)
           ·rw [if_neg c13] at H
            exact absurd H (by simp)
          ·rw [if_neg c12] at H
           exact absurd H (by simp)
         ·rw [if_neg c11] at H
          exact absurd H (by simp)
        ·rw [if_neg c9] at H
         have c9b0 : decide (x8_2 < (l1.length : Int)) = false := decide_eq_false c9
         clear c9
         obtain ⟨ji21, hji21⟩ : ∃ j_ : Int, (wrap64 (x6_1 + (l1.length : Int))) = j_ := ⟨_, rfl⟩
         replace H : (if 0 ≤ (ji21) then (if (ji21) < (x5_2.length : Int) then (examboardref01_Mul.l0 k2 l0 l1 (x5_2.set ((ji21) : Int).toNat ((x7_2) % 4294967296)) (wrap64 (x6_1 + 1))) else (none)) else (none)) = some r := by first | (rw [hji21] at H; exact H) | (simp only [hji21] at H ⊢; exact H)
         have hji21w : (IntKind.i64.wrap (x6_1 + (l1.length : Int))) = ji21 := (i64_w _).trans hji21
         by_cases c22 : 0 ≤ (ji21)
         ·rw [if_pos c22] at H
          have c22b0 : decide (0 ≤ (ji21)) = true := decide_eq_true c22
          clear c22
          by_cases c23 : (ji21) < (x5_2.length : Int)
          ·rw [if_pos c23] at H
           have c23b0 : decide ((ji21) < (x5_2.length : Int)) = true := decide_eq_true c23
           clear c23
           obtain ⟨y589, hy589⟩ : ∃ y_ : List Int, y_ = (x5_2.set ((ji21) : Int).toNat ((x7_2) % 4294967296)) := ⟨_, rfl⟩
           replace H : (examboardref01_Mul.l0 k2 l0 l1 y589 (wrap64 (x6_1 + 1))) = some r := by first | (rw [hy589]; with_reducible exact H) | (have H2_ := (Option.bind_some _ _).symm.trans H; rw [hy589]; with_reducible exact H2_) | (have H2_ := (Option.bind_some _ _).symm.trans H; with_reducible exact H2_) | with_reducible exact H | (rw [hy589]; exact H) | exact H
           have Ny589 := mk0 hy589
           clear hy589
           have H' := mk0 H
           clear H
           have p24 : 0 ≤ ((ji21) : Int) := of_decide_eq_true (by assumption)
           have q24 : ((ji21) : Int) < ((x5_2.length : Int) : Int) := of_decide_eq_true (by assumption)
           obtain ⟨go24, co24, eo24, gb24, gl24, cl24, HG24⟩ := Kd.R_form HO_5.out (by omega)
           (first | cases eo24 | (injection eo24 with ea_ en_ ec_; (first | subst ea_ | (injection ea_ with ea_; subst ea_)); subst ec_; clear en_))
           have GB24 := mk0 gb24
           have GG24 := mk0 HG24
           clear gb24 gl24 HG24
           obtain ⟨hx24_0, hf24_0⟩ := Kd.R_celln 0 HO_5.out ((ji21) : Int) p24 q24
           replace p24 := eq_true p24
           replace q24 := eq_true q24
           have HP25 := Kd.R_putg HO_5.out ((ji21) : Int) ((x7_2) % 4294967296)
           go_wp2_with (first | ((with_reducible refine gate_store (t := 87) (p := 65) rfl ?_); refine store_event (t := 87) (p := 65) (v := ?vo_w26) (w1 := (wr.setCell ⟨go24, ((ji21) : Int).toNat, none⟩ (.int .u32 ((x7_2) % 4294967296)))) ?hg ?ho ?hn ?hr ?_; (case ho => rfl); (case hg => rfl); (case hn => rfl); (case hr => first | (go_simp; done) | (go_simp; rfl)); intro w26 hw; have hg : wr.grownBy w26 (some go24) := (by rw [hw]; exact HP25.2); have hp_ : Kd.R (Kd.int .u32) 87 w26 w.heap.size (fun _ => True) (.slice (some ⟨go24, 0, none⟩) x5_2.length co24) y589 := (by rw [hw, Ny589.out]; exact HP25.1); clear HP25; replace HO_5 := mk0 (hp_); replace HB := mk0 ((by rw [hw]; exact below_set (HB.out) GB24.out : Below w.heap.size w w26)); clear hg hw hp_))
           go_roundg k2
           case measure => have := HK1.out; have := HK2.out; omega
           case rel => exact ⟨(y589), (wrap64 (x6_1 + 1)), (by first | rfl | (simp; done) | (simp [*]; done)), H', ⟨by have := HK1.out; have := HK2.out; omega⟩, ⟨HO_5.out⟩, ⟨HB.out⟩⟩
          ·rw [if_neg c23] at H
           exact absurd H (by simp)
         ·rw [if_neg c22] at H
          exact absurd H (by simp)
     ·rw [if_neg c8] at H
      have c8b0 : decide (x6_1 < (l0.length : Int)) = false := decide_eq_false c8
      clear c8
      obtain ⟨t582, A27, H⟩ := bindA H
      obtain rfl := Option.some.inj H
      obtain ⟨Ao28, co28, eo28⟩ := Kd.R_slice HO_5.out
      subst eo28
      go_wp2_with (first | ((with_reducible refine gate_callee (f := 89) rfl ?_); refine goesL_ (some 67) rfl rfl Try.func89 (by kernel_rfl) rfl #[.slice Ao28 x5_1.length co28] rfl (by first | (go_simp; done) | (go_simp; rfl)) ?_; (with_reducible refine (examboardref01_Norm.calls k1 _ _ x5_1 t582 _ (by exact (Kd.R_reads' HO_5.out).2.2) (by exact (Kd.R_reads' HO_5.out).2.1) A27.out).mono ?_); rintro e w29 ⟨v583, rfl, ho0, hb⟩; refine ⟨_, rfl, ?_⟩; have HO584 := mk0 (Kd.R_lower (Kd.R_new' ho0 (Kd.R_lt HO_5.out)) (below_size HB.out)); replace HO_5 := mk0 (Kd.R_elder' HO_5.out (Kd.R_base ho0) hb); replace HB := hbS HB hb))
      go_ret
      exact ⟨_, by first | rfl | (simp [errW_none, errW_some] <;> rfl) | (simp only [← hji3]; first | rfl | (simp [errW_none, errW_some] <;> rfl)) | (simp [*, errW_none, errW_some] <;> rfl), Kd.R_mono HO584.out (fun _ hk => trivial), HB.out⟩
  ·rw [if_neg c5] at H
   exact absurd H (by simp)
 ·rw [if_neg c4] at H
  exact absurd H (by simp)
def examboardref02_Mul.T1 : Bool × List (List Nat × List Nat) := (true, [([], []), ([0], [0]), ([], []), ([2], [2]), ([1, 3], [1, 3]), ([], []), ([5], [5]), ([], []), ([7], [7]), ([6, 8], [6, 8]), ([4, 9, 9], [4, 9]), ([10, 10, 0, 1, 2, 3, 4, 5, 6, 7, 8, 9, 10], [10])])
def examboardref02_Mul.B1 : List Nat := [0, 1, 0, 4, 15, 0, 32, 0, 128, 480, 1023, 2047]
theorem examboardref02_Mul.tab1 : rtab .any (opsOf Try.f58 1) = examboardref02_Mul.T1 := by kernel_rfl
theorem examboardref02_Mul.bits1 : waitsOk examboardref02_Mul.T1.2 examboardref02_Mul.B1 = true := by kernel_rfl
set_option maxHeartbeats 8000000 in
set_option maxRecDepth 100000 in
theorem examboardref02_Mul.calls (k : Nat) (a0_0 : Bool) (A0_1 : Option Addr) (c0_1 : Nat) (l0_1 : List Int) (a1_0 : Bool) (A1_1 : Option Addr) (c1_1 : Nat) (l1_1 : List Int) (r1 : Bool) (r2 : List Int) (w : World) (hr0_1 : Kd.C (Kd.int .u32) w A0_1 l0_1.length l0_1) (hc0_1 : l0_1.length ≤ c0_1) (hr1_1 : Kd.C (Kd.int .u32) w A1_1 l1_1.length l1_1) (hc1_1 : l1_1.length ≤ c1_1) (h : examboardref02_Mul.f k a0_0 l0_1 a1_0 l1_1 = some (r1, r2)) :
  Calls Try.prog 58 #[.agg #[.bool a0_0, .slice A0_1 l0_1.length c0_1], .agg #[.bool a1_0, .slice A1_1 l1_1.length c1_1]] w fun e w' => ∃ v1_ : Value, e = .returned (.agg #[.bool r1, v1_]) ∧ Kd.R (Kd.int .u32) 87 w' w.heap.size (fun _ => True) v1_ r2 ∧ Below w.heap.size w w' := by
 have hu27 := Try.underlying27
 have HR0_1 := mk0 hr0_1
 have HC0_1 := mk0 hc0_1
 clear hr0_1 hc0_1
 have HR1_1 := mk0 hr1_1
 have HC1_1 := mk0 hc1_1
 clear hr1_1 hc1_1
 have HB := mk0 (Below.refl w.heap.size w)
 have H : ((examboardref01_Mul.f k l0_1 l1_1).bind fun t593 => ((examboardref02_Make.f k (a0_0 != a1_0) t593).bind fun bt596 => (some (bt596.1, bt596.2)))) = some (r1, r2) := h
 clear h
 obtain ⟨t593, A3, H⟩ := bindA H
 obtain ⟨⟨t596, t597⟩, A4, H⟩ := bindA H
 simp only [Option.some.injEq, Prod.mk.injEq] at H
 obtain ⟨rfl, rfl⟩ := H
 go_enter Try.func58, Try.ntmps58
 try go_wp2_with (first | ((with_reducible refine gate_dst (N := 2) rfl ?_); refine box_event rfl (N := 2) rfl (cs := #[.bool a0_0, .slice A0_1 l0_1.length c0_1]) (t := 27) (by first | (go_simp; done) | (go_simp; rfl)) ?_; intro gb590 hg w5 hbox hb; have BK590 := mk0 (hbox); have GE590 := geB hg HB; replace HB := hbS HB hb; clear hb hbox hg) | ((with_reducible refine gate_dst (N := 3) rfl ?_); refine box_event rfl (N := 3) rfl (cs := #[.bool a1_0, .slice A1_1 l1_1.length c1_1]) (t := 27) (by first | (go_simp; done) | (go_simp; rfl)) ?_; intro gb591 hg w6 hbox hb; have BK591 := mk0 (hbox); have GE591 := geB hg HB; replace HB := hbS HB hb; replace BK590 := bkB BK590 hb; clear hb hbox hg) | ((with_reducible refine gate_dst (N := 4) rfl ?_); refine box_event rfl (N := 4) rfl (cs := #[.bool false, .slice none 0 0]) (t := 27) (by first | (go_simp; done) | (go_simp; rfl)) ?_; intro gb592 hg w7 hbox hb; have BK592 := mk0 (hbox); have GE592 := geB hg HB; replace HB := hbS HB hb; have NB590_592 := nbA hg BK590; have NB592_590 := nbB hg BK590; replace BK590 := bkB BK590 hb; have NB591_592 := nbA hg BK591; have NB592_591 := nbB hg BK591; replace BK591 := bkB BK591 hb; clear hb hbox hg))
 replace BK590 := mk0 (blk_drew BK590.out)
 replace BK591 := mk0 (blk_drew BK591.out)
 replace BK592 := mk0 (blk_drew BK592.out)
 replace HB := mk0 (below_drew1 HB.out)
 refine start_ (n := 12) (S := fun w' => w'.cell? ⟨gb590, 0, none⟩ = some (.bool a0_0) ∧ w'.cell? ⟨gb590, 1, none⟩ = some (.slice A0_1 l0_1.length c0_1) ∧ w'.cell? ⟨gb591, 0, none⟩ = some (.bool a1_0) ∧ w'.cell? ⟨gb591, 1, none⟩ = some (.slice A1_1 l1_1.length c1_1)) (ds := []) (bv 12 0) (by kernel_rfl) rfl rfl ⟨(blk_cell BK590.out 0).trans rfl, (blk_cell BK590.out 1).trans rfl, (blk_cell BK591.out 0).trans rfl, (blk_cell BK591.out 1).trans rfl⟩ (fun hHeld => ?_); refine with_tabW examboardref02_Mul.tab1 examboardref02_Mul.bits1 (fun HT_ HW_ => ?_)
 generalize w7.drew = w8 at BK590 BK591 BK592 HB hHeld ⊢
 refine pure_ (i := 0) (N := some 5) (v := ?_) (a' := ?_) (bv 12 1) rfl rfl (any_of HT_.out (by kernel_rfl)) (fun _ _ _ h => h) (Or.inl ⟨by rfl, ?_⟩) ?_ ?_; rotate_left; (intro w'; go_simp; with_reducible rfl); rotate_left; (simp only [Act.put, List.setIfInBounds_toArray, List.set_cons_zero, List.set_cons_succ, i64_w, i32_w]; rfl)
 refine pure_ (i := 2) (N := some 7) (v := ?_) (a' := ?_) (bv 12 5) rfl rfl (any_of HT_.out (by kernel_rfl)) (fun _ _ _ h => h) (Or.inl ⟨by rfl, ?_⟩) ?_ ?_; rotate_left; (intro w'; go_simp; with_reducible rfl); rotate_left; (simp only [Act.put, List.setIfInBounds_toArray, List.set_cons_zero, List.set_cons_succ, i64_w, i32_w]; rfl)
 refine pure_ (i := 5) (N := some 10) (v := ?_) (a' := ?_) (bv 12 37) rfl rfl (any_of HT_.out (by kernel_rfl)) (fun _ _ _ h => h) (Or.inl ⟨by rfl, ?_⟩) ?_ ?_; rotate_left; (intro w'; go_simp; with_reducible rfl); rotate_left; (simp only [Act.put, List.setIfInBounds_toArray, List.set_cons_zero, List.set_cons_succ, i64_w, i32_w]; rfl)
 refine pure_ (i := 7) (N := some 12) (v := ?_) (a' := ?_) (bv 12 165) rfl rfl (any_of HT_.out (by kernel_rfl)) (fun _ _ _ h => h) (Or.inl ⟨by rfl, ?_⟩) ?_ ?_; rotate_left; (intro w'; go_simp; with_reducible rfl); rotate_left; (simp only [Act.put, List.setIfInBounds_toArray, List.set_cons_zero, List.set_cons_succ, i64_w, i32_w]; rfl)
 refine take_ (i := 1) (N := some 6) (v := ?_) (a' := ?_) (bv 12 167) rfl rfl (take_ofW HT_.out HW_.out (by kernel_rfl)) (fun _ _ _ h => h) (Or.inl ⟨by rfl, ?_⟩) hHeld ?_ ?_; rotate_left; (rintro w' ⟨s0, s1, s2, s3⟩; go_simp; with_reducible rfl); rotate_left; (simp only [Act.put, List.setIfInBounds_toArray, List.set_cons_zero, List.set_cons_succ, i64_w, i32_w]; rfl)
 refine take_ (i := 3) (N := some 8) (v := ?_) (a' := ?_) (bv 12 175) rfl rfl (take_ofW HT_.out HW_.out (by kernel_rfl)) (fun _ _ _ h => h) (Or.inl ⟨by rfl, ?_⟩) hHeld ?_ ?_; rotate_left; (rintro w' ⟨s0, s1, s2, s3⟩; go_simp; with_reducible rfl); rotate_left; (simp only [Act.put, List.setIfInBounds_toArray, List.set_cons_zero, List.set_cons_succ, i64_w, i32_w]; rfl)
 refine pure_ (i := 4) (N := some 9) (v := ?_) (a' := ?_) (bv 12 191) rfl rfl (any_of HT_.out (by kernel_rfl)) (fun _ _ _ h => h) (Or.inl ⟨by rfl, ?_⟩) ?_ ?_; rotate_left; (intro w'; go_simp; with_reducible rfl); rotate_left; (simp only [Act.put, List.setIfInBounds_toArray, List.set_cons_zero, List.set_cons_succ, i64_w, i32_w]; rfl)
 refine take_ (i := 6) (N := some 11) (v := ?_) (a' := ?_) (bv 12 255) rfl rfl (take_ofW HT_.out HW_.out (by kernel_rfl)) (fun _ _ _ h => h) (Or.inl ⟨by rfl, ?_⟩) hHeld ?_ ?_; rotate_left; (rintro w' ⟨s0, s1, s2, s3⟩; go_simp; with_reducible rfl); rotate_left; (simp only [Act.put, List.setIfInBounds_toArray, List.set_cons_zero, List.set_cons_succ, i64_w, i32_w]; rfl)
 refine take_ (i := 8) (N := some 13) (v := ?_) (a' := ?_) (bv 12 511) rfl rfl (take_ofW HT_.out HW_.out (by kernel_rfl)) (fun _ _ _ h => h) (Or.inl ⟨by rfl, ?_⟩) hHeld ?_ ?_; rotate_left; (rintro w' ⟨s0, s1, s2, s3⟩; go_simp; with_reducible rfl); rotate_left; (simp only [Act.put, List.setIfInBounds_toArray, List.set_cons_zero, List.set_cons_succ, i64_w, i32_w]; rfl)
 refine one_ (i := 9) (N := some 14) (bv 12 1023) rfl rfl (one_of HT_.out (by kernel_rfl)) (by decide) (fun K hK => ?_)
 refine goes_ Try.func60 (by kernel_rfl) rfl #[.slice A0_1 l0_1.length c0_1, .slice A1_1 l1_1.length c1_1] (by rfl) rfl rfl (by (try simp only [List.map_toArray, List.map_cons, List.map_nil]); first | done | rfl | (simp only [List.length_drop, List.length_take]; rfl)) ?_
 with_reducible refine (examboardref01_Mul.calls k _ _ l0_1 _ _ l1_1 t593 _ ?side1 ?side2 ?side3 ?side4 A3.out).mono ?_
 (case side1 => repeat (first | exact (Kd.C_below HR0_1.out HB.out) | (with_reducible refine Kd.C_alloc ?_ _) | (with_reducible refine Kd.C_drewN ?_ _) | (with_reducible refine Kd.C_drew ?_)))
 (case side2 => exact HC0_1.out)
 (case side3 => repeat (first | exact (Kd.C_below HR1_1.out HB.out) | (with_reducible refine Kd.C_alloc ?_ _) | (with_reducible refine Kd.C_drewN ?_ _) | (with_reducible refine Kd.C_drew ?_)))
 (case side4 => exact HC1_1.out)
 rintro e w9 ⟨v594, rfl, ho0, hb⟩
 refine ⟨_, rfl, ?_⟩
 have HO595 := mk0 (Kd.R_lower ho0 (below_size (by repeat (first | exact HB.out | refine below_set ?_ GE590.out | refine below_set ?_ GE591.out | refine below_set ?_ GE592.out))))
 replace BK590 := bkB BK590 hb
 replace BK591 := bkB BK591 hb
 replace BK592 := bkB BK592 hb
 replace HB := mk0 (below_step (by repeat (first | exact HB.out | refine below_set ?_ GE590.out | refine below_set ?_ GE591.out | refine below_set ?_ GE592.out)) hb)
 obtain ⟨Ao10, co10, eo10⟩ := Kd.R_slice HO595.out
 (first | subst eo10 | (injection eo10 with f1_ f2_ f3_; have f4_ := f1_.symm; have f5_ := f3_.symm; clear f1_ f2_ f3_; subst f4_; subst f5_))
 refine hK.out _ _ ⟨(blk_cell BK590.out 0).trans rfl, (blk_cell BK590.out 1).trans rfl, (blk_cell BK591.out 0).trans rfl, (blk_cell BK591.out 1).trans rfl⟩ (fun hHeld => ?_)
 clear hK K
 refine norm_ (a' := ?_) ?_ ?_
 rotate_left
 ·show Act.put _ (some 14) _ = _
  simp only [Act.put, List.setIfInBounds_toArray, List.set_cons_zero, List.set_cons_succ, i64_w, i32_w]
  rfl
 refine one_ (i := 10) (N := some 15) (bv 12 2047) rfl rfl (one_of HT_.out (by kernel_rfl)) (by decide) (fun K hK => ?_)
 refine goes_ Try.func62 (by kernel_rfl) rfl #[.bool (a0_0 != a1_0), .slice Ao10 t593.length co10] (by rfl) rfl rfl (by (try simp only [List.map_toArray, List.map_cons, List.map_nil]); first | done | rfl | (simp only [List.length_drop, List.length_take]; rfl)) ?_
 with_reducible refine (examboardref02_Make.calls k (a0_0 != a1_0) _ _ t593 t596 t597 _ ?side1 ?side2 A4.out).mono ?_
 (case side1 => repeat (first | exact (Kd.R_reads' HO595.out).2.2 | (with_reducible refine Kd.C_alloc ?_ _) | (with_reducible refine Kd.C_drewN ?_ _) | (with_reducible refine Kd.C_drew ?_)))
 (case side2 => exact (Kd.R_reads' HO595.out).2.1)
 rintro e w11 ⟨v598, rfl, ho0, hb⟩
 refine ⟨_, rfl, ?_⟩
 have HO599 := mk0 (Kd.R_lower (Kd.R_new' ho0 (Kd.R_lt HO595.out)) (below_size (by repeat (first | exact HB.out | refine below_set ?_ GE590.out | refine below_set ?_ GE591.out | refine below_set ?_ GE592.out))))
 replace HO595 := mk0 (Kd.R_elder' HO595.out (Kd.R_base ho0) hb)
 replace BK590 := bkB BK590 hb
 replace BK591 := bkB BK591 hb
 replace BK592 := bkB BK592 hb
 replace HB := mk0 (below_step (by repeat (first | exact HB.out | refine below_set ?_ GE590.out | refine below_set ?_ GE591.out | refine below_set ?_ GE592.out)) hb)
 obtain ⟨Ao13, co13, eo13⟩ := Kd.R_slice HO599.out
 (first | subst eo13 | (injection eo13 with f1_ f2_ f3_; have f4_ := f1_.symm; have f5_ := f3_.symm; clear f1_ f2_ f3_; subst f4_; subst f5_))
 refine hK.out _ _ ⟨(blk_cell BK590.out 0).trans rfl, (blk_cell BK590.out 1).trans rfl, (blk_cell BK591.out 0).trans rfl, (blk_cell BK591.out 1).trans rfl⟩ (fun hHeld => ?_)
 clear hK K
 refine norm_ (a' := ?_) ?_ ?_
 rotate_left
 ·show Act.put _ (some 15) _ = _
  simp only [Act.put, List.setIfInBounds_toArray, List.set_cons_zero, List.set_cons_succ, i64_w, i32_w]
  rfl
 refine one_ (i := 11) (N := none) (bv 12 4095) rfl rfl (one_of HT_.out (by kernel_rfl)) (by decide) (fun K hK => ?_)
 have hs12 : w11.cell? ⟨gb592, 0, none⟩ = some (.bool false) := (blk_cell BK592.out 0).trans rfl
 have hfs12 := blk_frozen BK592.out 0
 have hns12_0 := NB590_592.out
 have hns12_1 := NB591_592.out
 have hms12_0 := NB592_590.out
 have hms12_1 := NB592_591.out
 have hs14 : w11.cell? ⟨gb592, 1, none⟩ = some (.slice none 0 0) := (blk_cell BK592.out 1).trans rfl
 have hfs14 := blk_frozen BK592.out 1
 have hns14_0 := NB590_592.out
 have hns14_1 := NB591_592.out
 have hms14_0 := NB592_590.out
 have hms14_1 := NB592_591.out
 refine skip_ (w1 := ?_) (by rfl) rfl ?_ ?_
 rotate_left
 ·go_simp
  rfl
 refine hK.out _ _ ⟨((cell_far (p := ⟨gb592, _, none⟩) NB590_592.out _).trans (((cell_far (p := ⟨gb592, _, none⟩) NB590_592.out _).trans (hHeld.1)))), ((cell_far (p := ⟨gb592, _, none⟩) NB590_592.out _).trans (((cell_far (p := ⟨gb592, _, none⟩) NB590_592.out _).trans (hHeld.2.1)))), ((cell_far (p := ⟨gb592, _, none⟩) NB591_592.out _).trans (((cell_far (p := ⟨gb592, _, none⟩) NB591_592.out _).trans (hHeld.2.2.1)))), ((cell_far (p := ⟨gb592, _, none⟩) NB591_592.out _).trans (((cell_far (p := ⟨gb592, _, none⟩) NB591_592.out _).trans (hHeld.2.2.2))))⟩ (fun hHeld => ?_)
 clear hK K
 refine done_ (done_of HT_.out (by kernel_rfl)) ?_
 try go_wp2
 refine bodyPost_ret (results_cell_row rfl _ _ gb592 27 #[.bool t596, .slice Ao13 t597.length co13] (0, 0) _ rfl (by refine blk_put (cs := #[.bool t596, .slice none 0 0]) ?_ 1 _ rfl; refine blk_put (cs := #[.bool false, .slice none 0 0]) ?_ 0 _ rfl; exact BK592.out) Try.underlying27 rfl (by kernel_rfl)) rfl ?_
 exact ⟨_, by first | rfl | (simp [errW_none, errW_some] <;> rfl) | (simp [*, errW_none, errW_some] <;> rfl), Kd.R_mono (Kd.R_far (p := ⟨gb592, 1, none⟩) (Kd.R_far (p := ⟨gb592, 0, none⟩) (Kd.R_types HO599.out BK592.out (by decide)) (fun _ hk => hk.2) (.bool t596)) (fun _ hk => hk.2) (.slice Ao13 t597.length co13)) (fun _ hk => trivial), by repeat (first | exact HB.out | refine below_set ?_ GE590.out | refine below_set ?_ GE591.out | refine below_set ?_ GE592.out)⟩
set_option maxHeartbeats 8000000 in
set_option maxRecDepth 100000 in
theorem examboardref02_Of.calls (k : Nat) (a0 : Int) (r1 : Bool) (r2 : List Int) (w : World) (h : examboardref02_Of.f k a0 = some (r1, r2)) :
  Calls Try.prog 69 #[.int .i64 a0] w fun e w' => ∃ v1_ : Value, e = .returned (.agg #[.bool r1, v1_]) ∧ Kd.R (Kd.int .u32) 87 w' w.heap.size (fun _ => True) v1_ r2 ∧ Below w.heap.size w w' := by
 have hu27 := Try.underlying27
 have HB := mk0 (Below.refl w.heap.size w)
 have H : (if a0 < 0 then ((examboardref01_Of.f k (IntKind.u64.wrap ((IntKind.u64.wrap (wrap64 (-(wrap64 (a0 + 1))))) + 1))).bind fun t601 => ((examboardref02_Make.f k true t601).bind fun bt604 => (some (bt604.1, bt604.2)))) else ((examboardref01_Of.f k (IntKind.u64.wrap (a0))).bind fun t608 => ((examboardref02_Make.f k false t608).bind fun bt611 => (some (bt611.1, bt611.2))))) = some (r1, r2) := h
 clear h
 by_cases c2 : a0 < 0
 ·rw [if_pos c2] at H
  have c2b0 : decide (a0 < 0) = true := decide_eq_true c2
  clear c2
  obtain ⟨t601, A3, H⟩ := bindA H
  obtain ⟨⟨t604, t605⟩, A4, H⟩ := bindA H
  simp only [Option.some.injEq, Prod.mk.injEq] at H
  obtain ⟨rfl, rfl⟩ := H
  go_enter Try.func69, Try.ntmps69
  go_wp2_with (first | ((with_reducible refine gate_dst (N := 2) rfl ?_); refine box_event rfl (N := 2) rfl (cs := #[.bool false, .slice none 0 0]) (t := 27) (by first | (go_simp; done) | (go_simp; rfl)) ?_; intro gb600 hg w5 hbox hb; have BK600 := mk0 (hbox); have GE600 := geB hg HB; replace HB := hbS HB hb; clear hb hbox hg) | ((with_reducible refine gate_callee (f := 90) rfl ?_); refine goesL_ (some 10) rfl rfl Try.func90 (by kernel_rfl) rfl #[.int .u64 (IntKind.u64.wrap ((IntKind.u64.wrap (wrap64 (-(wrap64 (a0 + 1))))) + 1))] rfl (by first | (go_simp; done) | (go_simp; rfl)) ?_; (with_reducible refine (examboardref01_Of.calls k (IntKind.u64.wrap ((IntKind.u64.wrap (wrap64 (-(wrap64 (a0 + 1))))) + 1)) t601 _ A3.out).mono ?_); rintro e w6 ⟨v602, rfl, ho0, hb⟩; refine ⟨_, rfl, ?_⟩; have HO603 := mk0 (Kd.R_lower ho0 (below_size HB.out)); replace BK600 := bkB BK600 hb; replace HB := hbS HB hb; obtain ⟨Ao7, co7, eo7⟩ := Kd.R_slice HO603.out; subst eo7) | ((with_reducible refine gate_callee (f := 62) rfl ?_); refine goesL_ (some 11) rfl rfl Try.func62 (by kernel_rfl) rfl #[.bool true, .slice Ao7 t601.length co7] rfl (by first | (go_simp; done) | (go_simp; rfl)) ?_; (with_reducible refine (examboardref02_Make.calls k true _ _ t601 t604 t605 _ (by exact (Kd.R_reads' HO603.out).2.2) (by exact (Kd.R_reads' HO603.out).2.1) A4.out).mono ?_); rintro e w8 ⟨v606, rfl, ho0, hb⟩; refine ⟨_, rfl, ?_⟩; have HO607 := mk0 (Kd.R_lower (Kd.R_new' ho0 (Kd.R_lt HO603.out)) (below_size HB.out)); replace HO603 := mk0 (Kd.R_elder' HO603.out (Kd.R_base ho0) hb); replace BK600 := bkB BK600 hb; replace HB := hbS HB hb; have hcz9_0 : w8.cell? ⟨gb600, 0, none⟩ = some (.bool false) := (blk_cell BK600.out 0).trans rfl; have hcz9_1 : w8.cell? ⟨gb600, 1, none⟩ = some (.slice none 0 0) := (blk_cell BK600.out 1).trans rfl; have hfz9_0 := blk_frozen BK600.out 0; have hfz9_1 := blk_frozen BK600.out 1; obtain ⟨Ao10, co10, eo10⟩ := Kd.R_slice HO607.out; subst eo10))
  refine bodyPost_ret (results_cell_row rfl _ _ gb600 27 #[.bool t604, .slice Ao10 t605.length co10] (0, 0) _ rfl (by refine blk_put (cs := #[.bool t604, .slice none 0 0]) ?_ 1 _ rfl; refine blk_put (cs := #[.bool false, .slice none 0 0]) ?_ 0 _ rfl; exact BK600.out) Try.underlying27 rfl (by kernel_rfl)) rfl ?_
  exact ⟨_, by first | rfl | (simp [errW_none, errW_some] <;> rfl) | (simp [*, errW_none, errW_some] <;> rfl), Kd.R_mono (Kd.R_far (p := ⟨gb600, 1, none⟩) (Kd.R_far (p := ⟨gb600, 0, none⟩) (Kd.R_types HO607.out BK600.out (by decide)) (fun _ hk => hk.2) (.bool t604)) (fun _ hk => hk.2) (.slice Ao10 t605.length co10)) (fun _ hk => trivial), by repeat (first | exact HB.out | refine below_set ?_ GE600.out)⟩
 ·rw [if_neg c2] at H
  have c2b0 : decide (a0 < 0) = false := decide_eq_false c2
  clear c2
  obtain ⟨t608, A11, H⟩ := bindA H
  obtain ⟨⟨t611, t612⟩, A12, H⟩ := bindA H
  simp only [Option.some.injEq, Prod.mk.injEq] at H
  obtain ⟨rfl, rfl⟩ := H
  go_enter Try.func69, Try.ntmps69
  go_wp2_with (first | ((with_reducible refine gate_dst (N := 2) rfl ?_); refine box_event rfl (N := 2) rfl (cs := #[.bool false, .slice none 0 0]) (t := 27) (by first | (go_simp; done) | (go_simp; rfl)) ?_; intro gb600 hg w13 hbox hb; have BK600 := mk0 (hbox); have GE600 := geB hg HB; replace HB := hbS HB hb; clear hb hbox hg) | ((with_reducible refine gate_callee (f := 90) rfl ?_); refine goesL_ (some 14) rfl rfl Try.func90 (by kernel_rfl) rfl #[.int .u64 (IntKind.u64.wrap (a0))] rfl (by first | (go_simp; done) | (go_simp; rfl)) ?_; (with_reducible refine (examboardref01_Of.calls k (IntKind.u64.wrap (a0)) t608 _ A11.out).mono ?_); rintro e w14 ⟨v609, rfl, ho0, hb⟩; refine ⟨_, rfl, ?_⟩; have HO610 := mk0 (Kd.R_lower ho0 (below_size HB.out)); replace BK600 := bkB BK600 hb; replace HB := hbS HB hb; obtain ⟨Ao15, co15, eo15⟩ := Kd.R_slice HO610.out; subst eo15) | ((with_reducible refine gate_callee (f := 62) rfl ?_); refine goesL_ (some 15) rfl rfl Try.func62 (by kernel_rfl) rfl #[.bool false, .slice Ao15 t608.length co15] rfl (by first | (go_simp; done) | (go_simp; rfl)) ?_; (with_reducible refine (examboardref02_Make.calls k false _ _ t608 t611 t612 _ (by exact (Kd.R_reads' HO610.out).2.2) (by exact (Kd.R_reads' HO610.out).2.1) A12.out).mono ?_); rintro e w16 ⟨v613, rfl, ho0, hb⟩; refine ⟨_, rfl, ?_⟩; have HO614 := mk0 (Kd.R_lower (Kd.R_new' ho0 (Kd.R_lt HO610.out)) (below_size HB.out)); replace HO610 := mk0 (Kd.R_elder' HO610.out (Kd.R_base ho0) hb); replace BK600 := bkB BK600 hb; replace HB := hbS HB hb; have hcz17_0 : w16.cell? ⟨gb600, 0, none⟩ = some (.bool false) := (blk_cell BK600.out 0).trans rfl; have hcz17_1 : w16.cell? ⟨gb600, 1, none⟩ = some (.slice none 0 0) := (blk_cell BK600.out 1).trans rfl; have hfz17_0 := blk_frozen BK600.out 0; have hfz17_1 := blk_frozen BK600.out 1; obtain ⟨Ao18, co18, eo18⟩ := Kd.R_slice HO614.out; subst eo18))
  refine bodyPost_ret (results_cell_row rfl _ _ gb600 27 #[.bool t611, .slice Ao18 t612.length co18] (0, 0) _ rfl (by refine blk_put (cs := #[.bool t611, .slice none 0 0]) ?_ 1 _ rfl; refine blk_put (cs := #[.bool false, .slice none 0 0]) ?_ 0 _ rfl; exact BK600.out) Try.underlying27 rfl (by kernel_rfl)) rfl ?_
  exact ⟨_, by first | rfl | (simp [errW_none, errW_some] <;> rfl) | (simp [*, errW_none, errW_some] <;> rfl), Kd.R_mono (Kd.R_far (p := ⟨gb600, 1, none⟩) (Kd.R_far (p := ⟨gb600, 0, none⟩) (Kd.R_types HO614.out BK600.out (by decide)) (fun _ hk => hk.2) (.bool t611)) (fun _ hk => hk.2) (.slice Ao18 t612.length co18)) (fun _ hk => trivial), by repeat (first | exact HB.out | refine below_set ?_ GE600.out)⟩
set_option maxHeartbeats 8000000 in
set_option maxRecDepth 100000 in
theorem examboardref03_top.calls (k : Nat) (a0_0 : Bool) (A0_1 : Option Addr) (c0_1 : Nat) (l0_1 : List Int) (A0_2 : Option Addr) (c0_2 : Nat) (l0_2 : List Int) (r1 : Bool) (r2 : List Int) (w : World) (hr0_1 : Kd.C (Kd.int .u32) w A0_1 l0_1.length l0_1) (hc0_1 : l0_1.length ≤ c0_1) (hr0_2 : Kd.C (Kd.int .u32) w A0_2 l0_2.length l0_2) (hc0_2 : l0_2.length ≤ c0_2) (h : examboardref03_top.f k a0_0 l0_1 l0_2 = some (r1, r2)) :
  Calls Try.prog 59 #[.agg #[.bool a0_0, .slice A0_1 l0_1.length c0_1, .slice A0_2 l0_2.length c0_2]] w fun e w' => ∃ v1_ : Value, e = .returned (.agg #[.bool r1, v1_]) ∧ Kd.R (Kd.int .u32) 87 w' w.heap.size (fun _ => True) v1_ r2 ∧ Below w.heap.size w w' := by
 have hu29 := Try.underlying29
 have hu27 := Try.underlying27
 have HR0_1 := mk0 hr0_1
 have HC0_1 := mk0 hc0_1
 clear hr0_1 hc0_1
 have HR0_2 := mk0 hr0_2
 have HC0_2 := mk0 hc0_2
 clear hr0_2 hc0_2
 have HB := mk0 (Below.refl w.heap.size w)
 have H : ((examboardref01_Bits.f k l0_2).bind fun t617 => (if t617 = 0 then ((examboardref02_Of.f k 0).bind fun bt618 => (some (bt618.1, bt618.2))) else ((examboardref02_Norm.f k a0_0 l0_1).bind fun bt622 => (some (bt622.1, bt622.2))))) = some (r1, r2) := h
 clear h
 obtain ⟨t617, A2, H⟩ := bindA H
 by_cases c3 : t617 = 0
 ·rw [if_pos c3] at H
  have c3b0 : (t617 == 0) = true := beq_iff_eq.mpr c3
  have c3b1 : (t617 != 0) = false := bne_eq_false_iff_eq.mpr c3
  clear c3
  obtain ⟨⟨t618, t619⟩, A4, H⟩ := bindA H
  simp only [Option.some.injEq, Prod.mk.injEq] at H
  obtain ⟨rfl, rfl⟩ := H
  go_enter Try.func59, Try.ntmps59
  go_wp2_with (first | ((with_reducible refine gate_dst (N := 1) rfl ?_); refine box_event rfl (N := 1) rfl (cs := #[.bool a0_0, .slice A0_1 l0_1.length c0_1, .slice A0_2 l0_2.length c0_2]) (t := 29) (by first | (go_simp; done) | (go_simp; rfl)) ?_; intro gb615 hg w5 hbox hb; have BK615 := mk0 (hbox); have GE615 := geB hg HB; replace HB := hbS HB hb; clear hb hbox hg) | ((with_reducible refine gate_dst (N := 2) rfl ?_); refine box_event rfl (N := 2) rfl (cs := #[.bool false, .slice none 0 0]) (t := 27) (by first | (go_simp; done) | (go_simp; rfl)) ?_; intro gb616 hg w6 hbox hb; have BK616 := mk0 (hbox); have GE616 := geB hg HB; replace HB := hbS HB hb; have NB615_616 := nbA hg BK615; have NB616_615 := nbB hg BK615; replace BK615 := bkB BK615 hb; clear hb hbox hg; have hnb7 := NB615_616.out; have hnc7 := NB616_615.out; have hcz8_0 : w6.cell? ⟨gb615, 0, none⟩ = some (.bool a0_0) := (blk_cell BK615.out 0).trans rfl; have hcz8_1 : w6.cell? ⟨gb615, 1, none⟩ = some (.slice A0_1 l0_1.length c0_1) := (blk_cell BK615.out 1).trans rfl; have hcz8_2 : w6.cell? ⟨gb615, 2, none⟩ = some (.slice A0_2 l0_2.length c0_2) := (blk_cell BK615.out 2).trans rfl; have hfz8_0 := blk_frozen BK615.out 0; have hfz8_1 := blk_frozen BK615.out 1; have hfz8_2 := blk_frozen BK615.out 2) | ((with_reducible refine gate_callee (f := 85) rfl ?_); refine goesL_ (some 5) rfl rfl Try.func85 (by kernel_rfl) rfl #[.slice A0_2 l0_2.length c0_2] rfl (by first | (go_simp; done) | (go_simp; rfl)) ?_; (with_reducible refine (examboardref01_Bits.calls k _ _ l0_2 t617 _ (by exact Kd.C_below HR0_2.out HB.out) HC0_2.out A2.out).mono ?_); rintro e w9 ⟨rfl, hb⟩; refine ⟨_, rfl, ?_⟩; replace BK615 := bkB BK615 hb; replace BK616 := bkB BK616 hb; replace HB := hbS HB hb) | ((with_reducible refine gate_callee (f := 69) rfl ?_); refine goesL_ (some 7) rfl rfl Try.func69 (by kernel_rfl) rfl #[.int .i64 0] rfl (by first | (go_simp; done) | (go_simp; rfl)) ?_; (with_reducible refine (examboardref02_Of.calls k 0 t618 t619 _ A4.out).mono ?_); rintro e w10 ⟨v620, rfl, ho0, hb⟩; refine ⟨_, rfl, ?_⟩; have HO621 := mk0 (Kd.R_lower ho0 (below_size HB.out)); replace BK615 := bkB BK615 hb; replace BK616 := bkB BK616 hb; replace HB := hbS HB hb; have hcz11_0 : w10.cell? ⟨gb616, 0, none⟩ = some (.bool false) := (blk_cell BK616.out 0).trans rfl; have hcz11_1 : w10.cell? ⟨gb616, 1, none⟩ = some (.slice none 0 0) := (blk_cell BK616.out 1).trans rfl; have hfz11_0 := blk_frozen BK616.out 0; have hfz11_1 := blk_frozen BK616.out 1; obtain ⟨Ao12, co12, eo12⟩ := Kd.R_slice HO621.out; subst eo12))
  refine bodyPost_ret (results_cell_row rfl _ _ gb616 27 #[.bool t618, .slice Ao12 t619.length co12] (0, 0) _ rfl (by refine blk_put (cs := #[.bool t618, .slice none 0 0]) ?_ 1 _ rfl; refine blk_put (cs := #[.bool false, .slice none 0 0]) ?_ 0 _ rfl; exact BK616.out) Try.underlying27 rfl (by kernel_rfl)) rfl ?_
  exact ⟨_, by first | rfl | (simp [errW_none, errW_some] <;> rfl) | (simp [*, errW_none, errW_some] <;> rfl), Kd.R_mono (Kd.R_far (p := ⟨gb616, 1, none⟩) (Kd.R_far (p := ⟨gb616, 0, none⟩) (Kd.R_types HO621.out BK616.out (by decide)) (fun _ hk => hk.2) (.bool t618)) (fun _ hk => hk.2) (.slice Ao12 t619.length co12)) (fun _ hk => trivial), by repeat (first | exact HB.out | refine below_set ?_ GE615.out | refine below_set ?_ GE616.out)⟩
 ·rw [if_neg c3] at H
  have c3b0 : (t617 == 0) = false := beq_eq_false_iff_ne.mpr c3
  have c3b1 : (t617 != 0) = true := bne_iff_ne.mpr c3
  obtain ⟨⟨t622, t623⟩, A13, H⟩ := bindA H
  simp only [Option.some.injEq, Prod.mk.injEq] at H
  obtain ⟨rfl, rfl⟩ := H
  go_enter Try.func59, Try.ntmps59
  go_wp2_with (first | ((with_reducible refine gate_dst (N := 1) rfl ?_); refine box_event rfl (N := 1) rfl (cs := #[.bool a0_0, .slice A0_1 l0_1.length c0_1, .slice A0_2 l0_2.length c0_2]) (t := 29) (by first | (go_simp; done) | (go_simp; rfl)) ?_; intro gb615 hg w14 hbox hb; have BK615 := mk0 (hbox); have GE615 := geB hg HB; replace HB := hbS HB hb; clear hb hbox hg) | ((with_reducible refine gate_dst (N := 2) rfl ?_); refine box_event rfl (N := 2) rfl (cs := #[.bool false, .slice none 0 0]) (t := 27) (by first | (go_simp; done) | (go_simp; rfl)) ?_; intro gb616 hg w15 hbox hb; have BK616 := mk0 (hbox); have GE616 := geB hg HB; replace HB := hbS HB hb; have NB615_616 := nbA hg BK615; have NB616_615 := nbB hg BK615; replace BK615 := bkB BK615 hb; clear hb hbox hg; have hnb16 := NB615_616.out; have hnc16 := NB616_615.out; have hcz17_0 : w15.cell? ⟨gb615, 0, none⟩ = some (.bool a0_0) := (blk_cell BK615.out 0).trans rfl; have hcz17_1 : w15.cell? ⟨gb615, 1, none⟩ = some (.slice A0_1 l0_1.length c0_1) := (blk_cell BK615.out 1).trans rfl; have hcz17_2 : w15.cell? ⟨gb615, 2, none⟩ = some (.slice A0_2 l0_2.length c0_2) := (blk_cell BK615.out 2).trans rfl; have hfz17_0 := blk_frozen BK615.out 0; have hfz17_1 := blk_frozen BK615.out 1; have hfz17_2 := blk_frozen BK615.out 2) | ((with_reducible refine gate_callee (f := 85) rfl ?_); refine goesL_ (some 5) rfl rfl Try.func85 (by kernel_rfl) rfl #[.slice A0_2 l0_2.length c0_2] rfl (by first | (go_simp; done) | (go_simp; rfl)) ?_; (with_reducible refine (examboardref01_Bits.calls k _ _ l0_2 t617 _ (by exact Kd.C_below HR0_2.out HB.out) HC0_2.out A2.out).mono ?_); rintro e w18 ⟨rfl, hb⟩; refine ⟨_, rfl, ?_⟩; replace BK615 := bkB BK615 hb; replace BK616 := bkB BK616 hb; replace HB := hbS HB hb; have hcz19_0 : w18.cell? ⟨gb615, 0, none⟩ = some (.bool a0_0) := (blk_cell BK615.out 0).trans rfl; have hcz19_1 : w18.cell? ⟨gb615, 1, none⟩ = some (.slice A0_1 l0_1.length c0_1) := (blk_cell BK615.out 1).trans rfl; have hcz19_2 : w18.cell? ⟨gb615, 2, none⟩ = some (.slice A0_2 l0_2.length c0_2) := (blk_cell BK615.out 2).trans rfl; have hfz19_0 := blk_frozen BK615.out 0; have hfz19_1 := blk_frozen BK615.out 1; have hfz19_2 := blk_frozen BK615.out 2) | ((with_reducible refine gate_callee (f := 84) rfl ?_); refine goesL_ (some 10) rfl rfl Try.func84 (by kernel_rfl) rfl #[.agg #[.bool a0_0, .slice A0_1 l0_1.length c0_1]] rfl (by first | (go_simp; done) | (go_simp; rfl)) ?_; (with_reducible refine (examboardref02_Norm.calls k a0_0 _ _ l0_1 t622 t623 _ (by exact Kd.C_below HR0_1.out HB.out) HC0_1.out A13.out).mono ?_); rintro e w20 ⟨v624, rfl, ho0, hb⟩; refine ⟨_, rfl, ?_⟩; have HO625 := mk0 (Kd.R_lower ho0 (below_size HB.out)); replace BK615 := bkB BK615 hb; replace BK616 := bkB BK616 hb; replace HB := hbS HB hb; have hcz21_0 : w20.cell? ⟨gb616, 0, none⟩ = some (.bool false) := (blk_cell BK616.out 0).trans rfl; have hcz21_1 : w20.cell? ⟨gb616, 1, none⟩ = some (.slice none 0 0) := (blk_cell BK616.out 1).trans rfl; have hfz21_0 := blk_frozen BK616.out 0; have hfz21_1 := blk_frozen BK616.out 1; obtain ⟨Ao22, co22, eo22⟩ := Kd.R_slice HO625.out; subst eo22))
  refine bodyPost_ret (results_cell_row rfl _ _ gb616 27 #[.bool t622, .slice Ao22 t623.length co22] (0, 0) _ rfl (by refine blk_put (cs := #[.bool t622, .slice none 0 0]) ?_ 1 _ rfl; refine blk_put (cs := #[.bool false, .slice none 0 0]) ?_ 0 _ rfl; exact BK616.out) Try.underlying27 rfl (by kernel_rfl)) rfl ?_
  exact ⟨_, by first | rfl | (simp [errW_none, errW_some] <;> rfl) | (simp [*, errW_none, errW_some] <;> rfl), Kd.R_mono (Kd.R_far (p := ⟨gb616, 1, none⟩) (Kd.R_far (p := ⟨gb616, 0, none⟩) (Kd.R_types HO625.out BK616.out (by decide)) (fun _ hk => hk.2) (.bool t622)) (fun _ hk => hk.2) (.slice Ao22 t623.length co22)) (fun _ hk => trivial), by repeat (first | exact HB.out | refine below_set ?_ GE615.out | refine below_set ?_ GE616.out)⟩
set_option maxHeartbeats 8000000 in
set_option maxRecDepth 100000 in
theorem examboardref03_low.calls (k : Nat) (a0_0 : Bool) (A0_1 : Option Addr) (c0_1 : Nat) (l0_1 : List Int) (A0_2 : Option Addr) (c0_2 : Nat) (l0_2 : List Int) (r : List Int) (w : World) (hr0_1 : Kd.C (Kd.int .u32) w A0_1 l0_1.length l0_1) (hc0_1 : l0_1.length ≤ c0_1) (hr0_2 : Kd.C (Kd.int .u32) w A0_2 l0_2.length l0_2) (hc0_2 : l0_2.length ≤ c0_2) (h : examboardref03_low.f k a0_0 l0_1 l0_2 = some r) :
  Calls Try.prog 61 #[.agg #[.bool a0_0, .slice A0_1 l0_1.length c0_1, .slice A0_2 l0_2.length c0_2]] w fun e w' => ∃ v0_ : Value, e = .returned (v0_) ∧ Kd.R (Kd.int .u32) 87 w' w.heap.size (fun _ => True) v0_ r ∧ Below w.heap.size w w' := by
 have hu29 := Try.underlying29
 have HR0_1 := mk0 hr0_1
 have HC0_1 := mk0 hc0_1
 clear hr0_1 hc0_1
 have HR0_2 := mk0 hr0_2
 have HC0_2 := mk0 hc0_2
 clear hr0_2 hc0_2
 have HB := mk0 (Below.refl w.heap.size w)
 have H : ((examboardref01_Bits.f k l0_2).bind fun t627 => (if t627 = 0 then ((examboardref01_Of.f k 1).bind fun t628 => (some t628)) else ((examboardref01_Norm.f k l0_2).bind fun t631 => (some t631)))) = some r := h
 clear h
 obtain ⟨t627, A2, H⟩ := bindA H
 by_cases c3 : t627 = 0
 ·rw [if_pos c3] at H
  have c3b0 : (t627 == 0) = true := beq_iff_eq.mpr c3
  have c3b1 : (t627 != 0) = false := bne_eq_false_iff_eq.mpr c3
  clear c3
  obtain ⟨t628, A4, H⟩ := bindA H
  obtain rfl := Option.some.inj H
  go_enter Try.func61, Try.ntmps61
  go_wp2_with (first | ((with_reducible refine gate_dst (N := 1) rfl ?_); refine box_event rfl (N := 1) rfl (cs := #[.bool a0_0, .slice A0_1 l0_1.length c0_1, .slice A0_2 l0_2.length c0_2]) (t := 29) (by first | (go_simp; done) | (go_simp; rfl)) ?_; intro gb626 hg w5 hbox hb; have BK626 := mk0 (hbox); have GE626 := geB hg HB; replace HB := hbS HB hb; clear hb hbox hg; have hcz6_0 : w5.cell? ⟨gb626, 0, none⟩ = some (.bool a0_0) := (blk_cell BK626.out 0).trans rfl; have hcz6_1 : w5.cell? ⟨gb626, 1, none⟩ = some (.slice A0_1 l0_1.length c0_1) := (blk_cell BK626.out 1).trans rfl; have hcz6_2 : w5.cell? ⟨gb626, 2, none⟩ = some (.slice A0_2 l0_2.length c0_2) := (blk_cell BK626.out 2).trans rfl; have hfz6_0 := blk_frozen BK626.out 0; have hfz6_1 := blk_frozen BK626.out 1; have hfz6_2 := blk_frozen BK626.out 2) | ((with_reducible refine gate_callee (f := 85) rfl ?_); refine goesL_ (some 5) rfl rfl Try.func85 (by kernel_rfl) rfl #[.slice A0_2 l0_2.length c0_2] rfl (by first | (go_simp; done) | (go_simp; rfl)) ?_; (with_reducible refine (examboardref01_Bits.calls k _ _ l0_2 t627 _ (by exact Kd.C_below HR0_2.out HB.out) HC0_2.out A2.out).mono ?_); rintro e w7 ⟨rfl, hb⟩; refine ⟨_, rfl, ?_⟩; replace BK626 := bkB BK626 hb; replace HB := hbS HB hb) | ((with_reducible refine gate_callee (f := 90) rfl ?_); refine goesL_ (some 7) rfl rfl Try.func90 (by kernel_rfl) rfl #[.int .u64 1] rfl (by first | (go_simp; done) | (go_simp; rfl)) ?_; (with_reducible refine (examboardref01_Of.calls k 1 t628 _ A4.out).mono ?_); rintro e w8 ⟨v629, rfl, ho0, hb⟩; refine ⟨_, rfl, ?_⟩; have HO630 := mk0 (Kd.R_lower ho0 (below_size HB.out)); replace BK626 := bkB BK626 hb; replace HB := hbS HB hb))
  go_ret
  exact ⟨_, by first | rfl | (simp [errW_none, errW_some] <;> rfl) | (simp [*, errW_none, errW_some] <;> rfl), HO630.out, by repeat (first | exact HB.out | refine below_set ?_ GE626.out)⟩
 ·rw [if_neg c3] at H
  have c3b0 : (t627 == 0) = false := beq_eq_false_iff_ne.mpr c3
  have c3b1 : (t627 != 0) = true := bne_iff_ne.mpr c3
  obtain ⟨t631, A9, H⟩ := bindA H
  obtain rfl := Option.some.inj H
  go_enter Try.func61, Try.ntmps61
  go_wp2_with (first | ((with_reducible refine gate_dst (N := 1) rfl ?_); refine box_event rfl (N := 1) rfl (cs := #[.bool a0_0, .slice A0_1 l0_1.length c0_1, .slice A0_2 l0_2.length c0_2]) (t := 29) (by first | (go_simp; done) | (go_simp; rfl)) ?_; intro gb626 hg w10 hbox hb; have BK626 := mk0 (hbox); have GE626 := geB hg HB; replace HB := hbS HB hb; clear hb hbox hg; have hcz11_0 : w10.cell? ⟨gb626, 0, none⟩ = some (.bool a0_0) := (blk_cell BK626.out 0).trans rfl; have hcz11_1 : w10.cell? ⟨gb626, 1, none⟩ = some (.slice A0_1 l0_1.length c0_1) := (blk_cell BK626.out 1).trans rfl; have hcz11_2 : w10.cell? ⟨gb626, 2, none⟩ = some (.slice A0_2 l0_2.length c0_2) := (blk_cell BK626.out 2).trans rfl; have hfz11_0 := blk_frozen BK626.out 0; have hfz11_1 := blk_frozen BK626.out 1; have hfz11_2 := blk_frozen BK626.out 2) | ((with_reducible refine gate_callee (f := 85) rfl ?_); refine goesL_ (some 5) rfl rfl Try.func85 (by kernel_rfl) rfl #[.slice A0_2 l0_2.length c0_2] rfl (by first | (go_simp; done) | (go_simp; rfl)) ?_; (with_reducible refine (examboardref01_Bits.calls k _ _ l0_2 t627 _ (by exact Kd.C_below HR0_2.out HB.out) HC0_2.out A2.out).mono ?_); rintro e w12 ⟨rfl, hb⟩; refine ⟨_, rfl, ?_⟩; replace BK626 := bkB BK626 hb; replace HB := hbS HB hb; have hcz13_0 : w12.cell? ⟨gb626, 0, none⟩ = some (.bool a0_0) := (blk_cell BK626.out 0).trans rfl; have hcz13_1 : w12.cell? ⟨gb626, 1, none⟩ = some (.slice A0_1 l0_1.length c0_1) := (blk_cell BK626.out 1).trans rfl; have hcz13_2 : w12.cell? ⟨gb626, 2, none⟩ = some (.slice A0_2 l0_2.length c0_2) := (blk_cell BK626.out 2).trans rfl; have hfz13_0 := blk_frozen BK626.out 0; have hfz13_1 := blk_frozen BK626.out 1; have hfz13_2 := blk_frozen BK626.out 2) | ((with_reducible refine gate_callee (f := 89) rfl ?_); refine goesL_ (some 10) rfl rfl Try.func89 (by kernel_rfl) rfl #[.slice A0_2 l0_2.length c0_2] rfl (by first | (go_simp; done) | (go_simp; rfl)) ?_; (with_reducible refine (examboardref01_Norm.calls k _ _ l0_2 t631 _ (by exact Kd.C_below HR0_2.out HB.out) HC0_2.out A9.out).mono ?_); rintro e w14 ⟨v632, rfl, ho0, hb⟩; refine ⟨_, rfl, ?_⟩; have HO633 := mk0 (Kd.R_lower ho0 (below_size HB.out)); replace BK626 := bkB BK626 hb; replace HB := hbS HB hb))
  go_ret
  exact ⟨_, by first | rfl | (simp [errW_none, errW_some] <;> rfl) | (simp [*, errW_none, errW_some] <;> rfl), HO633.out, by repeat (first | exact HB.out | refine below_set ?_ GE626.out)⟩
def examboardref03_Mul.T1 : Bool × List (List Nat × List Nat) := (true, [([], []), ([0], [0]), ([], []), ([2, 1], [2]), ([1, 3, 3], [1, 3]), ([], []), ([5, 4], [5]), ([], []), ([7, 6], [7]), ([6, 8, 8], [6, 8]), ([4, 9, 9], [4, 9]), ([10, 10, 0, 1, 2, 3, 4, 5, 6, 7, 8, 9, 10], [10])])
def examboardref03_Mul.B1 : List Nat := [0, 1, 0, 7, 15, 0, 63, 0, 255, 511, 1023, 2047]
theorem examboardref03_Mul.tab1 : rtab .any (opsOf Try.f32 1) = examboardref03_Mul.T1 := by kernel_rfl
theorem examboardref03_Mul.bits1 : waitsOk examboardref03_Mul.T1.2 examboardref03_Mul.B1 = true := by kernel_rfl
set_option maxHeartbeats 8000000 in
set_option maxRecDepth 100000 in
theorem examboardref03_Mul.calls (k : Nat) (a0_0 : Bool) (A0_1 : Option Addr) (c0_1 : Nat) (l0_1 : List Int) (A0_2 : Option Addr) (c0_2 : Nat) (l0_2 : List Int) (a1_0 : Bool) (A1_1 : Option Addr) (c1_1 : Nat) (l1_1 : List Int) (A1_2 : Option Addr) (c1_2 : Nat) (l1_2 : List Int) (r1 : Bool) (r2 : List Int) (r3 : List Int) (w : World) (hr0_1 : Kd.C (Kd.int .u32) w A0_1 l0_1.length l0_1) (hc0_1 : l0_1.length ≤ c0_1) (hr0_2 : Kd.C (Kd.int .u32) w A0_2 l0_2.length l0_2) (hc0_2 : l0_2.length ≤ c0_2) (hr1_1 : Kd.C (Kd.int .u32) w A1_1 l1_1.length l1_1) (hc1_1 : l1_1.length ≤ c1_1) (hr1_2 : Kd.C (Kd.int .u32) w A1_2 l1_2.length l1_2) (hc1_2 : l1_2.length ≤ c1_2) (h : examboardref03_Mul.f k a0_0 l0_1 l0_2 a1_0 l1_1 l1_2 = some (r1, r2, r3)) :
  Calls Try.prog 32 #[.agg #[.bool a0_0, .slice A0_1 l0_1.length c0_1, .slice A0_2 l0_2.length c0_2], .agg #[.bool a1_0, .slice A1_1 l1_1.length c1_1, .slice A1_2 l1_2.length c1_2]] w fun e w' => ∃ v1_ v2_ : Value, e = .returned (.agg #[.bool r1, v1_, v2_]) ∧ Kd.R (Kd.int .u32) 87 w' w.heap.size (fun k_ => some k_ ≠ (v2_ : Value).ownBlock) v1_ r2 ∧ Kd.R (Kd.int .u32) 87 w' w.heap.size (fun k_ => some k_ ≠ (v1_ : Value).ownBlock) v2_ r3 ∧ Below w.heap.size w w' := by
 have hu29 := Try.underlying29
 have HR0_1 := mk0 hr0_1
 have HC0_1 := mk0 hc0_1
 clear hr0_1 hc0_1
 have HR0_2 := mk0 hr0_2
 have HC0_2 := mk0 hc0_2
 clear hr0_2 hc0_2
 have HR1_1 := mk0 hr1_1
 have HC1_1 := mk0 hc1_1
 clear hr1_1 hc1_1
 have HR1_2 := mk0 hr1_2
 have HC1_2 := mk0 hc1_2
 clear hr1_2 hc1_2
 have HB := mk0 (Below.refl w.heap.size w)
 have H : ((examboardref03_top.f k a0_0 l0_1 l0_2).bind fun bt637 => ((examboardref03_top.f k a1_0 l1_1 l1_2).bind fun bt641 => ((examboardref02_Mul.f k bt637.1 bt637.2 bt641.1 bt641.2).bind fun bt645 => ((examboardref03_low.f k a0_0 l0_1 l0_2).bind fun t649 => ((examboardref03_low.f k a1_0 l1_1 l1_2).bind fun t652 => ((examboardref01_Mul.f k t649 t652).bind fun t655 => ((examboardref03_reduce.f k bt645.1 bt645.2 t655).bind fun bt658 => (some (bt658.1, bt658.2.1, bt658.2.2))))))))) = some (r1, r2, r3) := h
 clear h
 obtain ⟨⟨t637, t638⟩, A3, H⟩ := bindA H
 obtain ⟨⟨t641, t642⟩, A4, H⟩ := bindA H
 obtain ⟨⟨t645, t646⟩, A5, H⟩ := bindA H
 obtain ⟨t649, A6, H⟩ := bindA H
 obtain ⟨t652, A7, H⟩ := bindA H
 obtain ⟨t655, A8, H⟩ := bindA H
 obtain ⟨⟨t658, t659, t662⟩, A9, H⟩ := bindA H
 simp only [Option.some.injEq, Prod.mk.injEq] at H
 obtain ⟨rfl, rfl, rfl⟩ := H
 go_enter Try.func32, Try.ntmps32
 try go_wp2_with (first | ((with_reducible refine gate_dst (N := 2) rfl ?_); refine box_event rfl (N := 2) rfl (cs := #[.bool a0_0, .slice A0_1 l0_1.length c0_1, .slice A0_2 l0_2.length c0_2]) (t := 29) (by first | (go_simp; done) | (go_simp; rfl)) ?_; intro gb634 hg w10 hbox hb; have BK634 := mk0 (hbox); have GE634 := geB hg HB; replace HB := hbS HB hb; clear hb hbox hg) | ((with_reducible refine gate_dst (N := 3) rfl ?_); refine box_event rfl (N := 3) rfl (cs := #[.bool a1_0, .slice A1_1 l1_1.length c1_1, .slice A1_2 l1_2.length c1_2]) (t := 29) (by first | (go_simp; done) | (go_simp; rfl)) ?_; intro gb635 hg w11 hbox hb; have BK635 := mk0 (hbox); have GE635 := geB hg HB; replace HB := hbS HB hb; replace BK634 := bkB BK634 hb; clear hb hbox hg) | ((with_reducible refine gate_dst (N := 4) rfl ?_); refine box_event rfl (N := 4) rfl (cs := #[.bool false, .slice none 0 0, .slice none 0 0]) (t := 29) (by first | (go_simp; done) | (go_simp; rfl)) ?_; intro gb636 hg w12 hbox hb; have BK636 := mk0 (hbox); have GE636 := geB hg HB; replace HB := hbS HB hb; have NB634_636 := nbA hg BK634; have NB636_634 := nbB hg BK634; replace BK634 := bkB BK634 hb; have NB635_636 := nbA hg BK635; have NB636_635 := nbB hg BK635; replace BK635 := bkB BK635 hb; clear hb hbox hg))
 replace BK634 := mk0 (blk_drew BK634.out)
 replace BK635 := mk0 (blk_drew BK635.out)
 replace BK636 := mk0 (blk_drew BK636.out)
 replace HB := mk0 (below_drew1 HB.out)
 refine start_ (n := 12) (S := fun w' => w'.cell? ⟨gb634, 0, none⟩ = some (.bool a0_0) ∧ w'.cell? ⟨gb634, 1, none⟩ = some (.slice A0_1 l0_1.length c0_1) ∧ w'.cell? ⟨gb634, 2, none⟩ = some (.slice A0_2 l0_2.length c0_2) ∧ w'.cell? ⟨gb635, 0, none⟩ = some (.bool a1_0) ∧ w'.cell? ⟨gb635, 1, none⟩ = some (.slice A1_1 l1_1.length c1_1) ∧ w'.cell? ⟨gb635, 2, none⟩ = some (.slice A1_2 l1_2.length c1_2)) (ds := []) (bv 12 0) (by kernel_rfl) rfl rfl ⟨(blk_cell BK634.out 0).trans rfl, (blk_cell BK634.out 1).trans rfl, (blk_cell BK634.out 2).trans rfl, (blk_cell BK635.out 0).trans rfl, (blk_cell BK635.out 1).trans rfl, (blk_cell BK635.out 2).trans rfl⟩ (fun hHeld => ?_); refine with_tabW examboardref03_Mul.tab1 examboardref03_Mul.bits1 (fun HT_ HW_ => ?_)
 generalize w12.drew = w13 at BK634 BK635 BK636 HB hHeld ⊢
 refine take_ (i := 0) (N := some 5) (v := ?_) (a' := ?_) (bv 12 1) rfl rfl (take_ofW HT_.out HW_.out (by kernel_rfl)) (fun _ _ _ h => h) (Or.inl ⟨by rfl, ?_⟩) hHeld ?_ ?_; rotate_left; (rintro w' ⟨s0, s1, s2, s3, s4, s5⟩; go_simp; with_reducible rfl); rotate_left; (simp only [Act.put, List.setIfInBounds_toArray, List.set_cons_zero, List.set_cons_succ, i64_w, i32_w]; rfl)
 refine take_ (i := 2) (N := some 7) (v := ?_) (a' := ?_) (bv 12 5) rfl rfl (take_ofW HT_.out HW_.out (by kernel_rfl)) (fun _ _ _ h => h) (Or.inl ⟨by rfl, ?_⟩) hHeld ?_ ?_; rotate_left; (rintro w' ⟨s0, s1, s2, s3, s4, s5⟩; go_simp; with_reducible rfl); rotate_left; (simp only [Act.put, List.setIfInBounds_toArray, List.set_cons_zero, List.set_cons_succ, i64_w, i32_w]; rfl)
 refine take_ (i := 5) (N := some 10) (v := ?_) (a' := ?_) (bv 12 37) rfl rfl (take_ofW HT_.out HW_.out (by kernel_rfl)) (fun _ _ _ h => h) (Or.inl ⟨by rfl, ?_⟩) hHeld ?_ ?_; rotate_left; (rintro w' ⟨s0, s1, s2, s3, s4, s5⟩; go_simp; with_reducible rfl); rotate_left; (simp only [Act.put, List.setIfInBounds_toArray, List.set_cons_zero, List.set_cons_succ, i64_w, i32_w]; rfl)
 refine take_ (i := 7) (N := some 12) (v := ?_) (a' := ?_) (bv 12 165) rfl rfl (take_ofW HT_.out HW_.out (by kernel_rfl)) (fun _ _ _ h => h) (Or.inl ⟨by rfl, ?_⟩) hHeld ?_ ?_; rotate_left; (rintro w' ⟨s0, s1, s2, s3, s4, s5⟩; go_simp; with_reducible rfl); rotate_left; (simp only [Act.put, List.setIfInBounds_toArray, List.set_cons_zero, List.set_cons_succ, i64_w, i32_w]; rfl)
 refine one_ (i := 1) (N := some 6) (bv 12 167) rfl rfl (one_of HT_.out (by kernel_rfl)) (by decide) (fun K hK => ?_)
 refine goes_ Try.func59 (by kernel_rfl) rfl #[.agg #[.bool a0_0, .slice A0_1 l0_1.length c0_1, .slice A0_2 l0_2.length c0_2]] (by rfl) rfl rfl (by first | (go_simp; done) | (go_simp; rfl)) ?_
 with_reducible refine (examboardref03_top.calls k a0_0 _ _ l0_1 _ _ l0_2 t637 t638 _ ?side1 ?side2 ?side3 ?side4 A3.out).mono ?_
 (case side1 => repeat (first | exact (Kd.C_below HR0_1.out HB.out) | (with_reducible refine Kd.C_alloc ?_ _) | (with_reducible refine Kd.C_drewN ?_ _) | (with_reducible refine Kd.C_drew ?_)))
 (case side2 => exact HC0_1.out)
 (case side3 => repeat (first | exact (Kd.C_below HR0_2.out HB.out) | (with_reducible refine Kd.C_alloc ?_ _) | (with_reducible refine Kd.C_drewN ?_ _) | (with_reducible refine Kd.C_drew ?_)))
 (case side4 => exact HC0_2.out)
 rintro e w14 ⟨v639, rfl, ho0, hb⟩
 refine ⟨_, rfl, ?_⟩
 have HO640 := mk0 (Kd.R_lower ho0 (below_size (by repeat (first | exact HB.out | refine below_set ?_ GE634.out | refine below_set ?_ GE635.out | refine below_set ?_ GE636.out))))
 replace BK634 := bkB BK634 hb
 replace BK635 := bkB BK635 hb
 replace BK636 := bkB BK636 hb
 replace HB := mk0 (below_step (by repeat (first | exact HB.out | refine below_set ?_ GE634.out | refine below_set ?_ GE635.out | refine below_set ?_ GE636.out)) hb)
 refine hK.out _ _ ⟨(blk_cell BK634.out 0).trans rfl, (blk_cell BK634.out 1).trans rfl, (blk_cell BK634.out 2).trans rfl, (blk_cell BK635.out 0).trans rfl, (blk_cell BK635.out 1).trans rfl, (blk_cell BK635.out 2).trans rfl⟩ (fun hHeld => ?_)
 clear hK K
 refine norm_ (a' := ?_) ?_ ?_
 rotate_left
 ·show Act.put _ (some 6) _ = _
  simp only [Act.put, List.setIfInBounds_toArray, List.set_cons_zero, List.set_cons_succ, i64_w, i32_w]
  rfl
 refine one_ (i := 3) (N := some 8) (bv 12 175) rfl rfl (one_of HT_.out (by kernel_rfl)) (by decide) (fun K hK => ?_)
 refine goes_ Try.func59 (by kernel_rfl) rfl #[.agg #[.bool a1_0, .slice A1_1 l1_1.length c1_1, .slice A1_2 l1_2.length c1_2]] (by rfl) rfl rfl (by first | (go_simp; done) | (go_simp; rfl)) ?_
 with_reducible refine (examboardref03_top.calls k a1_0 _ _ l1_1 _ _ l1_2 t641 t642 _ ?side1 ?side2 ?side3 ?side4 A4.out).mono ?_
 (case side1 => repeat (first | exact (Kd.C_below HR1_1.out HB.out) | (with_reducible refine Kd.C_alloc ?_ _) | (with_reducible refine Kd.C_drewN ?_ _) | (with_reducible refine Kd.C_drew ?_)))
 (case side2 => exact HC1_1.out)
 (case side3 => repeat (first | exact (Kd.C_below HR1_2.out HB.out) | (with_reducible refine Kd.C_alloc ?_ _) | (with_reducible refine Kd.C_drewN ?_ _) | (with_reducible refine Kd.C_drew ?_)))
 (case side4 => exact HC1_2.out)
 rintro e w15 ⟨v643, rfl, ho0, hb⟩
 refine ⟨_, rfl, ?_⟩
 have HO644 := mk0 (Kd.R_lower (Kd.R_new' ho0 (Kd.R_lt HO640.out)) (below_size (by repeat (first | exact HB.out | refine below_set ?_ GE634.out | refine below_set ?_ GE635.out | refine below_set ?_ GE636.out))))
 replace HO640 := mk0 (Kd.R_elder' HO640.out (Kd.R_base ho0) hb)
 replace BK634 := bkB BK634 hb
 replace BK635 := bkB BK635 hb
 replace BK636 := bkB BK636 hb
 replace HB := mk0 (below_step (by repeat (first | exact HB.out | refine below_set ?_ GE634.out | refine below_set ?_ GE635.out | refine below_set ?_ GE636.out)) hb)
 obtain ⟨Ao16, co16, eo16⟩ := Kd.R_slice HO640.out
 (first | subst eo16 | (injection eo16 with f1_ f2_ f3_; have f4_ := f1_.symm; have f5_ := f3_.symm; clear f1_ f2_ f3_; subst f4_; subst f5_))
 obtain ⟨Ao17, co17, eo17⟩ := Kd.R_slice HO644.out
 (first | subst eo17 | (injection eo17 with f1_ f2_ f3_; have f4_ := f1_.symm; have f5_ := f3_.symm; clear f1_ f2_ f3_; subst f4_; subst f5_))
 refine hK.out _ _ ⟨(blk_cell BK634.out 0).trans rfl, (blk_cell BK634.out 1).trans rfl, (blk_cell BK634.out 2).trans rfl, (blk_cell BK635.out 0).trans rfl, (blk_cell BK635.out 1).trans rfl, (blk_cell BK635.out 2).trans rfl⟩ (fun hHeld => ?_)
 clear hK K
 refine norm_ (a' := ?_) ?_ ?_
 rotate_left
 ·show Act.put _ (some 8) _ = _
  simp only [Act.put, List.setIfInBounds_toArray, List.set_cons_zero, List.set_cons_succ, i64_w, i32_w]
  rfl
 refine one_ (i := 4) (N := some 9) (bv 12 191) rfl rfl (one_of HT_.out (by kernel_rfl)) (by decide) (fun K hK => ?_)
 refine goes_ Try.func58 (by kernel_rfl) rfl #[.agg #[.bool t637, .slice Ao16 t638.length co16], .agg #[.bool t641, .slice Ao17 t642.length co17]] (by rfl) rfl rfl (by first | (go_simp; done) | (go_simp; rfl)) ?_
 with_reducible refine (examboardref02_Mul.calls k t637 _ _ t638 t641 _ _ t642 t645 t646 _ ?side1 ?side2 ?side3 ?side4 A5.out).mono ?_
 (case side1 => repeat (first | exact (Kd.R_reads' HO640.out).2.2 | (with_reducible refine Kd.C_alloc ?_ _) | (with_reducible refine Kd.C_drewN ?_ _) | (with_reducible refine Kd.C_drew ?_)))
 (case side2 => exact (Kd.R_reads' HO640.out).2.1)
 (case side3 => repeat (first | exact (Kd.R_reads' HO644.out).2.2 | (with_reducible refine Kd.C_alloc ?_ _) | (with_reducible refine Kd.C_drewN ?_ _) | (with_reducible refine Kd.C_drew ?_)))
 (case side4 => exact (Kd.R_reads' HO644.out).2.1)
 rintro e w18 ⟨v647, rfl, ho0, hb⟩
 refine ⟨_, rfl, ?_⟩
 have HO648 := mk0 (Kd.R_lower (Kd.R_new' (Kd.R_new' ho0 (Kd.R_lt HO640.out)) (Kd.R_lt HO644.out)) (below_size (by repeat (first | exact HB.out | refine below_set ?_ GE634.out | refine below_set ?_ GE635.out | refine below_set ?_ GE636.out))))
 replace HO640 := mk0 (Kd.R_elder' HO640.out (Kd.R_base ho0) hb)
 replace HO644 := mk0 (Kd.R_elder' HO644.out (Kd.R_base ho0) hb)
 replace BK634 := bkB BK634 hb
 replace BK635 := bkB BK635 hb
 replace BK636 := bkB BK636 hb
 replace HB := mk0 (below_step (by repeat (first | exact HB.out | refine below_set ?_ GE634.out | refine below_set ?_ GE635.out | refine below_set ?_ GE636.out)) hb)
 refine hK.out _ _ ⟨(blk_cell BK634.out 0).trans rfl, (blk_cell BK634.out 1).trans rfl, (blk_cell BK634.out 2).trans rfl, (blk_cell BK635.out 0).trans rfl, (blk_cell BK635.out 1).trans rfl, (blk_cell BK635.out 2).trans rfl⟩ (fun hHeld => ?_)
 clear hK K
 refine norm_ (a' := ?_) ?_ ?_
 rotate_left
 ·show Act.put _ (some 9) _ = _
  simp only [Act.put, List.setIfInBounds_toArray, List.set_cons_zero, List.set_cons_succ, i64_w, i32_w]
  rfl
 refine one_ (i := 6) (N := some 11) (bv 12 255) rfl rfl (one_of HT_.out (by kernel_rfl)) (by decide) (fun K hK => ?_)
 refine goes_ Try.func61 (by kernel_rfl) rfl #[.agg #[.bool a0_0, .slice A0_1 l0_1.length c0_1, .slice A0_2 l0_2.length c0_2]] (by rfl) rfl rfl (by first | (go_simp; done) | (go_simp; rfl)) ?_
 with_reducible refine (examboardref03_low.calls k a0_0 _ _ l0_1 _ _ l0_2 t649 _ ?side1 ?side2 ?side3 ?side4 A6.out).mono ?_
 (case side1 => repeat (first | exact (Kd.C_below HR0_1.out HB.out) | (with_reducible refine Kd.C_alloc ?_ _) | (with_reducible refine Kd.C_drewN ?_ _) | (with_reducible refine Kd.C_drew ?_)))
 (case side2 => exact HC0_1.out)
 (case side3 => repeat (first | exact (Kd.C_below HR0_2.out HB.out) | (with_reducible refine Kd.C_alloc ?_ _) | (with_reducible refine Kd.C_drewN ?_ _) | (with_reducible refine Kd.C_drew ?_)))
 (case side4 => exact HC0_2.out)
 rintro e w19 ⟨v650, rfl, ho0, hb⟩
 refine ⟨_, rfl, ?_⟩
 have HO651 := mk0 (Kd.R_lower (Kd.R_new' (Kd.R_new' (Kd.R_new' ho0 (Kd.R_lt HO640.out)) (Kd.R_lt HO644.out)) (Kd.R_lt HO648.out)) (below_size (by repeat (first | exact HB.out | refine below_set ?_ GE634.out | refine below_set ?_ GE635.out | refine below_set ?_ GE636.out))))
 replace HO640 := mk0 (Kd.R_elder' HO640.out (Kd.R_base ho0) hb)
 replace HO644 := mk0 (Kd.R_elder' HO644.out (Kd.R_base ho0) hb)
 replace HO648 := mk0 (Kd.R_elder' HO648.out (Kd.R_base ho0) hb)
 replace BK634 := bkB BK634 hb
 replace BK635 := bkB BK635 hb
 replace BK636 := bkB BK636 hb
 replace HB := mk0 (below_step (by repeat (first | exact HB.out | refine below_set ?_ GE634.out | refine below_set ?_ GE635.out | refine below_set ?_ GE636.out)) hb)
 refine hK.out _ _ ⟨(blk_cell BK634.out 0).trans rfl, (blk_cell BK634.out 1).trans rfl, (blk_cell BK634.out 2).trans rfl, (blk_cell BK635.out 0).trans rfl, (blk_cell BK635.out 1).trans rfl, (blk_cell BK635.out 2).trans rfl⟩ (fun hHeld => ?_)
 clear hK K
 refine norm_ (a' := ?_) ?_ ?_
 rotate_left
 ·show Act.put _ (some 11) _ = _
  simp only [Act.put, List.setIfInBounds_toArray, List.set_cons_zero, List.set_cons_succ, i64_w, i32_w]
  rfl
 refine one_ (i := 8) (N := some 13) (bv 12 511) rfl rfl (one_of HT_.out (by kernel_rfl)) (by decide) (fun K hK => ?_)
 refine goes_ Try.func61 (by kernel_rfl) rfl #[.agg #[.bool a1_0, .slice A1_1 l1_1.length c1_1, .slice A1_2 l1_2.length c1_2]] (by rfl) rfl rfl (by first | (go_simp; done) | (go_simp; rfl)) ?_
 with_reducible refine (examboardref03_low.calls k a1_0 _ _ l1_1 _ _ l1_2 t652 _ ?side1 ?side2 ?side3 ?side4 A7.out).mono ?_
 (case side1 => repeat (first | exact (Kd.C_below HR1_1.out HB.out) | (with_reducible refine Kd.C_alloc ?_ _) | (with_reducible refine Kd.C_drewN ?_ _) | (with_reducible refine Kd.C_drew ?_)))
 (case side2 => exact HC1_1.out)
 (case side3 => repeat (first | exact (Kd.C_below HR1_2.out HB.out) | (with_reducible refine Kd.C_alloc ?_ _) | (with_reducible refine Kd.C_drewN ?_ _) | (with_reducible refine Kd.C_drew ?_)))
 (case side4 => exact HC1_2.out)
 rintro e w20 ⟨v653, rfl, ho0, hb⟩
 refine ⟨_, rfl, ?_⟩
 have HO654 := mk0 (Kd.R_lower (Kd.R_new' (Kd.R_new' (Kd.R_new' (Kd.R_new' ho0 (Kd.R_lt HO640.out)) (Kd.R_lt HO644.out)) (Kd.R_lt HO648.out)) (Kd.R_lt HO651.out)) (below_size (by repeat (first | exact HB.out | refine below_set ?_ GE634.out | refine below_set ?_ GE635.out | refine below_set ?_ GE636.out))))
 replace HO640 := mk0 (Kd.R_elder' HO640.out (Kd.R_base ho0) hb)
 replace HO644 := mk0 (Kd.R_elder' HO644.out (Kd.R_base ho0) hb)
 replace HO648 := mk0 (Kd.R_elder' HO648.out (Kd.R_base ho0) hb)
 replace HO651 := mk0 (Kd.R_elder' HO651.out (Kd.R_base ho0) hb)
 replace BK634 := bkB BK634 hb
 replace BK635 := bkB BK635 hb
 replace BK636 := bkB BK636 hb
 replace HB := mk0 (below_step (by repeat (first | exact HB.out | refine below_set ?_ GE634.out | refine below_set ?_ GE635.out | refine below_set ?_ GE636.out)) hb)
 obtain ⟨Ao21, co21, eo21⟩ := Kd.R_slice HO651.out
 (first | subst eo21 | (injection eo21 with f1_ f2_ f3_; have f4_ := f1_.symm; have f5_ := f3_.symm; clear f1_ f2_ f3_; subst f4_; subst f5_))
 obtain ⟨Ao22, co22, eo22⟩ := Kd.R_slice HO654.out
 (first | subst eo22 | (injection eo22 with f1_ f2_ f3_; have f4_ := f1_.symm; have f5_ := f3_.symm; clear f1_ f2_ f3_; subst f4_; subst f5_))
 refine hK.out _ _ ⟨(blk_cell BK634.out 0).trans rfl, (blk_cell BK634.out 1).trans rfl, (blk_cell BK634.out 2).trans rfl, (blk_cell BK635.out 0).trans rfl, (blk_cell BK635.out 1).trans rfl, (blk_cell BK635.out 2).trans rfl⟩ (fun hHeld => ?_)
 clear hK K
 refine norm_ (a' := ?_) ?_ ?_
 rotate_left
 ·show Act.put _ (some 13) _ = _
  simp only [Act.put, List.setIfInBounds_toArray, List.set_cons_zero, List.set_cons_succ, i64_w, i32_w]
  rfl
 refine one_ (i := 9) (N := some 14) (bv 12 1023) rfl rfl (one_of HT_.out (by kernel_rfl)) (by decide) (fun K hK => ?_)
 refine goes_ Try.func60 (by kernel_rfl) rfl #[.slice Ao21 t649.length co21, .slice Ao22 t652.length co22] (by rfl) rfl rfl (by first | (go_simp; done) | (go_simp; rfl)) ?_
 with_reducible refine (examboardref01_Mul.calls k _ _ t649 _ _ t652 t655 _ ?side1 ?side2 ?side3 ?side4 A8.out).mono ?_
 (case side1 => repeat (first | exact (Kd.R_reads' HO651.out).2.2 | (with_reducible refine Kd.C_alloc ?_ _) | (with_reducible refine Kd.C_drewN ?_ _) | (with_reducible refine Kd.C_drew ?_)))
 (case side2 => exact (Kd.R_reads' HO651.out).2.1)
 (case side3 => repeat (first | exact (Kd.R_reads' HO654.out).2.2 | (with_reducible refine Kd.C_alloc ?_ _) | (with_reducible refine Kd.C_drewN ?_ _) | (with_reducible refine Kd.C_drew ?_)))
 (case side4 => exact (Kd.R_reads' HO654.out).2.1)
 rintro e w23 ⟨v656, rfl, ho0, hb⟩
 refine ⟨_, rfl, ?_⟩
 have HO657 := mk0 (Kd.R_lower (Kd.R_new' (Kd.R_new' (Kd.R_new' (Kd.R_new' (Kd.R_new' ho0 (Kd.R_lt HO640.out)) (Kd.R_lt HO644.out)) (Kd.R_lt HO648.out)) (Kd.R_lt HO651.out)) (Kd.R_lt HO654.out)) (below_size (by repeat (first | exact HB.out | refine below_set ?_ GE634.out | refine below_set ?_ GE635.out | refine below_set ?_ GE636.out))))
 replace HO640 := mk0 (Kd.R_elder' HO640.out (Kd.R_base ho0) hb)
 replace HO644 := mk0 (Kd.R_elder' HO644.out (Kd.R_base ho0) hb)
 replace HO648 := mk0 (Kd.R_elder' HO648.out (Kd.R_base ho0) hb)
 replace HO651 := mk0 (Kd.R_elder' HO651.out (Kd.R_base ho0) hb)
 replace HO654 := mk0 (Kd.R_elder' HO654.out (Kd.R_base ho0) hb)
 replace BK634 := bkB BK634 hb
 replace BK635 := bkB BK635 hb
 replace BK636 := bkB BK636 hb
 replace HB := mk0 (below_step (by repeat (first | exact HB.out | refine below_set ?_ GE634.out | refine below_set ?_ GE635.out | refine below_set ?_ GE636.out)) hb)
 obtain ⟨Ao24, co24, eo24⟩ := Kd.R_slice HO648.out
 (first | subst eo24 | (injection eo24 with f1_ f2_ f3_; have f4_ := f1_.symm; have f5_ := f3_.symm; clear f1_ f2_ f3_; subst f4_; subst f5_))
 obtain ⟨Ao25, co25, eo25⟩ := Kd.R_slice HO657.out
 (first | subst eo25 | (injection eo25 with f1_ f2_ f3_; have f4_ := f1_.symm; have f5_ := f3_.symm; clear f1_ f2_ f3_; subst f4_; subst f5_))
 refine hK.out _ _ ⟨(blk_cell BK634.out 0).trans rfl, (blk_cell BK634.out 1).trans rfl, (blk_cell BK634.out 2).trans rfl, (blk_cell BK635.out 0).trans rfl, (blk_cell BK635.out 1).trans rfl, (blk_cell BK635.out 2).trans rfl⟩ (fun hHeld => ?_)
 clear hK K
 refine norm_ (a' := ?_) ?_ ?_
 rotate_left
 ·show Act.put _ (some 14) _ = _
  simp only [Act.put, List.setIfInBounds_toArray, List.set_cons_zero, List.set_cons_succ, i64_w, i32_w]
  rfl
 refine one_ (i := 10) (N := some 15) (bv 12 2047) rfl rfl (one_of HT_.out (by kernel_rfl)) (by decide) (fun K hK => ?_)
 refine goes_ Try.func57 (by kernel_rfl) rfl #[.agg #[.bool t645, .slice Ao24 t646.length co24], .slice Ao25 t655.length co25] (by rfl) rfl rfl (by first | (go_simp; done) | (go_simp; rfl)) ?_
 with_reducible refine (examboardref03_reduce.calls k t645 _ _ t646 _ _ t655 t658 t659 t662 _ ?side1 ?side2 ?side3 ?side4 A9.out).mono ?_
 (case side1 => repeat (first | exact (Kd.R_reads' HO648.out).2.2 | (with_reducible refine Kd.C_alloc ?_ _) | (with_reducible refine Kd.C_drewN ?_ _) | (with_reducible refine Kd.C_drew ?_)))
 (case side2 => exact (Kd.R_reads' HO648.out).2.1)
 (case side3 => repeat (first | exact (Kd.R_reads' HO657.out).2.2 | (with_reducible refine Kd.C_alloc ?_ _) | (with_reducible refine Kd.C_drewN ?_ _) | (with_reducible refine Kd.C_drew ?_)))
 (case side4 => exact (Kd.R_reads' HO657.out).2.1)
 rintro e w26 ⟨v660, v663, rfl, ho0, ho1, hb⟩
 refine ⟨_, rfl, ?_⟩
 have HO661 := mk0 (Kd.R_lower (Kd.R_new' (Kd.R_new' (Kd.R_new' (Kd.R_new' (Kd.R_new' (Kd.R_new' ho0 (Kd.R_lt HO640.out)) (Kd.R_lt HO644.out)) (Kd.R_lt HO648.out)) (Kd.R_lt HO651.out)) (Kd.R_lt HO654.out)) (Kd.R_lt HO657.out)) (below_size (by repeat (first | exact HB.out | refine below_set ?_ GE634.out | refine below_set ?_ GE635.out | refine below_set ?_ GE636.out))))
 have HO664 := mk0 (Kd.R_lower (Kd.R_new' (Kd.R_new' (Kd.R_new' (Kd.R_new' (Kd.R_new' (Kd.R_new' ho1 (Kd.R_lt HO640.out)) (Kd.R_lt HO644.out)) (Kd.R_lt HO648.out)) (Kd.R_lt HO651.out)) (Kd.R_lt HO654.out)) (Kd.R_lt HO657.out)) (below_size (by repeat (first | exact HB.out | refine below_set ?_ GE634.out | refine below_set ?_ GE635.out | refine below_set ?_ GE636.out))))
 replace HO640 := mk0 (Kd.R_mono (Kd.R_told (Kd.R_told (Kd.R_old HO640.out hb) (Kd.R_base ho0)) (Kd.R_base ho1)) (fun _ h_ => h_.1))
 replace HO644 := mk0 (Kd.R_mono (Kd.R_told (Kd.R_told (Kd.R_old HO644.out hb) (Kd.R_base ho0)) (Kd.R_base ho1)) (fun _ h_ => h_.1))
 replace HO648 := mk0 (Kd.R_mono (Kd.R_told (Kd.R_told (Kd.R_old HO648.out hb) (Kd.R_base ho0)) (Kd.R_base ho1)) (fun _ h_ => h_.1))
 replace HO651 := mk0 (Kd.R_mono (Kd.R_told (Kd.R_told (Kd.R_old HO651.out hb) (Kd.R_base ho0)) (Kd.R_base ho1)) (fun _ h_ => h_.1))
 replace HO654 := mk0 (Kd.R_mono (Kd.R_told (Kd.R_told (Kd.R_old HO654.out hb) (Kd.R_base ho0)) (Kd.R_base ho1)) (fun _ h_ => h_.1))
 replace HO657 := mk0 (Kd.R_mono (Kd.R_told (Kd.R_told (Kd.R_old HO657.out hb) (Kd.R_base ho0)) (Kd.R_base ho1)) (fun _ h_ => h_.1))
 replace BK634 := bkB BK634 hb
 replace BK635 := bkB BK635 hb
 replace BK636 := bkB BK636 hb
 replace HB := mk0 (below_step (by repeat (first | exact HB.out | refine below_set ?_ GE634.out | refine below_set ?_ GE635.out | refine below_set ?_ GE636.out)) hb)
 obtain ⟨Ao28, co28, eo28⟩ := Kd.R_slice HO661.out
 (first | subst eo28 | (injection eo28 with f1_ f2_ f3_; have f4_ := f1_.symm; have f5_ := f3_.symm; clear f1_ f2_ f3_; subst f4_; subst f5_))
 obtain ⟨Ao30, co30, eo30⟩ := Kd.R_slice HO664.out
 (first | subst eo30 | (injection eo30 with f1_ f2_ f3_; have f4_ := f1_.symm; have f5_ := f3_.symm; clear f1_ f2_ f3_; subst f4_; subst f5_))
 refine hK.out _ _ ⟨(blk_cell BK634.out 0).trans rfl, (blk_cell BK634.out 1).trans rfl, (blk_cell BK634.out 2).trans rfl, (blk_cell BK635.out 0).trans rfl, (blk_cell BK635.out 1).trans rfl, (blk_cell BK635.out 2).trans rfl⟩ (fun hHeld => ?_)
 clear hK K
 refine norm_ (a' := ?_) ?_ ?_
 rotate_left
 ·show Act.put _ (some 15) _ = _
  simp only [Act.put, List.setIfInBounds_toArray, List.set_cons_zero, List.set_cons_succ, i64_w, i32_w]
  rfl
 refine one_ (i := 11) (N := none) (bv 12 4095) rfl rfl (one_of HT_.out (by kernel_rfl)) (by decide) (fun K hK => ?_)
 have hs27 : w26.cell? ⟨gb636, 0, none⟩ = some (.bool false) := (blk_cell BK636.out 0).trans rfl
 have hfs27 := blk_frozen BK636.out 0
 have hns27_0 := NB634_636.out
 have hns27_1 := NB635_636.out
 have hms27_0 := NB636_634.out
 have hms27_1 := NB636_635.out
 have hs29 : w26.cell? ⟨gb636, 1, none⟩ = some (.slice none 0 0) := (blk_cell BK636.out 1).trans rfl
 have hfs29 := blk_frozen BK636.out 1
 have hns29_0 := NB634_636.out
 have hns29_1 := NB635_636.out
 have hms29_0 := NB636_634.out
 have hms29_1 := NB636_635.out
 have hs31 : w26.cell? ⟨gb636, 2, none⟩ = some (.slice none 0 0) := (blk_cell BK636.out 2).trans rfl
 have hfs31 := blk_frozen BK636.out 2
 have hns31_0 := NB634_636.out
 have hns31_1 := NB635_636.out
 have hms31_0 := NB636_634.out
 have hms31_1 := NB636_635.out
 refine skip_ (w1 := ?_) (by rfl) rfl ?_ ?_
 rotate_left
 ·go_simp
  rfl
 refine hK.out _ _ ⟨((cell_far (p := ⟨gb636, _, none⟩) NB634_636.out _).trans (((cell_far (p := ⟨gb636, _, none⟩) NB634_636.out _).trans (((cell_far (p := ⟨gb636, _, none⟩) NB634_636.out _).trans (hHeld.1)))))), ((cell_far (p := ⟨gb636, _, none⟩) NB634_636.out _).trans (((cell_far (p := ⟨gb636, _, none⟩) NB634_636.out _).trans (((cell_far (p := ⟨gb636, _, none⟩) NB634_636.out _).trans (hHeld.2.1)))))), ((cell_far (p := ⟨gb636, _, none⟩) NB634_636.out _).trans (((cell_far (p := ⟨gb636, _, none⟩) NB634_636.out _).trans (((cell_far (p := ⟨gb636, _, none⟩) NB634_636.out _).trans (hHeld.2.2.1)))))), ((cell_far (p := ⟨gb636, _, none⟩) NB635_636.out _).trans (((cell_far (p := ⟨gb636, _, none⟩) NB635_636.out _).trans (((cell_far (p := ⟨gb636, _, none⟩) NB635_636.out _).trans (hHeld.2.2.2.1)))))), ((cell_far (p := ⟨gb636, _, none⟩) NB635_636.out _).trans (((cell_far (p := ⟨gb636, _, none⟩) NB635_636.out _).trans (((cell_far (p := ⟨gb636, _, none⟩) NB635_636.out _).trans (hHeld.2.2.2.2.1)))))), ((cell_far (p := ⟨gb636, _, none⟩) NB635_636.out _).trans (((cell_far (p := ⟨gb636, _, none⟩) NB635_636.out _).trans (((cell_far (p := ⟨gb636, _, none⟩) NB635_636.out _).trans (hHeld.2.2.2.2.2))))))⟩ (fun hHeld => ?_)
 clear hK K
 refine done_ (done_of HT_.out (by kernel_rfl)) ?_
 try go_wp2
 refine bodyPost_ret (results_cell_row rfl _ _ gb636 29 #[.bool t658, .slice Ao28 t659.length co28, .slice Ao30 t662.length co30] (0, 0) _ rfl (by refine blk_put (cs := #[.bool t658, .slice Ao28 t659.length co28, .slice none 0 0]) ?_ 2 _ rfl; refine blk_put (cs := #[.bool t658, .slice none 0 0, .slice none 0 0]) ?_ 1 _ rfl; refine blk_put (cs := #[.bool false, .slice none 0 0, .slice none 0 0]) ?_ 0 _ rfl; exact BK636.out) Try.underlying29 rfl (by kernel_rfl)) rfl ?_
 exact ⟨_, _, by first | rfl | (simp [errW_none, errW_some] <;> rfl) | (simp [*, errW_none, errW_some] <;> rfl), Kd.R_mono (Kd.R_far (p := ⟨gb636, 2, none⟩) (Kd.R_far (p := ⟨gb636, 1, none⟩) (Kd.R_far (p := ⟨gb636, 0, none⟩) (Kd.R_types HO661.out BK636.out (by decide)) (fun _ hk => hk.2) (.bool t658)) (fun _ hk => hk.2) (.slice Ao28 t659.length co28)) (fun _ hk => hk.2) (.slice Ao30 t662.length co30)) (fun _ hk => hk.1.1.1.1.1.1.1), Kd.R_mono (Kd.R_far (p := ⟨gb636, 2, none⟩) (Kd.R_far (p := ⟨gb636, 1, none⟩) (Kd.R_far (p := ⟨gb636, 0, none⟩) (Kd.R_types HO664.out BK636.out (by decide)) (fun _ hk => hk.2) (.bool t658)) (fun _ hk => hk.2) (.slice Ao28 t659.length co28)) (fun _ hk => hk.2) (.slice Ao30 t662.length co30)) (fun _ hk => hk.1.1.1.1.1.1.1), by repeat (first | exact HB.out | refine below_set ?_ GE634.out | refine below_set ?_ GE635.out | refine below_set ?_ GE636.out)⟩
set_option maxHeartbeats 8000000 in
set_option maxRecDepth 100000 in
theorem examboardref02_Sign.calls (k : Nat) (a0_0 : Bool) (A0_1 : Option Addr) (c0_1 : Nat) (l0_1 : List Int) (r : Int) (w : World) (hr0_1 : Kd.C (Kd.int .u32) w A0_1 l0_1.length l0_1) (hc0_1 : l0_1.length ≤ c0_1) (h : examboardref02_Sign.f k a0_0 l0_1 = some r) :
  Calls Try.prog 91 #[.agg #[.bool a0_0, .slice A0_1 l0_1.length c0_1]] w fun e w' => e = .returned (.int .i64 r) ∧ Below w.heap.size w w' := by
 have hu27 := Try.underlying27
 have HR0_1 := mk0 hr0_1
 have HC0_1 := mk0 hc0_1
 clear hr0_1 hc0_1
 have HB := mk0 (Below.refl w.heap.size w)
 have H : ((examboardref02_Norm.f k a0_0 l0_1).bind fun bt666 => (if (bt666.2.length : Int) = 0 then (some 0) else (if bt666.1 = true then (some (-1)) else (some 1)))) = some r := h
 clear h
 obtain ⟨⟨t666, t667⟩, A2, H⟩ := bindA H
 by_cases c3 : (t667.length : Int) = 0
 ·rw [if_pos c3] at H
  have c3b0 : ((t667.length : Int) == 0) = true := beq_iff_eq.mpr c3
  have c3b1 : ((t667.length : Int) != 0) = false := bne_eq_false_iff_eq.mpr c3
  clear c3
  obtain rfl := Option.some.inj H
  go_enter Try.func91, Try.ntmps91
  go_wp2_with (first | ((with_reducible refine gate_dst (N := 1) rfl ?_); refine box_event rfl (N := 1) rfl (cs := #[.bool a0_0, .slice A0_1 l0_1.length c0_1]) (t := 27) (by first | (go_simp; done) | (go_simp; rfl)) ?_; intro gb665 hg w4 hbox hb; have BK665 := mk0 (hbox); have GE665 := geB hg HB; replace HB := hbS HB hb; clear hb hbox hg; have hcz5_0 : w4.cell? ⟨gb665, 0, none⟩ = some (.bool a0_0) := (blk_cell BK665.out 0).trans rfl; have hcz5_1 : w4.cell? ⟨gb665, 1, none⟩ = some (.slice A0_1 l0_1.length c0_1) := (blk_cell BK665.out 1).trans rfl; have hfz5_0 := blk_frozen BK665.out 0; have hfz5_1 := blk_frozen BK665.out 1) | ((with_reducible refine gate_callee (f := 84) rfl ?_); refine goesL_ (some 5) rfl rfl Try.func84 (by kernel_rfl) rfl #[.agg #[.bool a0_0, .slice A0_1 l0_1.length c0_1]] rfl (by first | (go_simp; done) | (go_simp; rfl)) ?_; (with_reducible refine (examboardref02_Norm.calls k a0_0 _ _ l0_1 t666 t667 _ (by exact Kd.C_below HR0_1.out HB.out) HC0_1.out A2.out).mono ?_); rintro e w6 ⟨v668, rfl, ho0, hb⟩; refine ⟨_, rfl, ?_⟩; have HO669 := mk0 (Kd.R_lower ho0 (below_size HB.out)); replace BK665 := bkB BK665 hb; replace HB := hbS HB hb) | ((with_reducible refine gate_dst (N := 3) rfl ?_); refine box_event rfl (N := 3) rfl (cs := #[.bool false, .slice none 0 0]) (t := 27) (by first | (go_simp; done) | (go_simp; rfl)) ?_; intro gb670 hg w7 hbox hb; replace HO669 := rB HO669 hb; have BK670 := mk0 (hbox); have GE670 := geB hg HB; replace HB := hbS HB hb; have NB665_670 := nbA hg BK665; have NB670_665 := nbB hg BK665; replace BK665 := bkB BK665 hb; clear hb hbox hg; have hnb8 := NB670_665.out; have hnc8 := NB665_670.out; have hcz9_0 : w7.cell? ⟨gb670, 0, none⟩ = some (.bool false) := (blk_cell BK670.out 0).trans rfl; have hcz9_1 : w7.cell? ⟨gb670, 1, none⟩ = some (.slice none 0 0) := (blk_cell BK670.out 1).trans rfl; have hfz9_0 := blk_frozen BK670.out 0; have hfz9_1 := blk_frozen BK670.out 1; obtain ⟨Ao10, co10, eo10⟩ := Kd.R_slice HO669.out; subst eo10))
  go_ret
  exact ⟨by first | rfl | (simp [errW_none, errW_some] <;> rfl) | (simp [*, errW_none, errW_some] <;> rfl), by repeat (first | exact HB.out | refine below_set ?_ GE665.out | refine below_set ?_ GE670.out)⟩
 ·rw [if_neg c3] at H
  have c3b0 : ((t667.length : Int) == 0) = false := beq_eq_false_iff_ne.mpr c3
  have c3b1 : ((t667.length : Int) != 0) = true := bne_iff_ne.mpr c3
  have c3b2 : ¬ (t667 = []) := fun h_ => c3 (by rw [h_]; rfl)
  by_cases c11 : t666 = true
  ·subst c11
   have H1 : (some (-1)) = some r := by rw [if_pos rfl] at H; exact H
   clear H
   have H := H1
   clear H1
   obtain rfl := Option.some.inj H
   go_enter Try.func91, Try.ntmps91
   go_wp2_with (first | ((with_reducible refine gate_dst (N := 1) rfl ?_); refine box_event rfl (N := 1) rfl (cs := #[.bool a0_0, .slice A0_1 l0_1.length c0_1]) (t := 27) (by first | (go_simp; done) | (go_simp; rfl)) ?_; intro gb665 hg w12 hbox hb; have BK665 := mk0 (hbox); have GE665 := geB hg HB; replace HB := hbS HB hb; clear hb hbox hg; have hcz13_0 : w12.cell? ⟨gb665, 0, none⟩ = some (.bool a0_0) := (blk_cell BK665.out 0).trans rfl; have hcz13_1 : w12.cell? ⟨gb665, 1, none⟩ = some (.slice A0_1 l0_1.length c0_1) := (blk_cell BK665.out 1).trans rfl; have hfz13_0 := blk_frozen BK665.out 0; have hfz13_1 := blk_frozen BK665.out 1) | ((with_reducible refine gate_callee (f := 84) rfl ?_); refine goesL_ (some 5) rfl rfl Try.func84 (by kernel_rfl) rfl #[.agg #[.bool a0_0, .slice A0_1 l0_1.length c0_1]] rfl (by first | (go_simp; done) | (go_simp; rfl)) ?_; (with_reducible refine (examboardref02_Norm.calls k a0_0 _ _ l0_1 true t667 _ (by exact Kd.C_below HR0_1.out HB.out) HC0_1.out A2.out).mono ?_); rintro e w14 ⟨v668, rfl, ho0, hb⟩; refine ⟨_, rfl, ?_⟩; have HO669 := mk0 (Kd.R_lower ho0 (below_size HB.out)); replace BK665 := bkB BK665 hb; replace HB := hbS HB hb) | ((with_reducible refine gate_dst (N := 3) rfl ?_); refine box_event rfl (N := 3) rfl (cs := #[.bool false, .slice none 0 0]) (t := 27) (by first | (go_simp; done) | (go_simp; rfl)) ?_; intro gb670 hg w15 hbox hb; replace HO669 := rB HO669 hb; have BK670 := mk0 (hbox); have GE670 := geB hg HB; replace HB := hbS HB hb; have NB665_670 := nbA hg BK665; have NB670_665 := nbB hg BK665; replace BK665 := bkB BK665 hb; clear hb hbox hg; have hnb16 := NB670_665.out; have hnc16 := NB665_670.out; have hcz17_0 : w15.cell? ⟨gb670, 0, none⟩ = some (.bool false) := (blk_cell BK670.out 0).trans rfl; have hcz17_1 : w15.cell? ⟨gb670, 1, none⟩ = some (.slice none 0 0) := (blk_cell BK670.out 1).trans rfl; have hfz17_0 := blk_frozen BK670.out 0; have hfz17_1 := blk_frozen BK670.out 1; obtain ⟨Ao18, co18, eo18⟩ := Kd.R_slice HO669.out; subst eo18))
   go_ret
   exact ⟨by first | rfl | (simp [errW_none, errW_some] <;> rfl) | (simp [*, errW_none, errW_some] <;> rfl), by repeat (first | exact HB.out | refine below_set ?_ GE665.out | refine below_set ?_ GE670.out)⟩
  ·replace c11 := Bool.eq_false_iff.mpr c11
   subst c11
   have H1 : (some 1) = some r := by rw [if_neg (show ¬ (false = true) by decide)] at H; exact H
   clear H
   have H := H1
   clear H1
   obtain rfl := Option.some.inj H
   go_enter Try.func91, Try.ntmps91
   go_wp2_with (first | ((with_reducible refine gate_dst (N := 1) rfl ?_); refine box_event rfl (N := 1) rfl (cs := #[.bool a0_0, .slice A0_1 l0_1.length c0_1]) (t := 27) (by first | (go_simp; done) | (go_simp; rfl)) ?_; intro gb665 hg w19 hbox hb; have BK665 := mk0 (hbox); have GE665 := geB hg HB; replace HB := hbS HB hb; clear hb hbox hg; have hcz20_0 : w19.cell? ⟨gb665, 0, none⟩ = some (.bool a0_0) := (blk_cell BK665.out 0).trans rfl; have hcz20_1 : w19.cell? ⟨gb665, 1, none⟩ = some (.slice A0_1 l0_1.length c0_1) := (blk_cell BK665.out 1).trans rfl; have hfz20_0 := blk_frozen BK665.out 0; have hfz20_1 := blk_frozen BK665.out 1) | ((with_reducible refine gate_callee (f := 84) rfl ?_); refine goesL_ (some 5) rfl rfl Try.func84 (by kernel_rfl) rfl #[.agg #[.bool a0_0, .slice A0_1 l0_1.length c0_1]] rfl (by first | (go_simp; done) | (go_simp; rfl)) ?_; (with_reducible refine (examboardref02_Norm.calls k a0_0 _ _ l0_1 false t667 _ (by exact Kd.C_below HR0_1.out HB.out) HC0_1.out A2.out).mono ?_); rintro e w21 ⟨v668, rfl, ho0, hb⟩; refine ⟨_, rfl, ?_⟩; have HO669 := mk0 (Kd.R_lower ho0 (below_size HB.out)); replace BK665 := bkB BK665 hb; replace HB := hbS HB hb) | ((with_reducible refine gate_dst (N := 3) rfl ?_); refine box_event rfl (N := 3) rfl (cs := #[.bool false, .slice none 0 0]) (t := 27) (by first | (go_simp; done) | (go_simp; rfl)) ?_; intro gb670 hg w22 hbox hb; replace HO669 := rB HO669 hb; have BK670 := mk0 (hbox); have GE670 := geB hg HB; replace HB := hbS HB hb; have NB665_670 := nbA hg BK665; have NB670_665 := nbB hg BK665; replace BK665 := bkB BK665 hb; clear hb hbox hg; have hnb23 := NB670_665.out; have hnc23 := NB665_670.out; have hcz24_0 : w22.cell? ⟨gb670, 0, none⟩ = some (.bool false) := (blk_cell BK670.out 0).trans rfl; have hcz24_1 : w22.cell? ⟨gb670, 1, none⟩ = some (.slice none 0 0) := (blk_cell BK670.out 1).trans rfl; have hfz24_0 := blk_frozen BK670.out 0; have hfz24_1 := blk_frozen BK670.out 1; obtain ⟨Ao25, co25, eo25⟩ := Kd.R_slice HO669.out; subst eo25))
   go_ret
   exact ⟨by first | rfl | (simp [errW_none, errW_some] <;> rfl) | (simp [*, errW_none, errW_some] <;> rfl), by repeat (first | exact HB.out | refine below_set ?_ GE665.out | refine below_set ?_ GE670.out)⟩
set_option maxHeartbeats 8000000 in
set_option maxRecDepth 100000 in
theorem examboardref02_Cmp.calls (k : Nat) (a0_0 : Bool) (A0_1 : Option Addr) (c0_1 : Nat) (l0_1 : List Int) (a1_0 : Bool) (A1_1 : Option Addr) (c1_1 : Nat) (l1_1 : List Int) (r : Int) (w : World) (hr0_1 : Kd.C (Kd.int .u32) w A0_1 l0_1.length l0_1) (hc0_1 : l0_1.length ≤ c0_1) (hr1_1 : Kd.C (Kd.int .u32) w A1_1 l1_1.length l1_1) (hc1_1 : l1_1.length ≤ c1_1) (h : examboardref02_Cmp.f k a0_0 l0_1 a1_0 l1_1 = some r) :
  Calls Try.prog 63 #[.agg #[.bool a0_0, .slice A0_1 l0_1.length c0_1], .agg #[.bool a1_0, .slice A1_1 l1_1.length c1_1]] w fun e w' => e = .returned (.int .i64 r) ∧ Below w.heap.size w w' := by
 have hu27 := Try.underlying27
 have HR0_1 := mk0 hr0_1
 have HC0_1 := mk0 hc0_1
 clear hr0_1 hc0_1
 have HR1_1 := mk0 hr1_1
 have HC1_1 := mk0 hc1_1
 clear hr1_1 hc1_1
 have HB := mk0 (Below.refl w.heap.size w)
 have H : ((examboardref02_Sign.f k a0_0 l0_1).bind fun t673 => ((examboardref02_Sign.f k a1_0 l1_1).bind fun t674 => (if t673 < t674 then (some (-1)) else (if t673 > t674 then (some 1) else (if t673 < 0 then ((examboardref01_Cmp.f k l1_1 l0_1).bind fun t675 => (some t675)) else ((examboardref01_Cmp.f k l0_1 l1_1).bind fun t676 => (some t676))))))) = some r := h
 clear h
 obtain ⟨t673, A3, H⟩ := bindA H
 obtain ⟨t674, A4, H⟩ := bindA H
 by_cases c5 : t673 < t674
 ·rw [if_pos c5] at H
  have c5b0 : decide (t673 < t674) = true := decide_eq_true c5
  clear c5
  obtain rfl := Option.some.inj H
  go_enter Try.func63, Try.ntmps63
  go_wp2_with (first | ((with_reducible refine gate_dst (N := 2) rfl ?_); refine box_event rfl (N := 2) rfl (cs := #[.bool a0_0, .slice A0_1 l0_1.length c0_1]) (t := 27) (by first | (go_simp; done) | (go_simp; rfl)) ?_; intro gb671 hg w6 hbox hb; have BK671 := mk0 (hbox); have GE671 := geB hg HB; replace HB := hbS HB hb; clear hb hbox hg) | ((with_reducible refine gate_dst (N := 3) rfl ?_); refine box_event rfl (N := 3) rfl (cs := #[.bool a1_0, .slice A1_1 l1_1.length c1_1]) (t := 27) (by first | (go_simp; done) | (go_simp; rfl)) ?_; intro gb672 hg w7 hbox hb; have BK672 := mk0 (hbox); have GE672 := geB hg HB; replace HB := hbS HB hb; have NB671_672 := nbA hg BK671; have NB672_671 := nbB hg BK671; replace BK671 := bkB BK671 hb; clear hb hbox hg; have hnb8 := NB671_672.out; have hnc8 := NB672_671.out; have hcz9_0 : w7.cell? ⟨gb671, 0, none⟩ = some (.bool a0_0) := (blk_cell BK671.out 0).trans rfl; have hcz9_1 : w7.cell? ⟨gb671, 1, none⟩ = some (.slice A0_1 l0_1.length c0_1) := (blk_cell BK671.out 1).trans rfl; have hfz9_0 := blk_frozen BK671.out 0; have hfz9_1 := blk_frozen BK671.out 1) | ((with_reducible refine gate_callee (f := 91) rfl ?_); refine goesL_ (some 8) rfl rfl Try.func91 (by kernel_rfl) rfl #[.agg #[.bool a0_0, .slice A0_1 l0_1.length c0_1]] rfl (by first | (go_simp; done) | (go_simp; rfl)) ?_; (with_reducible refine (examboardref02_Sign.calls k a0_0 _ _ l0_1 t673 _ (by exact Kd.C_below HR0_1.out HB.out) HC0_1.out A3.out).mono ?_); rintro e w10 ⟨rfl, hb⟩; refine ⟨_, rfl, ?_⟩; replace BK671 := bkB BK671 hb; replace BK672 := bkB BK672 hb; replace HB := hbS HB hb; have hcz11_0 : w10.cell? ⟨gb672, 0, none⟩ = some (.bool a1_0) := (blk_cell BK672.out 0).trans rfl; have hcz11_1 : w10.cell? ⟨gb672, 1, none⟩ = some (.slice A1_1 l1_1.length c1_1) := (blk_cell BK672.out 1).trans rfl; have hfz11_0 := blk_frozen BK672.out 0; have hfz11_1 := blk_frozen BK672.out 1) | ((with_reducible refine gate_callee (f := 91) rfl ?_); refine goesL_ (some 10) rfl rfl Try.func91 (by kernel_rfl) rfl #[.agg #[.bool a1_0, .slice A1_1 l1_1.length c1_1]] rfl (by first | (go_simp; done) | (go_simp; rfl)) ?_; (with_reducible refine (examboardref02_Sign.calls k a1_0 _ _ l1_1 t674 _ (by exact Kd.C_below HR1_1.out HB.out) HC1_1.out A4.out).mono ?_); rintro e w12 ⟨rfl, hb⟩; refine ⟨_, rfl, ?_⟩; replace BK671 := bkB BK671 hb; replace BK672 := bkB BK672 hb; replace HB := hbS HB hb))
  go_ret
  exact ⟨by first | rfl | (simp [errW_none, errW_some] <;> rfl) | (simp [*, errW_none, errW_some] <;> rfl), by repeat (first | exact HB.out | refine below_set ?_ GE671.out | refine below_set ?_ GE672.out)⟩
 ·rw [if_neg c5] at H
  have c5b0 : decide (t673 < t674) = false := decide_eq_false c5
  clear c5
  by_cases c13 : t673 > t674
  ·rw [if_pos c13] at H
   have c13b0 : decide (t674 < t673) = true := decide_eq_true c13
   clear c13
   obtain rfl := Option.some.inj H
   go_enter Try.func63, Try.ntmps63
   go_wp2_with (first | ((with_reducible refine gate_dst (N := 2) rfl ?_); refine box_event rfl (N := 2) rfl (cs := #[.bool a0_0, .slice A0_1 l0_1.length c0_1]) (t := 27) (by first | (go_simp; done) | (go_simp; rfl)) ?_; intro gb671 hg w14 hbox hb; have BK671 := mk0 (hbox); have GE671 := geB hg HB; replace HB := hbS HB hb; clear hb hbox hg) | ((with_reducible refine gate_dst (N := 3) rfl ?_); refine box_event rfl (N := 3) rfl (cs := #[.bool a1_0, .slice A1_1 l1_1.length c1_1]) (t := 27) (by first | (go_simp; done) | (go_simp; rfl)) ?_; intro gb672 hg w15 hbox hb; have BK672 := mk0 (hbox); have GE672 := geB hg HB; replace HB := hbS HB hb; have NB671_672 := nbA hg BK671; have NB672_671 := nbB hg BK671; replace BK671 := bkB BK671 hb; clear hb hbox hg; have hnb16 := NB671_672.out; have hnc16 := NB672_671.out; have hcz17_0 : w15.cell? ⟨gb671, 0, none⟩ = some (.bool a0_0) := (blk_cell BK671.out 0).trans rfl; have hcz17_1 : w15.cell? ⟨gb671, 1, none⟩ = some (.slice A0_1 l0_1.length c0_1) := (blk_cell BK671.out 1).trans rfl; have hfz17_0 := blk_frozen BK671.out 0; have hfz17_1 := blk_frozen BK671.out 1) | ((with_reducible refine gate_callee (f := 91) rfl ?_); refine goesL_ (some 8) rfl rfl Try.func91 (by kernel_rfl) rfl #[.agg #[.bool a0_0, .slice A0_1 l0_1.length c0_1]] rfl (by first | (go_simp; done) | (go_simp; rfl)) ?_; (with_reducible refine (examboardref02_Sign.calls k a0_0 _ _ l0_1 t673 _ (by exact Kd.C_below HR0_1.out HB.out) HC0_1.out A3.out).mono ?_); rintro e w18 ⟨rfl, hb⟩; refine ⟨_, rfl, ?_⟩; replace BK671 := bkB BK671 hb; replace BK672 := bkB BK672 hb; replace HB := hbS HB hb; have hcz19_0 : w18.cell? ⟨gb672, 0, none⟩ = some (.bool a1_0) := (blk_cell BK672.out 0).trans rfl; have hcz19_1 : w18.cell? ⟨gb672, 1, none⟩ = some (.slice A1_1 l1_1.length c1_1) := (blk_cell BK672.out 1).trans rfl; have hfz19_0 := blk_frozen BK672.out 0; have hfz19_1 := blk_frozen BK672.out 1) | ((with_reducible refine gate_callee (f := 91) rfl ?_); refine goesL_ (some 10) rfl rfl Try.func91 (by kernel_rfl) rfl #[.agg #[.bool a1_0, .slice A1_1 l1_1.length c1_1]] rfl (by first | (go_simp; done) | (go_simp; rfl)) ?_; (with_reducible refine (examboardref02_Sign.calls k a1_0 _ _ l1_1 t674 _ (by exact Kd.C_below HR1_1.out HB.out) HC1_1.out A4.out).mono ?_); rintro e w20 ⟨rfl, hb⟩; refine ⟨_, rfl, ?_⟩; replace BK671 := bkB BK671 hb; replace BK672 := bkB BK672 hb; replace HB := hbS HB hb))
   go_ret
   exact ⟨by first | rfl | (simp [errW_none, errW_some] <;> rfl) | (simp [*, errW_none, errW_some] <;> rfl), by repeat (first | exact HB.out | refine below_set ?_ GE671.out | refine below_set ?_ GE672.out)⟩
  ·rw [if_neg c13] at H
   have c13b0 : decide (t674 < t673) = false := decide_eq_false c13
   clear c13
   by_cases c21 : t673 < 0
   ·rw [if_pos c21] at H
    have c21b0 : decide (t673 < 0) = true := decide_eq_true c21
    clear c21
    obtain ⟨t675, A22, H⟩ := bindA H
    obtain rfl := Option.some.inj H
    go_enter Try.func63, Try.ntmps63
    go_wp2_with (first | ((with_reducible refine gate_dst (N := 2) rfl ?_); refine box_event rfl (N := 2) rfl (cs := #[.bool a0_0, .slice A0_1 l0_1.length c0_1]) (t := 27) (by first | (go_simp; done) | (go_simp; rfl)) ?_; intro gb671 hg w23 hbox hb; have BK671 := mk0 (hbox); have GE671 := geB hg HB; replace HB := hbS HB hb; clear hb hbox hg) | ((with_reducible refine gate_dst (N := 3) rfl ?_); refine box_event rfl (N := 3) rfl (cs := #[.bool a1_0, .slice A1_1 l1_1.length c1_1]) (t := 27) (by first | (go_simp; done) | (go_simp; rfl)) ?_; intro gb672 hg w24 hbox hb; have BK672 := mk0 (hbox); have GE672 := geB hg HB; replace HB := hbS HB hb; have NB671_672 := nbA hg BK671; have NB672_671 := nbB hg BK671; replace BK671 := bkB BK671 hb; clear hb hbox hg; have hnb25 := NB671_672.out; have hnc25 := NB672_671.out; have hcz26_0 : w24.cell? ⟨gb671, 0, none⟩ = some (.bool a0_0) := (blk_cell BK671.out 0).trans rfl; have hcz26_1 : w24.cell? ⟨gb671, 1, none⟩ = some (.slice A0_1 l0_1.length c0_1) := (blk_cell BK671.out 1).trans rfl; have hfz26_0 := blk_frozen BK671.out 0; have hfz26_1 := blk_frozen BK671.out 1) | ((with_reducible refine gate_callee (f := 91) rfl ?_); refine goesL_ (some 8) rfl rfl Try.func91 (by kernel_rfl) rfl #[.agg #[.bool a0_0, .slice A0_1 l0_1.length c0_1]] rfl (by first | (go_simp; done) | (go_simp; rfl)) ?_; (with_reducible refine (examboardref02_Sign.calls k a0_0 _ _ l0_1 t673 _ (by exact Kd.C_below HR0_1.out HB.out) HC0_1.out A3.out).mono ?_); rintro e w27 ⟨rfl, hb⟩; refine ⟨_, rfl, ?_⟩; replace BK671 := bkB BK671 hb; replace BK672 := bkB BK672 hb; replace HB := hbS HB hb; have hcz28_0 : w27.cell? ⟨gb672, 0, none⟩ = some (.bool a1_0) := (blk_cell BK672.out 0).trans rfl; have hcz28_1 : w27.cell? ⟨gb672, 1, none⟩ = some (.slice A1_1 l1_1.length c1_1) := (blk_cell BK672.out 1).trans rfl; have hfz28_0 := blk_frozen BK672.out 0; have hfz28_1 := blk_frozen BK672.out 1) | ((with_reducible refine gate_callee (f := 91) rfl ?_); refine goesL_ (some 10) rfl rfl Try.func91 (by kernel_rfl) rfl #[.agg #[.bool a1_0, .slice A1_1 l1_1.length c1_1]] rfl (by first | (go_simp; done) | (go_simp; rfl)) ?_; (with_reducible refine (examboardref02_Sign.calls k a1_0 _ _ l1_1 t674 _ (by exact Kd.C_below HR1_1.out HB.out) HC1_1.out A4.out).mono ?_); rintro e w29 ⟨rfl, hb⟩; refine ⟨_, rfl, ?_⟩; replace BK671 := bkB BK671 hb; replace BK672 := bkB BK672 hb; replace HB := hbS HB hb; have hcz30_0 : w29.cell? ⟨gb672, 0, none⟩ = some (.bool a1_0) := (blk_cell BK672.out 0).trans rfl; have hcz30_1 : w29.cell? ⟨gb672, 1, none⟩ = some (.slice A1_1 l1_1.length c1_1) := (blk_cell BK672.out 1).trans rfl; have hfz30_0 := blk_frozen BK672.out 0; have hfz30_1 := blk_frozen BK672.out 1; have hcz31_0 : w29.cell? ⟨gb671, 0, none⟩ = some (.bool a0_0) := (blk_cell BK671.out 0).trans rfl; have hcz31_1 : w29.cell? ⟨gb671, 1, none⟩ = some (.slice A0_1 l0_1.length c0_1) := (blk_cell BK671.out 1).trans rfl; have hfz31_0 := blk_frozen BK671.out 0; have hfz31_1 := blk_frozen BK671.out 1) | ((with_reducible refine gate_callee (f := 92) rfl ?_); refine goesL_ (some 23) rfl rfl Try.func92 (by kernel_rfl) rfl #[.slice A1_1 l1_1.length c1_1, .slice A0_1 l0_1.length c0_1] rfl (by first | (go_simp; done) | (go_simp; rfl)) ?_; (with_reducible refine (examboardref01_Cmp.calls k _ _ l1_1 _ _ l0_1 t675 _ (by exact Kd.C_below HR1_1.out HB.out) HC1_1.out (by exact Kd.C_below HR0_1.out HB.out) HC0_1.out A22.out).mono ?_); rintro e w32 ⟨rfl, hb⟩; refine ⟨_, rfl, ?_⟩; replace BK671 := bkB BK671 hb; replace BK672 := bkB BK672 hb; replace HB := hbS HB hb))
    go_ret
    exact ⟨by first | rfl | (simp [errW_none, errW_some] <;> rfl) | (simp [*, errW_none, errW_some] <;> rfl), by repeat (first | exact HB.out | refine below_set ?_ GE671.out | refine below_set ?_ GE672.out)⟩
   ·rw [if_neg c21] at H
    have c21b0 : decide (t673 < 0) = false := decide_eq_false c21
    clear c21
    obtain ⟨t676, A33, H⟩ := bindA H
    obtain rfl := Option.some.inj H
    go_enter Try.func63, Try.ntmps63
    go_wp2_with (first | ((with_reducible refine gate_dst (N := 2) rfl ?_); refine box_event rfl (N := 2) rfl (cs := #[.bool a0_0, .slice A0_1 l0_1.length c0_1]) (t := 27) (by first | (go_simp; done) | (go_simp; rfl)) ?_; intro gb671 hg w34 hbox hb; have BK671 := mk0 (hbox); have GE671 := geB hg HB; replace HB := hbS HB hb; clear hb hbox hg) | ((with_reducible refine gate_dst (N := 3) rfl ?_); refine box_event rfl (N := 3) rfl (cs := #[.bool a1_0, .slice A1_1 l1_1.length c1_1]) (t := 27) (by first | (go_simp; done) | (go_simp; rfl)) ?_; intro gb672 hg w35 hbox hb; have BK672 := mk0 (hbox); have GE672 := geB hg HB; replace HB := hbS HB hb; have NB671_672 := nbA hg BK671; have NB672_671 := nbB hg BK671; replace BK671 := bkB BK671 hb; clear hb hbox hg; have hnb36 := NB671_672.out; have hnc36 := NB672_671.out; have hcz37_0 : w35.cell? ⟨gb671, 0, none⟩ = some (.bool a0_0) := (blk_cell BK671.out 0).trans rfl; have hcz37_1 : w35.cell? ⟨gb671, 1, none⟩ = some (.slice A0_1 l0_1.length c0_1) := (blk_cell BK671.out 1).trans rfl; have hfz37_0 := blk_frozen BK671.out 0; have hfz37_1 := blk_frozen BK671.out 1) | ((with_reducible refine gate_callee (f := 91) rfl ?_); refine goesL_ (some 8) rfl rfl Try.func91 (by kernel_rfl) rfl #[.agg #[.bool a0_0, .slice A0_1 l0_1.length c0_1]] rfl (by first | (go_simp; done) | (go_simp; rfl)) ?_; (with_reducible refine (examboardref02_Sign.calls k a0_0 _ _ l0_1 t673 _ (by exact Kd.C_below HR0_1.out HB.out) HC0_1.out A3.out).mono ?_); rintro e w38 ⟨rfl, hb⟩; refine ⟨_, rfl, ?_⟩; replace BK671 := bkB BK671 hb; replace BK672 := bkB BK672 hb; replace HB := hbS HB hb; have hcz39_0 : w38.cell? ⟨gb672, 0, none⟩ = some (.bool a1_0) := (blk_cell BK672.out 0).trans rfl; have hcz39_1 : w38.cell? ⟨gb672, 1, none⟩ = some (.slice A1_1 l1_1.length c1_1) := (blk_cell BK672.out 1).trans rfl; have hfz39_0 := blk_frozen BK672.out 0; have hfz39_1 := blk_frozen BK672.out 1) | ((with_reducible refine gate_callee (f := 91) rfl ?_); refine goesL_ (some 10) rfl rfl Try.func91 (by kernel_rfl) rfl #[.agg #[.bool a1_0, .slice A1_1 l1_1.length c1_1]] rfl (by first | (go_simp; done) | (go_simp; rfl)) ?_; (with_reducible refine (examboardref02_Sign.calls k a1_0 _ _ l1_1 t674 _ (by exact Kd.C_below HR1_1.out HB.out) HC1_1.out A4.out).mono ?_); rintro e w40 ⟨rfl, hb⟩; refine ⟨_, rfl, ?_⟩; replace BK671 := bkB BK671 hb; replace BK672 := bkB BK672 hb; replace HB := hbS HB hb; have hcz41_0 : w40.cell? ⟨gb671, 0, none⟩ = some (.bool a0_0) := (blk_cell BK671.out 0).trans rfl; have hcz41_1 : w40.cell? ⟨gb671, 1, none⟩ = some (.slice A0_1 l0_1.length c0_1) := (blk_cell BK671.out 1).trans rfl; have hfz41_0 := blk_frozen BK671.out 0; have hfz41_1 := blk_frozen BK671.out 1; have hcz42_0 : w40.cell? ⟨gb672, 0, none⟩ = some (.bool a1_0) := (blk_cell BK672.out 0).trans rfl; have hcz42_1 : w40.cell? ⟨gb672, 1, none⟩ = some (.slice A1_1 l1_1.length c1_1) := (blk_cell BK672.out 1).trans rfl; have hfz42_0 := blk_frozen BK672.out 0; have hfz42_1 := blk_frozen BK672.out 1) | ((with_reducible refine gate_callee (f := 92) rfl ?_); refine goesL_ (some 28) rfl rfl Try.func92 (by kernel_rfl) rfl #[.slice A0_1 l0_1.length c0_1, .slice A1_1 l1_1.length c1_1] rfl (by first | (go_simp; done) | (go_simp; rfl)) ?_; (with_reducible refine (examboardref01_Cmp.calls k _ _ l0_1 _ _ l1_1 t676 _ (by exact Kd.C_below HR0_1.out HB.out) HC0_1.out (by exact Kd.C_below HR1_1.out HB.out) HC1_1.out A33.out).mono ?_); rintro e w43 ⟨rfl, hb⟩; refine ⟨_, rfl, ?_⟩; replace BK671 := bkB BK671 hb; replace BK672 := bkB BK672 hb; replace HB := hbS HB hb))
    go_ret
    exact ⟨by first | rfl | (simp [errW_none, errW_some] <;> rfl) | (simp [*, errW_none, errW_some] <;> rfl), by repeat (first | exact HB.out | refine below_set ?_ GE671.out | refine below_set ?_ GE672.out)⟩
def examboardref03_Cmp.T1 : Bool × List (List Nat × List Nat) := (true, [([], []), ([0], [0]), ([], []), ([2, 1], [2]), ([3, 3], [3]), ([1, 4, 4], [1, 4]), ([], []), ([6, 5, 5, 0, 1, 2, 3, 4, 5, 6], [5, 6])])
def examboardref03_Cmp.B1 : List Nat := [0, 1, 0, 7, 15, 31, 0, 127]
theorem examboardref03_Cmp.tab1 : rtab .any (opsOf Try.f35 1) = examboardref03_Cmp.T1 := by kernel_rfl
theorem examboardref03_Cmp.bits1 : waitsOk examboardref03_Cmp.T1.2 examboardref03_Cmp.B1 = true := by kernel_rfl
def examboardref03_Cmp.T2 : Bool × List (List Nat × List Nat) := (true, [([], []), ([0], [0]), ([], []), ([2, 1], [2]), ([3, 3], [3]), ([1, 4, 4], [1, 4]), ([], []), ([6, 5, 5, 0, 1, 2, 3, 4, 5, 6], [5, 6])])
def examboardref03_Cmp.B2 : List Nat := [0, 1, 0, 7, 15, 31, 0, 127]
theorem examboardref03_Cmp.tab2 : rtab .any (opsOf Try.f35 2) = examboardref03_Cmp.T2 := by kernel_rfl
theorem examboardref03_Cmp.bits2 : waitsOk examboardref03_Cmp.T2.2 examboardref03_Cmp.B2 = true := by kernel_rfl
set_option maxHeartbeats 8000000 in
set_option maxRecDepth 100000 in
theorem examboardref03_Cmp.calls (k : Nat) (a0_0 : Bool) (A0_1 : Option Addr) (c0_1 : Nat) (l0_1 : List Int) (A0_2 : Option Addr) (c0_2 : Nat) (l0_2 : List Int) (a1_0 : Bool) (A1_1 : Option Addr) (c1_1 : Nat) (l1_1 : List Int) (A1_2 : Option Addr) (c1_2 : Nat) (l1_2 : List Int) (r : Int) (w : World) (hr0_1 : Kd.C (Kd.int .u32) w A0_1 l0_1.length l0_1) (hc0_1 : l0_1.length ≤ c0_1) (hr0_2 : Kd.C (Kd.int .u32) w A0_2 l0_2.length l0_2) (hc0_2 : l0_2.length ≤ c0_2) (hr1_1 : Kd.C (Kd.int .u32) w A1_1 l1_1.length l1_1) (hc1_1 : l1_1.length ≤ c1_1) (hr1_2 : Kd.C (Kd.int .u32) w A1_2 l1_2.length l1_2) (hc1_2 : l1_2.length ≤ c1_2) (h : examboardref03_Cmp.f k a0_0 l0_1 l0_2 a1_0 l1_1 l1_2 = some r) :
  Calls Try.prog 35 #[.agg #[.bool a0_0, .slice A0_1 l0_1.length c0_1, .slice A0_2 l0_2.length c0_2], .agg #[.bool a1_0, .slice A1_1 l1_1.length c1_1, .slice A1_2 l1_2.length c1_2]] w fun e w' => e = .returned (.int .i64 r) ∧ Below w.heap.size w w' := by
 have hu29 := Try.underlying29
 have hu27 := Try.underlying27
 have HR0_1 := mk0 hr0_1
 have HC0_1 := mk0 hc0_1
 clear hr0_1 hc0_1
 have HR0_2 := mk0 hr0_2
 have HC0_2 := mk0 hc0_2
 clear hr0_2 hc0_2
 have HR1_1 := mk0 hr1_1
 have HC1_1 := mk0 hc1_1
 clear hr1_1 hc1_1
 have HR1_2 := mk0 hr1_2
 have HC1_2 := mk0 hc1_2
 clear hr1_2 hc1_2
 have HB := mk0 (Below.refl w.heap.size w)
 have H : ((examboardref03_top.f k a0_0 l0_1 l0_2).bind fun bt679 => ((examboardref03_low.f k a1_0 l1_1 l1_2).bind fun t683 => ((examboardref02_Make.f k false t683).bind fun bt686 => ((examboardref02_Mul.f k bt679.1 bt679.2 bt686.1 bt686.2).bind fun bt690 => ((examboardref03_top.f k a1_0 l1_1 l1_2).bind fun bt695 => ((examboardref03_low.f k a0_0 l0_1 l0_2).bind fun t699 => ((examboardref02_Make.f k false t699).bind fun bt702 => ((examboardref02_Mul.f k bt695.1 bt695.2 bt702.1 bt702.2).bind fun bt706 => ((examboardref02_Cmp.f k bt690.1 bt690.2 bt706.1 bt706.2).bind fun t711 => (some t711)))))))))) = some r := h
 clear h
 obtain ⟨⟨t679, t680⟩, A3, H⟩ := bindA H
 obtain ⟨t683, A4, H⟩ := bindA H
 obtain ⟨⟨t686, t687⟩, A5, H⟩ := bindA H
 obtain ⟨⟨t690, t691⟩, A6, H⟩ := bindA H
 obtain ⟨⟨t695, t696⟩, A7, H⟩ := bindA H
 obtain ⟨t699, A8, H⟩ := bindA H
 obtain ⟨⟨t702, t703⟩, A9, H⟩ := bindA H
 obtain ⟨⟨t706, t707⟩, A10, H⟩ := bindA H
 obtain ⟨t711, A11, H⟩ := bindA H
 obtain rfl := Option.some.inj H
 go_enter Try.func35, Try.ntmps35
 try go_wp2_with (first | ((with_reducible refine gate_dst (N := 2) rfl ?_); refine box_event rfl (N := 2) rfl (cs := #[.bool a0_0, .slice A0_1 l0_1.length c0_1, .slice A0_2 l0_2.length c0_2]) (t := 29) (by first | (go_simp; done) | (go_simp; rfl)) ?_; intro gb677 hg w12 hbox hb; have BK677 := mk0 (hbox); have GE677 := geB hg HB; replace HB := hbS HB hb; clear hb hbox hg) | ((with_reducible refine gate_dst (N := 3) rfl ?_); refine box_event rfl (N := 3) rfl (cs := #[.bool a1_0, .slice A1_1 l1_1.length c1_1, .slice A1_2 l1_2.length c1_2]) (t := 29) (by first | (go_simp; done) | (go_simp; rfl)) ?_; intro gb678 hg w13 hbox hb; have BK678 := mk0 (hbox); have GE678 := geB hg HB; replace HB := hbS HB hb; replace BK677 := bkB BK677 hb; clear hb hbox hg))
 replace BK677 := mk0 (blk_drew BK677.out)
 replace BK678 := mk0 (blk_drew BK678.out)
 replace HB := mk0 (below_drew1 HB.out)
 refine start_ (n := 8) (S := fun w' => True) (ds := []) (bv 8 0) (by kernel_rfl) rfl rfl trivial (fun hHeld => ?_); refine with_tabW examboardref03_Cmp.tab1 examboardref03_Cmp.bits1 (fun HT_ HW_ => ?_)
 generalize w13.drew = w14 at BK677 BK678 HB hHeld ⊢
 refine inv_at [0, 1, 2, 3, 4, 5, 6, 7] (fun a0_ b a w' => ∃ (v681 : Value) (v684 : Value) (v688 : Value) (v692 : Value) (gb694 : Nat) (m1_ : Value) (m4_ : Value) (m5_ : Value) (m6_ : Value), a = putSel a0_ b [(0, 7, .agg #[.bool a0_0, .slice A0_1 l0_1.length c0_1, .slice A0_2 l0_2.length c0_2]), (1, 8, m1_), (2, 9, .agg #[.bool a1_0, .slice A1_1 l1_1.length c1_1, .slice A1_2 l1_2.length c1_2]), (3, 10, v684), (4, 11, m4_), (5, 12, m5_), (6, 5, m6_)] ∧ (w'.heap[gb677]? = some (.cells #[.bool a0_0, .slice A0_1 l0_1.length c0_1, .slice A0_2 l0_2.length c0_2] 29 (0, 0))) ∧ (w'.heap[gb678]? = some (.cells #[.bool a1_0, .slice A1_1 l1_1.length c1_1, .slice A1_2 l1_2.length c1_2] 29 (0, 0))) ∧ (Below w.heap.size w w') ∧ (b 1 = true → Kd.R (Kd.int .u32) 87 w' w.heap.size (fun _ => True) v681 t680) ∧ (b 3 = true → Kd.R (Kd.int .u32) 87 w' w.heap.size (fun _ => True) v684 t683) ∧ (b 4 = true → Kd.R (Kd.int .u32) 87 w' w.heap.size (fun _ => True) v688 t687) ∧ (b 5 = true → Kd.R (Kd.int .u32) 87 w' w.heap.size (fun _ => True) v692 t691) ∧ (b 6 = true → b 7 = false → w'.heap[gb694]? = some (.cells #[.bool false, .slice none 0 0] 27 (0, 0))) ∧ (b 6 = true → w.heap.size ≤ gb694) ∧ (b 6 = true → w.heap.size ≤ gb694) ∧ (b 6 = true → gb677 ≠ gb694) ∧ (b 6 = true → gb694 ≠ gb677) ∧ (b 6 = true → gb678 ≠ gb694) ∧ (b 6 = true → gb694 ≠ gb678) ∧ (b 7 = true → w'.heap[gb694]? = some (.cells #[.bool t690, v692] 27 (0, 0))) ∧ (b 1 = true → (m1_ : Value) = .agg #[.bool t679, v681]) ∧ (b 4 = true → (m4_ : Value) = .agg #[.bool t686, v688]) ∧ (b 5 = true → (m5_ : Value) = .agg #[.bool t690, v692]) ∧ (b 6 = true → (m6_ : Value) = .pointer (some ⟨gb694, 0, none⟩))) HT_.out HW_.out (by kernel_rfl) (by kernel_rfl) ?_ ?_ ?_
 ·exact ⟨.bool false, .bool false, .bool false, .bool false, 0, .bool false, .bool false, .bool false, .bool false, by simp only [putSel, Bool.false_eq_true, if_false], BK677.out, BK678.out, HB.out, fun h_ => absurd h_ (by decide), fun h_ => absurd h_ (by decide), fun h_ => absurd h_ (by decide), fun h_ => absurd h_ (by decide), fun h_ => absurd h_ (by decide), fun h_ => absurd h_ (by decide), fun h_ => absurd h_ (by decide), fun h_ => absurd h_ (by decide), fun h_ => absurd h_ (by decide), fun h_ => absurd h_ (by decide), fun h_ => absurd h_ (by decide), fun h_ => absurd h_ (by decide), fun h_ => absurd h_ (by decide), fun h_ => absurd h_ (by decide), fun h_ => absurd h_ (by decide), fun h_ => absurd h_ (by decide)⟩
 ·skip
  clear BK677 BK678 HB
  refine steps_cons ?_ ?_
  ·rintro b a w' ⟨v681, v684, v688, v692, gb694, m1_, m4_, m5_, m6_, ha, Q_BK677, Q_BK678, Q_HB, Q_HO682, Q_HO685, Q_HO689, Q_HO693, Q_BK694, Q_GW694, Q_GE694, Q_NB677_694, Q_NB694_677, Q_NB678_694, Q_NB694_678, Q_BK694_e7, Q_X1_, Q_X4_, Q_X5_, Q_X6_⟩ hb_ hon hoff
   refine ⟨_, rfl, fun K hK => ?_⟩
   have e2 : a.tmps[2]? = some (.pointer (some ⟨gb677, 0, none⟩)) := by rw [ha]; exact (putSel_off rfl).trans rfl
   replace ha := mk0 ha
   have BK677 := mk0 Q_BK677
   have BK678 := mk0 Q_BK678
   have HB := mk0 Q_HB
   have hc0_ : w'.cell? ⟨gb677, 0, none⟩ = some (.bool a0_0) := (blk_cell BK677.out 0).trans rfl
   have hc1_ : w'.cell? ⟨gb677, 1, none⟩ = some (.slice A0_1 l0_1.length c0_1) := (blk_cell BK677.out 1).trans rfl
   have hc2_ : w'.cell? ⟨gb677, 2, none⟩ = some (.slice A0_2 l0_2.length c0_2) := (blk_cell BK677.out 2).trans rfl
   refine value_ (w1 := w') (v := .agg #[.bool a0_0, .slice A0_1 l0_1.length c0_1, .slice A0_2 l0_2.length c0_2]) (by rfl) rfl ?_ ?_
   ·go_simp
    (try simp only [i64_w])
    try rfl
   refine hK.out _ _ ⟨v681, v684, v688, v692, gb694, m1_, m4_, m5_, m6_, (by rw [ha.out]; exact putSel_upk 0 hb_ rfl rfl rfl), Q_BK677, Q_BK678, Q_HB, fun h0_ => absurd ((hoff 1 (by kernel_rfl)).symm.trans h0_) (by decide), fun h0_ => absurd ((hoff 3 (by kernel_rfl)).symm.trans h0_) (by decide), fun h0_ => absurd ((hoff 4 (by kernel_rfl)).symm.trans h0_) (by decide), fun h0_ => absurd ((hoff 5 (by kernel_rfl)).symm.trans h0_) (by decide), Q_BK694, Q_GW694, Q_GE694, Q_NB677_694, Q_NB694_677, Q_NB678_694, Q_NB694_678, fun h0_ => absurd ((hoff 7 (by kernel_rfl)).symm.trans h0_) (by decide), fun h0_ => absurd ((hoff 1 (by kernel_rfl)).symm.trans h0_) (by decide), fun h0_ => absurd ((hoff 4 (by kernel_rfl)).symm.trans h0_) (by decide), fun h0_ => absurd ((hoff 5 (by kernel_rfl)).symm.trans h0_) (by decide), Q_X6_⟩
  refine steps_cons ?_ ?_
  ·rintro b a w' ⟨v681, v684, v688, v692, gb694, m1_, m4_, m5_, m6_, ha, Q_BK677, Q_BK678, Q_HB, Q_HO682, Q_HO685, Q_HO689, Q_HO693, Q_BK694, Q_GW694, Q_GE694, Q_NB677_694, Q_NB694_677, Q_NB678_694, Q_NB694_678, Q_BK694_e7, Q_X1_, Q_X4_, Q_X5_, Q_X6_⟩ hb_ hon hoff
   refine ⟨_, rfl, fun K hK => ?_⟩
   have e7 : a.tmps[7]? = some (.agg #[.bool a0_0, .slice A0_1 l0_1.length c0_1, .slice A0_2 l0_2.length c0_2]) := by rw [ha]; exact putSel_on (e := (0, 7, .agg #[.bool a0_0, .slice A0_1 l0_1.length c0_1, .slice A0_2 l0_2.length c0_2])) 0 rfl rfl (hon 0 (by kernel_rfl)) rfl
   replace ha := mk0 ha
   have BK677 := mk0 Q_BK677
   have BK678 := mk0 Q_BK678
   have HB := mk0 Q_HB
   refine goes_ Try.func59 (by kernel_rfl) rfl #[.agg #[.bool a0_0, .slice A0_1 l0_1.length c0_1, .slice A0_2 l0_2.length c0_2]] (by rfl) rfl rfl (by first | (simp only [List.map_toArray, List.map_cons, List.map_nil, Act.eval, Array.getD_eq_getD_getElem?, Option.getD_some, e7]; done) | (simp only [List.map_toArray, List.map_cons, List.map_nil, Act.eval, Array.getD_eq_getD_getElem?, Option.getD_some, e7]; rfl)) ?_
   with_reducible refine (examboardref03_top.calls k a0_0 _ _ l0_1 _ _ l0_2 t679 t680 _ ?side1 ?side2 ?side3 ?side4 A3.out).mono ?_
   (case side1 => repeat (first | exact (Kd.C_below HR0_1.out HB.out) | (with_reducible refine Kd.C_alloc ?_ _) | (with_reducible refine Kd.C_drewN ?_ _) | (with_reducible refine Kd.C_drew ?_)))
   (case side2 => exact HC0_1.out)
   (case side3 => repeat (first | exact (Kd.C_below HR0_2.out HB.out) | (with_reducible refine Kd.C_alloc ?_ _) | (with_reducible refine Kd.C_drewN ?_ _) | (with_reducible refine Kd.C_drew ?_)))
   (case side4 => exact HC0_2.out)
   rintro e w15 ⟨v681, rfl, ho0, hb⟩
   refine ⟨_, rfl, ?_⟩
   have n0_ := mk0 (Kd.R_lower ho0 (below_size (by repeat (first | exact HB.out | refine below_set ?_ GE677.out | refine below_set ?_ GE678.out))))
   have n1_ := bkB BK677 hb
   have n2_ := bkB BK678 hb
   have n3_ := mk0 (below_step (by repeat (first | exact HB.out | refine below_set ?_ GE677.out | refine below_set ?_ GE678.out)) hb)
   have z_BK694 := fun (h0_ : b 6 = true) (h1_ : b 7 = false) => (show w15.heap[gb694]? = some (.cells #[.bool false, .slice none 0 0] 27 (0, 0)) from by first | exact (blk_below (g := gb694) (o := .cells #[.bool false, .slice none 0 0] 27 (0, 0)) ((Q_BK694 h0_ h1_)) hb))
   clear BK677
   clear BK678
   clear HB
   have HO682 := n0_
   have BK677 := n1_
   have BK678 := n2_
   have HB := n3_
   clear n0_ n1_ n2_ n3_
   refine hK.out _ _ ⟨v681, v684, v688, v692, gb694, (.agg #[.bool t679, v681]), m4_, m5_, m6_, (by rw [ha.out]; exact putSel_upk 1 hb_ rfl rfl rfl), BK677.out, BK678.out, (by repeat (first | exact HB.out | refine below_set ?_ GE677.out | refine below_set ?_ GE678.out)), fun _ => HO682.out, fun h0_ => absurd ((hoff 3 (by kernel_rfl)).symm.trans h0_) (by decide), fun h0_ => absurd ((hoff 4 (by kernel_rfl)).symm.trans h0_) (by decide), fun h0_ => absurd ((hoff 5 (by kernel_rfl)).symm.trans h0_) (by decide), z_BK694, Q_GW694, Q_GE694, Q_NB677_694, Q_NB694_677, Q_NB678_694, Q_NB694_678, fun h0_ => absurd ((hoff 7 (by kernel_rfl)).symm.trans h0_) (by decide), fun _ => rfl, fun h0_ => absurd ((hoff 4 (by kernel_rfl)).symm.trans h0_) (by decide), fun h0_ => absurd ((hoff 5 (by kernel_rfl)).symm.trans h0_) (by decide), Q_X6_⟩
  refine steps_cons ?_ ?_
  ·rintro b a w' ⟨v681, v684, v688, v692, gb694, m1_, m4_, m5_, m6_, ha, Q_BK677, Q_BK678, Q_HB, Q_HO682, Q_HO685, Q_HO689, Q_HO693, Q_BK694, Q_GW694, Q_GE694, Q_NB677_694, Q_NB694_677, Q_NB678_694, Q_NB694_678, Q_BK694_e7, Q_X1_, Q_X4_, Q_X5_, Q_X6_⟩ hb_ hon hoff
   refine ⟨_, rfl, fun K hK => ?_⟩
   have e3 : a.tmps[3]? = some (.pointer (some ⟨gb678, 0, none⟩)) := by rw [ha]; exact (putSel_off rfl).trans rfl
   replace ha := mk0 ha
   have BK677 := mk0 Q_BK677
   have BK678 := mk0 Q_BK678
   have HB := mk0 Q_HB
   have hc0_ : w'.cell? ⟨gb678, 0, none⟩ = some (.bool a1_0) := (blk_cell BK678.out 0).trans rfl
   have hc1_ : w'.cell? ⟨gb678, 1, none⟩ = some (.slice A1_1 l1_1.length c1_1) := (blk_cell BK678.out 1).trans rfl
   have hc2_ : w'.cell? ⟨gb678, 2, none⟩ = some (.slice A1_2 l1_2.length c1_2) := (blk_cell BK678.out 2).trans rfl
   refine value_ (w1 := w') (v := .agg #[.bool a1_0, .slice A1_1 l1_1.length c1_1, .slice A1_2 l1_2.length c1_2]) (by rfl) rfl ?_ ?_
   ·go_simp
    (try simp only [i64_w])
    try rfl
   refine hK.out _ _ ⟨v681, v684, v688, v692, gb694, m1_, m4_, m5_, m6_, (by rw [ha.out]; exact putSel_upk 2 hb_ rfl rfl rfl), Q_BK677, Q_BK678, Q_HB, Q_HO682, fun h0_ => absurd ((hoff 3 (by kernel_rfl)).symm.trans h0_) (by decide), fun h0_ => absurd ((hoff 4 (by kernel_rfl)).symm.trans h0_) (by decide), fun h0_ => absurd ((hoff 5 (by kernel_rfl)).symm.trans h0_) (by decide), Q_BK694, Q_GW694, Q_GE694, Q_NB677_694, Q_NB694_677, Q_NB678_694, Q_NB694_678, fun h0_ => absurd ((hoff 7 (by kernel_rfl)).symm.trans h0_) (by decide), Q_X1_, fun h0_ => absurd ((hoff 4 (by kernel_rfl)).symm.trans h0_) (by decide), fun h0_ => absurd ((hoff 5 (by kernel_rfl)).symm.trans h0_) (by decide), Q_X6_⟩
  refine steps_cons ?_ ?_
  ·rintro b a w' ⟨v681, v684, v688, v692, gb694, m1_, m4_, m5_, m6_, ha, Q_BK677, Q_BK678, Q_HB, Q_HO682, Q_HO685, Q_HO689, Q_HO693, Q_BK694, Q_GW694, Q_GE694, Q_NB677_694, Q_NB694_677, Q_NB678_694, Q_NB694_678, Q_BK694_e7, Q_X1_, Q_X4_, Q_X5_, Q_X6_⟩ hb_ hon hoff
   refine ⟨_, rfl, fun K hK => ?_⟩
   have e9 : a.tmps[9]? = some (.agg #[.bool a1_0, .slice A1_1 l1_1.length c1_1, .slice A1_2 l1_2.length c1_2]) := by rw [ha]; exact putSel_on (e := (2, 9, .agg #[.bool a1_0, .slice A1_1 l1_1.length c1_1, .slice A1_2 l1_2.length c1_2])) 2 rfl rfl (hon 2 (by kernel_rfl)) rfl
   replace ha := mk0 ha
   have BK677 := mk0 Q_BK677
   have BK678 := mk0 Q_BK678
   have HB := mk0 Q_HB
   have HO682 := mk0 (Q_HO682 (hon 1 (by kernel_rfl)))
   refine goes_ Try.func61 (by kernel_rfl) rfl #[.agg #[.bool a1_0, .slice A1_1 l1_1.length c1_1, .slice A1_2 l1_2.length c1_2]] (by rfl) rfl rfl (by first | (simp only [List.map_toArray, List.map_cons, List.map_nil, Act.eval, Array.getD_eq_getD_getElem?, Option.getD_some, e9]; done) | (simp only [List.map_toArray, List.map_cons, List.map_nil, Act.eval, Array.getD_eq_getD_getElem?, Option.getD_some, e9]; rfl)) ?_
   with_reducible refine (examboardref03_low.calls k a1_0 _ _ l1_1 _ _ l1_2 t683 _ ?side1 ?side2 ?side3 ?side4 A4.out).mono ?_
   (case side1 => repeat (first | exact (Kd.C_below HR1_1.out HB.out) | (with_reducible refine Kd.C_alloc ?_ _) | (with_reducible refine Kd.C_drewN ?_ _) | (with_reducible refine Kd.C_drew ?_)))
   (case side2 => exact HC1_1.out)
   (case side3 => repeat (first | exact (Kd.C_below HR1_2.out HB.out) | (with_reducible refine Kd.C_alloc ?_ _) | (with_reducible refine Kd.C_drewN ?_ _) | (with_reducible refine Kd.C_drew ?_)))
   (case side4 => exact HC1_2.out)
   rintro e w17 ⟨v684, rfl, ho0, hb⟩
   refine ⟨_, rfl, ?_⟩
   have n0_ := mk0 (Kd.R_elder' HO682.out (Kd.R_base ho0) hb)
   have n1_ := mk0 (Kd.R_lower (Kd.R_new' ho0 (Kd.R_lt HO682.out)) (below_size (by repeat (first | exact HB.out | refine below_set ?_ GE677.out | refine below_set ?_ GE678.out))))
   have n2_ := bkB BK677 hb
   have n3_ := bkB BK678 hb
   have n4_ := mk0 (below_step (by repeat (first | exact HB.out | refine below_set ?_ GE677.out | refine below_set ?_ GE678.out)) hb)
   have z_BK694 := fun (h0_ : b 6 = true) (h1_ : b 7 = false) => (show w17.heap[gb694]? = some (.cells #[.bool false, .slice none 0 0] 27 (0, 0)) from by first | exact (blk_below (g := gb694) (o := .cells #[.bool false, .slice none 0 0] 27 (0, 0)) ((Q_BK694 h0_ h1_)) hb))
   clear HO682
   clear BK677
   clear BK678
   clear HB
   have HO682 := n0_
   have HO685 := n1_
   have BK677 := n2_
   have BK678 := n3_
   have HB := n4_
   clear n0_ n1_ n2_ n3_ n4_
   refine hK.out _ _ ⟨v681, v684, v688, v692, gb694, m1_, m4_, m5_, m6_, (by rw [ha.out]; exact putSel_upk 3 hb_ rfl rfl rfl), BK677.out, BK678.out, (by repeat (first | exact HB.out | refine below_set ?_ GE677.out | refine below_set ?_ GE678.out)), fun _ => (Kd.R_mono HO682.out (fun _ _ => trivial)), fun _ => (Kd.R_mono HO685.out (fun _ _ => trivial)), fun h0_ => absurd ((hoff 4 (by kernel_rfl)).symm.trans h0_) (by decide), fun h0_ => absurd ((hoff 5 (by kernel_rfl)).symm.trans h0_) (by decide), z_BK694, Q_GW694, Q_GE694, Q_NB677_694, Q_NB694_677, Q_NB678_694, Q_NB694_678, fun h0_ => absurd ((hoff 7 (by kernel_rfl)).symm.trans h0_) (by decide), Q_X1_, fun h0_ => absurd ((hoff 4 (by kernel_rfl)).symm.trans h0_) (by decide), fun h0_ => absurd ((hoff 5 (by kernel_rfl)).symm.trans h0_) (by decide), Q_X6_⟩
  refine steps_cons ?_ ?_
  ·rintro b a w' ⟨v681, v684, v688, v692, gb694, m1_, m4_, m5_, m6_, ha, Q_BK677, Q_BK678, Q_HB, Q_HO682, Q_HO685, Q_HO689, Q_HO693, Q_BK694, Q_GW694, Q_GE694, Q_NB677_694, Q_NB694_677, Q_NB678_694, Q_NB694_678, Q_BK694_e7, Q_X1_, Q_X4_, Q_X5_, Q_X6_⟩ hb_ hon hoff
   refine ⟨_, rfl, fun K hK => ?_⟩
   have e10 : a.tmps[10]? = some (v684) := by rw [ha]; exact putSel_on (e := (3, 10, v684)) 3 rfl rfl (hon 3 (by kernel_rfl)) rfl
   replace ha := mk0 ha
   have BK677 := mk0 Q_BK677
   have BK678 := mk0 Q_BK678
   have HB := mk0 Q_HB
   have HO682 := mk0 (Q_HO682 (hon 1 (by kernel_rfl)))
   have HO685 := mk0 (Q_HO685 (hon 3 (by kernel_rfl)))
   obtain ⟨Ao18, co18, eo18⟩ := Kd.R_slice HO685.out
   (first | subst eo18 | (injection eo18 with f1_ f2_ f3_; have f4_ := f1_.symm; have f5_ := f3_.symm; clear f1_ f2_ f3_; subst f4_; subst f5_))
   refine goes_ Try.func62 (by kernel_rfl) rfl #[.bool false, .slice Ao18 t683.length co18] (by rfl) rfl rfl (by first | (simp only [List.map_toArray, List.map_cons, List.map_nil, Act.eval, Array.getD_eq_getD_getElem?, Option.getD_some, e10]; done) | (simp only [List.map_toArray, List.map_cons, List.map_nil, Act.eval, Array.getD_eq_getD_getElem?, Option.getD_some, e10]; rfl)) ?_
   with_reducible refine (examboardref02_Make.calls k false _ _ t683 t686 t687 _ ?side1 ?side2 A5.out).mono ?_
   (case side1 => repeat (first | exact (Kd.R_reads' HO685.out).2.2 | (with_reducible refine Kd.C_alloc ?_ _) | (with_reducible refine Kd.C_drewN ?_ _) | (with_reducible refine Kd.C_drew ?_)))
   (case side2 => exact (Kd.R_reads' HO685.out).2.1)
   rintro e w19 ⟨v688, rfl, ho0, hb⟩
   refine ⟨_, rfl, ?_⟩
   have n0_ := mk0 (Kd.R_elder' HO682.out (Kd.R_base ho0) hb)
   have n1_ := mk0 (Kd.R_elder' HO685.out (Kd.R_base ho0) hb)
   have n2_ := mk0 (Kd.R_lower (Kd.R_new' (Kd.R_new' ho0 (Kd.R_lt HO682.out)) (Kd.R_lt HO685.out)) (below_size (by repeat (first | exact HB.out | refine below_set ?_ GE677.out | refine below_set ?_ GE678.out))))
   have n3_ := bkB BK677 hb
   have n4_ := bkB BK678 hb
   have n5_ := mk0 (below_step (by repeat (first | exact HB.out | refine below_set ?_ GE677.out | refine below_set ?_ GE678.out)) hb)
   have z_BK694 := fun (h0_ : b 6 = true) (h1_ : b 7 = false) => (show w19.heap[gb694]? = some (.cells #[.bool false, .slice none 0 0] 27 (0, 0)) from by first | exact (blk_below (g := gb694) (o := .cells #[.bool false, .slice none 0 0] 27 (0, 0)) ((Q_BK694 h0_ h1_)) hb))
   clear HO682
   clear HO685
   clear BK677
   clear BK678
   clear HB
   have HO682 := n0_
   have HO685 := n1_
   have HO689 := n2_
   have BK677 := n3_
   have BK678 := n4_
   have HB := n5_
   clear n0_ n1_ n2_ n3_ n4_ n5_
   refine hK.out _ _ ⟨v681, .slice Ao18 t683.length co18, v688, v692, gb694, m1_, (.agg #[.bool t686, v688]), m5_, m6_, (by rw [ha.out]; exact putSel_upk 4 hb_ rfl rfl rfl), BK677.out, BK678.out, (by repeat (first | exact HB.out | refine below_set ?_ GE677.out | refine below_set ?_ GE678.out)), fun _ => (Kd.R_mono HO682.out (fun _ _ => trivial)), fun _ => (Kd.R_mono HO685.out (fun _ _ => trivial)), fun _ => (Kd.R_mono HO689.out (fun _ _ => trivial)), fun h0_ => absurd ((hoff 5 (by kernel_rfl)).symm.trans h0_) (by decide), z_BK694, Q_GW694, Q_GE694, Q_NB677_694, Q_NB694_677, Q_NB678_694, Q_NB694_678, fun h0_ => absurd ((hoff 7 (by kernel_rfl)).symm.trans h0_) (by decide), Q_X1_, fun _ => rfl, fun h0_ => absurd ((hoff 5 (by kernel_rfl)).symm.trans h0_) (by decide), Q_X6_⟩
  refine steps_cons ?_ ?_
  ·rintro b a w' ⟨v681, v684, v688, v692, gb694, m1_, m4_, m5_, m6_, ha, Q_BK677, Q_BK678, Q_HB, Q_HO682, Q_HO685, Q_HO689, Q_HO693, Q_BK694, Q_GW694, Q_GE694, Q_NB677_694, Q_NB694_677, Q_NB678_694, Q_NB694_678, Q_BK694_e7, Q_X1_, Q_X4_, Q_X5_, Q_X6_⟩ hb_ hon hoff
   refine ⟨_, rfl, fun K hK => ?_⟩
   have e8 : a.tmps[8]? = some (m1_) := by rw [ha]; exact putSel_on (e := (1, 8, m1_)) 1 rfl rfl (hon 1 (by kernel_rfl)) rfl
   rw [Q_X1_ (hon 1 (by kernel_rfl))] at e8
   have e11 : a.tmps[11]? = some (m4_) := by rw [ha]; exact putSel_on (e := (4, 11, m4_)) 4 rfl rfl (hon 4 (by kernel_rfl)) rfl
   rw [Q_X4_ (hon 4 (by kernel_rfl))] at e11
   replace ha := mk0 ha
   have BK677 := mk0 Q_BK677
   have BK678 := mk0 Q_BK678
   have HB := mk0 Q_HB
   have HO682 := mk0 (Q_HO682 (hon 1 (by kernel_rfl)))
   have HO685 := mk0 (Q_HO685 (hon 3 (by kernel_rfl)))
   have HO689 := mk0 (Q_HO689 (hon 4 (by kernel_rfl)))
   obtain ⟨Ao20, co20, eo20⟩ := Kd.R_slice HO682.out
   (first | subst eo20 | (injection eo20 with f1_ f2_ f3_; have f4_ := f1_.symm; have f5_ := f3_.symm; clear f1_ f2_ f3_; subst f4_; subst f5_))
   obtain ⟨Ao21, co21, eo21⟩ := Kd.R_slice HO689.out
   (first | subst eo21 | (injection eo21 with f1_ f2_ f3_; have f4_ := f1_.symm; have f5_ := f3_.symm; clear f1_ f2_ f3_; subst f4_; subst f5_))
   refine goes_ Try.func58 (by kernel_rfl) rfl #[.agg #[.bool t679, .slice Ao20 t680.length co20], .agg #[.bool t686, .slice Ao21 t687.length co21]] (by rfl) rfl rfl (by first | (simp only [List.map_toArray, List.map_cons, List.map_nil, Act.eval, Array.getD_eq_getD_getElem?, Option.getD_some, e8, e11]; done) | (simp only [List.map_toArray, List.map_cons, List.map_nil, Act.eval, Array.getD_eq_getD_getElem?, Option.getD_some, e8, e11]; rfl)) ?_
   with_reducible refine (examboardref02_Mul.calls k t679 _ _ t680 t686 _ _ t687 t690 t691 _ ?side1 ?side2 ?side3 ?side4 A6.out).mono ?_
   (case side1 => repeat (first | exact (Kd.R_reads' HO682.out).2.2 | (with_reducible refine Kd.C_alloc ?_ _) | (with_reducible refine Kd.C_drewN ?_ _) | (with_reducible refine Kd.C_drew ?_)))
   (case side2 => exact (Kd.R_reads' HO682.out).2.1)
   (case side3 => repeat (first | exact (Kd.R_reads' HO689.out).2.2 | (with_reducible refine Kd.C_alloc ?_ _) | (with_reducible refine Kd.C_drewN ?_ _) | (with_reducible refine Kd.C_drew ?_)))
   (case side4 => exact (Kd.R_reads' HO689.out).2.1)
   rintro e w22 ⟨v692, rfl, ho0, hb⟩
   refine ⟨_, rfl, ?_⟩
   have n0_ := mk0 (Kd.R_elder' HO682.out (Kd.R_base ho0) hb)
   have n1_ := mk0 (Kd.R_elder' HO685.out (Kd.R_base ho0) hb)
   have n2_ := mk0 (Kd.R_elder' HO689.out (Kd.R_base ho0) hb)
   have n3_ := mk0 (Kd.R_lower (Kd.R_new' (Kd.R_new' (Kd.R_new' ho0 (Kd.R_lt HO682.out)) (Kd.R_lt HO685.out)) (Kd.R_lt HO689.out)) (below_size (by repeat (first | exact HB.out | refine below_set ?_ GE677.out | refine below_set ?_ GE678.out))))
   have n4_ := bkB BK677 hb
   have n5_ := bkB BK678 hb
   have n6_ := mk0 (below_step (by repeat (first | exact HB.out | refine below_set ?_ GE677.out | refine below_set ?_ GE678.out)) hb)
   have z_BK694 := fun (h0_ : b 6 = true) (h1_ : b 7 = false) => (show w22.heap[gb694]? = some (.cells #[.bool false, .slice none 0 0] 27 (0, 0)) from by first | exact (blk_below (g := gb694) (o := .cells #[.bool false, .slice none 0 0] 27 (0, 0)) ((Q_BK694 h0_ h1_)) hb))
   clear HO682
   clear HO685
   clear HO689
   clear BK677
   clear BK678
   clear HB
   have HO682 := n0_
   have HO685 := n1_
   have HO689 := n2_
   have HO693 := n3_
   have BK677 := n4_
   have BK678 := n5_
   have HB := n6_
   clear n0_ n1_ n2_ n3_ n4_ n5_ n6_
   refine hK.out _ _ ⟨.slice Ao20 t680.length co20, v684, .slice Ao21 t687.length co21, v692, gb694, m1_, m4_, (.agg #[.bool t690, v692]), m6_, (by rw [ha.out]; exact putSel_upk 5 hb_ rfl rfl rfl), BK677.out, BK678.out, (by repeat (first | exact HB.out | refine below_set ?_ GE677.out | refine below_set ?_ GE678.out)), fun _ => (Kd.R_mono HO682.out (fun _ _ => trivial)), fun _ => (Kd.R_mono HO685.out (fun _ _ => trivial)), fun _ => (Kd.R_mono HO689.out (fun _ _ => trivial)), fun _ => (Kd.R_mono HO693.out (fun _ _ => trivial)), z_BK694, Q_GW694, Q_GE694, Q_NB677_694, Q_NB694_677, Q_NB678_694, Q_NB694_678, fun h0_ => absurd ((hoff 7 (by kernel_rfl)).symm.trans h0_) (by decide), Q_X1_, Q_X4_, fun _ => rfl, Q_X6_⟩
  refine steps_cons ?_ ?_
  ·rintro b a w' ⟨v681, v684, v688, v692, gb694, m1_, m4_, m5_, m6_, ha, Q_BK677, Q_BK678, Q_HB, Q_HO682, Q_HO685, Q_HO689, Q_HO693, Q_BK694, Q_GW694, Q_GE694, Q_NB677_694, Q_NB694_677, Q_NB678_694, Q_NB694_678, Q_BK694_e7, Q_X1_, Q_X4_, Q_X5_, Q_X6_⟩ hb_ hon hoff
   refine ⟨_, rfl, fun K hK => ?_⟩
   replace ha := mk0 ha
   have BK677 := mk0 Q_BK677
   have BK678 := mk0 Q_BK678
   have HB := mk0 Q_HB
   refine box_step ?hg (N := 5) ?hd (cs := #[.bool false, .slice none 0 0]) (t := 27) ?hr ?_; (case hd => rfl); (case hg => rfl); (case hr => first | (go_simp; done) | (go_simp; rfl))
   intro gb694 hg w15 hbox hb
   have n0_ := bkB BK677 hb
   have n1_ := bkB BK678 hb
   have n2_ := mk0 (below_step (by repeat (first | exact HB.out | refine below_set ?_ GE677.out | refine below_set ?_ GE678.out)) hb)
   have n3_ := mk0 (hbox)
   have n4_ := mk0 ((by rw [hg]; exact (below_size (by repeat (first | exact HB.out | refine below_set ?_ GE677.out | refine below_set ?_ GE678.out))) : w.heap.size ≤ gb694))
   have n5_ := mk0 ((by rw [hg]; exact (below_size (by repeat (first | exact HB.out | refine below_set ?_ GE677.out | refine below_set ?_ GE678.out))) : w.heap.size ≤ gb694))
   have n6_ := nbA hg BK677
   have n7_ := nbB hg BK677
   have n8_ := nbA hg BK678
   have n9_ := nbB hg BK678
   have z_HO682 := fun (h0_ : b 1 = true) => (show Kd.R (Kd.int .u32) 87 w15 w.heap.size (fun _ => True) v681 t680 from by first | exact (Kd.R_below ((Q_HO682 h0_)) hb) | exact Kd.R_mono (Kd.R_below ((Q_HO682 h0_)) hb) (fun _ _ => trivial))
   have z_HO685 := fun (h0_ : b 3 = true) => (show Kd.R (Kd.int .u32) 87 w15 w.heap.size (fun _ => True) v684 t683 from by first | exact (Kd.R_below ((Q_HO685 h0_)) hb) | exact Kd.R_mono (Kd.R_below ((Q_HO685 h0_)) hb) (fun _ _ => trivial))
   have z_HO689 := fun (h0_ : b 4 = true) => (show Kd.R (Kd.int .u32) 87 w15 w.heap.size (fun _ => True) v688 t687 from by first | exact (Kd.R_below ((Q_HO689 h0_)) hb) | exact Kd.R_mono (Kd.R_below ((Q_HO689 h0_)) hb) (fun _ _ => trivial))
   have z_HO693 := fun (h0_ : b 5 = true) => (show Kd.R (Kd.int .u32) 87 w15 w.heap.size (fun _ => True) v692 t691 from by first | exact (Kd.R_below ((Q_HO693 h0_)) hb) | exact Kd.R_mono (Kd.R_below ((Q_HO693 h0_)) hb) (fun _ _ => trivial))
   clear BK677
   clear BK678
   clear HB
   have BK677 := n0_
   have BK678 := n1_
   have HB := n2_
   have BK694 := n3_
   have GW694 := n4_
   have GE694 := n5_
   have NB677_694 := n6_
   have NB694_677 := n7_
   have NB678_694 := n8_
   have NB694_678 := n9_
   clear n0_ n1_ n2_ n3_ n4_ n5_ n6_ n7_ n8_ n9_
   clear hb hbox hg
   refine hK.out _ _ ⟨v681, v684, v688, v692, gb694, m1_, m4_, m5_, (.pointer (some ⟨gb694, 0, none⟩)), (by rw [ha.out]; exact putSel_upk 6 hb_ rfl rfl rfl), BK677.out, BK678.out, (by repeat (first | exact HB.out | refine below_set ?_ GE677.out | refine below_set ?_ GE678.out | refine below_set ?_ GE694.out)), z_HO682, z_HO685, z_HO689, z_HO693, fun _ _ => BK694.out, fun _ => GW694.out, fun _ => GE694.out, fun _ => NB677_694.out, fun _ => NB694_677.out, fun _ => NB678_694.out, fun _ => NB694_678.out, fun h0_ => absurd ((hoff 7 (by kernel_rfl)).symm.trans h0_) (by decide), Q_X1_, Q_X4_, Q_X5_, fun _ => rfl⟩
  refine steps_cons ?_ ?_
  ·rintro b a w' ⟨v681, v684, v688, v692, gb694, m1_, m4_, m5_, m6_, ha, Q_BK677, Q_BK678, Q_HB, Q_HO682, Q_HO685, Q_HO689, Q_HO693, Q_BK694, Q_GW694, Q_GE694, Q_NB677_694, Q_NB694_677, Q_NB678_694, Q_NB694_678, Q_BK694_e7, Q_X1_, Q_X4_, Q_X5_, Q_X6_⟩ hb_ hon hoff
   refine ⟨_, rfl, fun K hK => ?_⟩
   have e5 : a.tmps[5]? = some (m6_) := by rw [ha]; exact putSel_on (e := (6, 5, m6_)) 6 rfl rfl (hon 6 (by kernel_rfl)) rfl
   rw [Q_X6_ (hon 6 (by kernel_rfl))] at e5
   have e12 : a.tmps[12]? = some (m5_) := by rw [ha]; exact putSel_on (e := (5, 12, m5_)) 5 rfl rfl (hon 5 (by kernel_rfl)) rfl
   rw [Q_X5_ (hon 5 (by kernel_rfl))] at e12
   replace ha := mk0 ha
   have BK677 := mk0 Q_BK677
   have BK678 := mk0 Q_BK678
   have HB := mk0 Q_HB
   have HO682 := mk0 (Q_HO682 (hon 1 (by kernel_rfl)))
   have HO685 := mk0 (Q_HO685 (hon 3 (by kernel_rfl)))
   have HO689 := mk0 (Q_HO689 (hon 4 (by kernel_rfl)))
   have HO693 := mk0 (Q_HO693 (hon 5 (by kernel_rfl)))
   have BK694 := mk0 (Q_BK694 (hon 6 (by kernel_rfl)) hb_)
   have GW694 := mk0 (Q_GW694 (hon 6 (by kernel_rfl)))
   have GE694 := mk0 (Q_GE694 (hon 6 (by kernel_rfl)))
   have NB677_694 := mk0 (Q_NB677_694 (hon 6 (by kernel_rfl)))
   have NB694_677 := mk0 (Q_NB694_677 (hon 6 (by kernel_rfl)))
   have NB678_694 := mk0 (Q_NB678_694 (hon 6 (by kernel_rfl)))
   have NB694_678 := mk0 (Q_NB694_678 (hon 6 (by kernel_rfl)))
   obtain ⟨Ao25, co25, eo25⟩ := Kd.R_slice HO693.out
   (first | subst eo25 | (injection eo25 with f1_ f2_ f3_; have f4_ := f1_.symm; have f5_ := f3_.symm; clear f1_ f2_ f3_; subst f4_; subst f5_))
   have hs24 : w'.cell? ⟨gb694, 0, none⟩ = some (.bool false) := (blk_cell BK694.out 0).trans rfl
   have hfs24 := blk_frozen BK694.out 0
   have hns24_0 := NB677_694.out
   have hns24_1 := NB678_694.out
   have hms24_0 := NB694_677.out
   have hms24_1 := NB694_678.out
   have hs26 : w'.cell? ⟨gb694, 1, none⟩ = some (.slice none 0 0) := (blk_cell BK694.out 1).trans rfl
   have hfs26 := blk_frozen BK694.out 1
   have hns26_0 := NB677_694.out
   have hns26_1 := NB678_694.out
   have hms26_0 := NB694_677.out
   have hms26_1 := NB694_678.out
   refine skip_ (w1 := ?_) (by rfl) rfl ?_ ?_
   rotate_left
   ·go_simp
    rfl
   refine hK.out _ _ ⟨v681, v684, v688, .slice Ao25 t691.length co25, gb694, m1_, m4_, m5_, m6_, (by rw [ha.out]; exact putSel_none (v := undef) rfl), (by refine blk_far ?_ NB677_694.out _; refine blk_far ?_ NB677_694.out _; exact BK677.out), (by refine blk_far ?_ NB678_694.out _; refine blk_far ?_ NB678_694.out _; exact BK678.out), (by repeat (first | exact HB.out | refine below_set ?_ GE677.out | refine below_set ?_ GE678.out | refine below_set ?_ GE694.out)), fun _ => (Kd.R_mono (Kd.R_far (p := ⟨gb694, 1, none⟩) (Kd.R_far (p := ⟨gb694, 0, none⟩) (Kd.R_types HO682.out BK694.out (by decide)) (fun _ hk => hk.2) (.bool t690)) (fun _ hk => hk.2) (.slice Ao25 t691.length co25)) (fun _ _ => trivial)), fun _ => (Kd.R_mono (Kd.R_far (p := ⟨gb694, 1, none⟩) (Kd.R_far (p := ⟨gb694, 0, none⟩) (Kd.R_types HO685.out BK694.out (by decide)) (fun _ hk => hk.2) (.bool t690)) (fun _ hk => hk.2) (.slice Ao25 t691.length co25)) (fun _ _ => trivial)), fun _ => (Kd.R_mono (Kd.R_far (p := ⟨gb694, 1, none⟩) (Kd.R_far (p := ⟨gb694, 0, none⟩) (Kd.R_types HO689.out BK694.out (by decide)) (fun _ hk => hk.2) (.bool t690)) (fun _ hk => hk.2) (.slice Ao25 t691.length co25)) (fun _ _ => trivial)), fun _ => (Kd.R_mono (Kd.R_far (p := ⟨gb694, 1, none⟩) (Kd.R_far (p := ⟨gb694, 0, none⟩) (Kd.R_types HO693.out BK694.out (by decide)) (fun _ hk => hk.2) (.bool t690)) (fun _ hk => hk.2) (.slice Ao25 t691.length co25)) (fun _ _ => trivial)), fun _ h1_ => absurd ((up_self b 7).symm.trans h1_) (by decide), fun _ => GW694.out, fun _ => GE694.out, fun _ => NB677_694.out, fun _ => NB694_677.out, fun _ => NB678_694.out, fun _ => NB694_678.out, fun _ => (by refine blk_put (cs := #[.bool t690, .slice none 0 0]) ?_ 1 _ rfl; refine blk_put (cs := #[.bool false, .slice none 0 0]) ?_ 0 _ rfl; exact BK694.out), Q_X1_, Q_X4_, Q_X5_, Q_X6_⟩
  exact steps_nil
 rintro b a w26 hall ⟨v681, v684, v688, v692, gb694, m1_, m4_, m5_, m6_, ha, Q_BK677, Q_BK678, Q_HB, Q_HO682, Q_HO685, Q_HO689, Q_HO693, Q_BK694, Q_GW694, Q_GE694, Q_NB677_694, Q_NB694_677, Q_NB678_694, Q_NB694_678, Q_BK694_e7, Q_X1_, Q_X4_, Q_X5_, Q_X6_⟩
 clear BK677 BK678 HB
 have hb0_ := hall 0 (by kernel_rfl)
 have hb1_ := hall 1 (by kernel_rfl)
 have hb2_ := hall 2 (by kernel_rfl)
 have hb3_ := hall 3 (by kernel_rfl)
 have hb4_ := hall 4 (by kernel_rfl)
 have hb5_ := hall 5 (by kernel_rfl)
 have hb6_ := hall 6 (by kernel_rfl)
 have hb7_ := hall 7 (by kernel_rfl)
 subst ha
 obtain rfl := Q_X1_ hb1_
 obtain rfl := Q_X4_ hb4_
 obtain rfl := Q_X5_ hb5_
 obtain rfl := Q_X6_ hb6_
 simp only [putSel, hb0_, hb1_, hb2_, hb3_, hb4_, hb5_, hb6_, hb7_, if_true, Act.put, List.setIfInBounds_toArray, List.set_cons_zero, List.set_cons_succ]
 have BK677 := mk0 Q_BK677
 clear Q_BK677
 have BK678 := mk0 Q_BK678
 clear Q_BK678
 have HB := mk0 Q_HB
 clear Q_HB
 have HO682 := mk0 (Q_HO682 hb1_)
 clear Q_HO682
 have HO685 := mk0 (Q_HO685 hb3_)
 clear Q_HO685
 have HO689 := mk0 (Q_HO689 hb4_)
 clear Q_HO689
 have HO693 := mk0 (Q_HO693 hb5_)
 clear Q_HO693
 clear Q_BK694
 have GW694 := mk0 (Q_GW694 hb6_)
 clear Q_GW694
 have GE694 := mk0 (Q_GE694 hb6_)
 clear Q_GE694
 have NB677_694 := mk0 (Q_NB677_694 hb6_)
 clear Q_NB677_694
 have NB694_677 := mk0 (Q_NB694_677 hb6_)
 clear Q_NB694_677
 have NB678_694 := mk0 (Q_NB678_694 hb6_)
 clear Q_NB678_694
 have NB694_678 := mk0 (Q_NB694_678 hb6_)
 clear Q_NB694_678
 have BK694 := mk0 (Q_BK694_e7 hb7_)
 clear Q_BK694_e7
 clear hall hb0_ hb1_ hb2_ hb3_ hb4_ hb5_ hb6_ hb7_
 try go_wp2
 replace HO682 := mk0 (Kd.R_drew HO682.out)
 replace HO685 := mk0 (Kd.R_drew HO685.out)
 replace HO689 := mk0 (Kd.R_drew HO689.out)
 replace HO693 := mk0 (Kd.R_drew HO693.out)
 replace BK677 := mk0 (blk_drew BK677.out)
 replace BK678 := mk0 (blk_drew BK678.out)
 replace BK694 := mk0 (blk_drew BK694.out)
 replace HB := mk0 (below_drew1 HB.out)
 refine start_ (n := 8) (S := fun w' => True) (ds := []) (bv 8 0) (by kernel_rfl) rfl rfl trivial (fun hHeld => ?_); refine with_tabW examboardref03_Cmp.tab2 examboardref03_Cmp.bits2 (fun HT_ HW_ => ?_)
 generalize w26.drew = w27 at HO682 HO685 HO689 HO693 BK677 BK678 BK694 HB hHeld ⊢
 refine inv_at [0, 1, 2, 3, 4, 5, 6, 7] (fun a0_ b a w' => ∃ (v697 : Value) (v700 : Value) (v704 : Value) (v708 : Value) (gb710 : Nat) (m1_ : Value) (m4_ : Value) (m5_ : Value) (m6_ : Value), a = putSel a0_ b [(0, 13, .agg #[.bool a1_0, .slice A1_1 l1_1.length c1_1, .slice A1_2 l1_2.length c1_2]), (1, 14, m1_), (2, 15, .agg #[.bool a0_0, .slice A0_1 l0_1.length c0_1, .slice A0_2 l0_2.length c0_2]), (3, 16, v700), (4, 17, m4_), (5, 18, m5_), (6, 6, m6_)] ∧ (Kd.R (Kd.int .u32) 87 w' w.heap.size (fun _ => True) v681 t680) ∧ (Kd.R (Kd.int .u32) 87 w' w.heap.size (fun _ => True) v684 t683) ∧ (Kd.R (Kd.int .u32) 87 w' w.heap.size (fun _ => True) v688 t687) ∧ (Kd.R (Kd.int .u32) 87 w' w.heap.size (fun _ => True) v692 t691) ∧ (w'.heap[gb677]? = some (.cells #[.bool a0_0, .slice A0_1 l0_1.length c0_1, .slice A0_2 l0_2.length c0_2] 29 (0, 0))) ∧ (w'.heap[gb678]? = some (.cells #[.bool a1_0, .slice A1_1 l1_1.length c1_1, .slice A1_2 l1_2.length c1_2] 29 (0, 0))) ∧ (w'.heap[gb694]? = some (.cells #[.bool t690, v692] 27 (0, 0))) ∧ (Below w.heap.size w w') ∧ (b 1 = true → Kd.R (Kd.int .u32) 87 w' w.heap.size (fun _ => True) v697 t696) ∧ (b 3 = true → Kd.R (Kd.int .u32) 87 w' w.heap.size (fun _ => True) v700 t699) ∧ (b 4 = true → Kd.R (Kd.int .u32) 87 w' w.heap.size (fun _ => True) v704 t703) ∧ (b 5 = true → Kd.R (Kd.int .u32) 87 w' w.heap.size (fun _ => True) v708 t707) ∧ (b 6 = true → b 7 = false → w'.heap[gb710]? = some (.cells #[.bool false, .slice none 0 0] 27 (0, 0))) ∧ (b 6 = true → w.heap.size ≤ gb710) ∧ (b 6 = true → w.heap.size ≤ gb710) ∧ (b 6 = true → gb677 ≠ gb710) ∧ (b 6 = true → gb710 ≠ gb677) ∧ (b 6 = true → gb678 ≠ gb710) ∧ (b 6 = true → gb710 ≠ gb678) ∧ (b 6 = true → gb694 ≠ gb710) ∧ (b 6 = true → gb710 ≠ gb694) ∧ (b 7 = true → w'.heap[gb710]? = some (.cells #[.bool t706, v708] 27 (0, 0))) ∧ (b 1 = true → (m1_ : Value) = .agg #[.bool t695, v697]) ∧ (b 4 = true → (m4_ : Value) = .agg #[.bool t702, v704]) ∧ (b 5 = true → (m5_ : Value) = .agg #[.bool t706, v708]) ∧ (b 6 = true → (m6_ : Value) = .pointer (some ⟨gb710, 0, none⟩))) HT_.out HW_.out (by kernel_rfl) (by kernel_rfl) ?_ ?_ ?_
 ·exact ⟨.bool false, .bool false, .bool false, .bool false, 0, .bool false, .bool false, .bool false, .bool false, by simp only [putSel, Bool.false_eq_true, if_false], HO682.out, HO685.out, HO689.out, HO693.out, BK677.out, BK678.out, BK694.out, HB.out, fun h_ => absurd h_ (by decide), fun h_ => absurd h_ (by decide), fun h_ => absurd h_ (by decide), fun h_ => absurd h_ (by decide), fun h_ => absurd h_ (by decide), fun h_ => absurd h_ (by decide), fun h_ => absurd h_ (by decide), fun h_ => absurd h_ (by decide), fun h_ => absurd h_ (by decide), fun h_ => absurd h_ (by decide), fun h_ => absurd h_ (by decide), fun h_ => absurd h_ (by decide), fun h_ => absurd h_ (by decide), fun h_ => absurd h_ (by decide), fun h_ => absurd h_ (by decide), fun h_ => absurd h_ (by decide), fun h_ => absurd h_ (by decide), fun h_ => absurd h_ (by decide)⟩
 ·skip
  clear BK677 BK678 BK694 HB HO682 HO685 HO689 HO693
  refine steps_cons ?_ ?_
  ·rintro b a w' ⟨v697, v700, v704, v708, gb710, m1_, m4_, m5_, m6_, ha, Q_HO682, Q_HO685, Q_HO689, Q_HO693, Q_BK677, Q_BK678, Q_BK694, Q_HB, Q_HO698, Q_HO701, Q_HO705, Q_HO709, Q_BK710, Q_GW710, Q_GE710, Q_NB677_710, Q_NB710_677, Q_NB678_710, Q_NB710_678, Q_NB694_710, Q_NB710_694, Q_BK710_e7, Q_X1_, Q_X4_, Q_X5_, Q_X6_⟩ hb_ hon hoff
   refine ⟨_, rfl, fun K hK => ?_⟩
   have e3 : a.tmps[3]? = some (.pointer (some ⟨gb678, 0, none⟩)) := by rw [ha]; exact (putSel_off rfl).trans rfl
   replace ha := mk0 ha
   have HO682 := mk0 Q_HO682
   have HO685 := mk0 Q_HO685
   have HO689 := mk0 Q_HO689
   have HO693 := mk0 Q_HO693
   have BK677 := mk0 Q_BK677
   have BK678 := mk0 Q_BK678
   have BK694 := mk0 Q_BK694
   have HB := mk0 Q_HB
   have hc0_ : w'.cell? ⟨gb678, 0, none⟩ = some (.bool a1_0) := (blk_cell BK678.out 0).trans rfl
   have hc1_ : w'.cell? ⟨gb678, 1, none⟩ = some (.slice A1_1 l1_1.length c1_1) := (blk_cell BK678.out 1).trans rfl
   have hc2_ : w'.cell? ⟨gb678, 2, none⟩ = some (.slice A1_2 l1_2.length c1_2) := (blk_cell BK678.out 2).trans rfl
   refine value_ (w1 := w') (v := .agg #[.bool a1_0, .slice A1_1 l1_1.length c1_1, .slice A1_2 l1_2.length c1_2]) (by rfl) rfl ?_ ?_
   ·go_simp
    (try simp only [i64_w])
    try rfl
   refine hK.out _ _ ⟨v697, v700, v704, v708, gb710, m1_, m4_, m5_, m6_, (by rw [ha.out]; exact putSel_upk 0 hb_ rfl rfl rfl), Q_HO682, Q_HO685, Q_HO689, Q_HO693, Q_BK677, Q_BK678, Q_BK694, Q_HB, fun h0_ => absurd ((hoff 1 (by kernel_rfl)).symm.trans h0_) (by decide), fun h0_ => absurd ((hoff 3 (by kernel_rfl)).symm.trans h0_) (by decide), fun h0_ => absurd ((hoff 4 (by kernel_rfl)).symm.trans h0_) (by decide), fun h0_ => absurd ((hoff 5 (by kernel_rfl)).symm.trans h0_) (by decide), Q_BK710, Q_GW710, Q_GE710, Q_NB677_710, Q_NB710_677, Q_NB678_710, Q_NB710_678, Q_NB694_710, Q_NB710_694, fun h0_ => absurd ((hoff 7 (by kernel_rfl)).symm.trans h0_) (by decide), fun h0_ => absurd ((hoff 1 (by kernel_rfl)).symm.trans h0_) (by decide), fun h0_ => absurd ((hoff 4 (by kernel_rfl)).symm.trans h0_) (by decide), fun h0_ => absurd ((hoff 5 (by kernel_rfl)).symm.trans h0_) (by decide), Q_X6_⟩
  refine steps_cons ?_ ?_
  ·rintro b a w' ⟨v697, v700, v704, v708, gb710, m1_, m4_, m5_, m6_, ha, Q_HO682, Q_HO685, Q_HO689, Q_HO693, Q_BK677, Q_BK678, Q_BK694, Q_HB, Q_HO698, Q_HO701, Q_HO705, Q_HO709, Q_BK710, Q_GW710, Q_GE710, Q_NB677_710, Q_NB710_677, Q_NB678_710, Q_NB710_678, Q_NB694_710, Q_NB710_694, Q_BK710_e7, Q_X1_, Q_X4_, Q_X5_, Q_X6_⟩ hb_ hon hoff
   refine ⟨_, rfl, fun K hK => ?_⟩
   have e13 : a.tmps[13]? = some (.agg #[.bool a1_0, .slice A1_1 l1_1.length c1_1, .slice A1_2 l1_2.length c1_2]) := by rw [ha]; exact putSel_on (e := (0, 13, .agg #[.bool a1_0, .slice A1_1 l1_1.length c1_1, .slice A1_2 l1_2.length c1_2])) 0 rfl rfl (hon 0 (by kernel_rfl)) rfl
   replace ha := mk0 ha
   have HO682 := mk0 Q_HO682
   have HO685 := mk0 Q_HO685
   have HO689 := mk0 Q_HO689
   have HO693 := mk0 Q_HO693
   have BK677 := mk0 Q_BK677
   have BK678 := mk0 Q_BK678
   have BK694 := mk0 Q_BK694
   have HB := mk0 Q_HB
   refine goes_ Try.func59 (by kernel_rfl) rfl #[.agg #[.bool a1_0, .slice A1_1 l1_1.length c1_1, .slice A1_2 l1_2.length c1_2]] (by rfl) rfl rfl (by first | (simp only [List.map_toArray, List.map_cons, List.map_nil, Act.eval, Array.getD_eq_getD_getElem?, Option.getD_some, e13]; done) | (simp only [List.map_toArray, List.map_cons, List.map_nil, Act.eval, Array.getD_eq_getD_getElem?, Option.getD_some, e13]; rfl)) ?_
   with_reducible refine (examboardref03_top.calls k a1_0 _ _ l1_1 _ _ l1_2 t695 t696 _ ?side1 ?side2 ?side3 ?side4 A7.out).mono ?_
   (case side1 => repeat (first | exact (Kd.C_below HR1_1.out HB.out) | (with_reducible refine Kd.C_alloc ?_ _) | (with_reducible refine Kd.C_drewN ?_ _) | (with_reducible refine Kd.C_drew ?_)))
   (case side2 => exact HC1_1.out)
   (case side3 => repeat (first | exact (Kd.C_below HR1_2.out HB.out) | (with_reducible refine Kd.C_alloc ?_ _) | (with_reducible refine Kd.C_drewN ?_ _) | (with_reducible refine Kd.C_drew ?_)))
   (case side4 => exact HC1_2.out)
   rintro e w28 ⟨v697, rfl, ho0, hb⟩
   refine ⟨_, rfl, ?_⟩
   have n0_ := mk0 (Kd.R_elder' HO682.out (Kd.R_base ho0) hb)
   have n1_ := mk0 (Kd.R_elder' HO685.out (Kd.R_base ho0) hb)
   have n2_ := mk0 (Kd.R_elder' HO689.out (Kd.R_base ho0) hb)
   have n3_ := mk0 (Kd.R_elder' HO693.out (Kd.R_base ho0) hb)
   have n4_ := mk0 (Kd.R_lower (Kd.R_new' (Kd.R_new' (Kd.R_new' (Kd.R_new' ho0 (Kd.R_lt HO682.out)) (Kd.R_lt HO685.out)) (Kd.R_lt HO689.out)) (Kd.R_lt HO693.out)) (below_size (by repeat (first | exact HB.out | refine below_set ?_ GE677.out | refine below_set ?_ GE678.out | refine below_set ?_ GE694.out))))
   have n5_ := bkB BK677 hb
   have n6_ := bkB BK678 hb
   have n7_ := bkB BK694 hb
   have n8_ := mk0 (below_step (by repeat (first | exact HB.out | refine below_set ?_ GE677.out | refine below_set ?_ GE678.out | refine below_set ?_ GE694.out)) hb)
   have z_BK710 := fun (h0_ : b 6 = true) (h1_ : b 7 = false) => (show w28.heap[gb710]? = some (.cells #[.bool false, .slice none 0 0] 27 (0, 0)) from by first | exact (blk_below (g := gb710) (o := .cells #[.bool false, .slice none 0 0] 27 (0, 0)) ((Q_BK710 h0_ h1_)) hb))
   clear HO682
   clear HO685
   clear HO689
   clear HO693
   clear BK677
   clear BK678
   clear BK694
   clear HB
   have HO682 := n0_
   have HO685 := n1_
   have HO689 := n2_
   have HO693 := n3_
   have HO698 := n4_
   have BK677 := n5_
   have BK678 := n6_
   have BK694 := n7_
   have HB := n8_
   clear n0_ n1_ n2_ n3_ n4_ n5_ n6_ n7_ n8_
   refine hK.out _ _ ⟨v697, v700, v704, v708, gb710, (.agg #[.bool t695, v697]), m4_, m5_, m6_, (by rw [ha.out]; exact putSel_upk 1 hb_ rfl rfl rfl), (Kd.R_mono HO682.out (fun _ _ => trivial)), (Kd.R_mono HO685.out (fun _ _ => trivial)), (Kd.R_mono HO689.out (fun _ _ => trivial)), (Kd.R_mono HO693.out (fun _ _ => trivial)), BK677.out, BK678.out, BK694.out, (by repeat (first | exact HB.out | refine below_set ?_ GE677.out | refine below_set ?_ GE678.out | refine below_set ?_ GE694.out)), fun _ => (Kd.R_mono HO698.out (fun _ _ => trivial)), fun h0_ => absurd ((hoff 3 (by kernel_rfl)).symm.trans h0_) (by decide), fun h0_ => absurd ((hoff 4 (by kernel_rfl)).symm.trans h0_) (by decide), fun h0_ => absurd ((hoff 5 (by kernel_rfl)).symm.trans h0_) (by decide), z_BK710, Q_GW710, Q_GE710, Q_NB677_710, Q_NB710_677, Q_NB678_710, Q_NB710_678, Q_NB694_710, Q_NB710_694, fun h0_ => absurd ((hoff 7 (by kernel_rfl)).symm.trans h0_) (by decide), fun _ => rfl, fun h0_ => absurd ((hoff 4 (by kernel_rfl)).symm.trans h0_) (by decide), fun h0_ => absurd ((hoff 5 (by kernel_rfl)).symm.trans h0_) (by decide), Q_X6_⟩
  refine steps_cons ?_ ?_
  ·rintro b a w' ⟨v697, v700, v704, v708, gb710, m1_, m4_, m5_, m6_, ha, Q_HO682, Q_HO685, Q_HO689, Q_HO693, Q_BK677, Q_BK678, Q_BK694, Q_HB, Q_HO698, Q_HO701, Q_HO705, Q_HO709, Q_BK710, Q_GW710, Q_GE710, Q_NB677_710, Q_NB710_677, Q_NB678_710, Q_NB710_678, Q_NB694_710, Q_NB710_694, Q_BK710_e7, Q_X1_, Q_X4_, Q_X5_, Q_X6_⟩ hb_ hon hoff
   refine ⟨_, rfl, fun K hK => ?_⟩
   have e2 : a.tmps[2]? = some (.pointer (some ⟨gb677, 0, none⟩)) := by rw [ha]; exact (putSel_off rfl).trans rfl
   replace ha := mk0 ha
   have HO682 := mk0 Q_HO682
   have HO685 := mk0 Q_HO685
   have HO689 := mk0 Q_HO689
   have HO693 := mk0 Q_HO693
   have BK677 := mk0 Q_BK677
   have BK678 := mk0 Q_BK678
   have BK694 := mk0 Q_BK694
   have HB := mk0 Q_HB
   have hc0_ : w'.cell? ⟨gb677, 0, none⟩ = some (.bool a0_0) := (blk_cell BK677.out 0).trans rfl
   have hc1_ : w'.cell? ⟨gb677, 1, none⟩ = some (.slice A0_1 l0_1.length c0_1) := (blk_cell BK677.out 1).trans rfl
   have hc2_ : w'.cell? ⟨gb677, 2, none⟩ = some (.slice A0_2 l0_2.length c0_2) := (blk_cell BK677.out 2).trans rfl
   refine value_ (w1 := w') (v := .agg #[.bool a0_0, .slice A0_1 l0_1.length c0_1, .slice A0_2 l0_2.length c0_2]) (by rfl) rfl ?_ ?_
   ·go_simp
    (try simp only [i64_w])
    try rfl
   refine hK.out _ _ ⟨v697, v700, v704, v708, gb710, m1_, m4_, m5_, m6_, (by rw [ha.out]; exact putSel_upk 2 hb_ rfl rfl rfl), Q_HO682, Q_HO685, Q_HO689, Q_HO693, Q_BK677, Q_BK678, Q_BK694, Q_HB, Q_HO698, fun h0_ => absurd ((hoff 3 (by kernel_rfl)).symm.trans h0_) (by decide), fun h0_ => absurd ((hoff 4 (by kernel_rfl)).symm.trans h0_) (by decide), fun h0_ => absurd ((hoff 5 (by kernel_rfl)).symm.trans h0_) (by decide), Q_BK710, Q_GW710, Q_GE710, Q_NB677_710, Q_NB710_677, Q_NB678_710, Q_NB710_678, Q_NB694_710, Q_NB710_694, fun h0_ => absurd ((hoff 7 (by kernel_rfl)).symm.trans h0_) (by decide), Q_X1_, fun h0_ => absurd ((hoff 4 (by kernel_rfl)).symm.trans h0_) (by decide), fun h0_ => absurd ((hoff 5 (by kernel_rfl)).symm.trans h0_) (by decide), Q_X6_⟩
  refine steps_cons ?_ ?_
  ·rintro b a w' ⟨v697, v700, v704, v708, gb710, m1_, m4_, m5_, m6_, ha, Q_HO682, Q_HO685, Q_HO689, Q_HO693, Q_BK677, Q_BK678, Q_BK694, Q_HB, Q_HO698, Q_HO701, Q_HO705, Q_HO709, Q_BK710, Q_GW710, Q_GE710, Q_NB677_710, Q_NB710_677, Q_NB678_710, Q_NB710_678, Q_NB694_710, Q_NB710_694, Q_BK710_e7, Q_X1_, Q_X4_, Q_X5_, Q_X6_⟩ hb_ hon hoff
   refine ⟨_, rfl, fun K hK => ?_⟩
   have e15 : a.tmps[15]? = some (.agg #[.bool a0_0, .slice A0_1 l0_1.length c0_1, .slice A0_2 l0_2.length c0_2]) := by rw [ha]; exact putSel_on (e := (2, 15, .agg #[.bool a0_0, .slice A0_1 l0_1.length c0_1, .slice A0_2 l0_2.length c0_2])) 2 rfl rfl (hon 2 (by kernel_rfl)) rfl
   replace ha := mk0 ha
   have HO682 := mk0 Q_HO682
   have HO685 := mk0 Q_HO685
   have HO689 := mk0 Q_HO689
   have HO693 := mk0 Q_HO693
   have BK677 := mk0 Q_BK677
   have BK678 := mk0 Q_BK678
   have BK694 := mk0 Q_BK694
   have HB := mk0 Q_HB
   have HO698 := mk0 (Q_HO698 (hon 1 (by kernel_rfl)))
   refine goes_ Try.func61 (by kernel_rfl) rfl #[.agg #[.bool a0_0, .slice A0_1 l0_1.length c0_1, .slice A0_2 l0_2.length c0_2]] (by rfl) rfl rfl (by first | (simp only [List.map_toArray, List.map_cons, List.map_nil, Act.eval, Array.getD_eq_getD_getElem?, Option.getD_some, e15]; done) | (simp only [List.map_toArray, List.map_cons, List.map_nil, Act.eval, Array.getD_eq_getD_getElem?, Option.getD_some, e15]; rfl)) ?_
   with_reducible refine (examboardref03_low.calls k a0_0 _ _ l0_1 _ _ l0_2 t699 _ ?side1 ?side2 ?side3 ?side4 A8.out).mono ?_
   (case side1 => repeat (first | exact (Kd.C_below HR0_1.out HB.out) | (with_reducible refine Kd.C_alloc ?_ _) | (with_reducible refine Kd.C_drewN ?_ _) | (with_reducible refine Kd.C_drew ?_)))
   (case side2 => exact HC0_1.out)
   (case side3 => repeat (first | exact (Kd.C_below HR0_2.out HB.out) | (with_reducible refine Kd.C_alloc ?_ _) | (with_reducible refine Kd.C_drewN ?_ _) | (with_reducible refine Kd.C_drew ?_)))
   (case side4 => exact HC0_2.out)
   rintro e w30 ⟨v700, rfl, ho0, hb⟩
   refine ⟨_, rfl, ?_⟩
   have n0_ := mk0 (Kd.R_elder' HO682.out (Kd.R_base ho0) hb)
   have n1_ := mk0 (Kd.R_elder' HO685.out (Kd.R_base ho0) hb)
   have n2_ := mk0 (Kd.R_elder' HO689.out (Kd.R_base ho0) hb)
   have n3_ := mk0 (Kd.R_elder' HO693.out (Kd.R_base ho0) hb)
   have n4_ := mk0 (Kd.R_elder' HO698.out (Kd.R_base ho0) hb)
   have n5_ := mk0 (Kd.R_lower (Kd.R_new' (Kd.R_new' (Kd.R_new' (Kd.R_new' (Kd.R_new' ho0 (Kd.R_lt HO682.out)) (Kd.R_lt HO685.out)) (Kd.R_lt HO689.out)) (Kd.R_lt HO693.out)) (Kd.R_lt HO698.out)) (below_size (by repeat (first | exact HB.out | refine below_set ?_ GE677.out | refine below_set ?_ GE678.out | refine below_set ?_ GE694.out))))
   have n6_ := bkB BK677 hb
   have n7_ := bkB BK678 hb
   have n8_ := bkB BK694 hb
   have n9_ := mk0 (below_step (by repeat (first | exact HB.out | refine below_set ?_ GE677.out | refine below_set ?_ GE678.out | refine below_set ?_ GE694.out)) hb)
   have z_BK710 := fun (h0_ : b 6 = true) (h1_ : b 7 = false) => (show w30.heap[gb710]? = some (.cells #[.bool false, .slice none 0 0] 27 (0, 0)) from by first | exact (blk_below (g := gb710) (o := .cells #[.bool false, .slice none 0 0] 27 (0, 0)) ((Q_BK710 h0_ h1_)) hb))
   clear HO682
   clear HO685
   clear HO689
   clear HO693
   clear HO698
   clear BK677
   clear BK678
   clear BK694
   clear HB
   have HO682 := n0_
   have HO685 := n1_
   have HO689 := n2_
   have HO693 := n3_
   have HO698 := n4_
   have HO701 := n5_
   have BK677 := n6_
   have BK678 := n7_
   have BK694 := n8_
   have HB := n9_
   clear n0_ n1_ n2_ n3_ n4_ n5_ n6_ n7_ n8_ n9_
   refine hK.out _ _ ⟨v697, v700, v704, v708, gb710, m1_, m4_, m5_, m6_, (by rw [ha.out]; exact putSel_upk 3 hb_ rfl rfl rfl), (Kd.R_mono HO682.out (fun _ _ => trivial)), (Kd.R_mono HO685.out (fun _ _ => trivial)), (Kd.R_mono HO689.out (fun _ _ => trivial)), (Kd.R_mono HO693.out (fun _ _ => trivial)), BK677.out, BK678.out, BK694.out, (by repeat (first | exact HB.out | refine below_set ?_ GE677.out | refine below_set ?_ GE678.out | refine below_set ?_ GE694.out)), fun _ => (Kd.R_mono HO698.out (fun _ _ => trivial)), fun _ => (Kd.R_mono HO701.out (fun _ _ => trivial)), fun h0_ => absurd ((hoff 4 (by kernel_rfl)).symm.trans h0_) (by decide), fun h0_ => absurd ((hoff 5 (by kernel_rfl)).symm.trans h0_) (by decide), z_BK710, Q_GW710, Q_GE710, Q_NB677_710, Q_NB710_677, Q_NB678_710, Q_NB710_678, Q_NB694_710, Q_NB710_694, fun h0_ => absurd ((hoff 7 (by kernel_rfl)).symm.trans h0_) (by decide), Q_X1_, fun h0_ => absurd ((hoff 4 (by kernel_rfl)).symm.trans h0_) (by decide), fun h0_ => absurd ((hoff 5 (by kernel_rfl)).symm.trans h0_) (by decide), Q_X6_⟩
  refine steps_cons ?_ ?_
  ·rintro b a w' ⟨v697, v700, v704, v708, gb710, m1_, m4_, m5_, m6_, ha, Q_HO682, Q_HO685, Q_HO689, Q_HO693, Q_BK677, Q_BK678, Q_BK694, Q_HB, Q_HO698, Q_HO701, Q_HO705, Q_HO709, Q_BK710, Q_GW710, Q_GE710, Q_NB677_710, Q_NB710_677, Q_NB678_710, Q_NB710_678, Q_NB694_710, Q_NB710_694, Q_BK710_e7, Q_X1_, Q_X4_, Q_X5_, Q_X6_⟩ hb_ hon hoff
   refine ⟨_, rfl, fun K hK => ?_⟩
   have e16 : a.tmps[16]? = some (v700) := by rw [ha]; exact putSel_on (e := (3, 16, v700)) 3 rfl rfl (hon 3 (by kernel_rfl)) rfl
   replace ha := mk0 ha
   have HO682 := mk0 Q_HO682
   have HO685 := mk0 Q_HO685
   have HO689 := mk0 Q_HO689
   have HO693 := mk0 Q_HO693
   have BK677 := mk0 Q_BK677
   have BK678 := mk0 Q_BK678
   have BK694 := mk0 Q_BK694
   have HB := mk0 Q_HB
   have HO698 := mk0 (Q_HO698 (hon 1 (by kernel_rfl)))
   have HO701 := mk0 (Q_HO701 (hon 3 (by kernel_rfl)))
   obtain ⟨Ao31, co31, eo31⟩ := Kd.R_slice HO701.out
   (first | subst eo31 | (injection eo31 with f1_ f2_ f3_; have f4_ := f1_.symm; have f5_ := f3_.symm; clear f1_ f2_ f3_; subst f4_; subst f5_))
   refine goes_ Try.func62 (by kernel_rfl) rfl #[.bool false, .slice Ao31 t699.length co31] (by rfl) rfl rfl (by first | (simp only [List.map_toArray, List.map_cons, List.map_nil, Act.eval, Array.getD_eq_getD_getElem?, Option.getD_some, e16]; done) | (simp only [List.map_toArray, List.map_cons, List.map_nil, Act.eval, Array.getD_eq_getD_getElem?, Option.getD_some, e16]; rfl)) ?_
   with_reducible refine (examboardref02_Make.calls k false _ _ t699 t702 t703 _ ?side1 ?side2 A9.out).mono ?_
   (case side1 => repeat (first | exact (Kd.R_reads' HO701.out).2.2 | (with_reducible refine Kd.C_alloc ?_ _) | (with_reducible refine Kd.C_drewN ?_ _) | (with_reducible refine Kd.C_drew ?_)))
   (case side2 => exact (Kd.R_reads' HO701.out).2.1)
   rintro e w32 ⟨v704, rfl, ho0, hb⟩
   refine ⟨_, rfl, ?_⟩
   have n0_ := mk0 (Kd.R_elder' HO682.out (Kd.R_base ho0) hb)
   have n1_ := mk0 (Kd.R_elder' HO685.out (Kd.R_base ho0) hb)
   have n2_ := mk0 (Kd.R_elder' HO689.out (Kd.R_base ho0) hb)
   have n3_ := mk0 (Kd.R_elder' HO693.out (Kd.R_base ho0) hb)
   have n4_ := mk0 (Kd.R_elder' HO698.out (Kd.R_base ho0) hb)
   have n5_ := mk0 (Kd.R_elder' HO701.out (Kd.R_base ho0) hb)
   have n6_ := mk0 (Kd.R_lower (Kd.R_new' (Kd.R_new' (Kd.R_new' (Kd.R_new' (Kd.R_new' (Kd.R_new' ho0 (Kd.R_lt HO682.out)) (Kd.R_lt HO685.out)) (Kd.R_lt HO689.out)) (Kd.R_lt HO693.out)) (Kd.R_lt HO698.out)) (Kd.R_lt HO701.out)) (below_size (by repeat (first | exact HB.out | refine below_set ?_ GE677.out | refine below_set ?_ GE678.out | refine below_set ?_ GE694.out))))
   have n7_ := bkB BK677 hb
   have n8_ := bkB BK678 hb
   have n9_ := bkB BK694 hb
   have n10_ := mk0 (below_step (by repeat (first | exact HB.out | refine below_set ?_ GE677.out | refine below_set ?_ GE678.out | refine below_set ?_ GE694.out)) hb)
   have z_BK710 := fun (h0_ : b 6 = true) (h1_ : b 7 = false) => (show w32.heap[gb710]? = some (.cells #[.bool false, .slice none 0 0] 27 (0, 0)) from by first | exact (blk_below (g := gb710) (o := .cells #[.bool false, .slice none 0 0] 27 (0, 0)) ((Q_BK710 h0_ h1_)) hb))
   clear HO682
   clear HO685
   clear HO689
   clear HO693
   clear HO698
   clear HO701
   clear BK677
   clear BK678
   clear BK694
   clear HB
   have HO682 := n0_
   have HO685 := n1_
   have HO689 := n2_
   have HO693 := n3_
   have HO698 := n4_
   have HO701 := n5_
   have HO705 := n6_
   have BK677 := n7_
   have BK678 := n8_
   have BK694 := n9_
   have HB := n10_
   clear n0_ n1_ n2_ n3_ n4_ n5_ n6_ n7_ n8_ n9_ n10_
   refine hK.out _ _ ⟨v697, .slice Ao31 t699.length co31, v704, v708, gb710, m1_, (.agg #[.bool t702, v704]), m5_, m6_, (by rw [ha.out]; exact putSel_upk 4 hb_ rfl rfl rfl), (Kd.R_mono HO682.out (fun _ _ => trivial)), (Kd.R_mono HO685.out (fun _ _ => trivial)), (Kd.R_mono HO689.out (fun _ _ => trivial)), (Kd.R_mono HO693.out (fun _ _ => trivial)), BK677.out, BK678.out, BK694.out, (by repeat (first | exact HB.out | refine below_set ?_ GE677.out | refine below_set ?_ GE678.out | refine below_set ?_ GE694.out)), fun _ => (Kd.R_mono HO698.out (fun _ _ => trivial)), fun _ => (Kd.R_mono HO701.out (fun _ _ => trivial)), fun _ => (Kd.R_mono HO705.out (fun _ _ => trivial)), fun h0_ => absurd ((hoff 5 (by kernel_rfl)).symm.trans h0_) (by decide), z_BK710, Q_GW710, Q_GE710, Q_NB677_710, Q_NB710_677, Q_NB678_710, Q_NB710_678, Q_NB694_710, Q_NB710_694, fun h0_ => absurd ((hoff 7 (by kernel_rfl)).symm.trans h0_) (by decide), Q_X1_, fun _ => rfl, fun h0_ => absurd ((hoff 5 (by kernel_rfl)).symm.trans h0_) (by decide), Q_X6_⟩
  refine steps_cons ?_ ?_
  ·rintro b a w' ⟨v697, v700, v704, v708, gb710, m1_, m4_, m5_, m6_, ha, Q_HO682, Q_HO685, Q_HO689, Q_HO693, Q_BK677, Q_BK678, Q_BK694, Q_HB, Q_HO698, Q_HO701, Q_HO705, Q_HO709, Q_BK710, Q_GW710, Q_GE710, Q_NB677_710, Q_NB710_677, Q_NB678_710, Q_NB710_678, Q_NB694_710, Q_NB710_694, Q_BK710_e7, Q_X1_, Q_X4_, Q_X5_, Q_X6_⟩ hb_ hon hoff
   refine ⟨_, rfl, fun K hK => ?_⟩
   have e14 : a.tmps[14]? = some (m1_) := by rw [ha]; exact putSel_on (e := (1, 14, m1_)) 1 rfl rfl (hon 1 (by kernel_rfl)) rfl
   rw [Q_X1_ (hon 1 (by kernel_rfl))] at e14
   have e17 : a.tmps[17]? = some (m4_) := by rw [ha]; exact putSel_on (e := (4, 17, m4_)) 4 rfl rfl (hon 4 (by kernel_rfl)) rfl
   rw [Q_X4_ (hon 4 (by kernel_rfl))] at e17
   replace ha := mk0 ha
   have HO682 := mk0 Q_HO682
   have HO685 := mk0 Q_HO685
   have HO689 := mk0 Q_HO689
   have HO693 := mk0 Q_HO693
   have BK677 := mk0 Q_BK677
   have BK678 := mk0 Q_BK678
   have BK694 := mk0 Q_BK694
   have HB := mk0 Q_HB
   have HO698 := mk0 (Q_HO698 (hon 1 (by kernel_rfl)))
   have HO701 := mk0 (Q_HO701 (hon 3 (by kernel_rfl)))
   have HO705 := mk0 (Q_HO705 (hon 4 (by kernel_rfl)))
   obtain ⟨Ao33, co33, eo33⟩ := Kd.R_slice HO698.out
   (first | subst eo33 | (injection eo33 with f1_ f2_ f3_; have f4_ := f1_.symm; have f5_ := f3_.symm; clear f1_ f2_ f3_; subst f4_; subst f5_))
   obtain ⟨Ao34, co34, eo34⟩ := Kd.R_slice HO705.out
   (first | subst eo34 | (injection eo34 with f1_ f2_ f3_; have f4_ := f1_.symm; have f5_ := f3_.symm; clear f1_ f2_ f3_; subst f4_; subst f5_))
   refine goes_ Try.func58 (by kernel_rfl) rfl #[.agg #[.bool t695, .slice Ao33 t696.length co33], .agg #[.bool t702, .slice Ao34 t703.length co34]] (by rfl) rfl rfl (by first | (simp only [List.map_toArray, List.map_cons, List.map_nil, Act.eval, Array.getD_eq_getD_getElem?, Option.getD_some, e14, e17]; done) | (simp only [List.map_toArray, List.map_cons, List.map_nil, Act.eval, Array.getD_eq_getD_getElem?, Option.getD_some, e14, e17]; rfl)) ?_
   with_reducible refine (examboardref02_Mul.calls k t695 _ _ t696 t702 _ _ t703 t706 t707 _ ?side1 ?side2 ?side3 ?side4 A10.out).mono ?_
   (case side1 => repeat (first | exact (Kd.R_reads' HO698.out).2.2 | (with_reducible refine Kd.C_alloc ?_ _) | (with_reducible refine Kd.C_drewN ?_ _) | (with_reducible refine Kd.C_drew ?_)))
   (case side2 => exact (Kd.R_reads' HO698.out).2.1)
   (case side3 => repeat (first | exact (Kd.R_reads' HO705.out).2.2 | (with_reducible refine Kd.C_alloc ?_ _) | (with_reducible refine Kd.C_drewN ?_ _) | (with_reducible refine Kd.C_drew ?_)))
   (case side4 => exact (Kd.R_reads' HO705.out).2.1)
   rintro e w35 ⟨v708, rfl, ho0, hb⟩
   refine ⟨_, rfl, ?_⟩
   have n0_ := mk0 (Kd.R_elder' HO682.out (Kd.R_base ho0) hb)
   have n1_ := mk0 (Kd.R_elder' HO685.out (Kd.R_base ho0) hb)
   have n2_ := mk0 (Kd.R_elder' HO689.out (Kd.R_base ho0) hb)
   have n3_ := mk0 (Kd.R_elder' HO693.out (Kd.R_base ho0) hb)
   have n4_ := mk0 (Kd.R_elder' HO698.out (Kd.R_base ho0) hb)
   have n5_ := mk0 (Kd.R_elder' HO701.out (Kd.R_base ho0) hb)
   have n6_ := mk0 (Kd.R_elder' HO705.out (Kd.R_base ho0) hb)
   have n7_ := mk0 (Kd.R_lower (Kd.R_new' (Kd.R_new' (Kd.R_new' (Kd.R_new' (Kd.R_new' (Kd.R_new' (Kd.R_new' ho0 (Kd.R_lt HO682.out)) (Kd.R_lt HO685.out)) (Kd.R_lt HO689.out)) (Kd.R_lt HO693.out)) (Kd.R_lt HO698.out)) (Kd.R_lt HO701.out)) (Kd.R_lt HO705.out)) (below_size (by repeat (first | exact HB.out | refine below_set ?_ GE677.out | refine below_set ?_ GE678.out | refine below_set ?_ GE694.out))))
   have n8_ := bkB BK677 hb
   have n9_ := bkB BK678 hb
   have n10_ := bkB BK694 hb
   have n11_ := mk0 (below_step (by repeat (first | exact HB.out | refine below_set ?_ GE677.out | refine below_set ?_ GE678.out | refine below_set ?_ GE694.out)) hb)
   have z_BK710 := fun (h0_ : b 6 = true) (h1_ : b 7 = false) => (show w35.heap[gb710]? = some (.cells #[.bool false, .slice none 0 0] 27 (0, 0)) from by first | exact (blk_below (g := gb710) (o := .cells #[.bool false, .slice none 0 0] 27 (0, 0)) ((Q_BK710 h0_ h1_)) hb))
   clear HO682
   clear HO685
   clear HO689
   clear HO693
   clear HO698
   clear HO701
   clear HO705
   clear BK677
   clear BK678
   clear BK694
   clear HB
   have HO682 := n0_
   have HO685 := n1_
   have HO689 := n2_
   have HO693 := n3_
   have HO698 := n4_
   have HO701 := n5_
   have HO705 := n6_
   have HO709 := n7_
   have BK677 := n8_
   have BK678 := n9_
   have BK694 := n10_
   have HB := n11_
   clear n0_ n1_ n2_ n3_ n4_ n5_ n6_ n7_ n8_ n9_ n10_ n11_
   refine hK.out _ _ ⟨.slice Ao33 t696.length co33, v700, .slice Ao34 t703.length co34, v708, gb710, m1_, m4_, (.agg #[.bool t706, v708]), m6_, (by rw [ha.out]; exact putSel_upk 5 hb_ rfl rfl rfl), (Kd.R_mono HO682.out (fun _ _ => trivial)), (Kd.R_mono HO685.out (fun _ _ => trivial)), (Kd.R_mono HO689.out (fun _ _ => trivial)), (Kd.R_mono HO693.out (fun _ _ => trivial)), BK677.out, BK678.out, BK694.out, (by repeat (first | exact HB.out | refine below_set ?_ GE677.out | refine below_set ?_ GE678.out | refine below_set ?_ GE694.out)), fun _ => (Kd.R_mono HO698.out (fun _ _ => trivial)), fun _ => (Kd.R_mono HO701.out (fun _ _ => trivial)), fun _ => (Kd.R_mono HO705.out (fun _ _ => trivial)), fun _ => (Kd.R_mono HO709.out (fun _ _ => trivial)), z_BK710, Q_GW710, Q_GE710, Q_NB677_710, Q_NB710_677, Q_NB678_710, Q_NB710_678, Q_NB694_710, Q_NB710_694, fun h0_ => absurd ((hoff 7 (by kernel_rfl)).symm.trans h0_) (by decide), Q_X1_, Q_X4_, fun _ => rfl, Q_X6_⟩
  refine steps_cons ?_ ?_
  ·rintro b a w' ⟨v697, v700, v704, v708, gb710, m1_, m4_, m5_, m6_, ha, Q_HO682, Q_HO685, Q_HO689, Q_HO693, Q_BK677, Q_BK678, Q_BK694, Q_HB, Q_HO698, Q_HO701, Q_HO705, Q_HO709, Q_BK710, Q_GW710, Q_GE710, Q_NB677_710, Q_NB710_677, Q_NB678_710, Q_NB710_678, Q_NB694_710, Q_NB710_694, Q_BK710_e7, Q_X1_, Q_X4_, Q_X5_, Q_X6_⟩ hb_ hon hoff
   refine ⟨_, rfl, fun K hK => ?_⟩
   replace ha := mk0 ha
   have HO682 := mk0 Q_HO682
   have HO685 := mk0 Q_HO685
   have HO689 := mk0 Q_HO689
   have HO693 := mk0 Q_HO693
   have BK677 := mk0 Q_BK677
   have BK678 := mk0 Q_BK678
   have BK694 := mk0 Q_BK694
   have HB := mk0 Q_HB
   refine box_step ?hg (N := 6) ?hd (cs := #[.bool false, .slice none 0 0]) (t := 27) ?hr ?_; (case hd => rfl); (case hg => rfl); (case hr => first | (go_simp; done) | (go_simp; rfl))
   intro gb710 hg w28 hbox hb
   have n0_ := rB HO682 hb
   have n1_ := rB HO685 hb
   have n2_ := rB HO689 hb
   have n3_ := rB HO693 hb
   have n4_ := bkB BK677 hb
   have n5_ := bkB BK678 hb
   have n6_ := bkB BK694 hb
   have n7_ := mk0 (below_step (by repeat (first | exact HB.out | refine below_set ?_ GE677.out | refine below_set ?_ GE678.out | refine below_set ?_ GE694.out)) hb)
   have n8_ := mk0 (hbox)
   have n9_ := mk0 ((by rw [hg]; exact (below_size (by repeat (first | exact HB.out | refine below_set ?_ GE677.out | refine below_set ?_ GE678.out | refine below_set ?_ GE694.out))) : w.heap.size ≤ gb710))
   have n10_ := mk0 ((by rw [hg]; exact (below_size (by repeat (first | exact HB.out | refine below_set ?_ GE677.out | refine below_set ?_ GE678.out | refine below_set ?_ GE694.out))) : w.heap.size ≤ gb710))
   have n11_ := nbA hg BK677
   have n12_ := nbB hg BK677
   have n13_ := nbA hg BK678
   have n14_ := nbB hg BK678
   have n15_ := nbA hg BK694
   have n16_ := nbB hg BK694
   have z_HO698 := fun (h0_ : b 1 = true) => (show Kd.R (Kd.int .u32) 87 w28 w.heap.size (fun _ => True) v697 t696 from by first | exact (Kd.R_below ((Q_HO698 h0_)) hb) | exact Kd.R_mono (Kd.R_below ((Q_HO698 h0_)) hb) (fun _ _ => trivial))
   have z_HO701 := fun (h0_ : b 3 = true) => (show Kd.R (Kd.int .u32) 87 w28 w.heap.size (fun _ => True) v700 t699 from by first | exact (Kd.R_below ((Q_HO701 h0_)) hb) | exact Kd.R_mono (Kd.R_below ((Q_HO701 h0_)) hb) (fun _ _ => trivial))
   have z_HO705 := fun (h0_ : b 4 = true) => (show Kd.R (Kd.int .u32) 87 w28 w.heap.size (fun _ => True) v704 t703 from by first | exact (Kd.R_below ((Q_HO705 h0_)) hb) | exact Kd.R_mono (Kd.R_below ((Q_HO705 h0_)) hb) (fun _ _ => trivial))
   have z_HO709 := fun (h0_ : b 5 = true) => (show Kd.R (Kd.int .u32) 87 w28 w.heap.size (fun _ => True) v708 t707 from by first | exact (Kd.R_below ((Q_HO709 h0_)) hb) | exact Kd.R_mono (Kd.R_below ((Q_HO709 h0_)) hb) (fun _ _ => trivial))
   clear HO682
   clear HO685
   clear HO689
   clear HO693
   clear BK677
   clear BK678
   clear BK694
   clear HB
   have HO682 := n0_
   have HO685 := n1_
   have HO689 := n2_
   have HO693 := n3_
   have BK677 := n4_
   have BK678 := n5_
   have BK694 := n6_
   have HB := n7_
   have BK710 := n8_
   have GW710 := n9_
   have GE710 := n10_
   have NB677_710 := n11_
   have NB710_677 := n12_
   have NB678_710 := n13_
   have NB710_678 := n14_
   have NB694_710 := n15_
   have NB710_694 := n16_
   clear n0_ n1_ n2_ n3_ n4_ n5_ n6_ n7_ n8_ n9_ n10_ n11_ n12_ n13_ n14_ n15_ n16_
   clear hb hbox hg
   refine hK.out _ _ ⟨v697, v700, v704, v708, gb710, m1_, m4_, m5_, (.pointer (some ⟨gb710, 0, none⟩)), (by rw [ha.out]; exact putSel_upk 6 hb_ rfl rfl rfl), HO682.out, HO685.out, HO689.out, HO693.out, BK677.out, BK678.out, BK694.out, (by repeat (first | exact HB.out | refine below_set ?_ GE677.out | refine below_set ?_ GE678.out | refine below_set ?_ GE694.out | refine below_set ?_ GE710.out)), z_HO698, z_HO701, z_HO705, z_HO709, fun _ _ => BK710.out, fun _ => GW710.out, fun _ => GE710.out, fun _ => NB677_710.out, fun _ => NB710_677.out, fun _ => NB678_710.out, fun _ => NB710_678.out, fun _ => NB694_710.out, fun _ => NB710_694.out, fun h0_ => absurd ((hoff 7 (by kernel_rfl)).symm.trans h0_) (by decide), Q_X1_, Q_X4_, Q_X5_, fun _ => rfl⟩
  refine steps_cons ?_ ?_
  ·rintro b a w' ⟨v697, v700, v704, v708, gb710, m1_, m4_, m5_, m6_, ha, Q_HO682, Q_HO685, Q_HO689, Q_HO693, Q_BK677, Q_BK678, Q_BK694, Q_HB, Q_HO698, Q_HO701, Q_HO705, Q_HO709, Q_BK710, Q_GW710, Q_GE710, Q_NB677_710, Q_NB710_677, Q_NB678_710, Q_NB710_678, Q_NB694_710, Q_NB710_694, Q_BK710_e7, Q_X1_, Q_X4_, Q_X5_, Q_X6_⟩ hb_ hon hoff
   refine ⟨_, rfl, fun K hK => ?_⟩
   have e6 : a.tmps[6]? = some (m6_) := by rw [ha]; exact putSel_on (e := (6, 6, m6_)) 6 rfl rfl (hon 6 (by kernel_rfl)) rfl
   rw [Q_X6_ (hon 6 (by kernel_rfl))] at e6
   have e18 : a.tmps[18]? = some (m5_) := by rw [ha]; exact putSel_on (e := (5, 18, m5_)) 5 rfl rfl (hon 5 (by kernel_rfl)) rfl
   rw [Q_X5_ (hon 5 (by kernel_rfl))] at e18
   replace ha := mk0 ha
   have HO682 := mk0 Q_HO682
   have HO685 := mk0 Q_HO685
   have HO689 := mk0 Q_HO689
   have HO693 := mk0 Q_HO693
   have BK677 := mk0 Q_BK677
   have BK678 := mk0 Q_BK678
   have BK694 := mk0 Q_BK694
   have HB := mk0 Q_HB
   have HO698 := mk0 (Q_HO698 (hon 1 (by kernel_rfl)))
   have HO701 := mk0 (Q_HO701 (hon 3 (by kernel_rfl)))
   have HO705 := mk0 (Q_HO705 (hon 4 (by kernel_rfl)))
   have HO709 := mk0 (Q_HO709 (hon 5 (by kernel_rfl)))
   have BK710 := mk0 (Q_BK710 (hon 6 (by kernel_rfl)) hb_)
   have GW710 := mk0 (Q_GW710 (hon 6 (by kernel_rfl)))
   have GE710 := mk0 (Q_GE710 (hon 6 (by kernel_rfl)))
   have NB677_710 := mk0 (Q_NB677_710 (hon 6 (by kernel_rfl)))
   have NB710_677 := mk0 (Q_NB710_677 (hon 6 (by kernel_rfl)))
   have NB678_710 := mk0 (Q_NB678_710 (hon 6 (by kernel_rfl)))
   have NB710_678 := mk0 (Q_NB710_678 (hon 6 (by kernel_rfl)))
   have NB694_710 := mk0 (Q_NB694_710 (hon 6 (by kernel_rfl)))
   have NB710_694 := mk0 (Q_NB710_694 (hon 6 (by kernel_rfl)))
   obtain ⟨Ao38, co38, eo38⟩ := Kd.R_slice HO709.out
   (first | subst eo38 | (injection eo38 with f1_ f2_ f3_; have f4_ := f1_.symm; have f5_ := f3_.symm; clear f1_ f2_ f3_; subst f4_; subst f5_))
   have hs37 : w'.cell? ⟨gb710, 0, none⟩ = some (.bool false) := (blk_cell BK710.out 0).trans rfl
   have hfs37 := blk_frozen BK710.out 0
   have hns37_0 := NB677_710.out
   have hns37_1 := NB678_710.out
   have hns37_2 := NB694_710.out
   have hms37_0 := NB710_677.out
   have hms37_1 := NB710_678.out
   have hms37_2 := NB710_694.out
   have hs39 : w'.cell? ⟨gb710, 1, none⟩ = some (.slice none 0 0) := (blk_cell BK710.out 1).trans rfl
   have hfs39 := blk_frozen BK710.out 1
   have hns39_0 := NB677_710.out
   have hns39_1 := NB678_710.out
   have hns39_2 := NB694_710.out
   have hms39_0 := NB710_677.out
   have hms39_1 := NB710_678.out
   have hms39_2 := NB710_694.out
   refine skip_ (w1 := ?_) (by rfl) rfl ?_ ?_
   rotate_left
   ·go_simp
    rfl
   refine hK.out _ _ ⟨v697, v700, v704, .slice Ao38 t707.length co38, gb710, m1_, m4_, m5_, m6_, (by rw [ha.out]; exact putSel_none (v := undef) rfl), (Kd.R_mono (Kd.R_far (p := ⟨gb710, 1, none⟩) (Kd.R_far (p := ⟨gb710, 0, none⟩) (Kd.R_types HO682.out BK710.out (by decide)) (fun _ hk => hk.2) (.bool t706)) (fun _ hk => hk.2) (.slice Ao38 t707.length co38)) (fun _ _ => trivial)), (Kd.R_mono (Kd.R_far (p := ⟨gb710, 1, none⟩) (Kd.R_far (p := ⟨gb710, 0, none⟩) (Kd.R_types HO685.out BK710.out (by decide)) (fun _ hk => hk.2) (.bool t706)) (fun _ hk => hk.2) (.slice Ao38 t707.length co38)) (fun _ _ => trivial)), (Kd.R_mono (Kd.R_far (p := ⟨gb710, 1, none⟩) (Kd.R_far (p := ⟨gb710, 0, none⟩) (Kd.R_types HO689.out BK710.out (by decide)) (fun _ hk => hk.2) (.bool t706)) (fun _ hk => hk.2) (.slice Ao38 t707.length co38)) (fun _ _ => trivial)), (Kd.R_mono (Kd.R_far (p := ⟨gb710, 1, none⟩) (Kd.R_far (p := ⟨gb710, 0, none⟩) (Kd.R_types HO693.out BK710.out (by decide)) (fun _ hk => hk.2) (.bool t706)) (fun _ hk => hk.2) (.slice Ao38 t707.length co38)) (fun _ _ => trivial)), (by refine blk_far ?_ NB677_710.out _; refine blk_far ?_ NB677_710.out _; exact BK677.out), (by refine blk_far ?_ NB678_710.out _; refine blk_far ?_ NB678_710.out _; exact BK678.out), (by refine blk_far ?_ NB694_710.out _; refine blk_far ?_ NB694_710.out _; exact BK694.out), (by repeat (first | exact HB.out | refine below_set ?_ GE677.out | refine below_set ?_ GE678.out | refine below_set ?_ GE694.out | refine below_set ?_ GE710.out)), fun _ => (Kd.R_mono (Kd.R_far (p := ⟨gb710, 1, none⟩) (Kd.R_far (p := ⟨gb710, 0, none⟩) (Kd.R_types HO698.out BK710.out (by decide)) (fun _ hk => hk.2) (.bool t706)) (fun _ hk => hk.2) (.slice Ao38 t707.length co38)) (fun _ _ => trivial)), fun _ => (Kd.R_mono (Kd.R_far (p := ⟨gb710, 1, none⟩) (Kd.R_far (p := ⟨gb710, 0, none⟩) (Kd.R_types HO701.out BK710.out (by decide)) (fun _ hk => hk.2) (.bool t706)) (fun _ hk => hk.2) (.slice Ao38 t707.length co38)) (fun _ _ => trivial)), fun _ => (Kd.R_mono (Kd.R_far (p := ⟨gb710, 1, none⟩) (Kd.R_far (p := ⟨gb710, 0, none⟩) (Kd.R_types HO705.out BK710.out (by decide)) (fun _ hk => hk.2) (.bool t706)) (fun _ hk => hk.2) (.slice Ao38 t707.length co38)) (fun _ _ => trivial)), fun _ => (Kd.R_mono (Kd.R_far (p := ⟨gb710, 1, none⟩) (Kd.R_far (p := ⟨gb710, 0, none⟩) (Kd.R_types HO709.out BK710.out (by decide)) (fun _ hk => hk.2) (.bool t706)) (fun _ hk => hk.2) (.slice Ao38 t707.length co38)) (fun _ _ => trivial)), fun _ h1_ => absurd ((up_self b 7).symm.trans h1_) (by decide), fun _ => GW710.out, fun _ => GE710.out, fun _ => NB677_710.out, fun _ => NB710_677.out, fun _ => NB678_710.out, fun _ => NB710_678.out, fun _ => NB694_710.out, fun _ => NB710_694.out, fun _ => (by refine blk_put (cs := #[.bool t706, .slice none 0 0]) ?_ 1 _ rfl; refine blk_put (cs := #[.bool false, .slice none 0 0]) ?_ 0 _ rfl; exact BK710.out), Q_X1_, Q_X4_, Q_X5_, Q_X6_⟩
  exact steps_nil
 rintro b a w39 hall ⟨v697, v700, v704, v708, gb710, m1_, m4_, m5_, m6_, ha, Q_HO682, Q_HO685, Q_HO689, Q_HO693, Q_BK677, Q_BK678, Q_BK694, Q_HB, Q_HO698, Q_HO701, Q_HO705, Q_HO709, Q_BK710, Q_GW710, Q_GE710, Q_NB677_710, Q_NB710_677, Q_NB678_710, Q_NB710_678, Q_NB694_710, Q_NB710_694, Q_BK710_e7, Q_X1_, Q_X4_, Q_X5_, Q_X6_⟩
 clear BK677 BK678 BK694 HB HO682 HO685 HO689 HO693
 have hb0_ := hall 0 (by kernel_rfl)
 have hb1_ := hall 1 (by kernel_rfl)
 have hb2_ := hall 2 (by kernel_rfl)
 have hb3_ := hall 3 (by kernel_rfl)
 have hb4_ := hall 4 (by kernel_rfl)
 have hb5_ := hall 5 (by kernel_rfl)
 have hb6_ := hall 6 (by kernel_rfl)
 have hb7_ := hall 7 (by kernel_rfl)
 subst ha
 obtain rfl := Q_X1_ hb1_
 obtain rfl := Q_X4_ hb4_
 obtain rfl := Q_X5_ hb5_
 obtain rfl := Q_X6_ hb6_
 simp only [putSel, hb0_, hb1_, hb2_, hb3_, hb4_, hb5_, hb6_, hb7_, if_true, Act.put, List.setIfInBounds_toArray, List.set_cons_zero, List.set_cons_succ]
 have HO682 := mk0 Q_HO682
 clear Q_HO682
 have HO685 := mk0 Q_HO685
 clear Q_HO685
 have HO689 := mk0 Q_HO689
 clear Q_HO689
 have HO693 := mk0 Q_HO693
 clear Q_HO693
 have BK677 := mk0 Q_BK677
 clear Q_BK677
 have BK678 := mk0 Q_BK678
 clear Q_BK678
 have BK694 := mk0 Q_BK694
 clear Q_BK694
 have HB := mk0 Q_HB
 clear Q_HB
 have HO698 := mk0 (Q_HO698 hb1_)
 clear Q_HO698
 have HO701 := mk0 (Q_HO701 hb3_)
 clear Q_HO701
 have HO705 := mk0 (Q_HO705 hb4_)
 clear Q_HO705
 have HO709 := mk0 (Q_HO709 hb5_)
 clear Q_HO709
 clear Q_BK710
 have GW710 := mk0 (Q_GW710 hb6_)
 clear Q_GW710
 have GE710 := mk0 (Q_GE710 hb6_)
 clear Q_GE710
 have NB677_710 := mk0 (Q_NB677_710 hb6_)
 clear Q_NB677_710
 have NB710_677 := mk0 (Q_NB710_677 hb6_)
 clear Q_NB710_677
 have NB678_710 := mk0 (Q_NB678_710 hb6_)
 clear Q_NB678_710
 have NB710_678 := mk0 (Q_NB710_678 hb6_)
 clear Q_NB710_678
 have NB694_710 := mk0 (Q_NB694_710 hb6_)
 clear Q_NB694_710
 have NB710_694 := mk0 (Q_NB710_694 hb6_)
 clear Q_NB710_694
 have BK710 := mk0 (Q_BK710_e7 hb7_)
 clear Q_BK710_e7
 clear hall hb0_ hb1_ hb2_ hb3_ hb4_ hb5_ hb6_ hb7_
 have hnb40 := NB694_677.out
 have hnc40 := NB677_694.out
 have hnb41 := NB694_678.out
 have hnc41 := NB678_694.out
 have hnb42 := NB694_710.out
 have hnc42 := NB710_694.out
 have hcz43_0 : w39.cell? ⟨gb694, 0, none⟩ = some (.bool t690) := (blk_cell BK694.out 0).trans rfl
 have hcz43_1 : w39.cell? ⟨gb694, 1, none⟩ = some (v692) := (blk_cell BK694.out 1).trans rfl
 have hfz43_0 := blk_frozen BK694.out 0
 have hfz43_1 := blk_frozen BK694.out 1
 have hnb44 := NB710_677.out
 have hnc44 := NB677_710.out
 have hnb45 := NB710_678.out
 have hnc45 := NB678_710.out
 have hcz46_0 : w39.cell? ⟨gb710, 0, none⟩ = some (.bool t706) := (blk_cell BK710.out 0).trans rfl
 have hcz46_1 : w39.cell? ⟨gb710, 1, none⟩ = some (v708) := (blk_cell BK710.out 1).trans rfl
 have hfz46_0 := blk_frozen BK710.out 0
 have hfz46_1 := blk_frozen BK710.out 1
 obtain ⟨Ao47, co47, eo47⟩ := Kd.R_slice HO693.out
 subst eo47
 obtain ⟨Ao48, co48, eo48⟩ := Kd.R_slice HO709.out
 subst eo48
 try go_wp2_with (first | ((with_reducible refine gate_callee (f := 63) rfl ?_); refine goesL_ (some 21) rfl rfl Try.func63 (by kernel_rfl) rfl #[.agg #[.bool t690, .slice Ao47 t691.length co47], .agg #[.bool t706, .slice Ao48 t707.length co48]] rfl (by first | (go_simp; done) | (go_simp; rfl)) ?_; (with_reducible refine (examboardref02_Cmp.calls k t690 _ _ t691 t706 _ _ t707 t711 _ (by exact (Kd.R_reads' HO693.out).2.2) (by exact (Kd.R_reads' HO693.out).2.1) (by exact (Kd.R_reads' HO709.out).2.2) (by exact (Kd.R_reads' HO709.out).2.1) A11.out).mono ?_); rintro e w49 ⟨rfl, hb⟩; refine ⟨_, rfl, ?_⟩; replace HO682 := rB HO682 hb; replace HO685 := rB HO685 hb; replace HO689 := rB HO689 hb; replace HO693 := rB HO693 hb; replace HO698 := rB HO698 hb; replace HO701 := rB HO701 hb; replace HO705 := rB HO705 hb; replace HO709 := rB HO709 hb; replace BK677 := bkB BK677 hb; replace BK678 := bkB BK678 hb; replace BK694 := bkB BK694 hb; replace BK710 := bkB BK710 hb; replace HB := hbS HB hb))
 go_ret
 exact ⟨by first | rfl | (simp [errW_none, errW_some] <;> rfl) | (simp [*, errW_none, errW_some] <;> rfl), by repeat (first | exact HB.out | refine below_set ?_ GE677.out | refine below_set ?_ GE678.out | refine below_set ?_ GE694.out | refine below_set ?_ GE710.out)⟩
set_option maxHeartbeats 8000000 in
set_option maxRecDepth 100000 in
theorem examboardref02_Neg.calls (k : Nat) (a0_0 : Bool) (A0_1 : Option Addr) (c0_1 : Nat) (l0_1 : List Int) (r1 : Bool) (r2 : List Int) (w : World) (hr0_1 : Kd.C (Kd.int .u32) w A0_1 l0_1.length l0_1) (hc0_1 : l0_1.length ≤ c0_1) (h : examboardref02_Neg.f k a0_0 l0_1 = some (r1, r2)) :
  Calls Try.prog 94 #[.agg #[.bool a0_0, .slice A0_1 l0_1.length c0_1]] w fun e w' => ∃ v1_ : Value, e = .returned (.agg #[.bool r1, v1_]) ∧ Kd.R (Kd.int .u32) 87 w' w.heap.size (fun _ => True) v1_ r2 ∧ Below w.heap.size w w' := by
 have hu27 := Try.underlying27
 have HR0_1 := mk0 hr0_1
 have HC0_1 := mk0 hc0_1
 clear hr0_1 hc0_1
 have HB := mk0 (Below.refl w.heap.size w)
 have H : ((examboardref02_Make.f k (!a0_0) l0_1).bind fun bt714 => (some (bt714.1, bt714.2))) = some (r1, r2) := h
 clear h
 obtain ⟨⟨t714, t715⟩, A2, H⟩ := bindA H
 simp only [Option.some.injEq, Prod.mk.injEq] at H
 obtain ⟨rfl, rfl⟩ := H
 go_enter Try.func94, Try.ntmps94
 go_wp2_with (first | ((with_reducible refine gate_dst (N := 1) rfl ?_); refine box_event rfl (N := 1) rfl (cs := #[.bool a0_0, .slice A0_1 l0_1.length c0_1]) (t := 27) (by first | (go_simp; done) | (go_simp; rfl)) ?_; intro gb712 hg w3 hbox hb; have BK712 := mk0 (hbox); have GE712 := geB hg HB; replace HB := hbS HB hb; clear hb hbox hg) | ((with_reducible refine gate_dst (N := 2) rfl ?_); refine box_event rfl (N := 2) rfl (cs := #[.bool false, .slice none 0 0]) (t := 27) (by first | (go_simp; done) | (go_simp; rfl)) ?_; intro gb713 hg w4 hbox hb; have BK713 := mk0 (hbox); have GE713 := geB hg HB; replace HB := hbS HB hb; have NB712_713 := nbA hg BK712; have NB713_712 := nbB hg BK712; replace BK712 := bkB BK712 hb; clear hb hbox hg; have hnb5 := NB712_713.out; have hnc5 := NB713_712.out; have hcz6_0 : w4.cell? ⟨gb712, 0, none⟩ = some (.bool a0_0) := (blk_cell BK712.out 0).trans rfl; have hcz6_1 : w4.cell? ⟨gb712, 1, none⟩ = some (.slice A0_1 l0_1.length c0_1) := (blk_cell BK712.out 1).trans rfl; have hfz6_0 := blk_frozen BK712.out 0; have hfz6_1 := blk_frozen BK712.out 1) | ((with_reducible refine gate_callee (f := 62) rfl ?_); refine goesL_ (some 8) rfl rfl Try.func62 (by kernel_rfl) rfl #[.bool (!a0_0), .slice A0_1 l0_1.length c0_1] rfl (by first | (go_simp; done) | (go_simp; rfl)) ?_; (with_reducible refine (examboardref02_Make.calls k (!a0_0) _ _ l0_1 t714 t715 _ (by exact Kd.C_below HR0_1.out HB.out) HC0_1.out A2.out).mono ?_); rintro e w7 ⟨v716, rfl, ho0, hb⟩; refine ⟨_, rfl, ?_⟩; have HO717 := mk0 (Kd.R_lower ho0 (below_size HB.out)); replace BK712 := bkB BK712 hb; replace BK713 := bkB BK713 hb; replace HB := hbS HB hb; have hcz8_0 : w7.cell? ⟨gb713, 0, none⟩ = some (.bool false) := (blk_cell BK713.out 0).trans rfl; have hcz8_1 : w7.cell? ⟨gb713, 1, none⟩ = some (.slice none 0 0) := (blk_cell BK713.out 1).trans rfl; have hfz8_0 := blk_frozen BK713.out 0; have hfz8_1 := blk_frozen BK713.out 1; obtain ⟨Ao9, co9, eo9⟩ := Kd.R_slice HO717.out; subst eo9))
 refine bodyPost_ret (results_cell_row rfl _ _ gb713 27 #[.bool t714, .slice Ao9 t715.length co9] (0, 0) _ rfl (by refine blk_put (cs := #[.bool t714, .slice none 0 0]) ?_ 1 _ rfl; refine blk_put (cs := #[.bool false, .slice none 0 0]) ?_ 0 _ rfl; exact BK713.out) Try.underlying27 rfl (by kernel_rfl)) rfl ?_
 exact ⟨_, by first | rfl | (simp [errW_none, errW_some] <;> rfl) | (simp [*, errW_none, errW_some] <;> rfl), Kd.R_mono (Kd.R_far (p := ⟨gb713, 1, none⟩) (Kd.R_far (p := ⟨gb713, 0, none⟩) (Kd.R_types HO717.out BK713.out (by decide)) (fun _ hk => hk.2) (.bool t714)) (fun _ hk => hk.2) (.slice Ao9 t715.length co9)) (fun _ hk => trivial), by repeat (first | exact HB.out | refine below_set ?_ GE712.out | refine below_set ?_ GE713.out)⟩
set_option maxHeartbeats 8000000 in
set_option maxRecDepth 100000 in
theorem examboardref03_Make.calls (k : Nat) (a0_0 : Bool) (A0_1 : Option Addr) (c0_1 : Nat) (l0_1 : List Int) (a1_0 : Bool) (A1_1 : Option Addr) (c1_1 : Nat) (l1_1 : List Int) (r1 : Bool) (r2 : List Int) (r3 : List Int) (r4 : Bool) (w : World) (hr0_1 : Kd.C (Kd.int .u32) w A0_1 l0_1.length l0_1) (hc0_1 : l0_1.length ≤ c0_1) (hr1_1 : Kd.C (Kd.int .u32) w A1_1 l1_1.length l1_1) (hc1_1 : l1_1.length ≤ c1_1) (h : examboardref03_Make.f k a0_0 l0_1 a1_0 l1_1 = some (r1, r2, r3, r4)) :
  Calls Try.prog 68 #[.agg #[.bool a0_0, .slice A0_1 l0_1.length c0_1], .agg #[.bool a1_0, .slice A1_1 l1_1.length c1_1]] w fun e w' => ∃ v1_ v2_ : Value, e = .returned (.tuple #[.agg #[.bool r1, v1_, v2_], .bool r4]) ∧ Kd.R (Kd.int .u32) 87 w' w.heap.size (fun k_ => some k_ ≠ (v2_ : Value).ownBlock) v1_ r2 ∧ Kd.R (Kd.int .u32) 87 w' w.heap.size (fun k_ => some k_ ≠ (v1_ : Value).ownBlock) v2_ r3 ∧ Below w.heap.size w w' := by
 have hu27 := Try.underlying27
 have hu29 := Try.underlying29
 have HR0_1 := mk0 hr0_1
 have HC0_1 := mk0 hc0_1
 clear hr0_1 hc0_1
 have HR1_1 := mk0 hr1_1
 have HC1_1 := mk0 hc1_1
 clear hr1_1 hc1_1
 have HB := mk0 (Below.refl w.heap.size w)
 have H : ((examboardref02_Norm.f k a1_0 l1_1).bind fun bt721 => ((examboardref01_Bits.f k bt721.2).bind fun t726 => (if t726 = 0 then ((examboardref03_zero.f k).bind fun bt727 => (some (bt727.1, bt727.2.1, bt727.2.2, false))) else ((examboardref02_Norm.f k a0_0 l0_1).bind fun bt734 => (if bt721.1 = true then ((examboardref02_Neg.f k bt734.1 bt734.2).bind fun bt739 => ((examboardref03_reduce.f k bt739.1 bt739.2 bt721.2).bind fun bt743 => (some (bt743.1, bt743.2.1, bt743.2.2, true)))) else ((examboardref03_reduce.f k bt734.1 bt734.2 bt721.2).bind fun bt750 => (some (bt750.1, bt750.2.1, bt750.2.2, true)))))))) = some (r1, r2, r3, r4) := h
 clear h
 obtain ⟨⟨t721, t722⟩, A3, H⟩ := bindA H
 obtain ⟨t726, A4, H⟩ := bindA H
 by_cases c5 : t726 = 0
 ·rw [if_pos c5] at H
  have c5b0 : (t726 == 0) = true := beq_iff_eq.mpr c5
  have c5b1 : (t726 != 0) = false := bne_eq_false_iff_eq.mpr c5
  clear c5
  obtain ⟨⟨t727, t728, t731⟩, A6, H⟩ := bindA H
  simp only [Option.some.injEq, Prod.mk.injEq] at H
  obtain ⟨rfl, rfl, rfl, rfl⟩ := H
  go_enter Try.func68, Try.ntmps68
  go_wp2_with (first | ((with_reducible refine gate_dst (N := 2) rfl ?_); refine box_event rfl (N := 2) rfl (cs := #[.bool a0_0, .slice A0_1 l0_1.length c0_1]) (t := 27) (by first | (go_simp; done) | (go_simp; rfl)) ?_; intro gb718 hg w7 hbox hb; have BK718 := mk0 (hbox); have GE718 := geB hg HB; replace HB := hbS HB hb; clear hb hbox hg) | ((with_reducible refine gate_dst (N := 3) rfl ?_); refine box_event rfl (N := 3) rfl (cs := #[.bool a1_0, .slice A1_1 l1_1.length c1_1]) (t := 27) (by first | (go_simp; done) | (go_simp; rfl)) ?_; intro gb719 hg w8 hbox hb; have BK719 := mk0 (hbox); have GE719 := geB hg HB; replace HB := hbS HB hb; have NB718_719 := nbA hg BK718; have NB719_718 := nbB hg BK718; replace BK718 := bkB BK718 hb; clear hb hbox hg) | ((with_reducible refine gate_dst (N := 4) rfl ?_); refine box_event rfl (N := 4) rfl (cs := #[.bool false, .slice none 0 0, .slice none 0 0]) (t := 29) (by first | (go_simp; done) | (go_simp; rfl)) ?_; intro gb720 hg w9 hbox hb; have BK720 := mk0 (hbox); have GE720 := geB hg HB; replace HB := hbS HB hb; have NB718_720 := nbA hg BK718; have NB720_718 := nbB hg BK718; replace BK718 := bkB BK718 hb; have NB719_720 := nbA hg BK719; have NB720_719 := nbB hg BK719; replace BK719 := bkB BK719 hb; clear hb hbox hg; have hnb10 := NB719_718.out; have hnc10 := NB718_719.out; have hnb11 := NB719_720.out; have hnc11 := NB720_719.out; have hcz12_0 : w9.cell? ⟨gb719, 0, none⟩ = some (.bool a1_0) := (blk_cell BK719.out 0).trans rfl; have hcz12_1 : w9.cell? ⟨gb719, 1, none⟩ = some (.slice A1_1 l1_1.length c1_1) := (blk_cell BK719.out 1).trans rfl; have hfz12_0 := blk_frozen BK719.out 0; have hfz12_1 := blk_frozen BK719.out 1) | ((with_reducible refine gate_callee (f := 84) rfl ?_); refine goesL_ (some 9) rfl rfl Try.func84 (by kernel_rfl) rfl #[.agg #[.bool a1_0, .slice A1_1 l1_1.length c1_1]] rfl (by first | (go_simp; done) | (go_simp; rfl)) ?_; (with_reducible refine (examboardref02_Norm.calls k a1_0 _ _ l1_1 t721 t722 _ (by exact Kd.C_below HR1_1.out HB.out) HC1_1.out A3.out).mono ?_); rintro e w13 ⟨v723, rfl, ho0, hb⟩; refine ⟨_, rfl, ?_⟩; have HO724 := mk0 (Kd.R_lower ho0 (below_size HB.out)); replace BK718 := bkB BK718 hb; replace BK719 := bkB BK719 hb; replace BK720 := bkB BK720 hb; replace HB := hbS HB hb) | ((with_reducible refine gate_dst (N := 6) rfl ?_); refine box_event rfl (N := 6) rfl (cs := #[.bool false, .slice none 0 0]) (t := 27) (by first | (go_simp; done) | (go_simp; rfl)) ?_; intro gb725 hg w14 hbox hb; replace HO724 := rB HO724 hb; have BK725 := mk0 (hbox); have GE725 := geB hg HB; replace HB := hbS HB hb; have NB718_725 := nbA hg BK718; have NB725_718 := nbB hg BK718; replace BK718 := bkB BK718 hb; have NB719_725 := nbA hg BK719; have NB725_719 := nbB hg BK719; replace BK719 := bkB BK719 hb; have NB720_725 := nbA hg BK720; have NB725_720 := nbB hg BK720; replace BK720 := bkB BK720 hb; clear hb hbox hg; have hnb15 := NB725_718.out; have hnc15 := NB718_725.out; have hnb16 := NB725_719.out; have hnc16 := NB719_725.out; have hnb17 := NB725_720.out; have hnc17 := NB720_725.out; have hcz18_0 : w14.cell? ⟨gb725, 0, none⟩ = some (.bool false) := (blk_cell BK725.out 0).trans rfl; have hcz18_1 : w14.cell? ⟨gb725, 1, none⟩ = some (.slice none 0 0) := (blk_cell BK725.out 1).trans rfl; have hfz18_0 := blk_frozen BK725.out 0; have hfz18_1 := blk_frozen BK725.out 1; obtain ⟨Ao19, co19, eo19⟩ := Kd.R_slice HO724.out; subst eo19) | ((with_reducible refine gate_callee (f := 85) rfl ?_); refine goesL_ (some 12) rfl rfl Try.func85 (by kernel_rfl) rfl #[.slice Ao19 t722.length co19] rfl (by first | (go_simp; done) | (go_simp; rfl)) ?_; (with_reducible refine (examboardref01_Bits.calls k _ _ t722 t726 _ (by refine (Kd.R_reads' (e := 87) (base := w.heap.size) (ok := fun k_ => True) (n := t722.length) (c := co19) ?_).2.2; exact ((Kd.R_mono (Kd.R_far (p := ⟨gb725, 1, none⟩) (Kd.R_far (p := ⟨gb725, 0, none⟩) (Kd.R_types HO724.out BK725.out (by decide)) (fun _ hk => hk.2) (.bool t721)) (fun _ hk => hk.2) (.slice Ao19 t722.length co19)) (fun _ h_ => h_.1)))) (by exact (Kd.R_reads' HO724.out).2.1) A4.out).mono ?_); rintro e w20 ⟨rfl, hb⟩; refine ⟨_, rfl, ?_⟩; replace HO724 := mk0 (Kd.R_below ((Kd.R_mono (Kd.R_far (p := ⟨gb725, 1, none⟩) (Kd.R_far (p := ⟨gb725, 0, none⟩) (Kd.R_types HO724.out BK725.out (by decide)) (fun _ hk => hk.2) (.bool t721)) (fun _ hk => hk.2) (.slice Ao19 t722.length co19)) (fun _ h_ => h_.1))) hb); replace BK718 := mk0 (blk_below (g := gb718) (o := .cells #[.bool a0_0, .slice A0_1 l0_1.length c0_1] 27 (0, 0)) (by refine blk_far ?_ NB718_725.out _; refine blk_far ?_ NB718_725.out _; exact BK718.out) hb); replace BK719 := mk0 (blk_below (g := gb719) (o := .cells #[.bool a1_0, .slice A1_1 l1_1.length c1_1] 27 (0, 0)) (by refine blk_far ?_ NB719_725.out _; refine blk_far ?_ NB719_725.out _; exact BK719.out) hb); replace BK720 := mk0 (blk_below (g := gb720) (o := .cells #[.bool false, .slice none 0 0, .slice none 0 0] 29 (0, 0)) (by refine blk_far ?_ NB720_725.out _; refine blk_far ?_ NB720_725.out _; exact BK720.out) hb); replace BK725 := mk0 (blk_below (g := gb725) (o := .cells #[.bool t721, .slice Ao19 t722.length co19] 27 (0, 0)) (by refine blk_put (cs := #[.bool t721, .slice none 0 0]) ?_ 1 _ rfl; refine blk_put (cs := #[.bool false, .slice none 0 0]) ?_ 0 _ rfl; exact BK725.out) hb); replace HB := mk0 (below_step (by repeat (first | exact HB.out | refine below_set ?_ GE720.out | refine below_set ?_ GE725.out)) hb)) | ((with_reducible refine gate_callee (f := 86) rfl ?_); refine goesL_ (some 14) rfl rfl Try.func86 (by kernel_rfl) rfl #[] rfl (by first | (go_simp; done) | (go_simp; rfl)) ?_; (with_reducible refine (examboardref03_zero.calls k  t727 t728 t731 _ A6.out).mono ?_); rintro e w21 ⟨v729, v732, rfl, ho0, ho1, hb⟩; refine ⟨_, rfl, ?_⟩; have HO730 := mk0 (Kd.R_lower (Kd.R_new' ho0 (Kd.R_lt HO724.out)) (below_size HB.out)); have HO733 := mk0 (Kd.R_lower (Kd.R_new' ho1 (Kd.R_lt HO724.out)) (below_size HB.out)); replace HO724 := mk0 (Kd.R_mono (Kd.R_told (Kd.R_told (Kd.R_old HO724.out hb) (Kd.R_base ho0)) (Kd.R_base ho1)) (fun _ h_ => h_.1)); replace BK718 := bkB BK718 hb; replace BK719 := bkB BK719 hb; replace BK720 := bkB BK720 hb; replace BK725 := bkB BK725 hb; replace HB := hbS HB hb; have hnb22 := NB720_718.out; have hnc22 := NB718_720.out; have hcz23_0 : w21.cell? ⟨gb720, 0, none⟩ = some (.bool false) := (blk_cell BK720.out 0).trans rfl; have hcz23_1 : w21.cell? ⟨gb720, 1, none⟩ = some (.slice none 0 0) := (blk_cell BK720.out 1).trans rfl; have hcz23_2 : w21.cell? ⟨gb720, 2, none⟩ = some (.slice none 0 0) := (blk_cell BK720.out 2).trans rfl; have hfz23_0 := blk_frozen BK720.out 0; have hfz23_1 := blk_frozen BK720.out 1; have hfz23_2 := blk_frozen BK720.out 2; obtain ⟨Ao24, co24, eo24⟩ := Kd.R_slice HO730.out; subst eo24; obtain ⟨Ao25, co25, eo25⟩ := Kd.R_slice HO733.out; subst eo25))
  refine bodyPost_ret (results_ct rfl _ _ gb720 29 #[.bool t727, .slice Ao24 t728.length co24, .slice Ao25 t731.length co25] (0, 0) _ rfl (by refine blk_put (cs := #[.bool t727, .slice Ao24 t728.length co24, .slice none 0 0]) ?_ 2 _ rfl; refine blk_put (cs := #[.bool t727, .slice none 0 0, .slice none 0 0]) ?_ 1 _ rfl; refine blk_put (cs := #[.bool false, .slice none 0 0, .slice none 0 0]) ?_ 0 _ rfl; exact BK720.out) Try.underlying29 rfl (by kernel_rfl)) rfl ?_
  exact ⟨_, _, by first | rfl | (simp [errW_none, errW_some] <;> rfl) | (simp [*, errW_none, errW_some] <;> rfl), Kd.R_mono (Kd.R_far (p := ⟨gb720, 2, none⟩) (Kd.R_far (p := ⟨gb720, 1, none⟩) (Kd.R_far (p := ⟨gb720, 0, none⟩) (Kd.R_types HO730.out BK720.out (by decide)) (fun _ hk => hk.2) (.bool t727)) (fun _ hk => hk.2) (.slice Ao24 t728.length co24)) (fun _ hk => hk.2) (.slice Ao25 t731.length co25)) (fun _ hk => hk.1.1), Kd.R_mono (Kd.R_far (p := ⟨gb720, 2, none⟩) (Kd.R_far (p := ⟨gb720, 1, none⟩) (Kd.R_far (p := ⟨gb720, 0, none⟩) (Kd.R_types HO733.out BK720.out (by decide)) (fun _ hk => hk.2) (.bool t727)) (fun _ hk => hk.2) (.slice Ao24 t728.length co24)) (fun _ hk => hk.2) (.slice Ao25 t731.length co25)) (fun _ hk => hk.1.1), by repeat (first | exact HB.out | refine below_set ?_ GE718.out | refine below_set ?_ GE719.out | refine below_set ?_ GE720.out | refine below_set ?_ GE725.out)⟩
 ·rw [if_neg c5] at H
  have c5b0 : (t726 == 0) = false := beq_eq_false_iff_ne.mpr c5
  have c5b1 : (t726 != 0) = true := bne_iff_ne.mpr c5
  obtain ⟨⟨t734, t735⟩, A26, H⟩ := bindA H
  by_cases c27 : t721 = true
  ·subst c27
   have H1 : ((examboardref02_Neg.f k t734 t735).bind fun bt739 => ((examboardref03_reduce.f k bt739.1 bt739.2 t722).bind fun bt743 => (some (bt743.1, bt743.2.1, bt743.2.2, true)))) = some (r1, r2, r3, r4) := by rw [if_pos rfl] at H; exact H
   clear H
   have H := H1
   clear H1
   obtain ⟨⟨t739, t740⟩, A28, H⟩ := bindA H
   obtain ⟨⟨t743, t744, t747⟩, A29, H⟩ := bindA H
   simp only [Option.some.injEq, Prod.mk.injEq] at H
   obtain ⟨rfl, rfl, rfl, rfl⟩ := H
   go_enter Try.func68, Try.ntmps68
   go_wp2_with (first | ((with_reducible refine gate_dst (N := 2) rfl ?_); refine box_event rfl (N := 2) rfl (cs := #[.bool a0_0, .slice A0_1 l0_1.length c0_1]) (t := 27) (by first | (go_simp; done) | (go_simp; rfl)) ?_; intro gb718 hg w30 hbox hb; have BK718 := mk0 (hbox); have GE718 := geB hg HB; replace HB := hbS HB hb; clear hb hbox hg) | ((with_reducible refine gate_dst (N := 3) rfl ?_); refine box_event rfl (N := 3) rfl (cs := #[.bool a1_0, .slice A1_1 l1_1.length c1_1]) (t := 27) (by first | (go_simp; done) | (go_simp; rfl)) ?_; intro gb719 hg w31 hbox hb; have BK719 := mk0 (hbox); have GE719 := geB hg HB; replace HB := hbS HB hb; have NB718_719 := nbA hg BK718; have NB719_718 := nbB hg BK718; replace BK718 := bkB BK718 hb; clear hb hbox hg) | ((with_reducible refine gate_dst (N := 4) rfl ?_); refine box_event rfl (N := 4) rfl (cs := #[.bool false, .slice none 0 0, .slice none 0 0]) (t := 29) (by first | (go_simp; done) | (go_simp; rfl)) ?_; intro gb720 hg w32 hbox hb; have BK720 := mk0 (hbox); have GE720 := geB hg HB; replace HB := hbS HB hb; have NB718_720 := nbA hg BK718; have NB720_718 := nbB hg BK718; replace BK718 := bkB BK718 hb; have NB719_720 := nbA hg BK719; have NB720_719 := nbB hg BK719; replace BK719 := bkB BK719 hb; clear hb hbox hg; have hnb33 := NB719_718.out; have hnc33 := NB718_719.out; have hnb34 := NB719_720.out; have hnc34 := NB720_719.out; have hcz35_0 : w32.cell? ⟨gb719, 0, none⟩ = some (.bool a1_0) := (blk_cell BK719.out 0).trans rfl; have hcz35_1 : w32.cell? ⟨gb719, 1, none⟩ = some (.slice A1_1 l1_1.length c1_1) := (blk_cell BK719.out 1).trans rfl; have hfz35_0 := blk_frozen BK719.out 0; have hfz35_1 := blk_frozen BK719.out 1) | ((with_reducible refine gate_callee (f := 84) rfl ?_); refine goesL_ (some 9) rfl rfl Try.func84 (by kernel_rfl) rfl #[.agg #[.bool a1_0, .slice A1_1 l1_1.length c1_1]] rfl (by first | (go_simp; done) | (go_simp; rfl)) ?_; (with_reducible refine (examboardref02_Norm.calls k a1_0 _ _ l1_1 true t722 _ (by exact Kd.C_below HR1_1.out HB.out) HC1_1.out A3.out).mono ?_); rintro e w36 ⟨v723, rfl, ho0, hb⟩; refine ⟨_, rfl, ?_⟩; have HO724 := mk0 (Kd.R_lower ho0 (below_size HB.out)); replace BK718 := bkB BK718 hb; replace BK719 := bkB BK719 hb; replace BK720 := bkB BK720 hb; replace HB := hbS HB hb) | ((with_reducible refine gate_dst (N := 6) rfl ?_); refine box_event rfl (N := 6) rfl (cs := #[.bool false, .slice none 0 0]) (t := 27) (by first | (go_simp; done) | (go_simp; rfl)) ?_; intro gb725 hg w37 hbox hb; replace HO724 := rB HO724 hb; have BK725 := mk0 (hbox); have GE725 := geB hg HB; replace HB := hbS HB hb; have NB718_725 := nbA hg BK718; have NB725_718 := nbB hg BK718; replace BK718 := bkB BK718 hb; have NB719_725 := nbA hg BK719; have NB725_719 := nbB hg BK719; replace BK719 := bkB BK719 hb; have NB720_725 := nbA hg BK720; have NB725_720 := nbB hg BK720; replace BK720 := bkB BK720 hb; clear hb hbox hg; have hnb38 := NB725_718.out; have hnc38 := NB718_725.out; have hnb39 := NB725_719.out; have hnc39 := NB719_725.out; have hnb40 := NB725_720.out; have hnc40 := NB720_725.out; have hcz41_0 : w37.cell? ⟨gb725, 0, none⟩ = some (.bool false) := (blk_cell BK725.out 0).trans rfl; have hcz41_1 : w37.cell? ⟨gb725, 1, none⟩ = some (.slice none 0 0) := (blk_cell BK725.out 1).trans rfl; have hfz41_0 := blk_frozen BK725.out 0; have hfz41_1 := blk_frozen BK725.out 1; obtain ⟨Ao42, co42, eo42⟩ := Kd.R_slice HO724.out; subst eo42) | ((with_reducible refine gate_callee (f := 85) rfl ?_); refine goesL_ (some 12) rfl rfl Try.func85 (by kernel_rfl) rfl #[.slice Ao42 t722.length co42] rfl (by first | (go_simp; done) | (go_simp; rfl)) ?_; (with_reducible refine (examboardref01_Bits.calls k _ _ t722 t726 _ (by refine (Kd.R_reads' (e := 87) (base := w.heap.size) (ok := fun k_ => True) (n := t722.length) (c := co42) ?_).2.2; exact ((Kd.R_mono (Kd.R_far (p := ⟨gb725, 1, none⟩) (Kd.R_far (p := ⟨gb725, 0, none⟩) (Kd.R_types HO724.out BK725.out (by decide)) (fun _ hk => hk.2) (.bool true)) (fun _ hk => hk.2) (.slice Ao42 t722.length co42)) (fun _ h_ => h_.1)))) (by exact (Kd.R_reads' HO724.out).2.1) A4.out).mono ?_); rintro e w43 ⟨rfl, hb⟩; refine ⟨_, rfl, ?_⟩; replace HO724 := mk0 (Kd.R_below ((Kd.R_mono (Kd.R_far (p := ⟨gb725, 1, none⟩) (Kd.R_far (p := ⟨gb725, 0, none⟩) (Kd.R_types HO724.out BK725.out (by decide)) (fun _ hk => hk.2) (.bool true)) (fun _ hk => hk.2) (.slice Ao42 t722.length co42)) (fun _ h_ => h_.1))) hb); replace BK718 := mk0 (blk_below (g := gb718) (o := .cells #[.bool a0_0, .slice A0_1 l0_1.length c0_1] 27 (0, 0)) (by refine blk_far ?_ NB718_725.out _; refine blk_far ?_ NB718_725.out _; exact BK718.out) hb); replace BK719 := mk0 (blk_below (g := gb719) (o := .cells #[.bool a1_0, .slice A1_1 l1_1.length c1_1] 27 (0, 0)) (by refine blk_far ?_ NB719_725.out _; refine blk_far ?_ NB719_725.out _; exact BK719.out) hb); replace BK720 := mk0 (blk_below (g := gb720) (o := .cells #[.bool false, .slice none 0 0, .slice none 0 0] 29 (0, 0)) (by refine blk_far ?_ NB720_725.out _; refine blk_far ?_ NB720_725.out _; exact BK720.out) hb); replace BK725 := mk0 (blk_below (g := gb725) (o := .cells #[.bool true, .slice Ao42 t722.length co42] 27 (0, 0)) (by refine blk_put (cs := #[.bool true, .slice none 0 0]) ?_ 1 _ rfl; refine blk_put (cs := #[.bool false, .slice none 0 0]) ?_ 0 _ rfl; exact BK725.out) hb); replace HB := mk0 (below_step (by repeat (first | exact HB.out | refine below_set ?_ GE720.out | refine below_set ?_ GE725.out)) hb); have hnb44 := NB718_720.out; have hnc44 := NB720_718.out; have hcz45_0 : w43.cell? ⟨gb718, 0, none⟩ = some (.bool a0_0) := (blk_cell BK718.out 0).trans rfl; have hcz45_1 : w43.cell? ⟨gb718, 1, none⟩ = some (.slice A0_1 l0_1.length c0_1) := (blk_cell BK718.out 1).trans rfl; have hfz45_0 := blk_frozen BK718.out 0; have hfz45_1 := blk_frozen BK718.out 1) | ((with_reducible refine gate_callee (f := 84) rfl ?_); refine goesL_ (some 16) rfl rfl Try.func84 (by kernel_rfl) rfl #[.agg #[.bool a0_0, .slice A0_1 l0_1.length c0_1]] rfl (by first | (go_simp; done) | (go_simp; rfl)) ?_; (with_reducible refine (examboardref02_Norm.calls k a0_0 _ _ l0_1 t734 t735 _ (by exact Kd.C_below HR0_1.out HB.out) HC0_1.out A26.out).mono ?_); rintro e w46 ⟨v736, rfl, ho0, hb⟩; refine ⟨_, rfl, ?_⟩; have HO737 := mk0 (Kd.R_lower (Kd.R_new' ho0 (Kd.R_lt HO724.out)) (below_size HB.out)); replace HO724 := mk0 (Kd.R_elder' HO724.out (Kd.R_base ho0) hb); replace BK718 := bkB BK718 hb; replace BK719 := bkB BK719 hb; replace BK720 := bkB BK720 hb; replace BK725 := bkB BK725 hb; replace HB := hbS HB hb) | ((with_reducible refine gate_dst (N := 7) rfl ?_); refine box_event rfl (N := 7) rfl (cs := #[.bool false, .slice none 0 0]) (t := 27) (by first | (go_simp; done) | (go_simp; rfl)) ?_; intro gb738 hg w47 hbox hb; replace HO724 := rB HO724 hb; replace HO737 := rB HO737 hb; have BK738 := mk0 (hbox); have GE738 := geB hg HB; replace HB := hbS HB hb; have NB718_738 := nbA hg BK718; have NB738_718 := nbB hg BK718; replace BK718 := bkB BK718 hb; have NB719_738 := nbA hg BK719; have NB738_719 := nbB hg BK719; replace BK719 := bkB BK719 hb; have NB720_738 := nbA hg BK720; have NB738_720 := nbB hg BK720; replace BK720 := bkB BK720 hb; have NB725_738 := nbA hg BK725; have NB738_725 := nbB hg BK725; replace BK725 := bkB BK725 hb; clear hb hbox hg; have hnb48 := NB738_718.out; have hnc48 := NB718_738.out; have hnb49 := NB738_719.out; have hnc49 := NB719_738.out; have hnb50 := NB738_720.out; have hnc50 := NB720_738.out; have hnb51 := NB738_725.out; have hnc51 := NB725_738.out; have hcz52_0 : w47.cell? ⟨gb738, 0, none⟩ = some (.bool false) := (blk_cell BK738.out 0).trans rfl; have hcz52_1 : w47.cell? ⟨gb738, 1, none⟩ = some (.slice none 0 0) := (blk_cell BK738.out 1).trans rfl; have hfz52_0 := blk_frozen BK738.out 0; have hfz52_1 := blk_frozen BK738.out 1; obtain ⟨Ao53, co53, eo53⟩ := Kd.R_slice HO737.out; subst eo53; have hcz54_0 : w47.cell? ⟨gb725, 0, none⟩ = some (.bool true) := (blk_cell BK725.out 0).trans rfl; have hcz54_1 : w47.cell? ⟨gb725, 1, none⟩ = some (.slice Ao42 t722.length co42) := (blk_cell BK725.out 1).trans rfl; have hfz54_0 := blk_frozen BK725.out 0; have hfz54_1 := blk_frozen BK725.out 1) | ((with_reducible refine gate_callee (f := 94) rfl ?_); refine goesL_ (some 20) rfl rfl Try.func94 (by kernel_rfl) rfl #[.agg #[.bool t734, .slice Ao53 t735.length co53]] rfl (by first | (go_simp; done) | (go_simp; rfl)) ?_; (with_reducible refine (examboardref02_Neg.calls k t734 _ _ t735 t739 t740 _ (by refine (Kd.R_reads' (e := 87) (base := w.heap.size) (ok := fun k_ => (True ∧ some k_ ≠ (.slice Ao42 t722.length co42 : Value).ownBlock)) (n := t735.length) (c := co53) ?_).2.2; exact ((Kd.R_mono (Kd.R_far (p := ⟨gb738, 1, none⟩) (Kd.R_far (p := ⟨gb738, 0, none⟩) (Kd.R_types HO737.out BK738.out (by decide)) (fun _ hk => hk.2) (.bool t734)) (fun _ hk => hk.2) (.slice Ao53 t735.length co53)) (fun _ h_ => h_.1)))) (by exact (Kd.R_reads' HO737.out).2.1) A28.out).mono ?_); rintro e w55 ⟨v741, rfl, ho0, hb⟩; refine ⟨_, rfl, ?_⟩; have HO742 := mk0 (Kd.R_lower (Kd.R_new' (Kd.R_new' ho0 (Kd.R_lt ((Kd.R_mono (Kd.R_far (p := ⟨gb738, 1, none⟩) (Kd.R_far (p := ⟨gb738, 0, none⟩) (Kd.R_types HO724.out BK738.out (by decide)) (fun _ hk => hk.2) (.bool t734)) (fun _ hk => hk.2) (.slice Ao53 t735.length co53)) (fun _ h_ => h_.1))))) (Kd.R_lt ((Kd.R_mono (Kd.R_far (p := ⟨gb738, 1, none⟩) (Kd.R_far (p := ⟨gb738, 0, none⟩) (Kd.R_types HO737.out BK738.out (by decide)) (fun _ hk => hk.2) (.bool t734)) (fun _ hk => hk.2) (.slice Ao53 t735.length co53)) (fun _ h_ => h_.1))))) (below_size (by repeat (first | exact HB.out | refine below_set ?_ GE720.out | refine below_set ?_ GE725.out | refine below_set ?_ GE738.out)))); replace HO724 := mk0 (Kd.R_elder' ((Kd.R_mono (Kd.R_far (p := ⟨gb738, 1, none⟩) (Kd.R_far (p := ⟨gb738, 0, none⟩) (Kd.R_types HO724.out BK738.out (by decide)) (fun _ hk => hk.2) (.bool t734)) (fun _ hk => hk.2) (.slice Ao53 t735.length co53)) (fun _ h_ => h_.1))) (Kd.R_base ho0) hb); replace HO737 := mk0 (Kd.R_elder' ((Kd.R_mono (Kd.R_far (p := ⟨gb738, 1, none⟩) (Kd.R_far (p := ⟨gb738, 0, none⟩) (Kd.R_types HO737.out BK738.out (by decide)) (fun _ hk => hk.2) (.bool t734)) (fun _ hk => hk.2) (.slice Ao53 t735.length co53)) (fun _ h_ => h_.1))) (Kd.R_base ho0) hb); replace BK718 := mk0 (blk_below (g := gb718) (o := .cells #[.bool a0_0, .slice A0_1 l0_1.length c0_1] 27 (0, 0)) (by refine blk_far ?_ NB718_738.out _; refine blk_far ?_ NB718_738.out _; exact BK718.out) hb); replace BK719 := mk0 (blk_below (g := gb719) (o := .cells #[.bool a1_0, .slice A1_1 l1_1.length c1_1] 27 (0, 0)) (by refine blk_far ?_ NB719_738.out _; refine blk_far ?_ NB719_738.out _; exact BK719.out) hb); replace BK720 := mk0 (blk_below (g := gb720) (o := .cells #[.bool false, .slice none 0 0, .slice none 0 0] 29 (0, 0)) (by refine blk_far ?_ NB720_738.out _; refine blk_far ?_ NB720_738.out _; exact BK720.out) hb); replace BK725 := mk0 (blk_below (g := gb725) (o := .cells #[.bool true, .slice Ao42 t722.length co42] 27 (0, 0)) (by refine blk_far ?_ NB725_738.out _; refine blk_far ?_ NB725_738.out _; exact BK725.out) hb); replace BK738 := mk0 (blk_below (g := gb738) (o := .cells #[.bool t734, .slice Ao53 t735.length co53] 27 (0, 0)) (by refine blk_put (cs := #[.bool t734, .slice none 0 0]) ?_ 1 _ rfl; refine blk_put (cs := #[.bool false, .slice none 0 0]) ?_ 0 _ rfl; exact BK738.out) hb); replace HB := mk0 (below_step (by repeat (first | exact HB.out | refine below_set ?_ GE720.out | refine below_set ?_ GE725.out | refine below_set ?_ GE738.out)) hb); have hcz56_0 : w55.cell? ⟨gb738, 0, none⟩ = some (.bool t734) := (blk_cell BK738.out 0).trans rfl; have hcz56_1 : w55.cell? ⟨gb738, 1, none⟩ = some (.slice Ao53 t735.length co53) := (blk_cell BK738.out 1).trans rfl; have hfz56_0 := blk_frozen BK738.out 0; have hfz56_1 := blk_frozen BK738.out 1; obtain ⟨Ao57, co57, eo57⟩ := Kd.R_slice HO742.out; subst eo57; have hcz58_0 : w55.cell? ⟨gb725, 0, none⟩ = some (.bool true) := (blk_cell BK725.out 0).trans rfl; have hcz58_1 : w55.cell? ⟨gb725, 1, none⟩ = some (.slice Ao42 t722.length co42) := (blk_cell BK725.out 1).trans rfl; have hfz58_0 := blk_frozen BK725.out 0; have hfz58_1 := blk_frozen BK725.out 1) | ((with_reducible refine gate_callee (f := 57) rfl ?_); refine goesL_ (some 24) rfl rfl Try.func57 (by kernel_rfl) rfl #[.agg #[.bool t739, .slice Ao57 t740.length co57], .slice Ao42 t722.length co42] rfl (by first | (go_simp; done) | (go_simp; rfl)) ?_; (with_reducible refine (examboardref03_reduce.calls k t739 _ _ t740 _ _ t722 t743 t744 t747 _ (by refine (Kd.R_reads' (e := 87) (base := w.heap.size) (ok := fun k_ => ((True ∧ some k_ ≠ (.slice Ao42 t722.length co42 : Value).ownBlock) ∧ some k_ ≠ (.slice Ao53 t735.length co53 : Value).ownBlock)) (n := t740.length) (c := co57) ?_).2.2; exact ((Kd.R_mono (Kd.R_far (p := ⟨gb738, 1, none⟩) (Kd.R_far (p := ⟨gb738, 0, none⟩) (Kd.R_types HO742.out BK738.out (by decide)) (fun _ hk => hk.2) (.bool t739)) (fun _ hk => hk.2) (.slice Ao57 t740.length co57)) (fun _ h_ => h_.1)))) (by exact (Kd.R_reads' HO742.out).2.1) (by refine (Kd.R_reads' (e := 87) (base := w.heap.size) (ok := fun k_ => ((True ∧ some k_ ≠ (.slice Ao53 t735.length co53 : Value).ownBlock) ∧ some k_ ≠ (.slice Ao57 t740.length co57 : Value).ownBlock)) (n := t722.length) (c := co42) ?_).2.2; exact ((Kd.R_mono (Kd.R_far (p := ⟨gb738, 1, none⟩) (Kd.R_far (p := ⟨gb738, 0, none⟩) (Kd.R_types HO724.out BK738.out (by decide)) (fun _ hk => hk.2) (.bool t739)) (fun _ hk => hk.2) (.slice Ao57 t740.length co57)) (fun _ h_ => h_.1)))) (by exact (Kd.R_reads' HO724.out).2.1) A29.out).mono ?_); rintro e w59 ⟨v745, v748, rfl, ho0, ho1, hb⟩; refine ⟨_, rfl, ?_⟩; have HO746 := mk0 (Kd.R_lower (Kd.R_new' (Kd.R_new' (Kd.R_new' ho0 (Kd.R_lt ((Kd.R_mono (Kd.R_far (p := ⟨gb738, 1, none⟩) (Kd.R_far (p := ⟨gb738, 0, none⟩) (Kd.R_types HO724.out BK738.out (by decide)) (fun _ hk => hk.2) (.bool t739)) (fun _ hk => hk.2) (.slice Ao57 t740.length co57)) (fun _ h_ => h_.1))))) (Kd.R_lt ((Kd.R_mono (Kd.R_far (p := ⟨gb738, 1, none⟩) (Kd.R_far (p := ⟨gb738, 0, none⟩) (Kd.R_types HO737.out BK738.out (by decide)) (fun _ hk => hk.2) (.bool t739)) (fun _ hk => hk.2) (.slice Ao57 t740.length co57)) (fun _ h_ => h_.1))))) (Kd.R_lt ((Kd.R_mono (Kd.R_far (p := ⟨gb738, 1, none⟩) (Kd.R_far (p := ⟨gb738, 0, none⟩) (Kd.R_types HO742.out BK738.out (by decide)) (fun _ hk => hk.2) (.bool t739)) (fun _ hk => hk.2) (.slice Ao57 t740.length co57)) (fun _ h_ => h_.1))))) (below_size (by repeat (first | exact HB.out | refine below_set ?_ GE720.out | refine below_set ?_ GE725.out | refine below_set ?_ GE738.out)))); have HO749 := mk0 (Kd.R_lower (Kd.R_new' (Kd.R_new' (Kd.R_new' ho1 (Kd.R_lt ((Kd.R_mono (Kd.R_far (p := ⟨gb738, 1, none⟩) (Kd.R_far (p := ⟨gb738, 0, none⟩) (Kd.R_types HO724.out BK738.out (by decide)) (fun _ hk => hk.2) (.bool t739)) (fun _ hk => hk.2) (.slice Ao57 t740.length co57)) (fun _ h_ => h_.1))))) (Kd.R_lt ((Kd.R_mono (Kd.R_far (p := ⟨gb738, 1, none⟩) (Kd.R_far (p := ⟨gb738, 0, none⟩) (Kd.R_types HO737.out BK738.out (by decide)) (fun _ hk => hk.2) (.bool t739)) (fun _ hk => hk.2) (.slice Ao57 t740.length co57)) (fun _ h_ => h_.1))))) (Kd.R_lt ((Kd.R_mono (Kd.R_far (p := ⟨gb738, 1, none⟩) (Kd.R_far (p := ⟨gb738, 0, none⟩) (Kd.R_types HO742.out BK738.out (by decide)) (fun _ hk => hk.2) (.bool t739)) (fun _ hk => hk.2) (.slice Ao57 t740.length co57)) (fun _ h_ => h_.1))))) (below_size (by repeat (first | exact HB.out | refine below_set ?_ GE720.out | refine below_set ?_ GE725.out | refine below_set ?_ GE738.out)))); replace HO724 := mk0 (Kd.R_mono (Kd.R_told (Kd.R_told (Kd.R_old ((Kd.R_mono (Kd.R_far (p := ⟨gb738, 1, none⟩) (Kd.R_far (p := ⟨gb738, 0, none⟩) (Kd.R_types HO724.out BK738.out (by decide)) (fun _ hk => hk.2) (.bool t739)) (fun _ hk => hk.2) (.slice Ao57 t740.length co57)) (fun _ h_ => h_.1))) hb) (Kd.R_base ho0)) (Kd.R_base ho1)) (fun _ h_ => h_.1)); replace HO737 := mk0 (Kd.R_mono (Kd.R_told (Kd.R_told (Kd.R_old ((Kd.R_mono (Kd.R_far (p := ⟨gb738, 1, none⟩) (Kd.R_far (p := ⟨gb738, 0, none⟩) (Kd.R_types HO737.out BK738.out (by decide)) (fun _ hk => hk.2) (.bool t739)) (fun _ hk => hk.2) (.slice Ao57 t740.length co57)) (fun _ h_ => h_.1))) hb) (Kd.R_base ho0)) (Kd.R_base ho1)) (fun _ h_ => h_.1)); replace HO742 := mk0 (Kd.R_mono (Kd.R_told (Kd.R_told (Kd.R_old ((Kd.R_mono (Kd.R_far (p := ⟨gb738, 1, none⟩) (Kd.R_far (p := ⟨gb738, 0, none⟩) (Kd.R_types HO742.out BK738.out (by decide)) (fun _ hk => hk.2) (.bool t739)) (fun _ hk => hk.2) (.slice Ao57 t740.length co57)) (fun _ h_ => h_.1))) hb) (Kd.R_base ho0)) (Kd.R_base ho1)) (fun _ h_ => h_.1)); replace BK718 := mk0 (blk_below (g := gb718) (o := .cells #[.bool a0_0, .slice A0_1 l0_1.length c0_1] 27 (0, 0)) (by refine blk_far ?_ NB718_738.out _; refine blk_far ?_ NB718_738.out _; exact BK718.out) hb); replace BK719 := mk0 (blk_below (g := gb719) (o := .cells #[.bool a1_0, .slice A1_1 l1_1.length c1_1] 27 (0, 0)) (by refine blk_far ?_ NB719_738.out _; refine blk_far ?_ NB719_738.out _; exact BK719.out) hb); replace BK720 := mk0 (blk_below (g := gb720) (o := .cells #[.bool false, .slice none 0 0, .slice none 0 0] 29 (0, 0)) (by refine blk_far ?_ NB720_738.out _; refine blk_far ?_ NB720_738.out _; exact BK720.out) hb); replace BK725 := mk0 (blk_below (g := gb725) (o := .cells #[.bool true, .slice Ao42 t722.length co42] 27 (0, 0)) (by refine blk_far ?_ NB725_738.out _; refine blk_far ?_ NB725_738.out _; exact BK725.out) hb); replace BK738 := mk0 (blk_below (g := gb738) (o := .cells #[.bool t739, .slice Ao57 t740.length co57] 27 (0, 0)) (by refine blk_put (cs := #[.bool t739, .slice Ao53 t735.length co53]) ?_ 1 _ rfl; refine blk_put (cs := #[.bool t734, .slice Ao53 t735.length co53]) ?_ 0 _ rfl; exact BK738.out) hb); replace HB := mk0 (below_step (by repeat (first | exact HB.out | refine below_set ?_ GE720.out | refine below_set ?_ GE725.out | refine below_set ?_ GE738.out)) hb); have hcz60_0 : w59.cell? ⟨gb720, 0, none⟩ = some (.bool false) := (blk_cell BK720.out 0).trans rfl; have hcz60_1 : w59.cell? ⟨gb720, 1, none⟩ = some (.slice none 0 0) := (blk_cell BK720.out 1).trans rfl; have hcz60_2 : w59.cell? ⟨gb720, 2, none⟩ = some (.slice none 0 0) := (blk_cell BK720.out 2).trans rfl; have hfz60_0 := blk_frozen BK720.out 0; have hfz60_1 := blk_frozen BK720.out 1; have hfz60_2 := blk_frozen BK720.out 2; obtain ⟨Ao61, co61, eo61⟩ := Kd.R_slice HO746.out; subst eo61; obtain ⟨Ao62, co62, eo62⟩ := Kd.R_slice HO749.out; subst eo62))
   refine bodyPost_ret (results_ct rfl _ _ gb720 29 #[.bool t743, .slice Ao61 t744.length co61, .slice Ao62 t747.length co62] (0, 0) _ rfl (by refine blk_put (cs := #[.bool t743, .slice Ao61 t744.length co61, .slice none 0 0]) ?_ 2 _ rfl; refine blk_put (cs := #[.bool t743, .slice none 0 0, .slice none 0 0]) ?_ 1 _ rfl; refine blk_put (cs := #[.bool false, .slice none 0 0, .slice none 0 0]) ?_ 0 _ rfl; exact BK720.out) Try.underlying29 rfl (by kernel_rfl)) rfl ?_
   exact ⟨_, _, by first | rfl | (simp [errW_none, errW_some] <;> rfl) | (simp [*, errW_none, errW_some] <;> rfl), Kd.R_mono (Kd.R_far (p := ⟨gb720, 2, none⟩) (Kd.R_far (p := ⟨gb720, 1, none⟩) (Kd.R_far (p := ⟨gb720, 0, none⟩) (Kd.R_types HO746.out BK720.out (by decide)) (fun _ hk => hk.2) (.bool t743)) (fun _ hk => hk.2) (.slice Ao61 t744.length co61)) (fun _ hk => hk.2) (.slice Ao62 t747.length co62)) (fun _ hk => hk.1.1.1.1), Kd.R_mono (Kd.R_far (p := ⟨gb720, 2, none⟩) (Kd.R_far (p := ⟨gb720, 1, none⟩) (Kd.R_far (p := ⟨gb720, 0, none⟩) (Kd.R_types HO749.out BK720.out (by decide)) (fun _ hk => hk.2) (.bool t743)) (fun _ hk => hk.2) (.slice Ao61 t744.length co61)) (fun _ hk => hk.2) (.slice Ao62 t747.length co62)) (fun _ hk => hk.1.1.1.1), by repeat (first | exact HB.out | refine below_set ?_ GE718.out | refine below_set ?_ GE719.out | refine below_set ?_ GE720.out | refine below_set ?_ GE725.out | refine below_set ?_ GE738.out)⟩
  ·replace c27 := Bool.eq_false_iff.mpr c27
   subst c27
   have H1 : ((examboardref03_reduce.f k t734 t735 t722).bind fun bt750 => (some (bt750.1, bt750.2.1, bt750.2.2, true))) = some (r1, r2, r3, r4) := by rw [if_neg (show ¬ (false = true) by decide)] at H; exact H
   clear H
   have H := H1
   clear H1
   obtain ⟨⟨t750, t751, t754⟩, A63, H⟩ := bindA H
   simp only [Option.some.injEq, Prod.mk.injEq] at H
   obtain ⟨rfl, rfl, rfl, rfl⟩ := H
   go_enter Try.func68, Try.ntmps68
   go_wp2_with (first | ((with_reducible refine gate_dst (N := 2) rfl ?_); refine box_event rfl (N := 2) rfl (cs := #[.bool a0_0, .slice A0_1 l0_1.length c0_1]) (t := 27) (by first | (go_simp; done) | (go_simp; rfl)) ?_; intro gb718 hg w64 hbox hb; have BK718 := mk0 (hbox); have GE718 := geB hg HB; replace HB := hbS HB hb; clear hb hbox hg) | ((with_reducible refine gate_dst (N := 3) rfl ?_); refine box_event rfl (N := 3) rfl (cs := #[.bool a1_0, .slice A1_1 l1_1.length c1_1]) (t := 27) (by first | (go_simp; done) | (go_simp; rfl)) ?_; intro gb719 hg w65 hbox hb; have BK719 := mk0 (hbox); have GE719 := geB hg HB; replace HB := hbS HB hb; have NB718_719 := nbA hg BK718; have NB719_718 := nbB hg BK718; replace BK718 := bkB BK718 hb; clear hb hbox hg) | ((with_reducible refine gate_dst (N := 4) rfl ?_); refine box_event rfl (N := 4) rfl (cs := #[.bool false, .slice none 0 0, .slice none 0 0]) (t := 29) (by first | (go_simp; done) | (go_simp; rfl)) ?_; intro gb720 hg w66 hbox hb; have BK720 := mk0 (hbox); have GE720 := geB hg HB; replace HB := hbS HB hb; have NB718_720 := nbA hg BK718; have NB720_718 := nbB hg BK718; replace BK718 := bkB BK718 hb; have NB719_720 := nbA hg BK719; have NB720_719 := nbB hg BK719; replace BK719 := bkB BK719 hb; clear hb hbox hg; have hnb67 := NB719_718.out; have hnc67 := NB718_719.out; have hnb68 := NB719_720.out; have hnc68 := NB720_719.out; have hcz69_0 : w66.cell? ⟨gb719, 0, none⟩ = some (.bool a1_0) := (blk_cell BK719.out 0).trans rfl; have hcz69_1 : w66.cell? ⟨gb719, 1, none⟩ = some (.slice A1_1 l1_1.length c1_1) := (blk_cell BK719.out 1).trans rfl; have hfz69_0 := blk_frozen BK719.out 0; have hfz69_1 := blk_frozen BK719.out 1) | ((with_reducible refine gate_callee (f := 84) rfl ?_); refine goesL_ (some 9) rfl rfl Try.func84 (by kernel_rfl) rfl #[.agg #[.bool a1_0, .slice A1_1 l1_1.length c1_1]] rfl (by first | (go_simp; done) | (go_simp; rfl)) ?_; (with_reducible refine (examboardref02_Norm.calls k a1_0 _ _ l1_1 false t722 _ (by exact Kd.C_below HR1_1.out HB.out) HC1_1.out A3.out).mono ?_); rintro e w70 ⟨v723, rfl, ho0, hb⟩; refine ⟨_, rfl, ?_⟩; have HO724 := mk0 (Kd.R_lower ho0 (below_size HB.out)); replace BK718 := bkB BK718 hb; replace BK719 := bkB BK719 hb; replace BK720 := bkB BK720 hb; replace HB := hbS HB hb) | ((with_reducible refine gate_dst (N := 6) rfl ?_); refine box_event rfl (N := 6) rfl (cs := #[.bool false, .slice none 0 0]) (t := 27) (by first | (go_simp; done) | (go_simp; rfl)) ?_; intro gb725 hg w71 hbox hb; replace HO724 := rB HO724 hb; have BK725 := mk0 (hbox); have GE725 := geB hg HB; replace HB := hbS HB hb; have NB718_725 := nbA hg BK718; have NB725_718 := nbB hg BK718; replace BK718 := bkB BK718 hb; have NB719_725 := nbA hg BK719; have NB725_719 := nbB hg BK719; replace BK719 := bkB BK719 hb; have NB720_725 := nbA hg BK720; have NB725_720 := nbB hg BK720; replace BK720 := bkB BK720 hb; clear hb hbox hg; have hnb72 := NB725_718.out; have hnc72 := NB718_725.out; have hnb73 := NB725_719.out; have hnc73 := NB719_725.out; have hnb74 := NB725_720.out; have hnc74 := NB720_725.out; have hcz75_0 : w71.cell? ⟨gb725, 0, none⟩ = some (.bool false) := (blk_cell BK725.out 0).trans rfl; have hcz75_1 : w71.cell? ⟨gb725, 1, none⟩ = some (.slice none 0 0) := (blk_cell BK725.out 1).trans rfl; have hfz75_0 := blk_frozen BK725.out 0; have hfz75_1 := blk_frozen BK725.out 1; obtain ⟨Ao76, co76, eo76⟩ := Kd.R_slice HO724.out; subst eo76) | ((with_reducible refine gate_callee (f := 85) rfl ?_); refine goesL_ (some 12) rfl rfl Try.func85 (by kernel_rfl) rfl #[.slice Ao76 t722.length co76] rfl (by first | (go_simp; done) | (go_simp; rfl)) ?_; (with_reducible refine (examboardref01_Bits.calls k _ _ t722 t726 _ (by refine (Kd.R_reads' (e := 87) (base := w.heap.size) (ok := fun k_ => True) (n := t722.length) (c := co76) ?_).2.2; exact ((Kd.R_mono (Kd.R_far (p := ⟨gb725, 1, none⟩) (Kd.R_far (p := ⟨gb725, 0, none⟩) (Kd.R_types HO724.out BK725.out (by decide)) (fun _ hk => hk.2) (.bool false)) (fun _ hk => hk.2) (.slice Ao76 t722.length co76)) (fun _ h_ => h_.1)))) (by exact (Kd.R_reads' HO724.out).2.1) A4.out).mono ?_); rintro e w77 ⟨rfl, hb⟩; refine ⟨_, rfl, ?_⟩; replace HO724 := mk0 (Kd.R_below ((Kd.R_mono (Kd.R_far (p := ⟨gb725, 1, none⟩) (Kd.R_far (p := ⟨gb725, 0, none⟩) (Kd.R_types HO724.out BK725.out (by decide)) (fun _ hk => hk.2) (.bool false)) (fun _ hk => hk.2) (.slice Ao76 t722.length co76)) (fun _ h_ => h_.1))) hb); replace BK718 := mk0 (blk_below (g := gb718) (o := .cells #[.bool a0_0, .slice A0_1 l0_1.length c0_1] 27 (0, 0)) (by refine blk_far ?_ NB718_725.out _; refine blk_far ?_ NB718_725.out _; exact BK718.out) hb); replace BK719 := mk0 (blk_below (g := gb719) (o := .cells #[.bool a1_0, .slice A1_1 l1_1.length c1_1] 27 (0, 0)) (by refine blk_far ?_ NB719_725.out _; refine blk_far ?_ NB719_725.out _; exact BK719.out) hb); replace BK720 := mk0 (blk_below (g := gb720) (o := .cells #[.bool false, .slice none 0 0, .slice none 0 0] 29 (0, 0)) (by refine blk_far ?_ NB720_725.out _; refine blk_far ?_ NB720_725.out _; exact BK720.out) hb); replace BK725 := mk0 (blk_below (g := gb725) (o := .cells #[.bool false, .slice Ao76 t722.length co76] 27 (0, 0)) (by refine blk_put (cs := #[.bool false, .slice none 0 0]) ?_ 1 _ rfl; refine blk_put (cs := #[.bool false, .slice none 0 0]) ?_ 0 _ rfl; exact BK725.out) hb); replace HB := mk0 (below_step (by repeat (first | exact HB.out | refine below_set ?_ GE720.out | refine below_set ?_ GE725.out)) hb); have hnb78 := NB718_720.out; have hnc78 := NB720_718.out; have hcz79_0 : w77.cell? ⟨gb718, 0, none⟩ = some (.bool a0_0) := (blk_cell BK718.out 0).trans rfl; have hcz79_1 : w77.cell? ⟨gb718, 1, none⟩ = some (.slice A0_1 l0_1.length c0_1) := (blk_cell BK718.out 1).trans rfl; have hfz79_0 := blk_frozen BK718.out 0; have hfz79_1 := blk_frozen BK718.out 1) | ((with_reducible refine gate_callee (f := 84) rfl ?_); refine goesL_ (some 16) rfl rfl Try.func84 (by kernel_rfl) rfl #[.agg #[.bool a0_0, .slice A0_1 l0_1.length c0_1]] rfl (by first | (go_simp; done) | (go_simp; rfl)) ?_; (with_reducible refine (examboardref02_Norm.calls k a0_0 _ _ l0_1 t734 t735 _ (by exact Kd.C_below HR0_1.out HB.out) HC0_1.out A26.out).mono ?_); rintro e w80 ⟨v736, rfl, ho0, hb⟩; refine ⟨_, rfl, ?_⟩; have HO737 := mk0 (Kd.R_lower (Kd.R_new' ho0 (Kd.R_lt HO724.out)) (below_size HB.out)); replace HO724 := mk0 (Kd.R_elder' HO724.out (Kd.R_base ho0) hb); replace BK718 := bkB BK718 hb; replace BK719 := bkB BK719 hb; replace BK720 := bkB BK720 hb; replace BK725 := bkB BK725 hb; replace HB := hbS HB hb) | ((with_reducible refine gate_dst (N := 7) rfl ?_); refine box_event rfl (N := 7) rfl (cs := #[.bool false, .slice none 0 0]) (t := 27) (by first | (go_simp; done) | (go_simp; rfl)) ?_; intro gb738 hg w81 hbox hb; replace HO724 := rB HO724 hb; replace HO737 := rB HO737 hb; have BK738 := mk0 (hbox); have GE738 := geB hg HB; replace HB := hbS HB hb; have NB718_738 := nbA hg BK718; have NB738_718 := nbB hg BK718; replace BK718 := bkB BK718 hb; have NB719_738 := nbA hg BK719; have NB738_719 := nbB hg BK719; replace BK719 := bkB BK719 hb; have NB720_738 := nbA hg BK720; have NB738_720 := nbB hg BK720; replace BK720 := bkB BK720 hb; have NB725_738 := nbA hg BK725; have NB738_725 := nbB hg BK725; replace BK725 := bkB BK725 hb; clear hb hbox hg; have hnb82 := NB738_718.out; have hnc82 := NB718_738.out; have hnb83 := NB738_719.out; have hnc83 := NB719_738.out; have hnb84 := NB738_720.out; have hnc84 := NB720_738.out; have hnb85 := NB738_725.out; have hnc85 := NB725_738.out; have hcz86_0 : w81.cell? ⟨gb738, 0, none⟩ = some (.bool false) := (blk_cell BK738.out 0).trans rfl; have hcz86_1 : w81.cell? ⟨gb738, 1, none⟩ = some (.slice none 0 0) := (blk_cell BK738.out 1).trans rfl; have hfz86_0 := blk_frozen BK738.out 0; have hfz86_1 := blk_frozen BK738.out 1; obtain ⟨Ao87, co87, eo87⟩ := Kd.R_slice HO737.out; subst eo87; have hcz88_0 : w81.cell? ⟨gb725, 0, none⟩ = some (.bool false) := (blk_cell BK725.out 0).trans rfl; have hcz88_1 : w81.cell? ⟨gb725, 1, none⟩ = some (.slice Ao76 t722.length co76) := (blk_cell BK725.out 1).trans rfl; have hfz88_0 := blk_frozen BK725.out 0; have hfz88_1 := blk_frozen BK725.out 1) | ((with_reducible refine gate_callee (f := 57) rfl ?_); refine goesL_ (some 24) rfl rfl Try.func57 (by kernel_rfl) rfl #[.agg #[.bool t734, .slice Ao87 t735.length co87], .slice Ao76 t722.length co76] rfl (by first | (go_simp; done) | (go_simp; rfl)) ?_; (with_reducible refine (examboardref03_reduce.calls k t734 _ _ t735 _ _ t722 t750 t751 t754 _ (by refine (Kd.R_reads' (e := 87) (base := w.heap.size) (ok := fun k_ => (True ∧ some k_ ≠ (.slice Ao76 t722.length co76 : Value).ownBlock)) (n := t735.length) (c := co87) ?_).2.2; exact ((Kd.R_mono (Kd.R_far (p := ⟨gb738, 1, none⟩) (Kd.R_far (p := ⟨gb738, 0, none⟩) (Kd.R_types HO737.out BK738.out (by decide)) (fun _ hk => hk.2) (.bool t734)) (fun _ hk => hk.2) (.slice Ao87 t735.length co87)) (fun _ h_ => h_.1)))) (by exact (Kd.R_reads' HO737.out).2.1) (by refine (Kd.R_reads' (e := 87) (base := w.heap.size) (ok := fun k_ => (True ∧ some k_ ≠ (.slice Ao87 t735.length co87 : Value).ownBlock)) (n := t722.length) (c := co76) ?_).2.2; exact ((Kd.R_mono (Kd.R_far (p := ⟨gb738, 1, none⟩) (Kd.R_far (p := ⟨gb738, 0, none⟩) (Kd.R_types HO724.out BK738.out (by decide)) (fun _ hk => hk.2) (.bool t734)) (fun _ hk => hk.2) (.slice Ao87 t735.length co87)) (fun _ h_ => h_.1)))) (by exact (Kd.R_reads' HO724.out).2.1) A63.out).mono ?_); rintro e w89 ⟨v752, v755, rfl, ho0, ho1, hb⟩; refine ⟨_, rfl, ?_⟩; have HO753 := mk0 (Kd.R_lower (Kd.R_new' (Kd.R_new' ho0 (Kd.R_lt ((Kd.R_mono (Kd.R_far (p := ⟨gb738, 1, none⟩) (Kd.R_far (p := ⟨gb738, 0, none⟩) (Kd.R_types HO724.out BK738.out (by decide)) (fun _ hk => hk.2) (.bool t734)) (fun _ hk => hk.2) (.slice Ao87 t735.length co87)) (fun _ h_ => h_.1))))) (Kd.R_lt ((Kd.R_mono (Kd.R_far (p := ⟨gb738, 1, none⟩) (Kd.R_far (p := ⟨gb738, 0, none⟩) (Kd.R_types HO737.out BK738.out (by decide)) (fun _ hk => hk.2) (.bool t734)) (fun _ hk => hk.2) (.slice Ao87 t735.length co87)) (fun _ h_ => h_.1))))) (below_size (by repeat (first | exact HB.out | refine below_set ?_ GE720.out | refine below_set ?_ GE725.out | refine below_set ?_ GE738.out)))); have HO756 := mk0 (Kd.R_lower (Kd.R_new' (Kd.R_new' ho1 (Kd.R_lt ((Kd.R_mono (Kd.R_far (p := ⟨gb738, 1, none⟩) (Kd.R_far (p := ⟨gb738, 0, none⟩) (Kd.R_types HO724.out BK738.out (by decide)) (fun _ hk => hk.2) (.bool t734)) (fun _ hk => hk.2) (.slice Ao87 t735.length co87)) (fun _ h_ => h_.1))))) (Kd.R_lt ((Kd.R_mono (Kd.R_far (p := ⟨gb738, 1, none⟩) (Kd.R_far (p := ⟨gb738, 0, none⟩) (Kd.R_types HO737.out BK738.out (by decide)) (fun _ hk => hk.2) (.bool t734)) (fun _ hk => hk.2) (.slice Ao87 t735.length co87)) (fun _ h_ => h_.1))))) (below_size (by repeat (first | exact HB.out | refine below_set ?_ GE720.out | refine below_set ?_ GE725.out | refine below_set ?_ GE738.out)))); replace HO724 := mk0 (Kd.R_mono (Kd.R_told (Kd.R_told (Kd.R_old ((Kd.R_mono (Kd.R_far (p := ⟨gb738, 1, none⟩) (Kd.R_far (p := ⟨gb738, 0, none⟩) (Kd.R_types HO724.out BK738.out (by decide)) (fun _ hk => hk.2) (.bool t734)) (fun _ hk => hk.2) (.slice Ao87 t735.length co87)) (fun _ h_ => h_.1))) hb) (Kd.R_base ho0)) (Kd.R_base ho1)) (fun _ h_ => h_.1)); replace HO737 := mk0 (Kd.R_mono (Kd.R_told (Kd.R_told (Kd.R_old ((Kd.R_mono (Kd.R_far (p := ⟨gb738, 1, none⟩) (Kd.R_far (p := ⟨gb738, 0, none⟩) (Kd.R_types HO737.out BK738.out (by decide)) (fun _ hk => hk.2) (.bool t734)) (fun _ hk => hk.2) (.slice Ao87 t735.length co87)) (fun _ h_ => h_.1))) hb) (Kd.R_base ho0)) (Kd.R_base ho1)) (fun _ h_ => h_.1)); replace BK718 := mk0 (blk_below (g := gb718) (o := .cells #[.bool a0_0, .slice A0_1 l0_1.length c0_1] 27 (0, 0)) (by refine blk_far ?_ NB718_738.out _; refine blk_far ?_ NB718_738.out _; exact BK718.out) hb); replace BK719 := mk0 (blk_below (g := gb719) (o := .cells #[.bool a1_0, .slice A1_1 l1_1.length c1_1] 27 (0, 0)) (by refine blk_far ?_ NB719_738.out _; refine blk_far ?_ NB719_738.out _; exact BK719.out) hb); replace BK720 := mk0 (blk_below (g := gb720) (o := .cells #[.bool false, .slice none 0 0, .slice none 0 0] 29 (0, 0)) (by refine blk_far ?_ NB720_738.out _; refine blk_far ?_ NB720_738.out _; exact BK720.out) hb); replace BK725 := mk0 (blk_below (g := gb725) (o := .cells #[.bool false, .slice Ao76 t722.length co76] 27 (0, 0)) (by refine blk_far ?_ NB725_738.out _; refine blk_far ?_ NB725_738.out _; exact BK725.out) hb); replace BK738 := mk0 (blk_below (g := gb738) (o := .cells #[.bool t734, .slice Ao87 t735.length co87] 27 (0, 0)) (by refine blk_put (cs := #[.bool t734, .slice none 0 0]) ?_ 1 _ rfl; refine blk_put (cs := #[.bool false, .slice none 0 0]) ?_ 0 _ rfl; exact BK738.out) hb); replace HB := mk0 (below_step (by repeat (first | exact HB.out | refine below_set ?_ GE720.out | refine below_set ?_ GE725.out | refine below_set ?_ GE738.out)) hb); have hcz90_0 : w89.cell? ⟨gb720, 0, none⟩ = some (.bool false) := (blk_cell BK720.out 0).trans rfl; have hcz90_1 : w89.cell? ⟨gb720, 1, none⟩ = some (.slice none 0 0) := (blk_cell BK720.out 1).trans rfl; have hcz90_2 : w89.cell? ⟨gb720, 2, none⟩ = some (.slice none 0 0) := (blk_cell BK720.out 2).trans rfl; have hfz90_0 := blk_frozen BK720.out 0; have hfz90_1 := blk_frozen BK720.out 1; have hfz90_2 := blk_frozen BK720.out 2; obtain ⟨Ao91, co91, eo91⟩ := Kd.R_slice HO753.out; subst eo91; obtain ⟨Ao92, co92, eo92⟩ := Kd.R_slice HO756.out; subst eo92))
   refine bodyPost_ret (results_ct rfl _ _ gb720 29 #[.bool t750, .slice Ao91 t751.length co91, .slice Ao92 t754.length co92] (0, 0) _ rfl (by refine blk_put (cs := #[.bool t750, .slice Ao91 t751.length co91, .slice none 0 0]) ?_ 2 _ rfl; refine blk_put (cs := #[.bool t750, .slice none 0 0, .slice none 0 0]) ?_ 1 _ rfl; refine blk_put (cs := #[.bool false, .slice none 0 0, .slice none 0 0]) ?_ 0 _ rfl; exact BK720.out) Try.underlying29 rfl (by kernel_rfl)) rfl ?_
   exact ⟨_, _, by first | rfl | (simp [errW_none, errW_some] <;> rfl) | (simp [*, errW_none, errW_some] <;> rfl), Kd.R_mono (Kd.R_far (p := ⟨gb720, 2, none⟩) (Kd.R_far (p := ⟨gb720, 1, none⟩) (Kd.R_far (p := ⟨gb720, 0, none⟩) (Kd.R_types HO753.out BK720.out (by decide)) (fun _ hk => hk.2) (.bool t750)) (fun _ hk => hk.2) (.slice Ao91 t751.length co91)) (fun _ hk => hk.2) (.slice Ao92 t754.length co92)) (fun _ hk => hk.1.1.1), Kd.R_mono (Kd.R_far (p := ⟨gb720, 2, none⟩) (Kd.R_far (p := ⟨gb720, 1, none⟩) (Kd.R_far (p := ⟨gb720, 0, none⟩) (Kd.R_types HO756.out BK720.out (by decide)) (fun _ hk => hk.2) (.bool t750)) (fun _ hk => hk.2) (.slice Ao91 t751.length co91)) (fun _ hk => hk.2) (.slice Ao92 t754.length co92)) (fun _ hk => hk.1.1.1), by repeat (first | exact HB.out | refine below_set ?_ GE718.out | refine below_set ?_ GE719.out | refine below_set ?_ GE720.out | refine below_set ?_ GE725.out | refine below_set ?_ GE738.out)⟩
set_option maxHeartbeats 8000000 in
set_option maxRecDepth 100000 in
theorem examboardref03_Of.calls (k : Nat) (a0 : Int) (a1 : Int) (r1 : Bool) (r2 : List Int) (r3 : List Int) (r4 : Bool) (w : World) (h : examboardref03_Of.f k a0 a1 = some (r1, r2, r3, r4)) :
  Calls Try.prog 40 #[.int .i64 a0, .int .i64 a1] w fun e w' => ∃ v1_ v2_ : Value, e = .returned (.tuple #[.agg #[.bool r1, v1_, v2_], .bool r4]) ∧ Kd.R (Kd.int .u32) 87 w' w.heap.size (fun k_ => some k_ ≠ (v2_ : Value).ownBlock) v1_ r2 ∧ Kd.R (Kd.int .u32) 87 w' w.heap.size (fun k_ => some k_ ≠ (v1_ : Value).ownBlock) v2_ r3 ∧ Below w.heap.size w w' := by
 have hu29 := Try.underlying29
 have HB := mk0 (Below.refl w.heap.size w)
 have H : ((examboardref02_Of.f k a0).bind fun bt758 => ((examboardref02_Of.f k a1).bind fun bt762 => ((examboardref03_Make.f k bt758.1 bt758.2 bt762.1 bt762.2).bind fun bt766 => (some (bt766.1, bt766.2.1, bt766.2.2.1, bt766.2.2.2))))) = some (r1, r2, r3, r4) := h
 clear h
 obtain ⟨⟨t758, t759⟩, A3, H⟩ := bindA H
 obtain ⟨⟨t762, t763⟩, A4, H⟩ := bindA H
 obtain ⟨⟨t766, t767, t770, t773⟩, A5, H⟩ := bindA H
 simp only [Option.some.injEq, Prod.mk.injEq] at H
 obtain ⟨rfl, rfl, rfl, rfl⟩ := H
 go_enter Try.func40, Try.ntmps40
 go_wp2_with (first | ((with_reducible refine gate_dst (N := 4) rfl ?_); refine box_event rfl (N := 4) rfl (cs := #[.bool false, .slice none 0 0, .slice none 0 0]) (t := 29) (by first | (go_simp; done) | (go_simp; rfl)) ?_; intro gb757 hg w6 hbox hb; have BK757 := mk0 (hbox); have GE757 := geB hg HB; replace HB := hbS HB hb; clear hb hbox hg) | ((with_reducible refine gate_callee (f := 69) rfl ?_); refine goesL_ (some 7) rfl rfl Try.func69 (by kernel_rfl) rfl #[.int .i64 a0] rfl (by first | (go_simp; done) | (go_simp; rfl)) ?_; (with_reducible refine (examboardref02_Of.calls k a0 t758 t759 _ A3.out).mono ?_); rintro e w7 ⟨v760, rfl, ho0, hb⟩; refine ⟨_, rfl, ?_⟩; have HO761 := mk0 (Kd.R_lower ho0 (below_size HB.out)); replace BK757 := bkB BK757 hb; replace HB := hbS HB hb) | ((with_reducible refine gate_callee (f := 69) rfl ?_); refine goesL_ (some 9) rfl rfl Try.func69 (by kernel_rfl) rfl #[.int .i64 a1] rfl (by first | (go_simp; done) | (go_simp; rfl)) ?_; (with_reducible refine (examboardref02_Of.calls k a1 t762 t763 _ A4.out).mono ?_); rintro e w8 ⟨v764, rfl, ho0, hb⟩; refine ⟨_, rfl, ?_⟩; have HO765 := mk0 (Kd.R_lower (Kd.R_new' ho0 (Kd.R_lt HO761.out)) (below_size HB.out)); replace HO761 := mk0 (Kd.R_elder' HO761.out (Kd.R_base ho0) hb); replace BK757 := bkB BK757 hb; replace HB := hbS HB hb; obtain ⟨Ao9, co9, eo9⟩ := Kd.R_slice HO761.out; subst eo9; obtain ⟨Ao10, co10, eo10⟩ := Kd.R_slice HO765.out; subst eo10) | ((with_reducible refine gate_callee (f := 68) rfl ?_); refine goesL_ (some 10) rfl rfl Try.func68 (by kernel_rfl) rfl #[.agg #[.bool t758, .slice Ao9 t759.length co9], .agg #[.bool t762, .slice Ao10 t763.length co10]] rfl (by first | (go_simp; done) | (go_simp; rfl)) ?_; (with_reducible refine (examboardref03_Make.calls k t758 _ _ t759 t762 _ _ t763 t766 t767 t770 t773 _ (by exact (Kd.R_reads' HO761.out).2.2) (by exact (Kd.R_reads' HO761.out).2.1) (by exact (Kd.R_reads' HO765.out).2.2) (by exact (Kd.R_reads' HO765.out).2.1) A5.out).mono ?_); rintro e w11 ⟨v768, v771, rfl, ho0, ho1, hb⟩; refine ⟨_, rfl, ?_⟩; have HO769 := mk0 (Kd.R_lower (Kd.R_new' (Kd.R_new' ho0 (Kd.R_lt HO761.out)) (Kd.R_lt HO765.out)) (below_size HB.out)); have HO772 := mk0 (Kd.R_lower (Kd.R_new' (Kd.R_new' ho1 (Kd.R_lt HO761.out)) (Kd.R_lt HO765.out)) (below_size HB.out)); replace HO761 := mk0 (Kd.R_mono (Kd.R_told (Kd.R_told (Kd.R_old HO761.out hb) (Kd.R_base ho0)) (Kd.R_base ho1)) (fun _ h_ => h_.1)); replace HO765 := mk0 (Kd.R_mono (Kd.R_told (Kd.R_told (Kd.R_old HO765.out hb) (Kd.R_base ho0)) (Kd.R_base ho1)) (fun _ h_ => h_.1)); replace BK757 := bkB BK757 hb; replace HB := hbS HB hb; have hcz12_0 : w11.cell? ⟨gb757, 0, none⟩ = some (.bool false) := (blk_cell BK757.out 0).trans rfl; have hcz12_1 : w11.cell? ⟨gb757, 1, none⟩ = some (.slice none 0 0) := (blk_cell BK757.out 1).trans rfl; have hcz12_2 : w11.cell? ⟨gb757, 2, none⟩ = some (.slice none 0 0) := (blk_cell BK757.out 2).trans rfl; have hfz12_0 := blk_frozen BK757.out 0; have hfz12_1 := blk_frozen BK757.out 1; have hfz12_2 := blk_frozen BK757.out 2; obtain ⟨Ao13, co13, eo13⟩ := Kd.R_slice HO769.out; subst eo13; obtain ⟨Ao14, co14, eo14⟩ := Kd.R_slice HO772.out; subst eo14))
 refine bodyPost_ret (results_ct rfl _ _ gb757 29 #[.bool t766, .slice Ao13 t767.length co13, .slice Ao14 t770.length co14] (0, 0) _ rfl (by refine blk_put (cs := #[.bool t766, .slice Ao13 t767.length co13, .slice none 0 0]) ?_ 2 _ rfl; refine blk_put (cs := #[.bool t766, .slice none 0 0, .slice none 0 0]) ?_ 1 _ rfl; refine blk_put (cs := #[.bool false, .slice none 0 0, .slice none 0 0]) ?_ 0 _ rfl; exact BK757.out) Try.underlying29 rfl (by kernel_rfl)) rfl ?_
 exact ⟨_, _, by first | rfl | (simp [errW_none, errW_some] <;> rfl) | (simp [*, errW_none, errW_some] <;> rfl), Kd.R_mono (Kd.R_far (p := ⟨gb757, 2, none⟩) (Kd.R_far (p := ⟨gb757, 1, none⟩) (Kd.R_far (p := ⟨gb757, 0, none⟩) (Kd.R_types HO769.out BK757.out (by decide)) (fun _ hk => hk.2) (.bool t766)) (fun _ hk => hk.2) (.slice Ao13 t767.length co13)) (fun _ hk => hk.2) (.slice Ao14 t770.length co14)) (fun _ hk => hk.1.1.1), Kd.R_mono (Kd.R_far (p := ⟨gb757, 2, none⟩) (Kd.R_far (p := ⟨gb757, 1, none⟩) (Kd.R_far (p := ⟨gb757, 0, none⟩) (Kd.R_types HO772.out BK757.out (by decide)) (fun _ hk => hk.2) (.bool t766)) (fun _ hk => hk.2) (.slice Ao13 t767.length co13)) (fun _ hk => hk.2) (.slice Ao14 t770.length co14)) (fun _ hk => hk.1.1.1), by repeat (first | exact HB.out | refine below_set ?_ GE757.out)⟩
set_option maxHeartbeats 8000000 in
set_option maxRecDepth 100000 in
theorem examboardref08_step.calls (a0 : Int) (r : Int) (w : World) (h : examboardref08_step.f a0 = some r) :
  Calls Try.prog 83 #[.int .u64 a0] w fun e w' => e = .returned (.int .u64 r) ∧ Drawn0 w w' := by
 have H : (some (IntKind.u64.wrap ((IntKind.u64.wrap (a0 * 6364136223846793005)) + 1442695040888963407))) = some r := h
 clear h
 obtain rfl := Option.some.inj H
 go_enter Try.func83, Try.ntmps83
 go_wp2
 go_ret
 exact ⟨by first | rfl | (simp; done) | (simp [*]; done), by repeat (first | exact Drawn0.refl _ | apply Drawn0.step)⟩
set_option maxHeartbeats 8000000 in
set_option maxRecDepth 100000 in
theorem examboardref08_Next.calls (a0 : Int) (r1 : Int) (r2 : Int) (w : World) (h : examboardref08_Next.f a0 = some (r1, r2)) :
  Calls Try.prog 56 #[.int .u64 a0] w fun e w' => e = .returned (.tuple #[.int .u32 r1, .int .u64 r2]) ∧ Drawn0 w w' := by
 have H : ((examboardref08_step.f a0).bind fun t774 => (some ((t774 / 4294967296) % 4294967296, t774))) = some (r1, r2) := h
 clear h
 obtain ⟨t774, A2, H⟩ := bindA H
 simp only [Option.some.injEq, Prod.mk.injEq] at H
 obtain ⟨rfl, rfl⟩ := H
 go_enter Try.func56, Try.ntmps56
 go_wp2_with (first | ((with_reducible refine gate_callee (f := 83) rfl ?_); refine goesL_ (some 6) rfl rfl Try.func83 (by kernel_rfl) rfl #[.int .u64 a0] rfl (by first | (go_simp; done) | (go_simp; rfl)) ?_; (with_reducible refine (examboardref08_step.calls a0 t774 _ A2.out).mono ?_); rintro e w' ⟨rfl, ⟨nd, rfl⟩⟩; refine ⟨_, rfl, ?_⟩))
 go_ret2
 exact ⟨by first | rfl | (simp; done) | (simp [*]; done), by repeat (first | exact Drawn0.refl _ | apply Drawn0.step)⟩
end Go.Proofs.Ythamhjmhgcpdgaa.Q
end
