/- Lemmas and contracts for the law ExposureOrder: words of the print, contracts of the functions that the law reaches, and what these compute, as far as the law needs them; packed by a program of this session. -/
import Derived.Test.YthamhjmhgcpdgaaZExposureOrder0
section
namespace Go.Proofs.Ythamhjmhgcpdgaa.O
open Go.RowKit Go.Proofs.YthamhjmhgcpdgaaW.PrintWords Go.Proofs.YthamhjmhgcpdgaaW.PrintLast Go.Proofs.YthamhjmhgcpdgaaW.PrintMore Go.Proofs.Ythamhjmhgcpdgaa.MyWords
attribute [local go_sem] max2_int min2_int max_two min_two
set_option linter.unusedVariables false
set_option linter.unusedSimpArgs false
set_option maxHeartbeats 8000000 in
set_option maxRecDepth 100000 in
theorem examboardlaw37_ExposureOrder.calls (k : Nat) (A0 : Option Addr) (c0 : Nat) (l0 : List (S50)) (A1 : Option Addr) (c1 : Nat) (l1 : List Int) (r : Bool) (w : World) (hr0 : Kd.C k50 w A0 l0.length l0) (hc0 : l0.length ≤ c0) (hr1 : Kd.C (Kd.int .i64) w A1 l1.length l1) (hc1 : l1.length ≤ c1) (h : examboardlaw37_ExposureOrder.f k l0 l1 = some r) :
  Calls Try.prog 7 #[.slice A0 l0.length c0, .slice A1 l1.length c1] w fun e w' => e = .returned (.bool r) ∧ Below w.heap.size w w' := by
 have hu50 := Try.underlying50
 have HR0 := Aside0.mk hr0
 have HC0 := Aside0.mk hc0
 clear hr0 hc0
 have HR1 := Aside0.mk hr1
 have HC1 := Aside0.mk hc1
 clear hr1 hc1
 have HB := Aside0.mk (Below.refl w.heap.size w)
 have H : (if (l0.length : Int) > 100 then (examboardlaw37_ExposureOrder.j0 k l0 l1 true) else (examboardlaw37_ExposureOrder.j0 k l0 l1 (decide ((l1.length : Int) > 30)))) = some r := h
 clear h
 have HC3 := Aside0.mk H
 clear H
 go_enter Try.func7, Try.ntmps7
 go_upto_region 1 with (fail)
 repeat (go_quiet (fail); go_upto_region 1 with (fail))
 go_cut [24] (fun v24 wc => ∃ (kq : Nat) (x24_2 : Bool), v24 = .bool x24_2 ∧ Aside0 (examboardlaw37_ExposureOrder.j0 kq l0 l1 x24_2 = some r) ∧ Aside0 (kq ≤ k) ∧ Aside0 (Below w.heap.size w wc))
 case first =>
  have H := HC3.out
  clear HC3
  by_cases c4 : (l0.length : Int) > 100
  ·rw [if_pos c4] at H
   have c4b0 : decide (100 < (l0.length : Int)) = true := decide_eq_true c4
   have c4b1 : decide (100 < l0.length) = true := decide_eq_true (by omega)
   clear c4
   (first | rw [c4b0] | (simp only [i64_w, i32_w]; rw [c4b0]) | skip)
   have H' := Aside0.mk H
   clear H
   go_wp2
   repeat (go_quiet (fail); try go_wp2)
   go_meet
   case rel => exact ⟨_, (true), (by first | rfl | (simp; done) | (simp [*]; done)), H', ⟨by first | omega | exact Nat.le_refl _⟩, ⟨by repeat (first | (with_reducible first | exact HB.out | apply below_alloc | apply pw_below_drewN | apply below_drew1) | exact HB.out)⟩⟩
  ·rw [if_neg c4] at H
   have c4b0 : decide (100 < (l0.length : Int)) = false := decide_eq_false c4
   have c4b1 : decide (100 < l0.length) = false := decide_eq_false (by omega)
   clear c4
   (first | rw [c4b0] | (simp only [i64_w, i32_w]; rw [c4b0]) | skip)
   have H' := Aside0.mk H
   clear H
   go_wp2
   repeat (go_quiet (fail); try go_wp2)
   go_meet
   case rel => exact ⟨_, (decide ((l1.length : Int) > 30)), (by first | rfl | (simp; done) | (simp [*]; done)), H', ⟨by first | omega | exact Nat.le_refl _⟩, ⟨by repeat (first | (with_reducible first | exact HB.out | apply below_alloc | apply pw_below_drewN | apply below_drew1) | exact HB.out)⟩⟩
 case rest =>
  clear HC3
  try clear c1
  try clear p2
  try clear c4
  try clear c4b0
  try clear c4b1
  obtain ⟨kq, x24_2, rfl, HA, HJ2, HB⟩ := hcut
  cases kq with
  | zero => exact absurd HA.out (by simp [examboardlaw37_ExposureOrder.j0])
  | succ kj2 =>
   have H := HA.out
   clear HA
   simp only [examboardlaw37_ExposureOrder.j0] at H
   by_cases c5 : x24_2 = true
   ·subst c5
    have H1 : (some true) = some r := by rw [if_pos rfl] at H; exact H
    clear H
    have H := H1
    clear H1
    obtain rfl := Option.some.inj H
    go_wp2
    repeat (go_quiet (fail); try go_wp2)
    go_ret
    exact ⟨by first | rfl | (simp [errW_none, errW_some] <;> rfl) | (simp [*, errW_none, errW_some] <;> rfl), by repeat (first | (with_reducible first | exact HB.out | apply below_alloc | apply pw_below_drewN | apply below_drew1) | exact HB.out)⟩
   ·replace c5 := Bool.eq_false_iff.mpr c5
    subst c5
    have H1 : ((exposure_Record.f kj2 l0 l1).bind fun bt277 => (examboardlaw37_ExposureOrder.l0 kj2 l0 l1 bt277.1 bt277.2 ([] : List (S50)) (wrap64 ((l0.length : Int) - 1)))) = some r := by rw [if_neg (show ¬ (false = true) by decide)] at H; exact H
    clear H
    have H := H1
    clear H1
    replace H := Option.bind_eq_some_iff.mp H
    obtain ⟨⟨t277, t278⟩, A60, H⟩ := H
    replace H : (examboardlaw37_ExposureOrder.l0 kj2 l0 l1 t277 t278 ([] : List (S50)) (wrap64 ((l0.length : Int) - 1))) = some r := H
    have A6 := Aside0.mk A60
    clear A60
    have H' := Aside0.mk H
    clear H
    go_wp2_with (first | (go_at_call 22; (with_reducible refine (exposure_Record.calls kj2 _ _ l0 _ _ l1 t277 t278 _ ?side1 ?side2 ?side3 ?side4 A6.out).mono ?_); (case side1 => repeat (first | exact (Kd.C_below HR0.out HB.out) | (with_reducible refine Kd.C_alloc ?_ _) | (with_reducible refine Kd.C_drewN ?_ _) | (with_reducible refine Kd.C_drew ?_))); (case side2 => exact HC0.out); (case side3 => repeat (first | exact (Kd.C_below HR1.out HB.out) | (with_reducible refine Kd.C_alloc ?_ _) | (with_reducible refine Kd.C_drewN ?_ _) | (with_reducible refine Kd.C_drew ?_))); (case side4 => exact HC1.out); rintro e w7 ⟨v279, rfl, ho0, hb⟩; have n0_ := Aside0.mk (Kd.R_lower ho0 (below_size (by repeat (first | (with_reducible first | exact HB.out | apply below_alloc | apply pw_below_drewN | apply below_drew1) | exact HB.out)))); have n1_ := Aside0.mk (below_step (by repeat (first | (with_reducible first | exact HB.out | apply below_alloc | apply pw_below_drewN | apply below_drew1) | exact HB.out)) hb); clear HB; have HO280 := n0_; have HB := n1_; clear n0_ n1_; (try clear hb); (try clear hb2); (try clear hk); (try clear hi); (try clear ho0)))
    repeat (go_quiet (first | (go_at_call 22; (with_reducible refine (exposure_Record.calls kj2 _ _ l0 _ _ l1 t277 t278 _ ?side1 ?side2 ?side3 ?side4 A6.out).mono ?_); (case side1 => repeat (first | exact (Kd.C_below HR0.out HB.out) | (with_reducible refine Kd.C_alloc ?_ _) | (with_reducible refine Kd.C_drewN ?_ _) | (with_reducible refine Kd.C_drew ?_))); (case side2 => exact HC0.out); (case side3 => repeat (first | exact (Kd.C_below HR1.out HB.out) | (with_reducible refine Kd.C_alloc ?_ _) | (with_reducible refine Kd.C_drewN ?_ _) | (with_reducible refine Kd.C_drew ?_))); (case side4 => exact HC1.out); rintro e w7 ⟨v279, rfl, ho0, hb⟩; have n0_ := Aside0.mk (Kd.R_lower ho0 (below_size (by repeat (first | (with_reducible first | exact HB.out | apply below_alloc | apply pw_below_drewN | apply below_drew1) | exact HB.out)))); have n1_ := Aside0.mk (below_step (by repeat (first | (with_reducible first | exact HB.out | apply below_alloc | apply pw_below_drewN | apply below_drew1) | exact HB.out)) hb); clear HB; have HO280 := n0_; have HB := n1_; clear n0_ n1_; (try clear hb); (try clear hb2); (try clear hk); (try clear hi); (try clear ho0))); try go_wp2_with (first | (go_at_call 22; (with_reducible refine (exposure_Record.calls kj2 _ _ l0 _ _ l1 t277 t278 _ ?side1 ?side2 ?side3 ?side4 A6.out).mono ?_); (case side1 => repeat (first | exact (Kd.C_below HR0.out HB.out) | (with_reducible refine Kd.C_alloc ?_ _) | (with_reducible refine Kd.C_drewN ?_ _) | (with_reducible refine Kd.C_drew ?_))); (case side2 => exact HC0.out); (case side3 => repeat (first | exact (Kd.C_below HR1.out HB.out) | (with_reducible refine Kd.C_alloc ?_ _) | (with_reducible refine Kd.C_drewN ?_ _) | (with_reducible refine Kd.C_drew ?_))); (case side4 => exact HC1.out); rintro e w7 ⟨v279, rfl, ho0, hb⟩; have n0_ := Aside0.mk (Kd.R_lower ho0 (below_size (by repeat (first | (with_reducible first | exact HB.out | apply below_alloc | apply pw_below_drewN | apply below_drew1) | exact HB.out)))); have n1_ := Aside0.mk (below_step (by repeat (first | (with_reducible first | exact HB.out | apply below_alloc | apply pw_below_drewN | apply below_drew1) | exact HB.out)) hb); clear HB; have HO280 := n0_; have HB := n1_; clear n0_ n1_; (try clear hb); (try clear hb2); (try clear hk); (try clear hi); (try clear ho0))))
    go_loopg [7, 8] kj2 (fun kq v7 v8 w' => ∃ (x7_2 : List (S50)) (x8_2 : Int), v8 = .int .i64 x8_2 ∧ Aside0 (examboardlaw37_ExposureOrder.l0 kq l0 l1 t277 t278 x7_2 x8_2 = some r) ∧ Aside0 (kq ≤ kj2) ∧ Aside0 (Kd.R k50 50 w' w.heap.size (fun k_ => some k_ ≠ (v7 : Value).ownBlock) v279 t277) ∧ Aside0 (Kd.R k50 50 w' w.heap.size (fun k_ => some k_ ≠ (v279 : Value).ownBlock) v7 x7_2) ∧ Aside0 (Below w.heap.size w w'))
    case atStart => exact ⟨(([] : List (S50))), (wrap64 ((l0.length : Int) - 1)), (by first | rfl | (simp; done) | (simp [*]; done)), H', ⟨Nat.le_refl _⟩, ⟨by (with_reducible repeat (first | apply Kd.R_alloc | apply Kd.R_drewN | apply Kd.R_drew)); exact Kd.R_mono HO280.out (fun _ hk => (by simp [Value.ownBlock]))⟩, ⟨by first | exact Kd.R_nil _ _ _ _ _ | exact Kd.N_nil _ _ _ _ _ | exact Kd.V_nil _ _ _ _ _ | exact Kd.Q_nil _ _ _ _ _ | exact Kd.S_nil _ _ _ _ _⟩, ⟨by repeat (first | (with_reducible first | exact HB.out | apply below_alloc | apply pw_below_drewN | apply below_drew1) | exact HB.out)⟩⟩
    case round =>
     clear H'
     try clear c1
     try clear p2
     try clear c4
     try clear c4b0
     try clear c4b1
     try clear c5
     try clear p6
     try clear c7
     try clear p2
     obtain ⟨x7_2, x8_2, rfl, HA, HK2, HO_5, HO_7, HB⟩ := hrel
     cases gk with
     | zero => exact absurd HA.out (by simp [examboardlaw37_ExposureOrder.l0])
     | succ k2 =>
      have H := HA.out
      clear HA
      simp only [examboardlaw37_ExposureOrder.l0] at H
      by_cases c8 : x8_2 ≥ 0
      ·rw [if_pos c8] at H
       have c8b0 : decide (0 ≤ x8_2) = true := decide_eq_true c8
       clear c8
       by_cases c9 : 0 ≤ x8_2
       ·rw [if_pos c9] at H
        have c9b0 : decide (0 ≤ x8_2) = true := decide_eq_true c9
        clear c9
        by_cases c10 : x8_2 < (l0.length : Int)
        ·rw [if_pos c10] at H
         have c10b0 : decide (x8_2 < (l0.length : Int)) = true := decide_eq_true c10
         clear c10
         by_cases c11 : x7_2.length < 8796093022208
         ·rw [if_pos c11] at H
          have LMc11 := Aside0.mk c11
          clear c11
          obtain ⟨y282, hy282⟩ : ∃ y_ : List (S50), y_ = (x7_2 ++ [(⟨(rd_T50 l0 x8_2).f0, (rd_T50 l0 x8_2).f1⟩ : S50)]) := ⟨_, rfl⟩
          replace H : (examboardlaw37_ExposureOrder.l0 k2 l0 l1 t277 t278 y282 (wrap64 (x8_2 - 1))) = some r := by first | (rw [hy282]; with_reducible exact H) | (have H2_ := (Option.bind_some _ _).symm.trans H; rw [hy282]; with_reducible exact H2_) | (have H2_ := (Option.bind_some _ _).symm.trans H; with_reducible exact H2_) | with_reducible exact H | (rw [hy282]; exact H) | exact H
          have Ny282 := Aside0.mk hy282
          clear hy282
          have H' := Aside0.mk H
          clear H
          have p281 : 0 ≤ (x8_2 : Int) := of_decide_eq_true (by first | (with_reducible assumption) | assumption)
          have q281 : x8_2 < (l0.length : Int) := of_decide_eq_true (by first | (with_reducible assumption) | assumption)
          obtain ⟨ad281, e281, hx281_0, hx281_1⟩ := at_T50 HR0.out x8_2 p281 q281
          cases e281
          replace hx281_0 := (HB.out.cell (World.block_lt_of_cell? w _ hx281_0)).trans hx281_0
          replace hx281_1 := (HB.out.cell (World.block_lt_of_cell? w _ hx281_1)).trans hx281_1
          replace p281 := eq_true p281
          replace q281 := eq_true q281
          go_wp2_with (first | ((with_reducible refine gate_builtin (b := .append) (xs := #[.tmp 38, .tmp 43]) rfl ?_); (try (refine gate_guard (by rfl) ?_; dsimp only)); at_builtin; refine Kd.R_append k50 (w0 := w) w.heap.size rfl (.tmp 38) (.tmp 43) 39 50 (.agg #[(.int .i64 0), (.int .i64 0)]) 16 rfl Try.underlying39 info50 rfl (by decide) (by omega) u7 x7_2 (⟨(rd_T50 l0 x8_2).f0, (rd_T50 l0 x8_2).f1⟩ : S50) [.int .i64 ((rd_T50 l0 x8_2).f0), .int .i64 ((rd_T50 l0 x8_2).f1)] (fun k_ => some k_ ≠ (v279 : Value).ownBlock) (fun _ => False) rfl rfl ?aP (fun _ hk => hk.elim) ?aF ?aO ?aB ?aS ?aL ?_; (case aP => exact k50_mkM _ _ _ (⟨(rd_T50 l0 x8_2).f0, (rd_T50 l0 x8_2).f1⟩ : S50)); (case aB => exact (by repeat (first | (with_reducible first | exact HB.out | apply below_alloc | apply pw_below_drewN | apply below_drew1) | exact HB.out))); (case aF => exact (fun k_ hk => Kd.fresh' (Kd.R_lt (by (with_reducible repeat (first | apply Kd.R_alloc | apply Kd.R_drewN | apply Kd.R_drew)); exact HO_5.out)) k_ hk)); (case aO => exact (by (with_reducible repeat (first | apply Kd.R_alloc | apply Kd.R_drewN | apply Kd.R_drew)); exact HO_7.out)); (case aS => exact (below_size (by repeat (first | (with_reducible first | exact HB.out | apply below_alloc | apply pw_below_drewN | apply below_drew1) | exact HB.out)))); (case aL => have := LMc11.out; omega); intro v283 w12 ho hb hg hat; rw [← Ny282.out] at ho; have n0_ := Aside0.mk (Kd.R_after (ok := (fun _ => True)) (by (with_reducible repeat (first | apply Kd.R_alloc | apply Kd.R_drewN | apply Kd.R_drew)); exact Kd.R_mono HO_5.out (fun _ hk => ⟨trivial, hk⟩)) hg hat); have n1_ := Aside0.mk (hb); have n2_ := Aside0.mk (ho); clear HO_5; clear HB; clear HO_7; have HO_5 := n0_; have HB := n1_; have HO284 := n2_; clear n0_ n1_ n2_; clear ho hb hg hat))
          repeat (go_quiet (first | ((with_reducible refine gate_builtin (b := .append) (xs := #[.tmp 38, .tmp 43]) rfl ?_); (try (refine gate_guard (by rfl) ?_; dsimp only)); at_builtin; refine Kd.R_append k50 (w0 := w) w.heap.size rfl (.tmp 38) (.tmp 43) 39 50 (.agg #[(.int .i64 0), (.int .i64 0)]) 16 rfl Try.underlying39 info50 rfl (by decide) (by omega) u7 x7_2 (⟨(rd_T50 l0 x8_2).f0, (rd_T50 l0 x8_2).f1⟩ : S50) [.int .i64 ((rd_T50 l0 x8_2).f0), .int .i64 ((rd_T50 l0 x8_2).f1)] (fun k_ => some k_ ≠ (v279 : Value).ownBlock) (fun _ => False) rfl rfl ?aP (fun _ hk => hk.elim) ?aF ?aO ?aB ?aS ?aL ?_; (case aP => exact k50_mkM _ _ _ (⟨(rd_T50 l0 x8_2).f0, (rd_T50 l0 x8_2).f1⟩ : S50)); (case aB => exact (by repeat (first | (with_reducible first | exact HB.out | apply below_alloc | apply pw_below_drewN | apply below_drew1) | exact HB.out))); (case aF => exact (fun k_ hk => Kd.fresh' (Kd.R_lt (by (with_reducible repeat (first | apply Kd.R_alloc | apply Kd.R_drewN | apply Kd.R_drew)); exact HO_5.out)) k_ hk)); (case aO => exact (by (with_reducible repeat (first | apply Kd.R_alloc | apply Kd.R_drewN | apply Kd.R_drew)); exact HO_7.out)); (case aS => exact (below_size (by repeat (first | (with_reducible first | exact HB.out | apply below_alloc | apply pw_below_drewN | apply below_drew1) | exact HB.out)))); (case aL => have := LMc11.out; omega); intro v283 w12 ho hb hg hat; rw [← Ny282.out] at ho; have n0_ := Aside0.mk (Kd.R_after (ok := (fun _ => True)) (by (with_reducible repeat (first | apply Kd.R_alloc | apply Kd.R_drewN | apply Kd.R_drew)); exact Kd.R_mono HO_5.out (fun _ hk => ⟨trivial, hk⟩)) hg hat); have n1_ := Aside0.mk (hb); have n2_ := Aside0.mk (ho); clear HO_5; clear HB; clear HO_7; have HO_5 := n0_; have HB := n1_; have HO284 := n2_; clear n0_ n1_ n2_; clear ho hb hg hat)); try go_wp2_with (first | ((with_reducible refine gate_builtin (b := .append) (xs := #[.tmp 38, .tmp 43]) rfl ?_); (try (refine gate_guard (by rfl) ?_; dsimp only)); at_builtin; refine Kd.R_append k50 (w0 := w) w.heap.size rfl (.tmp 38) (.tmp 43) 39 50 (.agg #[(.int .i64 0), (.int .i64 0)]) 16 rfl Try.underlying39 info50 rfl (by decide) (by omega) u7 x7_2 (⟨(rd_T50 l0 x8_2).f0, (rd_T50 l0 x8_2).f1⟩ : S50) [.int .i64 ((rd_T50 l0 x8_2).f0), .int .i64 ((rd_T50 l0 x8_2).f1)] (fun k_ => some k_ ≠ (v279 : Value).ownBlock) (fun _ => False) rfl rfl ?aP (fun _ hk => hk.elim) ?aF ?aO ?aB ?aS ?aL ?_; (case aP => exact k50_mkM _ _ _ (⟨(rd_T50 l0 x8_2).f0, (rd_T50 l0 x8_2).f1⟩ : S50)); (case aB => exact (by repeat (first | (with_reducible first | exact HB.out | apply below_alloc | apply pw_below_drewN | apply below_drew1) | exact HB.out))); (case aF => exact (fun k_ hk => Kd.fresh' (Kd.R_lt (by (with_reducible repeat (first | apply Kd.R_alloc | apply Kd.R_drewN | apply Kd.R_drew)); exact HO_5.out)) k_ hk)); (case aO => exact (by (with_reducible repeat (first | apply Kd.R_alloc | apply Kd.R_drewN | apply Kd.R_drew)); exact HO_7.out)); (case aS => exact (below_size (by repeat (first | (with_reducible first | exact HB.out | apply below_alloc | apply pw_below_drewN | apply below_drew1) | exact HB.out)))); (case aL => have := LMc11.out; omega); intro v283 w12 ho hb hg hat; rw [← Ny282.out] at ho; have n0_ := Aside0.mk (Kd.R_after (ok := (fun _ => True)) (by (with_reducible repeat (first | apply Kd.R_alloc | apply Kd.R_drewN | apply Kd.R_drew)); exact Kd.R_mono HO_5.out (fun _ hk => ⟨trivial, hk⟩)) hg hat); have n1_ := Aside0.mk (hb); have n2_ := Aside0.mk (ho); clear HO_5; clear HB; clear HO_7; have HO_5 := n0_; have HB := n1_; have HO284 := n2_; clear n0_ n1_ n2_; clear ho hb hg hat)))
          go_roundg k2
          case measure => have := HJ2.out; have := HK2.out; omega
          case rel => exact ⟨(y282), (wrap64 (x8_2 - 1)), (by first | rfl | (simp; done) | (simp [*]; done)), H', ⟨by have := HJ2.out; have := HK2.out; omega⟩, ⟨by (with_reducible repeat (first | apply Kd.R_alloc | apply Kd.R_drewN | apply Kd.R_drew)); exact Kd.R_mono HO_5.out (fun _ hk => hk.2)⟩, ⟨by (with_reducible repeat (first | apply Kd.R_alloc | apply Kd.R_drewN | apply Kd.R_drew)); exact HO284.out⟩, ⟨by repeat (first | (with_reducible first | exact HB.out | apply below_alloc | apply pw_below_drewN | apply below_drew1) | exact HB.out)⟩⟩
         ·rw [if_neg c11] at H
          exact absurd H (by simp)
        ·rw [if_neg c10] at H
         exact absurd H (by simp)
       ·rw [if_neg c9] at H
        exact absurd H (by simp)
      ·rw [if_neg c8] at H
       have c8b0 : decide (0 ≤ x8_2) = false := decide_eq_false c8
       clear c8
       have H' := Aside0.mk H
       clear H
       go_wp2
       repeat (go_quiet (fail); try go_wp2)
       go_loopg [9, 10] k2 (fun kq v9 v10 w' => ∃ (x9_3 : List Int) (x10_3 : Int), v10 = .int .i64 x10_3 ∧ Aside0 (examboardlaw37_ExposureOrder.l1 kq l0 l1 t277 t278 x7_2 x9_3 x10_3 = some r) ∧ Aside0 (kq ≤ k2) ∧ Aside0 (Kd.R k50 50 w' w.heap.size (fun k_ => some k_ ≠ (u7 : Value).ownBlock) v279 t277) ∧ Aside0 (Kd.R k50 50 w' w.heap.size (fun k_ => some k_ ≠ (v279 : Value).ownBlock) u7 x7_2) ∧ Aside0 (Kd.R (Kd.int .i64) 3 w' w.heap.size (fun _ => True) v9 x9_3) ∧ Aside0 (Below w.heap.size w w'))
       case atStart => exact ⟨(([] : List Int)), (wrap64 ((l1.length : Int) - 1)), (by first | rfl | (simp; done) | (simp [*]; done)), H', ⟨Nat.le_refl _⟩, ⟨by (with_reducible repeat (first | apply Kd.R_alloc | apply Kd.R_drewN | apply Kd.R_drew)); exact HO_5.out⟩, ⟨by (with_reducible repeat (first | apply Kd.R_alloc | apply Kd.R_drewN | apply Kd.R_drew)); exact HO_7.out⟩, ⟨by first | exact Kd.R_nil _ _ _ _ _ | exact Kd.N_nil _ _ _ _ _ | exact Kd.V_nil _ _ _ _ _ | exact Kd.Q_nil _ _ _ _ _ | exact Kd.S_nil _ _ _ _ _⟩, ⟨by repeat (first | (with_reducible first | exact HB.out | apply below_alloc | apply pw_below_drewN | apply below_drew1) | exact HB.out)⟩⟩
       case round =>
        clear H'
        try clear c1
        try clear p2
        try clear q2
        try clear hx2
        try clear c4
        try clear c4b0
        try clear c4b1
        try clear c5
        try clear p6
        try clear c7
        try clear c8
        try clear c8b0
        try clear c9
        try clear c9b0
        try clear c10
        try clear c10b0
        try clear c11
        try clear hx281_0
        try clear hx281_1
        try clear p2
        try clear p281
        try clear p6
        try clear q281
        obtain ⟨x9_3, x10_3, rfl, HA, HK3, HO_5, HO_7, HO_9, HB⟩ := hrel
        cases gk with
        | zero => exact absurd HA.out (by simp [examboardlaw37_ExposureOrder.l1])
        | succ k3 =>
         have H := HA.out
         clear HA
         simp only [examboardlaw37_ExposureOrder.l1] at H
         by_cases c13 : x10_3 ≥ 0
         ·rw [if_pos c13] at H
          have c13b0 : decide (0 ≤ x10_3) = true := decide_eq_true c13
          clear c13
          by_cases c14 : 0 ≤ x10_3
          ·rw [if_pos c14] at H
           have c14b0 : decide (0 ≤ x10_3) = true := decide_eq_true c14
           clear c14
           by_cases c15 : x10_3 < (l1.length : Int)
           ·rw [if_pos c15] at H
            have c15b0 : decide (x10_3 < (l1.length : Int)) = true := decide_eq_true c15
            clear c15
            by_cases c16 : x9_3.length < 17592186044416
            ·rw [if_pos c16] at H
             have LMc16 := Aside0.mk c16
             clear c16
             obtain ⟨y286, hy286⟩ : ∃ y_ : List Int, y_ = (x9_3 ++ [rd l1 x10_3]) := ⟨_, rfl⟩
             replace H : (examboardlaw37_ExposureOrder.l1 k3 l0 l1 t277 t278 x7_2 y286 (wrap64 (x10_3 - 1))) = some r := by first | (rw [hy286]; with_reducible exact H) | (have H2_ := (Option.bind_some _ _).symm.trans H; rw [hy286]; with_reducible exact H2_) | (have H2_ := (Option.bind_some _ _).symm.trans H; with_reducible exact H2_) | with_reducible exact H | (rw [hy286]; exact H) | exact H
             have Ny286 := Aside0.mk hy286
             clear hy286
             have H' := Aside0.mk H
             clear H
             have p285 : 0 ≤ (x10_3 : Int) := of_decide_eq_true (by first | (with_reducible assumption) | assumption)
             have q285 : x10_3 < (l1.length : Int) := of_decide_eq_true (by first | (with_reducible assumption) | assumption)
             obtain ⟨ad285, e285, hx285_0⟩ := Kd.at_int HR1.out x10_3 p285 q285
             cases e285
             replace hx285_0 := (HB.out.cell (World.block_lt_of_cell? w _ hx285_0)).trans hx285_0
             replace p285 := eq_true p285
             replace q285 := eq_true q285
             go_wp2_with (first | ((with_reducible refine gate_builtin (b := .append) (xs := #[.tmp 52, .tmp 57]) rfl ?_); (try (refine gate_guard (by rfl) ?_; dsimp only)); at_builtin; refine Kd.R_append (Kd.int .i64) (w0 := w) w.heap.size rfl (.tmp 52) (.tmp 57) 46 3 (.int .i64 0) 8 rfl Try.underlying46 info3 rfl (by decide) (by omega) u9 x9_3 (rd l1 x10_3) [.int .i64 (rd l1 x10_3)] (fun _ => True) (fun _ => False) rfl rfl ?aP (fun _ hk => hk.elim) ?aF ?aO ?aB ?aS ?aL ?_; (case aP => exact rfl); (case aB => exact (by repeat (first | (with_reducible first | exact HB.out | apply below_alloc | apply pw_below_drewN | apply below_drew1) | exact HB.out))); (case aF => exact (fun _ _ => trivial)); (case aO => exact (by (with_reducible repeat (first | apply Kd.R_alloc | apply Kd.R_drewN | apply Kd.R_drew)); exact HO_9.out)); (case aS => exact (below_size (by repeat (first | (with_reducible first | exact HB.out | apply below_alloc | apply pw_below_drewN | apply below_drew1) | exact HB.out)))); (case aL => have := LMc16.out; omega); intro v287 w17 ho hb hg hat; rw [← Ny286.out] at ho; have n0_ := Aside0.mk (Kd.R_over' (by (with_reducible repeat (first | apply Kd.R_alloc | apply Kd.R_drewN | apply Kd.R_drew)); exact HO_5.out) (Kd.R_typed (by (with_reducible repeat (first | apply Kd.R_alloc | apply Kd.R_drewN | apply Kd.R_drew)); exact HO_9.out)) (by decide) hg); have n1_ := Aside0.mk (Kd.R_over' (by (with_reducible repeat (first | apply Kd.R_alloc | apply Kd.R_drewN | apply Kd.R_drew)); exact HO_7.out) (Kd.R_typed (by (with_reducible repeat (first | apply Kd.R_alloc | apply Kd.R_drewN | apply Kd.R_drew)); exact HO_9.out)) (by decide) hg); have n2_ := Aside0.mk (hb); have n3_ := Aside0.mk (ho); clear HO_5; clear HO_7; clear HB; clear HO_9; have HO_5 := n0_; have HO_7 := n1_; have HB := n2_; have HO288 := n3_; clear n0_ n1_ n2_ n3_; clear ho hb hg hat))
             repeat (go_quiet (first | ((with_reducible refine gate_builtin (b := .append) (xs := #[.tmp 52, .tmp 57]) rfl ?_); (try (refine gate_guard (by rfl) ?_; dsimp only)); at_builtin; refine Kd.R_append (Kd.int .i64) (w0 := w) w.heap.size rfl (.tmp 52) (.tmp 57) 46 3 (.int .i64 0) 8 rfl Try.underlying46 info3 rfl (by decide) (by omega) u9 x9_3 (rd l1 x10_3) [.int .i64 (rd l1 x10_3)] (fun _ => True) (fun _ => False) rfl rfl ?aP (fun _ hk => hk.elim) ?aF ?aO ?aB ?aS ?aL ?_; (case aP => exact rfl); (case aB => exact (by repeat (first | (with_reducible first | exact HB.out | apply below_alloc | apply pw_below_drewN | apply below_drew1) | exact HB.out))); (case aF => exact (fun _ _ => trivial)); (case aO => exact (by (with_reducible repeat (first | apply Kd.R_alloc | apply Kd.R_drewN | apply Kd.R_drew)); exact HO_9.out)); (case aS => exact (below_size (by repeat (first | (with_reducible first | exact HB.out | apply below_alloc | apply pw_below_drewN | apply below_drew1) | exact HB.out)))); (case aL => have := LMc16.out; omega); intro v287 w17 ho hb hg hat; rw [← Ny286.out] at ho; have n0_ := Aside0.mk (Kd.R_over' (by (with_reducible repeat (first | apply Kd.R_alloc | apply Kd.R_drewN | apply Kd.R_drew)); exact HO_5.out) (Kd.R_typed (by (with_reducible repeat (first | apply Kd.R_alloc | apply Kd.R_drewN | apply Kd.R_drew)); exact HO_9.out)) (by decide) hg); have n1_ := Aside0.mk (Kd.R_over' (by (with_reducible repeat (first | apply Kd.R_alloc | apply Kd.R_drewN | apply Kd.R_drew)); exact HO_7.out) (Kd.R_typed (by (with_reducible repeat (first | apply Kd.R_alloc | apply Kd.R_drewN | apply Kd.R_drew)); exact HO_9.out)) (by decide) hg); have n2_ := Aside0.mk (hb); have n3_ := Aside0.mk (ho); clear HO_5; clear HO_7; clear HB; clear HO_9; have HO_5 := n0_; have HO_7 := n1_; have HB := n2_; have HO288 := n3_; clear n0_ n1_ n2_ n3_; clear ho hb hg hat)); try go_wp2_with (first | ((with_reducible refine gate_builtin (b := .append) (xs := #[.tmp 52, .tmp 57]) rfl ?_); (try (refine gate_guard (by rfl) ?_; dsimp only)); at_builtin; refine Kd.R_append (Kd.int .i64) (w0 := w) w.heap.size rfl (.tmp 52) (.tmp 57) 46 3 (.int .i64 0) 8 rfl Try.underlying46 info3 rfl (by decide) (by omega) u9 x9_3 (rd l1 x10_3) [.int .i64 (rd l1 x10_3)] (fun _ => True) (fun _ => False) rfl rfl ?aP (fun _ hk => hk.elim) ?aF ?aO ?aB ?aS ?aL ?_; (case aP => exact rfl); (case aB => exact (by repeat (first | (with_reducible first | exact HB.out | apply below_alloc | apply pw_below_drewN | apply below_drew1) | exact HB.out))); (case aF => exact (fun _ _ => trivial)); (case aO => exact (by (with_reducible repeat (first | apply Kd.R_alloc | apply Kd.R_drewN | apply Kd.R_drew)); exact HO_9.out)); (case aS => exact (below_size (by repeat (first | (with_reducible first | exact HB.out | apply below_alloc | apply pw_below_drewN | apply below_drew1) | exact HB.out)))); (case aL => have := LMc16.out; omega); intro v287 w17 ho hb hg hat; rw [← Ny286.out] at ho; have n0_ := Aside0.mk (Kd.R_over' (by (with_reducible repeat (first | apply Kd.R_alloc | apply Kd.R_drewN | apply Kd.R_drew)); exact HO_5.out) (Kd.R_typed (by (with_reducible repeat (first | apply Kd.R_alloc | apply Kd.R_drewN | apply Kd.R_drew)); exact HO_9.out)) (by decide) hg); have n1_ := Aside0.mk (Kd.R_over' (by (with_reducible repeat (first | apply Kd.R_alloc | apply Kd.R_drewN | apply Kd.R_drew)); exact HO_7.out) (Kd.R_typed (by (with_reducible repeat (first | apply Kd.R_alloc | apply Kd.R_drewN | apply Kd.R_drew)); exact HO_9.out)) (by decide) hg); have n2_ := Aside0.mk (hb); have n3_ := Aside0.mk (ho); clear HO_5; clear HO_7; clear HB; clear HO_9; have HO_5 := n0_; have HO_7 := n1_; have HB := n2_; have HO288 := n3_; clear n0_ n1_ n2_ n3_; clear ho hb hg hat)))
             go_roundg k3
             case measure => have := HJ2.out; have := HK2.out; have := HK3.out; omega
             case rel => exact ⟨(y286), (wrap64 (x10_3 - 1)), (by first | rfl | (simp; done) | (simp [*]; done)), H', ⟨by have := HJ2.out; have := HK2.out; have := HK3.out; omega⟩, ⟨by (with_reducible repeat (first | apply Kd.R_alloc | apply Kd.R_drewN | apply Kd.R_drew)); exact HO_5.out⟩, ⟨by (with_reducible repeat (first | apply Kd.R_alloc | apply Kd.R_drewN | apply Kd.R_drew)); exact HO_7.out⟩, ⟨by (with_reducible repeat (first | apply Kd.R_alloc | apply Kd.R_drewN | apply Kd.R_drew)); exact HO288.out⟩, ⟨by repeat (first | (with_reducible first | exact HB.out | apply below_alloc | apply pw_below_drewN | apply below_drew1) | exact HB.out)⟩⟩
            ·rw [if_neg c16] at H
             exact absurd H (by simp)
           ·rw [if_neg c15] at H
            exact absurd H (by simp)
          ·rw [if_neg c14] at H
           exact absurd H (by simp)
         ·rw [if_neg c13] at H
          have c13b0 : decide (0 ≤ x10_3) = false := decide_eq_false c13
          clear c13
          replace H := Option.bind_eq_some_iff.mp H
          obtain ⟨⟨t289, t290⟩, A180, H⟩ := H
          replace H : (if t278 = t290 then ((examboardlaw37_uses.f k3 t277 t289).bind fun t293 => (if t293 = true then (examboardlaw37_ExposureOrder.j3 k3 l0 l1 t277 t278 t289 t290 (t278 != 0)) else (examboardlaw37_ExposureOrder.j3 k3 l0 l1 t277 t278 t289 t290 true))) else (examboardlaw37_ExposureOrder.j3 k3 l0 l1 t277 t278 t289 t290 true)) = some r := H
          have A18 := Aside0.mk A180
          clear A180
          have HC19 := Aside0.mk H
          clear H
          obtain ⟨Ao20, co20, eo20⟩ := Kd.R_slice HO_7.out
          subst eo20
          obtain ⟨Ao21, co21, eo21⟩ := Kd.R_slice HO_9.out
          subst eo21
          go_upto_region 15 with (first | (go_at_call 22; (with_reducible refine (exposure_Record.calls k3 _ _ x7_2 _ _ x9_3 t289 t290 _ ?side1 ?side2 ?side3 ?side4 A18.out).mono ?_); (case side1 => repeat (first | exact (Kd.R_reads' HO_7.out).2.2 | (with_reducible refine Kd.C_alloc ?_ _) | (with_reducible refine Kd.C_drewN ?_ _) | (with_reducible refine Kd.C_drew ?_))); (case side2 => exact (Kd.R_reads' HO_7.out).2.1); (case side3 => repeat (first | exact (Kd.R_reads' HO_9.out).2.2 | (with_reducible refine Kd.C_alloc ?_ _) | (with_reducible refine Kd.C_drewN ?_ _) | (with_reducible refine Kd.C_drew ?_))); (case side4 => exact (Kd.R_reads' HO_9.out).2.1); rintro e w22 ⟨v291, rfl, ho0, hb⟩; have n0_ := Aside0.mk (Kd.R_elder' (by (with_reducible repeat (first | apply Kd.R_alloc | apply Kd.R_drewN | apply Kd.R_drew)); exact HO_5.out) (Kd.R_base ho0) hb); have n1_ := Aside0.mk (Kd.R_elder' (by (with_reducible repeat (first | apply Kd.R_alloc | apply Kd.R_drewN | apply Kd.R_drew)); exact HO_7.out) (Kd.R_base ho0) hb); have n2_ := Aside0.mk (Kd.R_below (by (with_reducible repeat (first | apply Kd.R_alloc | apply Kd.R_drewN | apply Kd.R_drew)); exact HO_9.out) hb); have n3_ := Aside0.mk (Kd.R_lower (Kd.R_new' (Kd.R_new' ho0 (Kd.R_lt (by (with_reducible repeat (first | apply Kd.R_alloc | apply Kd.R_drewN | apply Kd.R_drew)); exact HO_5.out))) (Kd.R_lt (by (with_reducible repeat (first | apply Kd.R_alloc | apply Kd.R_drewN | apply Kd.R_drew)); exact HO_7.out))) (below_size (by repeat (first | (with_reducible first | exact HB.out | apply below_alloc | apply pw_below_drewN | apply below_drew1) | exact HB.out)))); have n4_ := Aside0.mk (below_step (by repeat (first | (with_reducible first | exact HB.out | apply below_alloc | apply pw_below_drewN | apply below_drew1) | exact HB.out)) hb); clear HO_5; clear HO_7; clear HO_9; clear HB; have HO_5 := n0_; have HO_7 := n1_; have HO_9 := n2_; have HO292 := n3_; have HB := n4_; clear n0_ n1_ n2_ n3_ n4_; (try clear hb); (try clear hb2); (try clear hk); (try clear hi); (try clear ho0)))
          repeat (go_quiet (first | (go_at_call 22; (with_reducible refine (exposure_Record.calls k3 _ _ x7_2 _ _ x9_3 t289 t290 _ ?side1 ?side2 ?side3 ?side4 A18.out).mono ?_); (case side1 => repeat (first | exact (Kd.R_reads' HO_7.out).2.2 | (with_reducible refine Kd.C_alloc ?_ _) | (with_reducible refine Kd.C_drewN ?_ _) | (with_reducible refine Kd.C_drew ?_))); (case side2 => exact (Kd.R_reads' HO_7.out).2.1); (case side3 => repeat (first | exact (Kd.R_reads' HO_9.out).2.2 | (with_reducible refine Kd.C_alloc ?_ _) | (with_reducible refine Kd.C_drewN ?_ _) | (with_reducible refine Kd.C_drew ?_))); (case side4 => exact (Kd.R_reads' HO_9.out).2.1); rintro e w22 ⟨v291, rfl, ho0, hb⟩; have n0_ := Aside0.mk (Kd.R_elder' (by (with_reducible repeat (first | apply Kd.R_alloc | apply Kd.R_drewN | apply Kd.R_drew)); exact HO_5.out) (Kd.R_base ho0) hb); have n1_ := Aside0.mk (Kd.R_elder' (by (with_reducible repeat (first | apply Kd.R_alloc | apply Kd.R_drewN | apply Kd.R_drew)); exact HO_7.out) (Kd.R_base ho0) hb); have n2_ := Aside0.mk (Kd.R_below (by (with_reducible repeat (first | apply Kd.R_alloc | apply Kd.R_drewN | apply Kd.R_drew)); exact HO_9.out) hb); have n3_ := Aside0.mk (Kd.R_lower (Kd.R_new' (Kd.R_new' ho0 (Kd.R_lt (by (with_reducible repeat (first | apply Kd.R_alloc | apply Kd.R_drewN | apply Kd.R_drew)); exact HO_5.out))) (Kd.R_lt (by (with_reducible repeat (first | apply Kd.R_alloc | apply Kd.R_drewN | apply Kd.R_drew)); exact HO_7.out))) (below_size (by repeat (first | (with_reducible first | exact HB.out | apply below_alloc | apply pw_below_drewN | apply below_drew1) | exact HB.out)))); have n4_ := Aside0.mk (below_step (by repeat (first | (with_reducible first | exact HB.out | apply below_alloc | apply pw_below_drewN | apply below_drew1) | exact HB.out)) hb); clear HO_5; clear HO_7; clear HO_9; clear HB; have HO_5 := n0_; have HO_7 := n1_; have HO_9 := n2_; have HO292 := n3_; have HB := n4_; clear n0_ n1_ n2_ n3_ n4_; (try clear hb); (try clear hb2); (try clear hk); (try clear hi); (try clear ho0))); go_upto_region 15 with (first | (go_at_call 22; (with_reducible refine (exposure_Record.calls k3 _ _ x7_2 _ _ x9_3 t289 t290 _ ?side1 ?side2 ?side3 ?side4 A18.out).mono ?_); (case side1 => repeat (first | exact (Kd.R_reads' HO_7.out).2.2 | (with_reducible refine Kd.C_alloc ?_ _) | (with_reducible refine Kd.C_drewN ?_ _) | (with_reducible refine Kd.C_drew ?_))); (case side2 => exact (Kd.R_reads' HO_7.out).2.1); (case side3 => repeat (first | exact (Kd.R_reads' HO_9.out).2.2 | (with_reducible refine Kd.C_alloc ?_ _) | (with_reducible refine Kd.C_drewN ?_ _) | (with_reducible refine Kd.C_drew ?_))); (case side4 => exact (Kd.R_reads' HO_9.out).2.1); rintro e w22 ⟨v291, rfl, ho0, hb⟩; have n0_ := Aside0.mk (Kd.R_elder' (by (with_reducible repeat (first | apply Kd.R_alloc | apply Kd.R_drewN | apply Kd.R_drew)); exact HO_5.out) (Kd.R_base ho0) hb); have n1_ := Aside0.mk (Kd.R_elder' (by (with_reducible repeat (first | apply Kd.R_alloc | apply Kd.R_drewN | apply Kd.R_drew)); exact HO_7.out) (Kd.R_base ho0) hb); have n2_ := Aside0.mk (Kd.R_below (by (with_reducible repeat (first | apply Kd.R_alloc | apply Kd.R_drewN | apply Kd.R_drew)); exact HO_9.out) hb); have n3_ := Aside0.mk (Kd.R_lower (Kd.R_new' (Kd.R_new' ho0 (Kd.R_lt (by (with_reducible repeat (first | apply Kd.R_alloc | apply Kd.R_drewN | apply Kd.R_drew)); exact HO_5.out))) (Kd.R_lt (by (with_reducible repeat (first | apply Kd.R_alloc | apply Kd.R_drewN | apply Kd.R_drew)); exact HO_7.out))) (below_size (by repeat (first | (with_reducible first | exact HB.out | apply below_alloc | apply pw_below_drewN | apply below_drew1) | exact HB.out)))); have n4_ := Aside0.mk (below_step (by repeat (first | (with_reducible first | exact HB.out | apply below_alloc | apply pw_below_drewN | apply below_drew1) | exact HB.out)) hb); clear HO_5; clear HO_7; clear HO_9; clear HB; have HO_5 := n0_; have HO_7 := n1_; have HO_9 := n2_; have HO292 := n3_; have HB := n4_; clear n0_ n1_ n2_ n3_ n4_; (try clear hb); (try clear hb2); (try clear hk); (try clear hi); (try clear ho0))))
          (try simp only [Act.put, List.setIfInBounds_toArray, List.set_cons_zero, List.set_cons_succ])
          go_cut [77] (fun v77 wc => ∃ (kq : Nat) (x77_18 : Bool), v77 = .bool x77_18 ∧ Aside0 (examboardlaw37_ExposureOrder.j3 kq l0 l1 t277 t278 t289 t290 x77_18 = some r) ∧ Aside0 (kq ≤ k3) ∧ Aside0 (Kd.R k50 50 wc w.heap.size (fun k_ => some k_ ≠ (v291 : Value).ownBlock) v279 t277) ∧ Aside0 (Kd.R k50 50 wc w.heap.size (fun k_ => some k_ ≠ (v279 : Value).ownBlock) v291 t289) ∧ Aside0 (Below w.heap.size w wc))
          case first =>
           have H := HC19.out
           clear HC19
           by_cases c23 : t278 = t290
           ·rw [if_pos c23] at H
            have c23b0 : (t278 == t290) = true := beq_iff_eq.mpr c23
            have c23b1 : (t278 != t290) = false := bne_eq_false_iff_eq.mpr c23
            clear c23
            (first | rw [c23b0] | (simp only [i64_w, i32_w]; rw [c23b0]) | skip)
            replace H := Option.bind_eq_some_iff.mp H
            obtain ⟨t293, A240, H⟩ := H
            replace H : (if t293 = true then (examboardlaw37_ExposureOrder.j3 k3 l0 l1 t277 t278 t289 t290 (t278 != 0)) else (examboardlaw37_ExposureOrder.j3 k3 l0 l1 t277 t278 t289 t290 true)) = some r := H
            have A24 := Aside0.mk A240
            clear A240
            by_cases c25 : t293 = true
            ·subst c25
             have H1 : (examboardlaw37_ExposureOrder.j3 k3 l0 l1 t277 t278 t289 t290 (t278 != 0)) = some r := by rw [if_pos rfl] at H; exact H
             clear H
             have H := H1
             clear H1
             have H' := Aside0.mk H
             clear H
             obtain ⟨Ao26, co26, eo26⟩ := Kd.R_slice HO_5.out
             subst eo26
             obtain ⟨Ao27, co27, eo27⟩ := Kd.R_slice HO292.out
             subst eo27
             go_wp2_with (first | (go_at_call 23; (with_reducible refine (examboardlaw37_uses.calls k3 _ _ t277 _ _ t289 true _ ?side1 ?side2 ?side3 ?side4 A24.out).mono ?_); (case side1 => repeat (first | exact (Kd.R_reads' HO_5.out).2.2 | (with_reducible refine Kd.C_alloc ?_ _) | (with_reducible refine Kd.C_drewN ?_ _) | (with_reducible refine Kd.C_drew ?_))); (case side2 => exact (Kd.R_reads' HO_5.out).2.1); (case side3 => repeat (first | exact (Kd.R_reads' HO292.out).2.2 | (with_reducible refine Kd.C_alloc ?_ _) | (with_reducible refine Kd.C_drewN ?_ _) | (with_reducible refine Kd.C_drew ?_))); (case side4 => exact (Kd.R_reads' HO292.out).2.1); rintro e w' ⟨rfl, ⟨nd, rfl⟩⟩; (try first | exact ⟨rfl, _, World.drewN_drewN _ _ _⟩ | exact ⟨rfl, _, Eq.trans (World.drewN_drewN _ _ _) (congrArg (World.drewN _) (Nat.add_assoc _ _ _))⟩)))
             repeat (go_quiet (first | (go_at_call 23; (with_reducible refine (examboardlaw37_uses.calls k3 _ _ t277 _ _ t289 true _ ?side1 ?side2 ?side3 ?side4 A24.out).mono ?_); (case side1 => repeat (first | exact (Kd.R_reads' HO_5.out).2.2 | (with_reducible refine Kd.C_alloc ?_ _) | (with_reducible refine Kd.C_drewN ?_ _) | (with_reducible refine Kd.C_drew ?_))); (case side2 => exact (Kd.R_reads' HO_5.out).2.1); (case side3 => repeat (first | exact (Kd.R_reads' HO292.out).2.2 | (with_reducible refine Kd.C_alloc ?_ _) | (with_reducible refine Kd.C_drewN ?_ _) | (with_reducible refine Kd.C_drew ?_))); (case side4 => exact (Kd.R_reads' HO292.out).2.1); rintro e w' ⟨rfl, ⟨nd, rfl⟩⟩; (try first | exact ⟨rfl, _, World.drewN_drewN _ _ _⟩ | exact ⟨rfl, _, Eq.trans (World.drewN_drewN _ _ _) (congrArg (World.drewN _) (Nat.add_assoc _ _ _))⟩))); try go_wp2_with (first | (go_at_call 23; (with_reducible refine (examboardlaw37_uses.calls k3 _ _ t277 _ _ t289 true _ ?side1 ?side2 ?side3 ?side4 A24.out).mono ?_); (case side1 => repeat (first | exact (Kd.R_reads' HO_5.out).2.2 | (with_reducible refine Kd.C_alloc ?_ _) | (with_reducible refine Kd.C_drewN ?_ _) | (with_reducible refine Kd.C_drew ?_))); (case side2 => exact (Kd.R_reads' HO_5.out).2.1); (case side3 => repeat (first | exact (Kd.R_reads' HO292.out).2.2 | (with_reducible refine Kd.C_alloc ?_ _) | (with_reducible refine Kd.C_drewN ?_ _) | (with_reducible refine Kd.C_drew ?_))); (case side4 => exact (Kd.R_reads' HO292.out).2.1); rintro e w' ⟨rfl, ⟨nd, rfl⟩⟩; (try first | exact ⟨rfl, _, World.drewN_drewN _ _ _⟩ | exact ⟨rfl, _, Eq.trans (World.drewN_drewN _ _ _) (congrArg (World.drewN _) (Nat.add_assoc _ _ _))⟩))))
             go_meet
             case rel => exact ⟨_, ((t278 != 0)), (by first | rfl | (simp; done) | (simp [*]; done)), H', ⟨by have := HJ2.out; have := HK2.out; have := HK3.out; first | omega | exact Nat.le_refl _⟩, ⟨by (with_reducible repeat (first | apply Kd.R_alloc | apply Kd.R_drewN | apply Kd.R_drew)); exact Kd.R_mono HO_5.out (fun _ hk => hk.2)⟩, ⟨by (with_reducible repeat (first | apply Kd.R_alloc | apply Kd.R_drewN | apply Kd.R_drew)); exact Kd.R_mono HO292.out (fun _ hk => hk.1.2)⟩, ⟨by repeat (first | (with_reducible first | exact HB.out | apply below_alloc | apply pw_below_drewN | apply below_drew1) | exact HB.out)⟩⟩
            ·replace c25 := Bool.eq_false_iff.mpr c25
             subst c25
             have H1 : (examboardlaw37_ExposureOrder.j3 k3 l0 l1 t277 t278 t289 t290 true) = some r := by rw [if_neg (show ¬ (false = true) by decide)] at H; exact H
             clear H
             have H := H1
             clear H1
             have H' := Aside0.mk H
             clear H
             obtain ⟨Ao28, co28, eo28⟩ := Kd.R_slice HO_5.out
             subst eo28
             obtain ⟨Ao29, co29, eo29⟩ := Kd.R_slice HO292.out
             subst eo29
             go_wp2_with (first | (go_at_call 23; (with_reducible refine (examboardlaw37_uses.calls k3 _ _ t277 _ _ t289 false _ ?side1 ?side2 ?side3 ?side4 A24.out).mono ?_); (case side1 => repeat (first | exact (Kd.R_reads' HO_5.out).2.2 | (with_reducible refine Kd.C_alloc ?_ _) | (with_reducible refine Kd.C_drewN ?_ _) | (with_reducible refine Kd.C_drew ?_))); (case side2 => exact (Kd.R_reads' HO_5.out).2.1); (case side3 => repeat (first | exact (Kd.R_reads' HO292.out).2.2 | (with_reducible refine Kd.C_alloc ?_ _) | (with_reducible refine Kd.C_drewN ?_ _) | (with_reducible refine Kd.C_drew ?_))); (case side4 => exact (Kd.R_reads' HO292.out).2.1); rintro e w' ⟨rfl, ⟨nd, rfl⟩⟩; (try first | exact ⟨rfl, _, World.drewN_drewN _ _ _⟩ | exact ⟨rfl, _, Eq.trans (World.drewN_drewN _ _ _) (congrArg (World.drewN _) (Nat.add_assoc _ _ _))⟩)))
             repeat (go_quiet (first | (go_at_call 23; (with_reducible refine (examboardlaw37_uses.calls k3 _ _ t277 _ _ t289 false _ ?side1 ?side2 ?side3 ?side4 A24.out).mono ?_); (case side1 => repeat (first | exact (Kd.R_reads' HO_5.out).2.2 | (with_reducible refine Kd.C_alloc ?_ _) | (with_reducible refine Kd.C_drewN ?_ _) | (with_reducible refine Kd.C_drew ?_))); (case side2 => exact (Kd.R_reads' HO_5.out).2.1); (case side3 => repeat (first | exact (Kd.R_reads' HO292.out).2.2 | (with_reducible refine Kd.C_alloc ?_ _) | (with_reducible refine Kd.C_drewN ?_ _) | (with_reducible refine Kd.C_drew ?_))); (case side4 => exact (Kd.R_reads' HO292.out).2.1); rintro e w' ⟨rfl, ⟨nd, rfl⟩⟩; (try first | exact ⟨rfl, _, World.drewN_drewN _ _ _⟩ | exact ⟨rfl, _, Eq.trans (World.drewN_drewN _ _ _) (congrArg (World.drewN _) (Nat.add_assoc _ _ _))⟩))); try go_wp2_with (first | (go_at_call 23; (with_reducible refine (examboardlaw37_uses.calls k3 _ _ t277 _ _ t289 false _ ?side1 ?side2 ?side3 ?side4 A24.out).mono ?_); (case side1 => repeat (first | exact (Kd.R_reads' HO_5.out).2.2 | (with_reducible refine Kd.C_alloc ?_ _) | (with_reducible refine Kd.C_drewN ?_ _) | (with_reducible refine Kd.C_drew ?_))); (case side2 => exact (Kd.R_reads' HO_5.out).2.1); (case side3 => repeat (first | exact (Kd.R_reads' HO292.out).2.2 | (with_reducible refine Kd.C_alloc ?_ _) | (with_reducible refine Kd.C_drewN ?_ _) | (with_reducible refine Kd.C_drew ?_))); (case side4 => exact (Kd.R_reads' HO292.out).2.1); rintro e w' ⟨rfl, ⟨nd, rfl⟩⟩; (try first | exact ⟨rfl, _, World.drewN_drewN _ _ _⟩ | exact ⟨rfl, _, Eq.trans (World.drewN_drewN _ _ _) (congrArg (World.drewN _) (Nat.add_assoc _ _ _))⟩))))
             go_meet
             case rel => exact ⟨_, (true), (by first | rfl | (simp; done) | (simp [*]; done)), H', ⟨by have := HJ2.out; have := HK2.out; have := HK3.out; first | omega | exact Nat.le_refl _⟩, ⟨by (with_reducible repeat (first | apply Kd.R_alloc | apply Kd.R_drewN | apply Kd.R_drew)); exact Kd.R_mono HO_5.out (fun _ hk => hk.2)⟩, ⟨by (with_reducible repeat (first | apply Kd.R_alloc | apply Kd.R_drewN | apply Kd.R_drew)); exact Kd.R_mono HO292.out (fun _ hk => hk.1.2)⟩, ⟨by repeat (first | (with_reducible first | exact HB.out | apply below_alloc | apply pw_below_drewN | apply below_drew1) | exact HB.out)⟩⟩
           ·rw [if_neg c23] at H
            have c23b0 : (t278 == t290) = false := beq_eq_false_iff_ne.mpr c23
            have c23b1 : (t278 != t290) = true := bne_iff_ne.mpr c23
            (first | rw [c23b0] | (simp only [i64_w, i32_w]; rw [c23b0]) | skip)
            have H' := Aside0.mk H
            clear H
            go_wp2
            repeat (go_quiet (fail); try go_wp2)
            go_meet
            case rel => exact ⟨_, (true), (by first | rfl | (simp; done) | (simp [*]; done)), H', ⟨by have := HJ2.out; have := HK2.out; have := HK3.out; first | omega | exact Nat.le_refl _⟩, ⟨by (with_reducible repeat (first | apply Kd.R_alloc | apply Kd.R_drewN | apply Kd.R_drew)); exact Kd.R_mono HO_5.out (fun _ hk => hk.2)⟩, ⟨by (with_reducible repeat (first | apply Kd.R_alloc | apply Kd.R_drewN | apply Kd.R_drew)); exact Kd.R_mono HO292.out (fun _ hk => hk.1.2)⟩, ⟨by repeat (first | (with_reducible first | exact HB.out | apply below_alloc | apply pw_below_drewN | apply below_drew1) | exact HB.out)⟩⟩
          case rest =>
           clear HC19
           try clear c1
           try clear c2
           try clear p2
           try clear q2
           try clear hx2
           try clear c4
           try clear c4b0
           try clear c4b1
           try clear c5
           try clear p6
           try clear c7
           try clear c8
           try clear c8b0
           try clear c9
           try clear c9b0
           try clear c10
           try clear c10b0
           try clear c11
           try clear c13
           try clear c13b0
           try clear c14
           try clear c14b0
           try clear c15
           try clear c15b0
           try clear c16
           try clear c23
           try clear c23b0
           try clear c23b1
           try clear c25
           try clear p28
           try clear q28
           try clear hx28
           try clear hx281_0
           try clear hx281_1
           try clear hx285_0
           try clear p2
           try clear p281
           try clear p285
           try clear p6
           try clear q2
           try clear q281
           try clear q285
           obtain ⟨kq, x77_18, rfl, HA, HJ18, HO_5, HO_11, HB⟩ := hcut
           cases kq with
           | zero => exact absurd HA.out (by simp [examboardlaw37_ExposureOrder.j3])
           | succ kj18 =>
            have H := HA.out
            clear HA
            simp only [examboardlaw37_ExposureOrder.j3] at H
            by_cases c30 : x77_18 = true
            ·subst c30
             have H1 : (if t278 = t290 then (if (t277.length : Int) = 0 then (some ((t289.length : Int) == 0)) else (some false)) else (some false)) = some r := by rw [if_pos rfl] at H; exact H
             clear H
             have H := H1
             clear H1
             by_cases c31 : t278 = t290
             ·rw [if_pos c31] at H
              have c31b0 : (t278 == t290) = true := beq_iff_eq.mpr c31
              have c31b1 : (t278 != t290) = false := bne_eq_false_iff_eq.mpr c31
              clear c31
              by_cases c32 : (t277.length : Int) = 0
              ·rw [if_pos c32] at H
               have c32b0 : ((t277.length : Int) == 0) = true := beq_iff_eq.mpr c32
               have c32b1 : ((t277.length : Int) != 0) = false := bne_eq_false_iff_eq.mpr c32
               clear c32
               obtain rfl := Option.some.inj H
               obtain ⟨Ao33, co33, eo33⟩ := Kd.R_slice HO_5.out
               subst eo33
               obtain ⟨Ao34, co34, eo34⟩ := Kd.R_slice HO_11.out
               subst eo34
               go_wp2
               repeat (go_quiet (fail); try go_wp2)
               go_ret
               exact ⟨by first | rfl | (simp [errW_none, errW_some] <;> rfl) | (simp [*, errW_none, errW_some] <;> rfl), by repeat (first | (with_reducible first | exact HB.out | apply below_alloc | apply pw_below_drewN | apply below_drew1) | exact HB.out)⟩
              ·rw [if_neg c32] at H
               have c32b0 : ((t277.length : Int) == 0) = false := beq_eq_false_iff_ne.mpr c32
               have c32b1 : ((t277.length : Int) != 0) = true := bne_iff_ne.mpr c32
               have c32b2 : ¬ (t277 = []) := fun h_ => c32 (by rw [h_]; rfl)
               obtain rfl := Option.some.inj H
               obtain ⟨Ao35, co35, eo35⟩ := Kd.R_slice HO_5.out
               subst eo35
               go_wp2
               repeat (go_quiet (fail); try go_wp2)
               go_ret
               exact ⟨by first | rfl | (simp [errW_none, errW_some] <;> rfl) | (simp [*, errW_none, errW_some] <;> rfl), by repeat (first | (with_reducible first | exact HB.out | apply below_alloc | apply pw_below_drewN | apply below_drew1) | exact HB.out)⟩
             ·rw [if_neg c31] at H
              have c31b0 : (t278 == t290) = false := beq_eq_false_iff_ne.mpr c31
              have c31b1 : (t278 != t290) = true := bne_iff_ne.mpr c31
              obtain rfl := Option.some.inj H
              go_wp2
              repeat (go_quiet (fail); try go_wp2)
              go_ret
              exact ⟨by first | rfl | (simp [errW_none, errW_some] <;> rfl) | (simp [*, errW_none, errW_some] <;> rfl), by repeat (first | (with_reducible first | exact HB.out | apply below_alloc | apply pw_below_drewN | apply below_drew1) | exact HB.out)⟩
            ·replace c30 := Bool.eq_false_iff.mpr c30
             subst c30
             have H1 : (examboardlaw37_ExposureOrder.l2 kj18 l0 l1 t277 0) = some r := by rw [if_neg (show ¬ (false = true) by decide)] at H; exact H
             clear H
             have H := H1
             clear H1
             have H' := Aside0.mk H
             clear H
             go_wp2
             repeat (go_quiet (fail); try go_wp2)
             go_loopg [13] kj18 (fun kq v13 w' => ∃ (x13_5 : Int), v13 = .int .i64 x13_5 ∧ Aside0 (examboardlaw37_ExposureOrder.l2 kq l0 l1 t277 x13_5 = some r) ∧ Aside0 (kq ≤ kj18) ∧ Aside0 (Kd.R k50 50 w' w.heap.size (fun _ => True) v279 t277) ∧ Aside0 (Below w.heap.size w w'))
             case atStart => exact ⟨(0), (by first | rfl | (simp; done) | (simp [*]; done)), H', ⟨Nat.le_refl _⟩, ⟨by (with_reducible repeat (first | apply Kd.R_alloc | apply Kd.R_drewN | apply Kd.R_drew)); exact Kd.R_mono HO_5.out (fun _ hk => trivial)⟩, ⟨by repeat (first | (with_reducible first | exact HB.out | apply below_alloc | apply pw_below_drewN | apply below_drew1) | exact HB.out)⟩⟩
             case round =>
              clear H'
              try clear c1
              try clear c2
              try clear p2
              try clear q2
              try clear hx2
              try clear c3
              try clear c4
              try clear c4b0
              try clear c4b1
              try clear c5
              try clear p6
              try clear c7
              try clear c8
              try clear c8b0
              try clear c9
              try clear c9b0
              try clear c10
              try clear c10b0
              try clear c11
              try clear c13
              try clear c13b0
              try clear c14
              try clear c14b0
              try clear c15
              try clear c15b0
              try clear c16
              try clear c23
              try clear c23b0
              try clear c23b1
              try clear c25
              try clear p28
              try clear q28
              try clear hx28
              try clear c30
              try clear c31
              try clear c31b0
              try clear c31b1
              try clear c32
              try clear c32b0
              try clear c32b1
              try clear c32b2
              try clear hx281_0
              try clear hx281_1
              try clear hx285_0
              try clear p2
              try clear p28
              try clear p281
              try clear p285
              try clear p6
              try clear q2
              try clear q28
              try clear q281
              try clear q285
              obtain ⟨x13_5, rfl, HA, HK5, HO_5, HB⟩ := hrel
              cases gk with
              | zero => exact absurd HA.out (by simp [examboardlaw37_ExposureOrder.l2])
              | succ k5 =>
               have H := HA.out
               clear HA
               simp only [examboardlaw37_ExposureOrder.l2] at H
               by_cases c36 : x13_5 < (t277.length : Int)
               ·rw [if_pos c36] at H
                have c36b0 : decide (x13_5 < (t277.length : Int)) = true := decide_eq_true c36
                clear c36
                by_cases c37 : 0 ≤ x13_5
                ·rw [if_pos c37] at H
                 have c37b0 : decide (0 ≤ x13_5) = true := decide_eq_true c37
                 clear c37
                 by_cases c38 : ((rd_T50 t277 x13_5).f1) < 1
                 ·rw [if_pos c38] at H
                  have c38b0 : decide (((rd_T50 t277 x13_5).f1) < 1) = true := decide_eq_true c38
                  clear c38
                  obtain rfl := Option.some.inj H
                  obtain ⟨Ao39, co39, eo39⟩ := Kd.R_slice HO_5.out
                  subst eo39
                  have p294 : 0 ≤ (x13_5 : Int) := of_decide_eq_true (by first | (with_reducible assumption) | assumption)
                  have q294 : x13_5 < (t277.length : Int) := of_decide_eq_true (by first | (with_reducible assumption) | assumption)
                  obtain ⟨ad294, e294, hx294_0, hx294_1⟩ := at_T50 (Kd.R_reads' HO_5.out).2.2 x13_5 p294 q294
                  cases e294
                  replace p294 := eq_true p294
                  replace q294 := eq_true q294
                  go_wp2
                  repeat (go_quiet (fail); try go_wp2)
                  go_ret
                  exact ⟨by first | rfl | (simp [errW_none, errW_some] <;> rfl) | (simp [*, errW_none, errW_some] <;> rfl), by repeat (first | (with_reducible first | exact HB.out | apply below_alloc | apply pw_below_drewN | apply below_drew1) | exact HB.out)⟩
                 ·rw [if_neg c38] at H
                  have c38b0 : decide (((rd_T50 t277 x13_5).f1) < 1) = false := decide_eq_false c38
                  clear c38
                  by_cases c40 : x13_5 > 0
                  ·rw [if_pos c40] at H
                   have c40b0 : decide (0 < x13_5) = true := decide_eq_true c40
                   clear c40
                   obtain ⟨ji41, hji41⟩ : ∃ j_ : Int, (wrap64 (x13_5 - 1)) = j_ := ⟨_, rfl⟩
                   replace H : (if 0 ≤ (ji41) then (if (ji41) < (t277.length : Int) then (if ((rd_T50 t277 x13_5).f0) ≤ ((rd_T50 t277 (ji41)).f0) then (some false) else (examboardlaw37_ExposureOrder.l2 k5 l0 l1 t277 (wrap64 (x13_5 + 1)))) else (none)) else (none)) = some r := by first | (rw [hji41] at H; exact H) | (simp only [hji41] at H ⊢; exact H)
                   have hji41w : (IntKind.i64.wrap (x13_5 - 1)) = ji41 := (i64_w _).trans hji41
                   by_cases c42 : 0 ≤ (ji41)
                   ·rw [if_pos c42] at H
                    have c42b0 : decide (0 ≤ (ji41)) = true := decide_eq_true c42
                    clear c42
                    by_cases c43 : (ji41) < (t277.length : Int)
                    ·rw [if_pos c43] at H
                     have c43b0 : decide ((ji41) < (t277.length : Int)) = true := decide_eq_true c43
                     clear c43
                     by_cases c44 : ((rd_T50 t277 x13_5).f0) ≤ ((rd_T50 t277 (ji41)).f0)
                     ·rw [if_pos c44] at H
                      have c44b0 : decide (((rd_T50 t277 x13_5).f0) ≤ ((rd_T50 t277 (ji41)).f0)) = true := decide_eq_true c44
                      clear c44
                      obtain rfl := Option.some.inj H
                      obtain ⟨Ao45, co45, eo45⟩ := Kd.R_slice HO_5.out
                      subst eo45
                      have p294 : 0 ≤ (x13_5 : Int) := of_decide_eq_true (by first | (with_reducible assumption) | assumption)
                      have q294 : x13_5 < (t277.length : Int) := of_decide_eq_true (by first | (with_reducible assumption) | assumption)
                      obtain ⟨ad294, e294, hx294_0, hx294_1⟩ := at_T50 (Kd.R_reads' HO_5.out).2.2 x13_5 p294 q294
                      cases e294
                      replace p294 := eq_true p294
                      replace q294 := eq_true q294
                      have p295 : 0 ≤ (x13_5 : Int) := of_decide_eq_true (by first | (with_reducible assumption) | assumption)
                      have q295 : x13_5 < (t277.length : Int) := of_decide_eq_true (by first | (with_reducible assumption) | assumption)
                      obtain ⟨ad295, e295, hx295_0, hx295_1⟩ := at_T50 (Kd.R_reads' HO_5.out).2.2 x13_5 p295 q295
                      obtain rfl : ad294 = ad295 := (by injection e295)
                      replace p295 := eq_true p295
                      replace q295 := eq_true q295
                      have p296 : 0 ≤ ((ji41) : Int) := of_decide_eq_true (by first | (with_reducible assumption) | assumption)
                      have q296 : (ji41) < (t277.length : Int) := of_decide_eq_true (by first | (with_reducible assumption) | assumption)
                      obtain ⟨ad296, e296, hx296_0, hx296_1⟩ := at_T50 (Kd.R_reads' HO_5.out).2.2 (ji41) p296 q296
                      obtain rfl : ad294 = ad296 := (by injection e296)
                      replace p296 := eq_true p296
                      replace q296 := eq_true q296
                      go_wp2
                      repeat (go_quiet (fail); try go_wp2)
                      go_ret
                      exact ⟨by first | rfl | (simp [errW_none, errW_some] <;> rfl) | (simp only [← hji41]; first | rfl | (simp [errW_none, errW_some] <;> rfl)) | (simp [*, errW_none, errW_some] <;> rfl), by repeat (first | (with_reducible first | exact HB.out | apply below_alloc | apply pw_below_drewN | apply below_drew1) | exact HB.out)⟩
                     ·rw [if_neg c44] at H
                      have c44b0 : decide (((rd_T50 t277 x13_5).f0) ≤ ((rd_T50 t277 (ji41)).f0)) = false := decide_eq_false c44
                      clear c44
                      have H' := Aside0.mk H
                      clear H
                      obtain ⟨Ao46, co46, eo46⟩ := Kd.R_slice HO_5.out
                      subst eo46
                      have p294 : 0 ≤ (x13_5 : Int) := of_decide_eq_true (by first | (with_reducible assumption) | assumption)
                      have q294 : x13_5 < (t277.length : Int) := of_decide_eq_true (by first | (with_reducible assumption) | assumption)
                      obtain ⟨ad294, e294, hx294_0, hx294_1⟩ := at_T50 (Kd.R_reads' HO_5.out).2.2 x13_5 p294 q294
                      cases e294
                      replace p294 := eq_true p294
                      replace q294 := eq_true q294
                      have p295 : 0 ≤ (x13_5 : Int) := of_decide_eq_true (by first | (with_reducible assumption) | assumption)
                      have q295 : x13_5 < (t277.length : Int) := of_decide_eq_true (by first | (with_reducible assumption) | assumption)
                      obtain ⟨ad295, e295, hx295_0, hx295_1⟩ := at_T50 (Kd.R_reads' HO_5.out).2.2 x13_5 p295 q295
                      obtain rfl : ad294 = ad295 := (by injection e295)
                      replace p295 := eq_true p295
                      replace q295 := eq_true q295
                      have p296 : 0 ≤ ((ji41) : Int) := of_decide_eq_true (by first | (with_reducible assumption) | assumption)
                      have q296 : (ji41) < (t277.length : Int) := of_decide_eq_true (by first | (with_reducible assumption) | assumption)
                      obtain ⟨ad296, e296, hx296_0, hx296_1⟩ := at_T50 (Kd.R_reads' HO_5.out).2.2 (ji41) p296 q296
                      obtain rfl : ad294 = ad296 := (by injection e296)
                      replace p296 := eq_true p296
                      replace q296 := eq_true q296
                      go_wp2
                      repeat (go_quiet (fail); try go_wp2)
                      go_roundg k5
                      case measure => have := HJ2.out; have := HK2.out; have := HK3.out; have := HJ18.out; have := HK5.out; omega
                      case rel => exact ⟨(wrap64 (x13_5 + 1)), (by first | rfl | (simp; done) | (simp [*]; done)), H', ⟨by have := HJ2.out; have := HK2.out; have := HK3.out; have := HJ18.out; have := HK5.out; omega⟩, ⟨by (with_reducible repeat (first | apply Kd.R_alloc | apply Kd.R_drewN | apply Kd.R_drew)); exact HO_5.out⟩, ⟨by repeat (first | (with_reducible first | exact HB.out | apply below_alloc | apply pw_below_drewN | apply below_drew1) | exact HB.out)⟩⟩
                    ·rw [if_neg c43] at H
                     exact absurd H (by simp)
                   ·rw [if_neg c42] at H
                    exact absurd H (by simp)
                  ·rw [if_neg c40] at H
                   have c40b0 : decide (0 < x13_5) = false := decide_eq_false c40
                   clear c40
                   have H' := Aside0.mk H
                   clear H
                   obtain ⟨Ao47, co47, eo47⟩ := Kd.R_slice HO_5.out
                   subst eo47
                   have p294 : 0 ≤ (x13_5 : Int) := of_decide_eq_true (by first | (with_reducible assumption) | assumption)
                   have q294 : x13_5 < (t277.length : Int) := of_decide_eq_true (by first | (with_reducible assumption) | assumption)
                   obtain ⟨ad294, e294, hx294_0, hx294_1⟩ := at_T50 (Kd.R_reads' HO_5.out).2.2 x13_5 p294 q294
                   cases e294
                   replace p294 := eq_true p294
                   replace q294 := eq_true q294
                   go_wp2
                   repeat (go_quiet (fail); try go_wp2)
                   go_roundg k5
                   case measure => have := HJ2.out; have := HK2.out; have := HK3.out; have := HJ18.out; have := HK5.out; omega
                   case rel => exact ⟨(wrap64 (x13_5 + 1)), (by first | rfl | (simp; done) | (simp [*]; done)), H', ⟨by have := HJ2.out; have := HK2.out; have := HK3.out; have := HJ18.out; have := HK5.out; omega⟩, ⟨by (with_reducible repeat (first | apply Kd.R_alloc | apply Kd.R_drewN | apply Kd.R_drew)); exact HO_5.out⟩, ⟨by repeat (first | (with_reducible first | exact HB.out | apply below_alloc | apply pw_below_drewN | apply below_drew1) | exact HB.out)⟩⟩
                ·rw [if_neg c37] at H
                 exact absurd H (by simp)
               ·rw [if_neg c36] at H
                have c36b0 : decide (x13_5 < (t277.length : Int)) = false := decide_eq_false c36
                clear c36
                have H' := Aside0.mk H
                clear H
                obtain ⟨Ao48, co48, eo48⟩ := Kd.R_slice HO_5.out
                subst eo48
                go_wp2
                repeat (go_quiet (fail); try go_wp2)
                go_loopg [14] k5 (fun kq v14 w' => ∃ (x14_6 : Int), v14 = .int .i64 x14_6 ∧ Aside0 (examboardlaw37_ExposureOrder.l3 kq l0 l1 t277 x14_6 = some r) ∧ Aside0 (kq ≤ k5) ∧ Aside0 (Kd.R k50 50 w' w.heap.size (fun _ => True) (.slice Ao48 t277.length co48) t277) ∧ Aside0 (Below w.heap.size w w'))
                case atStart => exact ⟨(0), (by first | rfl | (simp; done) | (simp [*]; done)), H', ⟨Nat.le_refl _⟩, ⟨by (with_reducible repeat (first | apply Kd.R_alloc | apply Kd.R_drewN | apply Kd.R_drew)); exact HO_5.out⟩, ⟨by repeat (first | (with_reducible first | exact HB.out | apply below_alloc | apply pw_below_drewN | apply below_drew1) | exact HB.out)⟩⟩
                case round =>
                 clear H'
                 try clear c1
                 try clear c2
                 try clear p2
                 try clear q2
                 try clear hx2
                 try clear c3
                 try clear c4
                 try clear c4b0
                 try clear c4b1
                 try clear c5
                 try clear p6
                 try clear c7
                 try clear c8
                 try clear c8b0
                 try clear c9
                 try clear c9b0
                 try clear c10
                 try clear c10b0
                 try clear c11
                 try clear c13
                 try clear c13b0
                 try clear c14
                 try clear c14b0
                 try clear c15
                 try clear c15b0
                 try clear c16
                 try clear c23
                 try clear c23b0
                 try clear c23b1
                 try clear c25
                 try clear p28
                 try clear q28
                 try clear hx28
                 try clear p29
                 try clear q29
                 try clear hx29
                 try clear c30
                 try clear c31
                 try clear c31b0
                 try clear c31b1
                 try clear c32
                 try clear c32b0
                 try clear c32b1
                 try clear c32b2
                 try clear c36
                 try clear c36b0
                 try clear c37
                 try clear c37b0
                 try clear c38
                 try clear c38b0
                 try clear c40
                 try clear c40b0
                 try clear c42
                 try clear c42b0
                 try clear c43
                 try clear c43b0
                 try clear c44
                 try clear c44b0
                 try clear hx281_0
                 try clear hx281_1
                 try clear hx285_0
                 try clear hx294_0
                 try clear hx294_1
                 try clear hx295_0
                 try clear hx295_1
                 try clear hx296_0
                 try clear hx296_1
                 try clear p2
                 try clear p28
                 try clear p281
                 try clear p285
                 try clear p294
                 try clear p295
                 try clear p296
                 try clear p6
                 try clear q2
                 try clear q28
                 try clear q281
                 try clear q285
                 try clear q294
                 try clear q295
                 try clear q296
                 obtain ⟨x14_6, rfl, HA, HK6, HO_5, HB⟩ := hrel
                 cases gk with
                 | zero => exact absurd HA.out (by simp [examboardlaw37_ExposureOrder.l3])
                 | succ k6 =>
                  have H := HA.out
                  clear HA
                  simp only [examboardlaw37_ExposureOrder.l3] at H
                  by_cases c49 : x14_6 < (l1.length : Int)
                  ·rw [if_pos c49] at H
                   have c49b0 : decide (x14_6 < (l1.length : Int)) = true := decide_eq_true c49
                   clear c49
                   by_cases c50 : 0 ≤ x14_6
                   ·rw [if_pos c50] at H
                    have c50b0 : decide (0 ≤ x14_6) = true := decide_eq_true c50
                    clear c50
                    replace H := Option.bind_eq_some_iff.mp H
                    obtain ⟨t298, A510, H⟩ := H
                    replace H : ((exposure_Count.f k6 t277 (rd l1 x14_6)).bind fun t300 => (if t300 = (wrap64 (t298 + 1)) then (examboardlaw37_ExposureOrder.l3 k6 l0 l1 t277 (wrap64 (x14_6 + 1))) else (if t300 = t298 then (if t298 = 1000000 then (examboardlaw37_ExposureOrder.l3 k6 l0 l1 t277 (wrap64 (x14_6 + 1))) else (some false)) else (some false)))) = some r := H
                    have A51 := Aside0.mk A510
                    clear A510
                    replace H := Option.bind_eq_some_iff.mp H
                    obtain ⟨t300, A520, H⟩ := H
                    replace H : (if t300 = (wrap64 (t298 + 1)) then (examboardlaw37_ExposureOrder.l3 k6 l0 l1 t277 (wrap64 (x14_6 + 1))) else (if t300 = t298 then (if t298 = 1000000 then (examboardlaw37_ExposureOrder.l3 k6 l0 l1 t277 (wrap64 (x14_6 + 1))) else (some false)) else (some false))) = some r := H
                    have A52 := Aside0.mk A520
                    clear A520
                    by_cases c53 : t300 = (wrap64 (t298 + 1))
                    ·rw [if_pos c53] at H
                     have c53b0 : (t300 == (wrap64 (t298 + 1))) = true := beq_iff_eq.mpr c53
                     have c53b1 : (t300 != (wrap64 (t298 + 1))) = false := bne_eq_false_iff_eq.mpr c53
                     clear c53
                     have H' := Aside0.mk H
                     clear H
                     have p297 : 0 ≤ (x14_6 : Int) := of_decide_eq_true (by first | (with_reducible assumption) | assumption)
                     have q297 : x14_6 < (l1.length : Int) := of_decide_eq_true (by first | (with_reducible assumption) | assumption)
                     obtain ⟨ad297, e297, hx297_0⟩ := Kd.at_int HR1.out x14_6 p297 q297
                     cases e297
                     replace hx297_0 := (HB.out.cell (World.block_lt_of_cell? w _ hx297_0)).trans hx297_0
                     replace p297 := eq_true p297
                     replace q297 := eq_true q297
                     go_wp2_with (first | (go_at_call 17; (with_reducible refine (exposure_Count.calls k6 _ _ l0 (rd l1 x14_6) t298 _ ?side1 ?side2 A51.out).mono ?_); (case side1 => repeat (first | exact (Kd.C_below HR0.out HB.out) | (with_reducible refine Kd.C_alloc ?_ _) | (with_reducible refine Kd.C_drewN ?_ _) | (with_reducible refine Kd.C_drew ?_))); (case side2 => exact HC0.out); rintro e w54 ⟨rfl, hb⟩; have n0_ := Aside0.mk (Kd.R_below (by (with_reducible repeat (first | apply Kd.R_alloc | apply Kd.R_drewN | apply Kd.R_drew)); exact HO_5.out) hb); have n1_ := Aside0.mk (below_step (by repeat (first | (with_reducible first | exact HB.out | apply below_alloc | apply pw_below_drewN | apply below_drew1) | exact HB.out)) hb); clear HO_5; clear HB; have HO_5 := n0_; have HB := n1_; clear n0_ n1_; (try clear hb); (try clear hb2); (try clear hk); (try clear hi); have p299 : 0 ≤ (x14_6 : Int) := of_decide_eq_true (by first | (with_reducible assumption) | assumption); have q299 : x14_6 < (l1.length : Int) := of_decide_eq_true (by first | (with_reducible assumption) | assumption); obtain ⟨ad299, e299, hx299_0⟩ := Kd.at_int HR1.out x14_6 p299 q299; obtain rfl : ad297 = ad299 := (by injection e299); replace hx299_0 := (HB.out.cell (World.block_lt_of_cell? w _ hx299_0)).trans hx299_0; replace p299 := eq_true p299; replace q299 := eq_true q299) | (go_at_call 17; (with_reducible refine (exposure_Count.calls k6 _ _ t277 (rd l1 x14_6) t300 _ ?side1 ?side2 A52.out).mono ?_); (case side1 => repeat (first | exact (Kd.R_reads' HO_5.out).2.2 | (with_reducible refine Kd.C_alloc ?_ _) | (with_reducible refine Kd.C_drewN ?_ _) | (with_reducible refine Kd.C_drew ?_))); (case side2 => exact (Kd.R_reads' HO_5.out).2.1); rintro e w55 ⟨rfl, hb⟩; have n0_ := Aside0.mk (Kd.R_below (by (with_reducible repeat (first | apply Kd.R_alloc | apply Kd.R_drewN | apply Kd.R_drew)); exact HO_5.out) hb); have n1_ := Aside0.mk (below_step (by repeat (first | (with_reducible first | exact HB.out | apply below_alloc | apply pw_below_drewN | apply below_drew1) | exact HB.out)) hb); clear HO_5; clear HB; have HO_5 := n0_; have HB := n1_; clear n0_ n1_; (try clear hb); (try clear hb2); (try clear hk); (try clear hi)))
                     repeat (go_quiet (first | (go_at_call 17; (with_reducible refine (exposure_Count.calls k6 _ _ l0 (rd l1 x14_6) t298 _ ?side1 ?side2 A51.out).mono ?_); (case side1 => repeat (first | exact (Kd.C_below HR0.out HB.out) | (with_reducible refine Kd.C_alloc ?_ _) | (with_reducible refine Kd.C_drewN ?_ _) | (with_reducible refine Kd.C_drew ?_))); (case side2 => exact HC0.out); rintro e w54 ⟨rfl, hb⟩; have n0_ := Aside0.mk (Kd.R_below (by (with_reducible repeat (first | apply Kd.R_alloc | apply Kd.R_drewN | apply Kd.R_drew)); exact HO_5.out) hb); have n1_ := Aside0.mk (below_step (by repeat (first | (with_reducible first | exact HB.out | apply below_alloc | apply pw_below_drewN | apply below_drew1) | exact HB.out)) hb); clear HO_5; clear HB; have HO_5 := n0_; have HB := n1_; clear n0_ n1_; (try clear hb); (try clear hb2); (try clear hk); (try clear hi); have p299 : 0 ≤ (x14_6 : Int) := of_decide_eq_true (by first | (with_reducible assumption) | assumption); have q299 : x14_6 < (l1.length : Int) := of_decide_eq_true (by first | (with_reducible assumption) | assumption); obtain ⟨ad299, e299, hx299_0⟩ := Kd.at_int HR1.out x14_6 p299 q299; obtain rfl : ad297 = ad299 := (by injection e299); replace hx299_0 := (HB.out.cell (World.block_lt_of_cell? w _ hx299_0)).trans hx299_0; replace p299 := eq_true p299; replace q299 := eq_true q299) | (go_at_call 17; (with_reducible refine (exposure_Count.calls k6 _ _ t277 (rd l1 x14_6) t300 _ ?side1 ?side2 A52.out).mono ?_); (case side1 => repeat (first | exact (Kd.R_reads' HO_5.out).2.2 | (with_reducible refine Kd.C_alloc ?_ _) | (with_reducible refine Kd.C_drewN ?_ _) | (with_reducible refine Kd.C_drew ?_))); (case side2 => exact (Kd.R_reads' HO_5.out).2.1); rintro e w55 ⟨rfl, hb⟩; have n0_ := Aside0.mk (Kd.R_below (by (with_reducible repeat (first | apply Kd.R_alloc | apply Kd.R_drewN | apply Kd.R_drew)); exact HO_5.out) hb); have n1_ := Aside0.mk (below_step (by repeat (first | (with_reducible first | exact HB.out | apply below_alloc | apply pw_below_drewN | apply below_drew1) | exact HB.out)) hb); clear HO_5; clear HB; have HO_5 := n0_; have HB := n1_; clear n0_ n1_; (try clear hb); (try clear hb2); (try clear hk); (try clear hi))); try go_wp2_with (first | (go_at_call 17; (with_reducible refine (exposure_Count.calls k6 _ _ l0 (rd l1 x14_6) t298 _ ?side1 ?side2 A51.out).mono ?_); (case side1 => repeat (first | exact (Kd.C_below HR0.out HB.out) | (with_reducible refine Kd.C_alloc ?_ _) | (with_reducible refine Kd.C_drewN ?_ _) | (with_reducible refine Kd.C_drew ?_))); (case side2 => exact HC0.out); rintro e w54 ⟨rfl, hb⟩; have n0_ := Aside0.mk (Kd.R_below (by (with_reducible repeat (first | apply Kd.R_alloc | apply Kd.R_drewN | apply Kd.R_drew)); exact HO_5.out) hb); have n1_ := Aside0.mk (below_step (by repeat (first | (with_reducible first | exact HB.out | apply below_alloc | apply pw_below_drewN | apply below_drew1) | exact HB.out)) hb); clear HO_5; clear HB; have HO_5 := n0_; have HB := n1_; clear n0_ n1_; (try clear hb); (try clear hb2); (try clear hk); (try clear hi); have p299 : 0 ≤ (x14_6 : Int) := of_decide_eq_true (by first | (with_reducible assumption) | assumption); have q299 : x14_6 < (l1.length : Int) := of_decide_eq_true (by first | (with_reducible assumption) | assumption); obtain ⟨ad299, e299, hx299_0⟩ := Kd.at_int HR1.out x14_6 p299 q299; obtain rfl : ad297 = ad299 := (by injection e299); replace hx299_0 := (HB.out.cell (World.block_lt_of_cell? w _ hx299_0)).trans hx299_0; replace p299 := eq_true p299; replace q299 := eq_true q299) | (go_at_call 17; (with_reducible refine (exposure_Count.calls k6 _ _ t277 (rd l1 x14_6) t300 _ ?side1 ?side2 A52.out).mono ?_); (case side1 => repeat (first | exact (Kd.R_reads' HO_5.out).2.2 | (with_reducible refine Kd.C_alloc ?_ _) | (with_reducible refine Kd.C_drewN ?_ _) | (with_reducible refine Kd.C_drew ?_))); (case side2 => exact (Kd.R_reads' HO_5.out).2.1); rintro e w55 ⟨rfl, hb⟩; have n0_ := Aside0.mk (Kd.R_below (by (with_reducible repeat (first | apply Kd.R_alloc | apply Kd.R_drewN | apply Kd.R_drew)); exact HO_5.out) hb); have n1_ := Aside0.mk (below_step (by repeat (first | (with_reducible first | exact HB.out | apply below_alloc | apply pw_below_drewN | apply below_drew1) | exact HB.out)) hb); clear HO_5; clear HB; have HO_5 := n0_; have HB := n1_; clear n0_ n1_; (try clear hb); (try clear hb2); (try clear hk); (try clear hi))))
                     go_roundg k6
                     case measure => have := HJ2.out; have := HK2.out; have := HK3.out; have := HJ18.out; have := HK5.out; have := HK6.out; omega
                     case rel => exact ⟨(wrap64 (x14_6 + 1)), (by first | rfl | (simp; done) | (simp [*]; done)), H', ⟨by have := HJ2.out; have := HK2.out; have := HK3.out; have := HJ18.out; have := HK5.out; have := HK6.out; omega⟩, ⟨by (with_reducible repeat (first | apply Kd.R_alloc | apply Kd.R_drewN | apply Kd.R_drew)); exact HO_5.out⟩, ⟨by repeat (first | (with_reducible first | exact HB.out | apply below_alloc | apply pw_below_drewN | apply below_drew1) | exact HB.out)⟩⟩
                    ·rw [if_neg c53] at H
                     have c53b0 : (t300 == (wrap64 (t298 + 1))) = false := beq_eq_false_iff_ne.mpr c53
                     have c53b1 : (t300 != (wrap64 (t298 + 1))) = true := bne_iff_ne.mpr c53
                     by_cases c56 : t300 = t298
                     ·rw [if_pos c56] at H
                      have c56b0 : (t300 == t298) = true := beq_iff_eq.mpr c56
                      have c56b1 : (t300 != t298) = false := bne_eq_false_iff_eq.mpr c56
                      clear c56
                      by_cases c57 : t298 = 1000000
                      ·rw [if_pos c57] at H
                       have c57b0 : (t298 == 1000000) = true := beq_iff_eq.mpr c57
                       have c57b1 : (t298 != 1000000) = false := bne_eq_false_iff_eq.mpr c57
                       clear c57
                       have H' := Aside0.mk H
                       clear H
                       have p297 : 0 ≤ (x14_6 : Int) := of_decide_eq_true (by first | (with_reducible assumption) | assumption)
                       have q297 : x14_6 < (l1.length : Int) := of_decide_eq_true (by first | (with_reducible assumption) | assumption)
                       obtain ⟨ad297, e297, hx297_0⟩ := Kd.at_int HR1.out x14_6 p297 q297
                       cases e297
                       replace hx297_0 := (HB.out.cell (World.block_lt_of_cell? w _ hx297_0)).trans hx297_0
                       replace p297 := eq_true p297
                       replace q297 := eq_true q297
                       go_wp2_with (first | (go_at_call 17; (with_reducible refine (exposure_Count.calls k6 _ _ l0 (rd l1 x14_6) t298 _ ?side1 ?side2 A51.out).mono ?_); (case side1 => repeat (first | exact (Kd.C_below HR0.out HB.out) | (with_reducible refine Kd.C_alloc ?_ _) | (with_reducible refine Kd.C_drewN ?_ _) | (with_reducible refine Kd.C_drew ?_))); (case side2 => exact HC0.out); rintro e w58 ⟨rfl, hb⟩; have n0_ := Aside0.mk (Kd.R_below (by (with_reducible repeat (first | apply Kd.R_alloc | apply Kd.R_drewN | apply Kd.R_drew)); exact HO_5.out) hb); have n1_ := Aside0.mk (below_step (by repeat (first | (with_reducible first | exact HB.out | apply below_alloc | apply pw_below_drewN | apply below_drew1) | exact HB.out)) hb); clear HO_5; clear HB; have HO_5 := n0_; have HB := n1_; clear n0_ n1_; (try clear hb); (try clear hb2); (try clear hk); (try clear hi); have p299 : 0 ≤ (x14_6 : Int) := of_decide_eq_true (by first | (with_reducible assumption) | assumption); have q299 : x14_6 < (l1.length : Int) := of_decide_eq_true (by first | (with_reducible assumption) | assumption); obtain ⟨ad299, e299, hx299_0⟩ := Kd.at_int HR1.out x14_6 p299 q299; obtain rfl : ad297 = ad299 := (by injection e299); replace hx299_0 := (HB.out.cell (World.block_lt_of_cell? w _ hx299_0)).trans hx299_0; replace p299 := eq_true p299; replace q299 := eq_true q299) | (go_at_call 17; (with_reducible refine (exposure_Count.calls k6 _ _ t277 (rd l1 x14_6) t300 _ ?side1 ?side2 A52.out).mono ?_); (case side1 => repeat (first | exact (Kd.R_reads' HO_5.out).2.2 | (with_reducible refine Kd.C_alloc ?_ _) | (with_reducible refine Kd.C_drewN ?_ _) | (with_reducible refine Kd.C_drew ?_))); (case side2 => exact (Kd.R_reads' HO_5.out).2.1); rintro e w59 ⟨rfl, hb⟩; have n0_ := Aside0.mk (Kd.R_below (by (with_reducible repeat (first | apply Kd.R_alloc | apply Kd.R_drewN | apply Kd.R_drew)); exact HO_5.out) hb); have n1_ := Aside0.mk (below_step (by repeat (first | (with_reducible first | exact HB.out | apply below_alloc | apply pw_below_drewN | apply below_drew1) | exact HB.out)) hb); clear HO_5; clear HB; have HO_5 := n0_; have HB := n1_; clear n0_ n1_; (try clear hb); (try clear hb2); (try clear hk); (try clear hi)))
                       repeat (go_quiet (first | (go_at_call 17; (with_reducible refine (exposure_Count.calls k6 _ _ l0 (rd l1 x14_6) t298 _ ?side1 ?side2 A51.out).mono ?_); (case side1 => repeat (first | exact (Kd.C_below HR0.out HB.out) | (with_reducible refine Kd.C_alloc ?_ _) | (with_reducible refine Kd.C_drewN ?_ _) | (with_reducible refine Kd.C_drew ?_))); (case side2 => exact HC0.out); rintro e w58 ⟨rfl, hb⟩; have n0_ := Aside0.mk (Kd.R_below (by (with_reducible repeat (first | apply Kd.R_alloc | apply Kd.R_drewN | apply Kd.R_drew)); exact HO_5.out) hb); have n1_ := Aside0.mk (below_step (by repeat (first | (with_reducible first | exact HB.out | apply below_alloc | apply pw_below_drewN | apply below_drew1) | exact HB.out)) hb); clear HO_5; clear HB; have HO_5 := n0_; have HB := n1_; clear n0_ n1_; (try clear hb); (try clear hb2); (try clear hk); (try clear hi); have p299 : 0 ≤ (x14_6 : Int) := of_decide_eq_true (by first | (with_reducible assumption) | assumption); have q299 : x14_6 < (l1.length : Int) := of_decide_eq_true (by first | (with_reducible assumption) | assumption); obtain ⟨ad299, e299, hx299_0⟩ := Kd.at_int HR1.out x14_6 p299 q299; obtain rfl : ad297 = ad299 := (by injection e299); replace hx299_0 := (HB.out.cell (World.block_lt_of_cell? w _ hx299_0)).trans hx299_0; replace p299 := eq_true p299; replace q299 := eq_true q299) | (go_at_call 17; (with_reducible refine (exposure_Count.calls k6 _ _ t277 (rd l1 x14_6) t300 _ ?side1 ?side2 A52.out).mono ?_); (case side1 => repeat (first | exact (Kd.R_reads' HO_5.out).2.2 | (with_reducible refine Kd.C_alloc ?_ _) | (with_reducible refine Kd.C_drewN ?_ _) | (with_reducible refine Kd.C_drew ?_))); (case side2 => exact (Kd.R_reads' HO_5.out).2.1); rintro e w59 ⟨rfl, hb⟩; have n0_ := Aside0.mk (Kd.R_below (by (with_reducible repeat (first | apply Kd.R_alloc | apply Kd.R_drewN | apply Kd.R_drew)); exact HO_5.out) hb); have n1_ := Aside0.mk (below_step (by repeat (first | (with_reducible first | exact HB.out | apply below_alloc | apply pw_below_drewN | apply below_drew1) | exact HB.out)) hb); clear HO_5; clear HB; have HO_5 := n0_; have HB := n1_; clear n0_ n1_; (try clear hb); (try clear hb2); (try clear hk); (try clear hi))); try go_wp2_with (first | (go_at_call 17; (with_reducible refine (exposure_Count.calls k6 _ _ l0 (rd l1 x14_6) t298 _ ?side1 ?side2 A51.out).mono ?_); (case side1 => repeat (first | exact (Kd.C_below HR0.out HB.out) | (with_reducible refine Kd.C_alloc ?_ _) | (with_reducible refine Kd.C_drewN ?_ _) | (with_reducible refine Kd.C_drew ?_))); (case side2 => exact HC0.out); rintro e w58 ⟨rfl, hb⟩; have n0_ := Aside0.mk (Kd.R_below (by (with_reducible repeat (first | apply Kd.R_alloc | apply Kd.R_drewN | apply Kd.R_drew)); exact HO_5.out) hb); have n1_ := Aside0.mk (below_step (by repeat (first | (with_reducible first | exact HB.out | apply below_alloc | apply pw_below_drewN | apply below_drew1) | exact HB.out)) hb); clear HO_5; clear HB; have HO_5 := n0_; have HB := n1_; clear n0_ n1_; (try clear hb); (try clear hb2); (try clear hk); (try clear hi); have p299 : 0 ≤ (x14_6 : Int) := of_decide_eq_true (by first | (with_reducible assumption) | assumption); have q299 : x14_6 < (l1.length : Int) := of_decide_eq_true (by first | (with_reducible assumption) | assumption); obtain ⟨ad299, e299, hx299_0⟩ := Kd.at_int HR1.out x14_6 p299 q299; obtain rfl : ad297 = ad299 := (by injection e299); replace hx299_0 := (HB.out.cell (World.block_lt_of_cell? w _ hx299_0)).trans hx299_0; replace p299 := eq_true p299; replace q299 := eq_true q299) | (go_at_call 17; (with_reducible refine (exposure_Count.calls k6 _ _ t277 (rd l1 x14_6) t300 _ ?side1 ?side2 A52.out).mono ?_); (case side1 => repeat (first | exact (Kd.R_reads' HO_5.out).2.2 | (with_reducible refine Kd.C_alloc ?_ _) | (with_reducible refine Kd.C_drewN ?_ _) | (with_reducible refine Kd.C_drew ?_))); (case side2 => exact (Kd.R_reads' HO_5.out).2.1); rintro e w59 ⟨rfl, hb⟩; have n0_ := Aside0.mk (Kd.R_below (by (with_reducible repeat (first | apply Kd.R_alloc | apply Kd.R_drewN | apply Kd.R_drew)); exact HO_5.out) hb); have n1_ := Aside0.mk (below_step (by repeat (first | (with_reducible first | exact HB.out | apply below_alloc | apply pw_below_drewN | apply below_drew1) | exact HB.out)) hb); clear HO_5; clear HB; have HO_5 := n0_; have HB := n1_; clear n0_ n1_; (try clear hb); (try clear hb2); (try clear hk); (try clear hi))))
                       go_roundg k6
                       case measure => have := HJ2.out; have := HK2.out; have := HK3.out; have := HJ18.out; have := HK5.out; have := HK6.out; omega
                       case rel => exact ⟨(wrap64 (x14_6 + 1)), (by first | rfl | (simp; done) | (simp [*]; done)), H', ⟨by have := HJ2.out; have := HK2.out; have := HK3.out; have := HJ18.out; have := HK5.out; have := HK6.out; omega⟩, ⟨by (with_reducible repeat (first | apply Kd.R_alloc | apply Kd.R_drewN | apply Kd.R_drew)); exact HO_5.out⟩, ⟨by repeat (first | (with_reducible first | exact HB.out | apply below_alloc | apply pw_below_drewN | apply below_drew1) | exact HB.out)⟩⟩
                      ·rw [if_neg c57] at H
                       have c57b0 : (t298 == 1000000) = false := beq_eq_false_iff_ne.mpr c57
                       have c57b1 : (t298 != 1000000) = true := bne_iff_ne.mpr c57
                       obtain rfl := Option.some.inj H
                       have p297 : 0 ≤ (x14_6 : Int) := of_decide_eq_true (by first | (with_reducible assumption) | assumption)
                       have q297 : x14_6 < (l1.length : Int) := of_decide_eq_true (by first | (with_reducible assumption) | assumption)
                       obtain ⟨ad297, e297, hx297_0⟩ := Kd.at_int HR1.out x14_6 p297 q297
                       cases e297
                       replace hx297_0 := (HB.out.cell (World.block_lt_of_cell? w _ hx297_0)).trans hx297_0
                       replace p297 := eq_true p297
                       replace q297 := eq_true q297
                       go_wp2_with (first | (go_at_call 17; (with_reducible refine (exposure_Count.calls k6 _ _ l0 (rd l1 x14_6) t298 _ ?side1 ?side2 A51.out).mono ?_); (case side1 => repeat (first | exact (Kd.C_below HR0.out HB.out) | (with_reducible refine Kd.C_alloc ?_ _) | (with_reducible refine Kd.C_drewN ?_ _) | (with_reducible refine Kd.C_drew ?_))); (case side2 => exact HC0.out); rintro e w60 ⟨rfl, hb⟩; have n0_ := Aside0.mk (Kd.R_below (by (with_reducible repeat (first | apply Kd.R_alloc | apply Kd.R_drewN | apply Kd.R_drew)); exact HO_5.out) hb); have n1_ := Aside0.mk (below_step (by repeat (first | (with_reducible first | exact HB.out | apply below_alloc | apply pw_below_drewN | apply below_drew1) | exact HB.out)) hb); clear HO_5; clear HB; have HO_5 := n0_; have HB := n1_; clear n0_ n1_; (try clear hb); (try clear hb2); (try clear hk); (try clear hi); have p299 : 0 ≤ (x14_6 : Int) := of_decide_eq_true (by first | (with_reducible assumption) | assumption); have q299 : x14_6 < (l1.length : Int) := of_decide_eq_true (by first | (with_reducible assumption) | assumption); obtain ⟨ad299, e299, hx299_0⟩ := Kd.at_int HR1.out x14_6 p299 q299; obtain rfl : ad297 = ad299 := (by injection e299); replace hx299_0 := (HB.out.cell (World.block_lt_of_cell? w _ hx299_0)).trans hx299_0; replace p299 := eq_true p299; replace q299 := eq_true q299) | (go_at_call 17; (with_reducible refine (exposure_Count.calls k6 _ _ t277 (rd l1 x14_6) t300 _ ?side1 ?side2 A52.out).mono ?_); (case side1 => repeat (first | exact (Kd.R_reads' HO_5.out).2.2 | (with_reducible refine Kd.C_alloc ?_ _) | (with_reducible refine Kd.C_drewN ?_ _) | (with_reducible refine Kd.C_drew ?_))); (case side2 => exact (Kd.R_reads' HO_5.out).2.1); rintro e w61 ⟨rfl, hb⟩; have n0_ := Aside0.mk (Kd.R_below (by (with_reducible repeat (first | apply Kd.R_alloc | apply Kd.R_drewN | apply Kd.R_drew)); exact HO_5.out) hb); have n1_ := Aside0.mk (below_step (by repeat (first | (with_reducible first | exact HB.out | apply below_alloc | apply pw_below_drewN | apply below_drew1) | exact HB.out)) hb); clear HO_5; clear HB; have HO_5 := n0_; have HB := n1_; clear n0_ n1_; (try clear hb); (try clear hb2); (try clear hk); (try clear hi)))
                       repeat (go_quiet (first | (go_at_call 17; (with_reducible refine (exposure_Count.calls k6 _ _ l0 (rd l1 x14_6) t298 _ ?side1 ?side2 A51.out).mono ?_); (case side1 => repeat (first | exact (Kd.C_below HR0.out HB.out) | (with_reducible refine Kd.C_alloc ?_ _) | (with_reducible refine Kd.C_drewN ?_ _) | (with_reducible refine Kd.C_drew ?_))); (case side2 => exact HC0.out); rintro e w60 ⟨rfl, hb⟩; have n0_ := Aside0.mk (Kd.R_below (by (with_reducible repeat (first | apply Kd.R_alloc | apply Kd.R_drewN | apply Kd.R_drew)); exact HO_5.out) hb); have n1_ := Aside0.mk (below_step (by repeat (first | (with_reducible first | exact HB.out | apply below_alloc | apply pw_below_drewN | apply below_drew1) | exact HB.out)) hb); clear HO_5; clear HB; have HO_5 := n0_; have HB := n1_; clear n0_ n1_; (try clear hb); (try clear hb2); (try clear hk); (try clear hi); have p299 : 0 ≤ (x14_6 : Int) := of_decide_eq_true (by first | (with_reducible assumption) | assumption); have q299 : x14_6 < (l1.length : Int) := of_decide_eq_true (by first | (with_reducible assumption) | assumption); obtain ⟨ad299, e299, hx299_0⟩ := Kd.at_int HR1.out x14_6 p299 q299; obtain rfl : ad297 = ad299 := (by injection e299); replace hx299_0 := (HB.out.cell (World.block_lt_of_cell? w _ hx299_0)).trans hx299_0; replace p299 := eq_true p299; replace q299 := eq_true q299) | (go_at_call 17; (with_reducible refine (exposure_Count.calls k6 _ _ t277 (rd l1 x14_6) t300 _ ?side1 ?side2 A52.out).mono ?_); (case side1 => repeat (first | exact (Kd.R_reads' HO_5.out).2.2 | (with_reducible refine Kd.C_alloc ?_ _) | (with_reducible refine Kd.C_drewN ?_ _) | (with_reducible refine Kd.C_drew ?_))); (case side2 => exact (Kd.R_reads' HO_5.out).2.1); rintro e w61 ⟨rfl, hb⟩; have n0_ := Aside0.mk (Kd.R_below (by (with_reducible repeat (first | apply Kd.R_alloc | apply Kd.R_drewN | apply Kd.R_drew)); exact HO_5.out) hb); have n1_ := Aside0.mk (below_step (by repeat (first | (with_reducible first | exact HB.out | apply below_alloc | apply pw_below_drewN | apply below_drew1) | exact HB.out)) hb); clear HO_5; clear HB; have HO_5 := n0_; have HB := n1_; clear n0_ n1_; (try clear hb); (try clear hb2); (try clear hk); (try clear hi))); try go_wp2_with (first | (go_at_call 17; (with_reducible refine (exposure_Count.calls k6 _ _ l0 (rd l1 x14_6) t298 _ ?side1 ?side2 A51.out).mono ?_); (case side1 => repeat (first | exact (Kd.C_below HR0.out HB.out) | (with_reducible refine Kd.C_alloc ?_ _) | (with_reducible refine Kd.C_drewN ?_ _) | (with_reducible refine Kd.C_drew ?_))); (case side2 => exact HC0.out); rintro e w60 ⟨rfl, hb⟩; have n0_ := Aside0.mk (Kd.R_below (by (with_reducible repeat (first | apply Kd.R_alloc | apply Kd.R_drewN | apply Kd.R_drew)); exact HO_5.out) hb); have n1_ := Aside0.mk (below_step (by repeat (first | (with_reducible first | exact HB.out | apply below_alloc | apply pw_below_drewN | apply below_drew1) | exact HB.out)) hb); clear HO_5; clear HB; have HO_5 := n0_; have HB := n1_; clear n0_ n1_; (try clear hb); (try clear hb2); (try clear hk); (try clear hi); have p299 : 0 ≤ (x14_6 : Int) := of_decide_eq_true (by first | (with_reducible assumption) | assumption); have q299 : x14_6 < (l1.length : Int) := of_decide_eq_true (by first | (with_reducible assumption) | assumption); obtain ⟨ad299, e299, hx299_0⟩ := Kd.at_int HR1.out x14_6 p299 q299; obtain rfl : ad297 = ad299 := (by injection e299); replace hx299_0 := (HB.out.cell (World.block_lt_of_cell? w _ hx299_0)).trans hx299_0; replace p299 := eq_true p299; replace q299 := eq_true q299) | (go_at_call 17; (with_reducible refine (exposure_Count.calls k6 _ _ t277 (rd l1 x14_6) t300 _ ?side1 ?side2 A52.out).mono ?_); (case side1 => repeat (first | exact (Kd.R_reads' HO_5.out).2.2 | (with_reducible refine Kd.C_alloc ?_ _) | (with_reducible refine Kd.C_drewN ?_ _) | (with_reducible refine Kd.C_drew ?_))); (case side2 => exact (Kd.R_reads' HO_5.out).2.1); rintro e w61 ⟨rfl, hb⟩; have n0_ := Aside0.mk (Kd.R_below (by (with_reducible repeat (first | apply Kd.R_alloc | apply Kd.R_drewN | apply Kd.R_drew)); exact HO_5.out) hb); have n1_ := Aside0.mk (below_step (by repeat (first | (with_reducible first | exact HB.out | apply below_alloc | apply pw_below_drewN | apply below_drew1) | exact HB.out)) hb); clear HO_5; clear HB; have HO_5 := n0_; have HB := n1_; clear n0_ n1_; (try clear hb); (try clear hb2); (try clear hk); (try clear hi))))
                       go_ret
                       exact ⟨by first | rfl | (simp [errW_none, errW_some] <;> rfl) | (simp [*, errW_none, errW_some] <;> rfl), by repeat (first | (with_reducible first | exact HB.out | apply below_alloc | apply pw_below_drewN | apply below_drew1) | exact HB.out)⟩
                     ·rw [if_neg c56] at H
                      have c56b0 : (t300 == t298) = false := beq_eq_false_iff_ne.mpr c56
                      have c56b1 : (t300 != t298) = true := bne_iff_ne.mpr c56
                      obtain rfl := Option.some.inj H
                      have p297 : 0 ≤ (x14_6 : Int) := of_decide_eq_true (by first | (with_reducible assumption) | assumption)
                      have q297 : x14_6 < (l1.length : Int) := of_decide_eq_true (by first | (with_reducible assumption) | assumption)
                      obtain ⟨ad297, e297, hx297_0⟩ := Kd.at_int HR1.out x14_6 p297 q297
                      cases e297
                      replace hx297_0 := (HB.out.cell (World.block_lt_of_cell? w _ hx297_0)).trans hx297_0
                      replace p297 := eq_true p297
                      replace q297 := eq_true q297
                      go_wp2_with (first | (go_at_call 17; (with_reducible refine (exposure_Count.calls k6 _ _ l0 (rd l1 x14_6) t298 _ ?side1 ?side2 A51.out).mono ?_); (case side1 => repeat (first | exact (Kd.C_below HR0.out HB.out) | (with_reducible refine Kd.C_alloc ?_ _) | (with_reducible refine Kd.C_drewN ?_ _) | (with_reducible refine Kd.C_drew ?_))); (case side2 => exact HC0.out); rintro e w62 ⟨rfl, hb⟩; have n0_ := Aside0.mk (Kd.R_below (by (with_reducible repeat (first | apply Kd.R_alloc | apply Kd.R_drewN | apply Kd.R_drew)); exact HO_5.out) hb); have n1_ := Aside0.mk (below_step (by repeat (first | (with_reducible first | exact HB.out | apply below_alloc | apply pw_below_drewN | apply below_drew1) | exact HB.out)) hb); clear HO_5; clear HB; have HO_5 := n0_; have HB := n1_; clear n0_ n1_; (try clear hb); (try clear hb2); (try clear hk); (try clear hi); have p299 : 0 ≤ (x14_6 : Int) := of_decide_eq_true (by first | (with_reducible assumption) | assumption); have q299 : x14_6 < (l1.length : Int) := of_decide_eq_true (by first | (with_reducible assumption) | assumption); obtain ⟨ad299, e299, hx299_0⟩ := Kd.at_int HR1.out x14_6 p299 q299; obtain rfl : ad297 = ad299 := (by injection e299); replace hx299_0 := (HB.out.cell (World.block_lt_of_cell? w _ hx299_0)).trans hx299_0; replace p299 := eq_true p299; replace q299 := eq_true q299) | (go_at_call 17; (with_reducible refine (exposure_Count.calls k6 _ _ t277 (rd l1 x14_6) t300 _ ?side1 ?side2 A52.out).mono ?_); (case side1 => repeat (first | exact (Kd.R_reads' HO_5.out).2.2 | (with_reducible refine Kd.C_alloc ?_ _) | (with_reducible refine Kd.C_drewN ?_ _) | (with_reducible refine Kd.C_drew ?_))); (case side2 => exact (Kd.R_reads' HO_5.out).2.1); rintro e w63 ⟨rfl, hb⟩; have n0_ := Aside0.mk (Kd.R_below (by (with_reducible repeat (first | apply Kd.R_alloc | apply Kd.R_drewN | apply Kd.R_drew)); exact HO_5.out) hb); have n1_ := Aside0.mk (below_step (by repeat (first | (with_reducible first | exact HB.out | apply below_alloc | apply pw_below_drewN | apply below_drew1) | exact HB.out)) hb); clear HO_5; clear HB; have HO_5 := n0_; have HB := n1_; clear n0_ n1_; (try clear hb); (try clear hb2); (try clear hk); (try clear hi)))
                      repeat (go_quiet (first | (go_at_call 17; (with_reducible refine (exposure_Count.calls k6 _ _ l0 (rd l1 x14_6) t298 _ ?side1 ?side2 A51.out).mono ?_); (case side1 => repeat (first | exact (Kd.C_below HR0.out HB.out) | (with_reducible refine Kd.C_alloc ?_ _) | (with_reducible refine Kd.C_drewN ?_ _) | (with_reducible refine Kd.C_drew ?_))); (case side2 => exact HC0.out); rintro e w62 ⟨rfl, hb⟩; have n0_ := Aside0.mk (Kd.R_below (by (with_reducible repeat (first | apply Kd.R_alloc | apply Kd.R_drewN | apply Kd.R_drew)); exact HO_5.out) hb); have n1_ := Aside0.mk (below_step (by repeat (first | (with_reducible first | exact HB.out | apply below_alloc | apply pw_below_drewN | apply below_drew1) | exact HB.out)) hb); clear HO_5; clear HB; have HO_5 := n0_; have HB := n1_; clear n0_ n1_; (try clear hb); (try clear hb2); (try clear hk); (try clear hi); have p299 : 0 ≤ (x14_6 : Int) := of_decide_eq_true (by first | (with_reducible assumption) | assumption); have q299 : x14_6 < (l1.length : Int) := of_decide_eq_true (by first | (with_reducible assumption) | assumption); obtain ⟨ad299, e299, hx299_0⟩ := Kd.at_int HR1.out x14_6 p299 q299; obtain rfl : ad297 = ad299 := (by injection e299); replace hx299_0 := (HB.out.cell (World.block_lt_of_cell? w _ hx299_0)).trans hx299_0; replace p299 := eq_true p299; replace q299 := eq_true q299) | (go_at_call 17; (with_reducible refine (exposure_Count.calls k6 _ _ t277 (rd l1 x14_6) t300 _ ?side1 ?side2 A52.out).mono ?_); (case side1 => repeat (first | exact (Kd.R_reads' HO_5.out).2.2 | (with_reducible refine Kd.C_alloc ?_ _) | (with_reducible refine Kd.C_drewN ?_ _) | (with_reducible refine Kd.C_drew ?_))); (case side2 => exact (Kd.R_reads' HO_5.out).2.1); rintro e w63 ⟨rfl, hb⟩; have n0_ := Aside0.mk (Kd.R_below (by (with_reducible repeat (first | apply Kd.R_alloc | apply Kd.R_drewN | apply Kd.R_drew)); exact HO_5.out) hb); have n1_ := Aside0.mk (below_step (by repeat (first | (with_reducible first | exact HB.out | apply below_alloc | apply pw_below_drewN | apply below_drew1) | exact HB.out)) hb); clear HO_5; clear HB; have HO_5 := n0_; have HB := n1_; clear n0_ n1_; (try clear hb); (try clear hb2); (try clear hk); (try clear hi))); try go_wp2_with (first | (go_at_call 17; (with_reducible refine (exposure_Count.calls k6 _ _ l0 (rd l1 x14_6) t298 _ ?side1 ?side2 A51.out).mono ?_); (case side1 => repeat (first | exact (Kd.C_below HR0.out HB.out) | (with_reducible refine Kd.C_alloc ?_ _) | (with_reducible refine Kd.C_drewN ?_ _) | (with_reducible refine Kd.C_drew ?_))); (case side2 => exact HC0.out); rintro e w62 ⟨rfl, hb⟩; have n0_ := Aside0.mk (Kd.R_below (by (with_reducible repeat (first | apply Kd.R_alloc | apply Kd.R_drewN | apply Kd.R_drew)); exact HO_5.out) hb); have n1_ := Aside0.mk (below_step (by repeat (first | (with_reducible first | exact HB.out | apply below_alloc | apply pw_below_drewN | apply below_drew1) | exact HB.out)) hb); clear HO_5; clear HB; have HO_5 := n0_; have HB := n1_; clear n0_ n1_; (try clear hb); (try clear hb2); (try clear hk); (try clear hi); have p299 : 0 ≤ (x14_6 : Int) := of_decide_eq_true (by first | (with_reducible assumption) | assumption); have q299 : x14_6 < (l1.length : Int) := of_decide_eq_true (by first | (with_reducible assumption) | assumption); obtain ⟨ad299, e299, hx299_0⟩ := Kd.at_int HR1.out x14_6 p299 q299; obtain rfl : ad297 = ad299 := (by injection e299); replace hx299_0 := (HB.out.cell (World.block_lt_of_cell? w _ hx299_0)).trans hx299_0; replace p299 := eq_true p299; replace q299 := eq_true q299) | (go_at_call 17; (with_reducible refine (exposure_Count.calls k6 _ _ t277 (rd l1 x14_6) t300 _ ?side1 ?side2 A52.out).mono ?_); (case side1 => repeat (first | exact (Kd.R_reads' HO_5.out).2.2 | (with_reducible refine Kd.C_alloc ?_ _) | (with_reducible refine Kd.C_drewN ?_ _) | (with_reducible refine Kd.C_drew ?_))); (case side2 => exact (Kd.R_reads' HO_5.out).2.1); rintro e w63 ⟨rfl, hb⟩; have n0_ := Aside0.mk (Kd.R_below (by (with_reducible repeat (first | apply Kd.R_alloc | apply Kd.R_drewN | apply Kd.R_drew)); exact HO_5.out) hb); have n1_ := Aside0.mk (below_step (by repeat (first | (with_reducible first | exact HB.out | apply below_alloc | apply pw_below_drewN | apply below_drew1) | exact HB.out)) hb); clear HO_5; clear HB; have HO_5 := n0_; have HB := n1_; clear n0_ n1_; (try clear hb); (try clear hb2); (try clear hk); (try clear hi))))
                      go_ret
                      exact ⟨by first | rfl | (simp [errW_none, errW_some] <;> rfl) | (simp [*, errW_none, errW_some] <;> rfl), by repeat (first | (with_reducible first | exact HB.out | apply below_alloc | apply pw_below_drewN | apply below_drew1) | exact HB.out)⟩
                   ·rw [if_neg c50] at H
                    exact absurd H (by simp)
                  ·rw [if_neg c49] at H
                   have c49b0 : decide (x14_6 < (l1.length : Int)) = false := decide_eq_false c49
                   clear c49
                   obtain rfl := Option.some.inj H
                   go_wp2
                   repeat (go_quiet (fail); try go_wp2)
                   go_ret
                   exact ⟨by first | rfl | (simp [errW_none, errW_some] <;> rfl) | (simp [*, errW_none, errW_some] <;> rfl), by repeat (first | (with_reducible first | exact HB.out | apply below_alloc | apply pw_below_drewN | apply below_drew1) | exact HB.out)⟩
end Go.Proofs.Ythamhjmhgcpdgaa.O
end
section
namespace Go.Proofs.Ythamhjmhgcpdgaa.Lp
open Go.RowKit Go.Proofs.YthamhjmhgcpdgaaW.PrintWords
set_option linter.unusedVariables false
theorem wrap64_id {x : Int} (h0 : -9223372036854775808 ≤ x) (h1 : x < 9223372036854775808) : wrap64 x = x := by unfold wrap64; omega
theorem wrap_next {i n : Nat} (h : i < n) (hn : n ≤ 9223372036854775807) : wrap64 ((i : Int) + 1) = ((i + 1 : Nat) : Int) := by rw [wrap64_id (by omega) (by omega)]; omega
theorem Ev.ite_pos {α : Type} {p : Prop} [Decidable p] {a b : Nat → Option α} {r : α} (h : p) (k : Ev a r) : Ev (fun n => if p then a n else b n) r := Ev.congr (fun n => if_pos h) k
theorem Ev.ite_neg {α : Type} {p : Prop} [Decidable p] {a b : Nat → Option α} {r : α} (h : ¬ p) (k : Ev b r) : Ev (fun n => if p then a n else b n) r := Ev.congr (fun n => if_neg h) k
theorem Ev.last {α : Type} {g : Nat → Option α} {r : α} (h : ∀ k, g (k + 1) = some r) : Ev g r := Ev.step (f := fun _ => some r) h (Ev.now r)
theorem getD_drop {α : Type} (l : List α) (z : α) (i : Nat) (h : i < l.length) : l.drop i = l.getD i z :: l.drop (i + 1) := by
 rw [List.drop_eq_getElem_cons h, List.getD_eq_getElem?_getD, List.getElem?_eq_getElem h]
 rfl
theorem getD_mem {α : Type} (l : List α) (z : α) (i : Nat) (h : i < l.length) : l.getD i z ∈ l := by
 rw [List.getD_eq_getElem?_getD, List.getElem?_eq_getElem h]
 exact List.getElem_mem h
theorem take_snoc {α : Type} (l : List α) (z : α) (i : Nat) (h : i < l.length) : l.take (i + 1) = l.take i ++ [l.getD i z] := by
 rw [List.take_add_one, List.getElem?_eq_getElem h, List.getD_eq_getElem?_getD, List.getElem?_eq_getElem h]
 rfl
end Go.Proofs.Ythamhjmhgcpdgaa.Lp
end
section
namespace Go.Proofs.Ythamhjmhgcpdgaa.Ord
open Go.RowKit Go.Proofs.YthamhjmhgcpdgaaW.PrintWords Go.Proofs.Ythamhjmhgcpdgaa.O Go.Proofs.Ythamhjmhgcpdgaa.Lp
set_option linter.unusedVariables false
set_option linter.unusedSimpArgs false
def bd (a : Int) : Int := if a < 0 then 0 else if a > 1000000 then 1000000 else a
theorem bd_bounds (a : Int) : 0 ≤ bd a ∧ bd a ≤ 1000000 := by unfold bd; split <;> (try split) <;> omega
theorem bd_id {a : Int} (h0 : 0 ≤ a) (h1 : a ≤ 1000000) : bd a = a := by unfold bd; split <;> (try split) <;> omega
def tot : List S50 → Int → Int
 | [], _ => 0
 | u :: l, x => (if u.f0 = x then bd u.f1 else 0) + tot l x
def cnt (l : List S50) (x : Int) : Int := bd (tot l x)
theorem tot_nonneg (l : List S50) (x : Int) : 0 ≤ tot l x := by
 induction l with
 | nil => exact Int.le_refl _
 | cons u l ih => have := (bd_bounds u.f1).1; unfold tot; split <;> omega
theorem tot_append (a b : List S50) (x : Int) : tot (a ++ b) x = tot a x + tot b x := by
 induction a with
 | nil => simp [tot]
 | cons u a ih => simp only [List.cons_append, tot, ih]; omega
theorem tot_reverse (l : List S50) (x : Int) : tot l.reverse x = tot l x := by
 induction l with
 | nil => rfl
 | cons u l ih => rw [List.reverse_cons, tot_append, ih]; simp only [tot]; omega
theorem cnt_reverse (l : List S50) (x : Int) : cnt l.reverse x = cnt l x := by unfold cnt; rw [tot_reverse]
theorem cnt_bounds (l : List S50) (x : Int) : 0 ≤ cnt l x ∧ cnt l x ≤ 1000000 := bd_bounds _
theorem tot_absent {l : List S50} {x : Int} (h : ∀ u ∈ l, u.f0 ≠ x) : tot l x = 0 := by
 induction l with
 | nil => rfl
 | cons u l ih =>
  have := ih (fun v hv => h v (List.mem_cons_of_mem _ hv))
  unfold tot
  rw [if_neg (h u List.mem_cons_self), this]
  rfl
def SS (l : List S50) : Prop := l.Pairwise (fun a b => a.f0 < b.f0)
def Pos (l : List S50) : Prop := ∀ u ∈ l, 1 ≤ u.f1 ∧ u.f1 ≤ 1000000
theorem tot_head {u : S50} {l : List S50} (h : SS (u :: l)) (hp : Pos (u :: l)) : tot (u :: l) u.f0 = u.f1 := by
 have h1 := (List.pairwise_cons.1 h).1
 have h2 := hp u List.mem_cons_self
 unfold tot
 rw [if_pos rfl, bd_id (by omega) h2.2, tot_absent (fun v hv => by have := h1 v hv; omega)]
 omega
theorem tot_tail {u : S50} {l : List S50} {x : Int} (h : u.f0 ≠ x) : tot (u :: l) x = tot l x := by
 rw [tot, if_neg h]; omega
theorem canon_eq : ∀ {a b : List S50}, SS a → Pos a → SS b → Pos b → (∀ x, tot a x = tot b x) → a = b
 | [], [], _, _, _, _, _ => rfl
 | [], v :: b, _, _, hb, pb, h => by
  have h1 := h v.f0
  rw [tot_head hb pb] at h1
  have := (pb v List.mem_cons_self).1
  simp only [tot] at h1
  omega
 | u :: a, [], ha, pa, _, _, h => by
  have h1 := h u.f0
  rw [tot_head ha pa] at h1
  have := (pa u List.mem_cons_self).1
  simp only [tot] at h1
  omega
 | u :: a, v :: b, ha, pa, hb, pb, h => by
  have ha1 := (List.pairwise_cons.1 ha).1
  have hb1 := (List.pairwise_cons.1 hb).1
  have e : u.f0 = v.f0 := by
   rcases Int.lt_trichotomy u.f0 v.f0 with h1 | h1 | h1
   ·have h2 := h u.f0
    rw [tot_head ha pa, tot_tail (by omega), tot_absent (fun w hw => by have := hb1 w hw; omega)] at h2
    have := (pa u List.mem_cons_self).1
    omega
   ·exact h1
   ·have h2 := h v.f0
    rw [tot_head hb pb, tot_tail (by omega), tot_absent (fun w hw => by have := ha1 w hw; omega)] at h2
    have := (pb v List.mem_cons_self).1
    omega
  have e1 : u.f1 = v.f1 := by
   have h2 := h u.f0
   rw [tot_head ha pa, e, tot_head hb pb] at h2
   exact h2
  have huv : u = v := by cases u; cases v; simp_all
  subst huv
  rw [canon_eq (List.pairwise_cons.1 ha).2 (fun w hw => pa w (List.mem_cons_of_mem _ hw)) (List.pairwise_cons.1 hb).2 (fun w hw => pb w (List.mem_cons_of_mem _ hw)) (fun x => by
   by_cases hx : u.f0 = x
   ·subst hx
    rw [tot_absent (fun w hw => by have := ha1 w hw; omega), tot_absent (fun w hw => by have := hb1 w hw; omega)]
   ·have := h x
    rw [tot_tail hx, tot_tail hx] at this
    exact this)]
theorem keeps_iff (d : Array Int) (j : Nat) : Lib.keeps d j = true ↔ (j = 0 ∨ d[j]! ≠ d[j - 1]!) := by
 unfold Lib.keeps
 simp
theorem compact_mem (zs : List Int) (x : Int) : x ∈ Lib.compact zs ↔ x ∈ zs := by
 unfold Lib.compact Lib.compactUpTo
 simp only [List.mem_map, List.mem_filter, List.mem_range]
 constructor
 ·rintro ⟨j, ⟨hj, _⟩, rfl⟩
  have : zs.toArray[j]! = zs[j] := by simp [hj]
  rw [this]
  exact List.getElem_mem hj
 ·intro hx
  obtain ⟨j, hj, rfl⟩ := List.mem_iff_getElem.1 hx
  clear hx
  induction j with
  | zero => exact ⟨0, ⟨hj, (keeps_iff _ _).2 (.inl rfl)⟩, by simp [hj]⟩
  | succ j ih =>
   by_cases hk : Lib.keeps zs.toArray (j + 1) = true
   ·exact ⟨j + 1, ⟨hj, hk⟩, by simp [hj]⟩
   ·have h1 : zs[j + 1] = zs[j]'(by omega) := by
     have h2 : ¬ (j + 1 = 0 ∨ zs.toArray[j + 1]! ≠ zs.toArray[j + 1 - 1]!) := fun h => hk ((keeps_iff _ _).2 h)
     have h3 : zs.toArray[j + 1]! = zs.toArray[j]! := by
      rcases Classical.em (zs.toArray[j + 1]! = zs.toArray[j]!) with h | h
      ·exact h
      ·exact absurd (.inr (by simpa using h)) h2
     have e1 : zs.toArray[j + 1]! = zs[j + 1] := by simp [hj]
     have e2 : zs.toArray[j]! = zs[j]'(by omega) := by simp [show j < zs.length by omega]
     rw [← e1, h3, e2]
    rw [h1]
    exact ih (by omega)
theorem compact_sorted {zs : List Int} (h : zs.Pairwise (· ≤ ·)) : (Lib.compact zs).Pairwise (· < ·) := by
 unfold Lib.compact Lib.compactUpTo
 rw [List.pairwise_map]
 have hr : ((List.range zs.length).filter (Lib.keeps zs.toArray)).Pairwise (fun i j => i < j ∧ j < zs.length ∧ Lib.keeps zs.toArray j = true) := by
  have h1 : ((List.range zs.length).filter (Lib.keeps zs.toArray)).Pairwise (· < ·) := List.Pairwise.filter _ List.pairwise_lt_range
  refine List.Pairwise.imp_of_mem ?_ h1
  intro a b _ hb hab
  rw [List.mem_filter, List.mem_range] at hb
  exact ⟨hab, hb.1, hb.2⟩
 refine hr.imp ?_
 rintro i j ⟨hij, hj, hk⟩
 have e1 : zs.toArray[j]! = zs[j] := by simp [hj]
 have e2 : zs.toArray[i]! = zs[i]'(by omega) := by simp [show i < zs.length by omega]
 have e3 : zs.toArray[j - 1]! = zs[j - 1]'(by omega) := by simp [show j - 1 < zs.length by omega]
 have h2 := (keeps_iff _ _).1 hk
 rw [e1, e3] at h2
 rw [e1, e2]
 have h3 : zs[j - 1]'(by omega) ≤ zs[j] := List.pairwise_iff_getElem.1 h (j - 1) j (by omega) hj (by omega)
 have h4 : zs[i]'(by omega) ≤ zs[j - 1]'(by omega) := by
  rcases Nat.lt_or_ge i (j - 1) with h | h'
  ·exact List.pairwise_iff_getElem.1 ‹_› i (j - 1) (by omega) (by omega) h
  ·have : i = j - 1 := by omega
   subst this
   exact Int.le_refl _
 rcases h2 with h2 | h2
 ·omega
 ·omega
def sorted (zs : List Int) : List Int := zs.mergeSort fun x y => decide (x ≤ y)
theorem sorted_le (zs : List Int) : (sorted zs).Pairwise (· ≤ ·) := by
 have := List.pairwise_mergeSort (le := fun x y : Int => decide (x ≤ y)) (fun a b c h1 h2 => by simp at *; omega) (fun a b => by simp; omega) zs
 exact this.imp (fun h => by simpa using h)
theorem sorted_mem (zs : List Int) (x : Int) : x ∈ sorted zs ↔ x ∈ zs := List.mem_mergeSort
def keys (zs : List Int) : List Int := Lib.compact (sorted zs)
theorem keys_mem (zs : List Int) (x : Int) : x ∈ keys zs ↔ x ∈ zs := by unfold keys; rw [compact_mem, sorted_mem]
theorem keys_sorted (zs : List Int) : (keys zs).Pairwise (· < ·) := compact_sorted (sorted_le zs)
theorem keys_length (zs : List Int) : (keys zs).length ≤ zs.length := by
 unfold keys
 refine Nat.le_trans (MyWords.compact_length _) ?_
 unfold sorted
 rw [List.length_mergeSort]
 exact Nat.le_refl _
def nrm (l : List S50) (ks : List Int) : List S50 := (ks.filter (fun x => decide (0 < cnt l x))).map (fun x => (⟨x, cnt l x⟩ : S50))
theorem nrm_ss (l : List S50) {ks : List Int} (h : ks.Pairwise (· < ·)) : SS (nrm l ks) := by
 unfold SS nrm
 rw [List.pairwise_map]
 exact List.Pairwise.filter _ h
theorem nrm_pos (l : List S50) (ks : List Int) : Pos (nrm l ks) := by
 intro u hu
 unfold nrm at hu
 simp only [List.mem_map, List.mem_filter, decide_eq_true_eq] at hu
 obtain ⟨x, ⟨_, hx⟩, rfl⟩ := hu
 exact ⟨by show 1 ≤ cnt l x; omega, (cnt_bounds l x).2⟩
theorem nrm_tot (l : List S50) : ∀ {ks : List Int}, ks.Pairwise (· < ·) → ∀ x, tot (nrm l ks) x = if x ∈ ks then cnt l x else 0
 | [], _, x => by simp [nrm, tot]
 | y :: ks, h, x => by
  have h1 := (List.pairwise_cons.1 h).1
  have ih := nrm_tot l (List.pairwise_cons.1 h).2 x
  have c0 := cnt_bounds l y
  unfold nrm at ih ⊢
  rw [List.filter_cons]
  by_cases hx : y = x
  ·subst hx
   have hn : y ∉ ks := fun hm => by have := h1 y hm; omega
   rw [if_neg hn] at ih
   rw [if_pos List.mem_cons_self]
   by_cases hc : 0 < cnt l y
   ·rw [if_pos (decide_eq_true hc), List.map_cons, tot, ih]
    simp only [if_true]
    rw [bd_id c0.1 c0.2]
    omega
   ·rw [if_neg (by simpa using hc), ih]
    omega
  ·have e : (x ∈ y :: ks) ↔ x ∈ ks := by simp [Ne.symm hx]
   simp only [e]
   by_cases hc : 0 < cnt l y
   ·rw [if_pos (decide_eq_true hc), List.map_cons, tot_tail hx, ih]
   ·rw [if_neg (by simpa using hc), ih]
theorem tot_mem {l : List S50} {x : Int} (h : x ∉ l.map (·.f0)) : tot l x = 0 := tot_absent (fun u hu he => h (List.mem_map.2 ⟨u, hu, he⟩))
theorem nrm_keys_tot (l : List S50) (x : Int) : tot (nrm l (keys (l.map (·.f0)))) x = cnt l x := by
 rw [nrm_tot l (keys_sorted _) x]
 split
 ·rfl
 ·rename_i h
  rw [keys_mem] at h
  unfold cnt
  rw [tot_mem h]
  rfl
theorem nrm_length (l : List S50) (ks : List Int) : (nrm l ks).length ≤ ks.length := by
 unfold nrm
 rw [List.length_map]
 exact List.length_filter_le _ _
theorem split_at {l : List S50} {i : Nat} (h : i < l.length) : l = l.take i ++ l.getD i z50 :: l.drop (i + 1) := by
 rw [← getD_drop l z50 i h, List.take_append_drop]
theorem put_found {a : List S50} (ha : SS a) (pa : Pos a) {i : Nat} (hi : i < a.length) {id : Int} (he : (a.getD i z50).f0 = id) :
  SS (a.set i ⟨(a.getD i z50).f0, bd ((a.getD i z50).f1 + 1)⟩) ∧ Pos (a.set i ⟨(a.getD i z50).f0, bd ((a.getD i z50).f1 + 1)⟩) ∧ ∀ x, tot (a.set i ⟨(a.getD i z50).f0, bd ((a.getD i z50).f1 + 1)⟩) x = if x = id then bd (tot a x + 1) else tot a x := by
 obtain ⟨u, hu⟩ : ∃ u, u = a.getD i z50 := ⟨_, rfl⟩
 have hsplit := split_at hi
 rw [← hu] at hsplit he ⊢
 obtain ⟨p, hp⟩ : ∃ p, p = a.take i := ⟨_, rfl⟩
 obtain ⟨q, hq⟩ : ∃ q, q = a.drop (i + 1) := ⟨_, rfl⟩
 rw [← hp, ← hq] at hsplit
 have hpl : p.length = i := by rw [hp, List.length_take]; omega
 have hset : a.set i ⟨u.f0, bd (u.f1 + 1)⟩ = p ++ ⟨u.f0, bd (u.f1 + 1)⟩ :: q := by
  rw [hsplit, ← hpl, List.set_append_right _ _ (Nat.le_refl _), Nat.sub_self, List.set_cons_zero]
 rw [hset]
 have hu1 := pa u (by rw [hsplit]; simp)
 have b1 := bd_bounds (u.f1 + 1)
 have b2 : 1 ≤ bd (u.f1 + 1) := by unfold bd; split <;> (try split) <;> omega
 rw [hsplit] at ha pa
 refine ⟨?_, ?_, ?_⟩
 ·unfold SS at ha ⊢
  rw [List.pairwise_append] at ha ⊢
  refine ⟨ha.1, ?_, ?_⟩
  ·rw [List.pairwise_cons] at ha ⊢
   exact ⟨ha.2.1.1, ha.2.1.2⟩
  ·intro x hx y hy
   rcases List.mem_cons.1 hy with rfl | hy
   ·exact ha.2.2 x hx u List.mem_cons_self
   ·exact ha.2.2 x hx y (List.mem_cons_of_mem _ hy)
 ·intro x hx
  rcases List.mem_append.1 hx with hx | hx
  ·exact pa x (List.mem_append_left _ hx)
  ·rcases List.mem_cons.1 hx with rfl | hx
   ·exact ⟨b2, b1.2⟩
   ·exact pa x (List.mem_append_right _ (List.mem_cons_of_mem _ hx))
 ·intro x
  rw [hsplit, tot_append, tot_append, tot, tot]
  unfold SS at ha
  rw [List.pairwise_append, List.pairwise_cons] at ha
  by_cases hx : x = id
  ·subst hx
   rw [if_pos rfl, if_pos he, if_pos he, tot_absent (l := p) (fun v hv => by have := ha.2.2 v hv u List.mem_cons_self; omega), tot_absent (l := q) (fun v hv => by have := ha.2.1.1 v hv; omega), bd_id b1.1 b1.2, bd_id (by omega) hu1.2]
   simp only [Int.zero_add, Int.add_zero]
  ·rw [if_neg hx, if_neg (by rw [he]; exact fun h => hx h.symm), if_neg (by rw [he]; exact fun h => hx h.symm)]
theorem put_new {a : List S50} (ha : SS a) (pa : Pos a) {i : Nat} (hi : i ≤ a.length) {id : Int} (h1 : ∀ u ∈ a.take i, u.f0 < id) (h2 : ∀ u ∈ a.drop i, id < u.f0) :
  SS (a.take i ++ [⟨id, 1⟩] ++ a.drop i) ∧ Pos (a.take i ++ [⟨id, 1⟩] ++ a.drop i) ∧ ∀ x, tot (a.take i ++ [⟨id, 1⟩] ++ a.drop i) x = if x = id then bd (tot a x + 1) else tot a x := by
 obtain ⟨p, hp⟩ : ∃ p, p = a.take i := ⟨_, rfl⟩
 obtain ⟨q, hq⟩ : ∃ q, q = a.drop i := ⟨_, rfl⟩
 have hsplit : a = p ++ q := by rw [hp, hq, List.take_append_drop]
 rw [← hp, ← hq]
 rw [← hp] at h1
 rw [← hq] at h2
 clear hp hq
 subst hsplit
 refine ⟨?_, ?_, ?_⟩
 ·unfold SS at ha ⊢
  rw [List.append_assoc, List.pairwise_append] at ⊢
  rw [List.pairwise_append] at ha
  refine ⟨ha.1, ?_, ?_⟩
  ·rw [List.singleton_append, List.pairwise_cons]
   exact ⟨h2, ha.2.1⟩
  ·intro x hx y hy
   rw [List.singleton_append] at hy
   rcases List.mem_cons.1 hy with rfl | hy
   ·exact h1 x hx
   ·exact ha.2.2 x hx y hy
 ·intro x hx
  rw [List.append_assoc, List.singleton_append] at hx
  rcases List.mem_append.1 hx with hx | hx
  ·exact pa x (List.mem_append_left _ hx)
  ·rcases List.mem_cons.1 hx with rfl | hx
   ·exact ⟨by show (1 : Int) ≤ 1; omega, by show (1 : Int) ≤ 1000000; omega⟩
   ·exact pa x (List.mem_append_right _ hx)
 ·intro x
  rw [List.append_assoc, List.singleton_append, tot_append, tot_append, tot]
  by_cases hx : x = id
  ·subst hx
   rw [if_pos rfl, if_pos rfl, tot_absent (l := p) (fun v hv => by have := h1 v hv; omega), tot_absent (l := q) (fun v hv => by have := h2 v hv; omega)]
   rfl
  ·rw [if_neg hx, if_neg (fun h => hx h.symm)]
   omega
theorem bounded_eq (a : Int) : exposure_bounded.f a = some (bd a) := by
 unfold exposure_bounded.f bd mn mx
 congr 1
 split <;> split <;> (try split) <;> (try split) <;> omega
theorem count_loop (l : List S50) (x : Int) (hl : l.length ≤ 9223372036854775807) (d : Nat) : ∀ (i : Nat) (acc : Int), i + d = l.length → 0 ≤ acc → acc ≤ 1000000 →
  Ev (fun k => exposure_Count.l0 k x acc l (l.length : Int) (i : Int)) (bd (acc + tot (l.drop i) x)) := by
 induction d with
 | zero =>
  intro i acc hi h0 h1
  refine Ev.last (fun k => ?_)
  simp only [exposure_Count.l0]
  rw [if_neg (by omega), List.drop_eq_nil_of_le (by omega)]
  simp only [tot, Int.add_zero]
  rw [bd_id h0 h1]
 | succ d ih =>
  intro i acc hi h0 h1
  have w := wrap_next (i := i) (n := l.length) (by omega) hl
  have hil : (i : Int) < (l.length : Int) := by omega
  have hi0 : (0 : Int) ≤ (i : Int) := by omega
  have e : rd_T50 l (i : Int) = l.getD i z50 := by unfold rd_T50; rw [Int.toNat_natCast]
  obtain ⟨u, hu⟩ : ∃ u, u = l.getD i z50 := ⟨_, rfl⟩
  have hd : l.drop i = u :: l.drop (i + 1) := by rw [hu]; exact getD_drop l z50 i (by omega)
  rw [hd, tot]
  have tn := tot_nonneg (l.drop (i + 1)) x
  by_cases hx : u.f0 = x
  ·obtain ⟨b0, b1⟩ := bd_bounds u.f1
   have w2 : wrap64 (acc + bd u.f1) = acc + bd u.f1 := wrap64_id (by omega) (by omega)
   obtain ⟨c0, c1⟩ := bd_bounds (acc + bd u.f1)
   have k2 := ih (i + 1) (bd (acc + bd u.f1)) (by omega) c0 c1
   have eb : bd (acc + ((if u.f0 = x then bd u.f1 else 0) + tot (l.drop (i + 1)) x)) = bd (bd (acc + bd u.f1) + tot (l.drop (i + 1)) x) := by
    rw [if_pos hx]
    generalize tot (l.drop (i + 1)) x = t at tn
    generalize bd u.f1 = b at b0 b1
    unfold bd
    split <;> split <;> (try split) <;> (try split) <;> (try split) <;> omega
   rw [eb]
   refine Ev.step (fun k => ?_) k2
   simp only [exposure_Count.l0]
   rw [if_pos hil, if_pos hi0, if_pos hil, e, ← hu, if_pos hx, w, bounded_eq, Option.bind_some, w2, bounded_eq, Option.bind_some]
  ·rw [if_neg hx, Int.zero_add]
   refine Ev.step (fun k => ?_) (ih (i + 1) acc (by omega) h0 h1)
   simp only [exposure_Count.l0]
   rw [if_pos hil, if_pos hi0, if_pos hil, e, ← hu, if_neg hx, w]
theorem count_ev (l : List S50) (x : Int) (hl : l.length ≤ 9223372036854775807) : Ev (fun k => exposure_Count.f k l x) (cnt l x) := by
 have h := count_loop l x hl l.length 0 0 (by omega) (by omega) (by omega)
 rw [List.drop_zero, Int.zero_add] at h
 exact h
theorem normal_l1 (l : List S50) (hl : l.length ≤ 1000000) (ks : List Int) (hk : ks.length ≤ 1000000) (d : Nat) : ∀ (i : Nat) (acc : List S50), i + d = ks.length → acc.length ≤ i →
  Ev (fun k => exposure_normal.l1 k l acc ks (ks.length : Int) (i : Int)) (acc ++ nrm l (ks.drop i)) := by
 induction d with
 | zero =>
  intro i acc hi ha
  refine Ev.last (fun k => ?_)
  simp only [exposure_normal.l1]
  rw [if_neg (by omega), List.drop_eq_nil_of_le (by omega)]
  simp [nrm]
 | succ d ih =>
  intro i acc hi ha
  have w := wrap_next (i := i) (n := ks.length) (by omega) (by omega)
  have hil : (i : Int) < (ks.length : Int) := by omega
  have hi0 : (0 : Int) ≤ (i : Int) := by omega
  obtain ⟨x, hx⟩ : ∃ x, x = ks.getD i 0 := ⟨_, rfl⟩
  have e : rd ks (i : Int) = x := by unfold rd; rw [Int.toNat_natCast, hx]
  have hd : ks.drop i = x :: ks.drop (i + 1) := by rw [hx]; exact getD_drop ks 0 i (by omega)
  rw [hd]
  have hc := count_ev l x (by omega)
  by_cases hp : 0 < cnt l x
  ·have en : acc ++ nrm l (x :: ks.drop (i + 1)) = (acc ++ [⟨x, cnt l x⟩]) ++ nrm l (ks.drop (i + 1)) := by
    unfold nrm
    rw [List.filter_cons, if_pos (decide_eq_true hp), List.map_cons, List.append_assoc, List.singleton_append]
   rw [en]
   refine Ev.step (f := fun k => (exposure_Count.f k l x).bind fun t236 => (if t236 > 0 then (if acc.length < 8796093022208 then (exposure_normal.l1 k l (acc ++ [(⟨x, t236⟩ : S50)]) ks (ks.length : Int) ((i + 1 : Nat) : Int)) else (none)) else (exposure_normal.l1 k l acc ks (ks.length : Int) ((i + 1 : Nat) : Int)))) (fun k => ?_) ?_
   ·simp only [exposure_normal.l1]
    rw [if_pos hil, if_pos hi0, if_pos hil, e, w]
   ·refine Ev.bind hc (Ev.ite_pos hp (Ev.ite_pos (by omega) ?_))
    exact ih (i + 1) _ (by omega) (by rw [List.length_append]; simp; omega)
  ·have en : nrm l (x :: ks.drop (i + 1)) = nrm l (ks.drop (i + 1)) := by
    unfold nrm
    rw [List.filter_cons, if_neg (by simpa using hp)]
   rw [en]
   refine Ev.step (f := fun k => (exposure_Count.f k l x).bind fun t236 => (if t236 > 0 then (if acc.length < 8796093022208 then (exposure_normal.l1 k l (acc ++ [(⟨x, t236⟩ : S50)]) ks (ks.length : Int) ((i + 1 : Nat) : Int)) else (none)) else (exposure_normal.l1 k l acc ks (ks.length : Int) ((i + 1 : Nat) : Int)))) (fun k => ?_) ?_
   ·simp only [exposure_normal.l1]
    rw [if_pos hil, if_pos hi0, if_pos hil, e, w]
   ·exact Ev.bind hc (Ev.ite_neg hp (ih (i + 1) _ (by omega) (by omega)))
theorem normal_l0 (l : List S50) (hl : l.length ≤ 1000000) (d : Nat) : ∀ (i : Nat), i + d = l.length →
  Ev (fun k => exposure_normal.l0 k l ((l.take i).map (·.f0)) l (l.length : Int) (i : Int)) (nrm l (keys (l.map (·.f0)))) := by
 induction d with
 | zero =>
  intro i hi
  have e : l.take i = l := List.take_of_length_le (by omega)
  rw [e]
  refine Ev.step (f := fun k => exposure_normal.l1 k l ([] : List S50) (keys (l.map (·.f0))) ((keys (l.map (·.f0))).length : Int) 0) (fun k => ?_) ?_
  ·simp only [exposure_normal.l0, slices_Sort_int_int.f, slices_Compact_int_int.f]
   rw [if_neg (by omega), if_pos (by rw [List.length_map]; omega), Option.bind_some, if_pos (by rw [List.length_mergeSort, List.length_map]; omega), Option.bind_some]
   rfl
  ·have hk := keys_length (l.map (·.f0))
   rw [List.length_map] at hk
   have h := normal_l1 l hl (keys (l.map (·.f0))) (by omega) _ 0 [] (Nat.zero_add _) (Nat.le_refl _)
   rw [List.drop_zero, List.nil_append] at h
   exact h
 | succ d ih =>
  intro i hi
  have w := wrap_next (i := i) (n := l.length) (by omega) (by omega)
  have hil : (i : Int) < (l.length : Int) := by omega
  have hi0 : (0 : Int) ≤ (i : Int) := by omega
  have e : rd_T50 l (i : Int) = l.getD i z50 := by unfold rd_T50; rw [Int.toNat_natCast]
  have h := ih (i + 1) (by omega)
  rw [take_snoc l z50 i (by omega), List.map_append] at h
  refine Ev.step (fun k => ?_) h
  simp only [exposure_normal.l0]
  rw [if_pos hil, if_pos hi0, if_pos hil, if_pos (by rw [List.length_map, List.length_take]; omega), w, e]
  rfl
theorem normal_ev (l : List S50) (hl : l.length ≤ 1000000) : Ev (fun k => exposure_normal.f k l) (nrm l (keys (l.map (·.f0)))) := by
 have h := normal_l0 l hl l.length 0 (by omega)
 exact h
theorem compare_eq (a b : Int) : cmp_Compare_int.f a b = some (if a < b then -1 else if a > b then 1 else 0) := by
 unfold cmp_Compare_int.f cmp_isNaN_int.f
 simp only [bne_self_eq_false, Option.bind_some, Bool.false_eq_true, if_false]
 split
 ·rfl
 ·split <;> rfl
theorem record1_eq (a c b : Int) : exposure_Record_1.f a c b = some (if a < b then -1 else if a > b then 1 else 0) := by
 unfold exposure_Record_1.f
 rw [compare_eq, Option.bind_some]
def key (a : List S50) (j : Nat) : Int := (a.getD j z50).f0
theorem mid_eq {lo hi : Nat} (h : lo + hi < 4611686018427387904) : wrap64 ((IntKind.u64.wrap (wrap64 ((lo : Int) + (hi : Int)))) / 2) = (((lo + hi) / 2 : Nat) : Int) := by
 rw [wrap64_id (x := (lo : Int) + (hi : Int)) (by omega) (by omega)]
 have : IntKind.u64.wrap ((lo : Int) + (hi : Int)) = (lo : Int) + (hi : Int) := by
  simp only [IntKind.wrap, IntKind.bits, IntKind.signed]
  simp
  omega
 rw [this, wrap64_id (by omega) (by omega)]
 omega
theorem search_loop (a : List S50) (t : Int) (hn : a.length ≤ 2000000) (d : Nat) : ∀ (lo hi : Nat), hi - lo ≤ d → lo ≤ hi → hi ≤ a.length → (∀ j, j < lo → key a j < t) → (∀ j, hi ≤ j → j < a.length → t ≤ key a j) → (∀ i j, i < j → j < a.length → key a i < key a j) →
  ∃ (p : Nat), p ≤ a.length ∧ (∀ j, j < p → key a j < t) ∧ (∀ j, p ≤ j → j < a.length → t ≤ key a j) ∧ Ev (fun k => api_Use_int.l0 k a t (a.length : Int) (lo : Int) (hi : Int)) ((p : Int), decide (p < a.length ∧ key a p = t)) := by
 induction d with
 | zero =>
  intro lo hi hd hle hh h1 h2 hs
  have : lo = hi := by omega
  subst this
  refine ⟨lo, hh, h1, h2, Ev.last (fun k => ?_)⟩
  simp only [api_Use_int.l0]
  rw [if_neg (by omega)]
  have e : (rd_T50 a (lo : Int)).f0 = key a lo := by unfold rd_T50 key; rw [Int.toNat_natCast]
  by_cases hl : lo < a.length
  ·rw [if_pos (by omega), if_pos (by omega), if_pos (by omega), e, record1_eq, Option.bind_some]
   have := h2 lo (Nat.le_refl _) hl
   by_cases he : key a lo = t
   ·rw [if_neg (by omega), if_neg (by omega), decide_eq_true (show lo < a.length ∧ key a lo = t from ⟨hl, he⟩)]
    rfl
   ·rw [if_neg (by omega), if_pos (by omega), decide_eq_false (show ¬ (lo < a.length ∧ key a lo = t) from fun h => he h.2)]
    rfl
  ·rw [if_neg (by omega), decide_eq_false (show ¬ (lo < a.length ∧ key a lo = t) from fun h => hl h.1)]
 | succ d ih =>
  intro lo hi hd hle hh h1 h2 hs
  rcases Nat.lt_or_ge lo hi with hlt | hge
  ·have hm := mid_eq (lo := lo) (hi := hi) (by omega)
   obtain ⟨m, hm0⟩ : ∃ m, m = (lo + hi) / 2 := ⟨_, rfl⟩
   rw [← hm0] at hm
   have hm1 : lo ≤ m ∧ m < hi := by omega
   have w := wrap_next (i := m) (n := a.length) (by omega) (by omega)
   have e : (rd_T50 a (m : Int)).f0 = key a m := by unfold rd_T50 key; rw [Int.toNat_natCast]
   by_cases hk : key a m < t
   ·obtain ⟨p, p1, p2, p3, p4⟩ := ih (m + 1) hi (by omega) (by omega) hh (fun j hj => by
     rcases Nat.lt_or_ge j m with h | h
     ·have := hs j m h (by omega); omega
     ·have : j = m := by omega
      subst this; exact hk) h2 hs
    refine ⟨p, p1, p2, p3, Ev.step (fun k => ?_) p4⟩
    simp only [api_Use_int.l0, hm]
    rw [if_pos (by omega), if_pos (by omega), if_pos (by omega), e, record1_eq, Option.bind_some, if_pos hk, if_pos (by omega), w]
   ·obtain ⟨p, p1, p2, p3, p4⟩ := ih lo m (by omega) (by omega) (by omega) h1 (fun j hj hj2 => by
     rcases Nat.lt_or_ge m j with h | h
     ·have := hs m j h hj2; omega
     ·have : j = m := by omega
      subst this; omega) hs
    refine ⟨p, p1, p2, p3, Ev.step (fun k => ?_) p4⟩
    simp only [api_Use_int.l0, hm]
    rw [if_pos (by omega), if_pos (by omega), if_pos (by omega), e, record1_eq, Option.bind_some, if_neg hk]
    by_cases hk2 : key a m > t
    ·rw [if_pos hk2, if_neg (by omega)]
    ·rw [if_neg hk2, if_neg (by omega)]
  ·have : lo = hi := by omega
   subst this
   exact ih lo lo (by omega) (by omega) hh h1 h2 hs
theorem ss_key {a : List S50} (h : SS a) : ∀ i j, i < j → j < a.length → key a i < key a j := by
 intro i j hij hj
 have := List.pairwise_iff_getElem.1 h i j (by omega) hj hij
 unfold key
 rw [List.getD_eq_getElem?_getD, List.getD_eq_getElem?_getD, List.getElem?_eq_getElem (by omega), List.getElem?_eq_getElem hj]
 exact this
theorem search_ev (a : List S50) (t : Int) (ha : SS a) (hn : a.length ≤ 2000000) : ∃ (p : Nat), p ≤ a.length ∧ (∀ j, j < p → key a j < t) ∧ (∀ j, p ≤ j → j < a.length → t ≤ key a j) ∧ Ev (fun k => api_Use_int.f k a t 0) ((p : Int), decide (p < a.length ∧ key a p = t)) :=
 search_loop a t hn a.length 0 a.length (by omega) (by omega) (by omega) (fun j hj => by omega) (fun j h1 h2 => by omega) (ss_key ha)
theorem mem_take_key {a : List S50} {p : Nat} {t : Int} (hp : p ≤ a.length) (h : ∀ j, j < p → key a j < t) : ∀ u ∈ a.take p, u.f0 < t := by
 intro u hu
 obtain ⟨j, hj, rfl⟩ := List.mem_iff_getElem.1 hu
 rw [List.length_take] at hj
 have := h j (by omega)
 unfold key at this
 rw [List.getD_eq_getElem?_getD, List.getElem?_eq_getElem (by omega)] at this
 rw [List.getElem_take]
 exact this
theorem mem_drop_key {a : List S50} {p : Nat} {t : Int} (h : ∀ j, p ≤ j → j < a.length → t < key a j) : ∀ u ∈ a.drop p, t < u.f0 := by
 intro u hu
 obtain ⟨j, hj, rfl⟩ := List.mem_iff_getElem.1 hu
 rw [List.length_drop] at hj
 have := h (p + j) (by omega) (by omega)
 unfold key at this
 rw [List.getD_eq_getElem?_getD, List.getElem?_eq_getElem (by omega)] at this
 rw [List.getElem_drop]
 exact this
theorem index_loop (l : List Int) (x : Int) (hl : l.length ≤ 9223372036854775807) (d : Nat) : ∀ (i : Nat), i + d = l.length →
  ∃ r : Int, Ev (fun k => slices_Index_int_int.l0 k l x (l.length : Int) (i : Int)) r ∧ (0 ≤ r ↔ x ∈ l.drop i) := by
 induction d with
 | zero =>
  intro i hi
  refine ⟨-1, Ev.last (fun k => ?_), ?_⟩
  ·simp only [slices_Index_int_int.l0]
   rw [if_neg (by omega)]
  ·rw [List.drop_eq_nil_of_le (by omega)]
   simp
 | succ d ih =>
  intro i hi
  have w := wrap_next (i := i) (n := l.length) (by omega) (by omega)
  have e : rd l (i : Int) = l.getD i 0 := by unfold rd; rw [Int.toNat_natCast]
  by_cases hx : x = l.getD i 0
  ·refine ⟨(i : Int), Ev.last (fun k => ?_), ?_⟩
   ·simp only [slices_Index_int_int.l0]
    rw [if_pos (by omega), if_pos (by omega), if_pos (by omega), e, if_pos hx]
   ·rw [getD_drop l 0 i (by omega), ← hx]
    simp
  ·obtain ⟨r, h1, h2⟩ := ih (i + 1) (by omega)
   refine ⟨r, Ev.step (fun k => ?_) h1, ?_⟩
   ·simp only [slices_Index_int_int.l0]
    rw [if_pos (by omega), if_pos (by omega), if_pos (by omega), e, if_neg hx, w]
   ·rw [getD_drop l 0 i (by omega), h2, List.mem_cons]
    exact ⟨.inr, fun h => h.elim (fun h => absurd h hx) id⟩
theorem contains_ev (l : List Int) (x : Int) (hl : l.length ≤ 9223372036854775807) : Ev (fun k => slices_Contains_int_int.f k l x) (decide (x ∈ l)) := by
 obtain ⟨r, h1, h2⟩ := index_loop l x hl l.length 0 (by omega)
 rw [List.drop_zero] at h2
 unfold slices_Contains_int_int.f
 refine Ev.bind (a := r) h1 ?_
 have : decide (r ≥ 0) = decide (x ∈ l) := by
  by_cases hx : x ∈ l
  ·rw [decide_eq_true hx, decide_eq_true (h2.2 hx)]
  ·rw [decide_eq_false hx, decide_eq_false (fun h => hx (h2.1 h))]
 rw [this]
 exact Ev.now _
def dups (l : List Int) : Prop := ¬ l.Nodup
def wild (l : List Int) : Prop := ∃ x ∈ l, x < 1 ∨ x > 9999999
theorem put_loop (items : List Int) (hi : items.length ≤ 1000) (d : Nat) : ∀ (i : Nat) (a : List S50), i + d = items.length → SS a → Pos a → a.length ≤ 1000000 + i → (items.drop i).Nodup →
  ∃ r, Ev (fun k => exposure_Record.l2 k a items (items.length : Int) (i : Int)) (r, 0) ∧ SS r ∧ Pos r ∧ r.length ≤ 1001000 ∧ ∀ x, tot r x = if x ∈ items.drop i then bd (tot a x + 1) else tot a x := by
 induction d with
 | zero =>
  intro i a hid ha pa hl hn
  refine ⟨a, Ev.last (fun k => ?_), ha, pa, by omega, fun x => ?_⟩
  ·simp only [exposure_Record.l2]
   rw [if_neg (by omega)]
  ·rw [List.drop_eq_nil_of_le (by omega)]
   simp
 | succ d ih =>
  intro i a hid ha pa hl hn
  have w := wrap_next (i := i) (n := items.length) (by omega) (by omega)
  obtain ⟨t, ht⟩ : ∃ t, t = items.getD i 0 := ⟨_, rfl⟩
  have e : rd items (i : Int) = t := by unfold rd; rw [Int.toNat_natCast, ht]
  have hd : items.drop i = t :: items.drop (i + 1) := by rw [ht]; exact getD_drop items 0 i (by omega)
  rw [hd] at hn ⊢
  rw [List.nodup_cons] at hn
  obtain ⟨p, p1, p2, p3, p4⟩ := search_ev a t ha (by omega)
  have fin : ∀ a' : List S50, (∀ x, tot a' x = if x = t then bd (tot a x + 1) else tot a x) → ∀ r, (∀ x, tot r x = if x ∈ items.drop (i + 1) then bd (tot a' x + 1) else tot a' x) → ∀ x, tot r x = if x ∈ t :: items.drop (i + 1) then bd (tot a x + 1) else tot a x := by
   intro a' h1 r h2 x
   rw [h2 x]
   by_cases hx : x = t
   ·subst hx
    rw [if_neg hn.1, if_pos List.mem_cons_self, h1, if_pos rfl]
   ·rw [h1, if_neg hx]
    by_cases hm : x ∈ items.drop (i + 1)
    ·rw [if_pos hm, if_pos (List.mem_cons_of_mem _ hm)]
    ·rw [if_neg hm, if_neg (fun h => (List.mem_cons.1 h).elim hx hm)]
  obtain ⟨G, hG⟩ : ∃ G : Nat → Int × Bool → Option (List S50 × Int), G = fun k bt264 => (if bt264.2 = true then (if 0 ≤ bt264.1 then (if bt264.1 < (a.length : Int) then ((exposure_bounded.f (wrap64 (((rd_T50 a bt264.1).f1) + 1))).bind fun t267 => (exposure_Record.l2 k (a.set (bt264.1 : Int).toNat (⟨(rd_T50 a bt264.1).f0, t267⟩ : S50)) items (items.length : Int) ((i + 1 : Nat) : Int))) else (none)) else (none)) else ((api_Use_47.f a bt264.1 (([(⟨t, 1⟩ : S50)] : List (S50)))).bind fun t272 => (exposure_Record.l2 k t272 items (items.length : Int) ((i + 1 : Nat) : Int)))) := ⟨_, rfl⟩
  have hstep : ∀ k, exposure_Record.l2 (k + 1) a items (items.length : Int) (i : Int) = (api_Use_int.f k a t 0).bind (G k) := fun k => by
   rw [hG]
   simp only [exposure_Record.l2]
   rw [if_pos (by omega), if_pos (by omega), if_pos (by omega), e, w]
  by_cases hf : p < a.length ∧ key a p = t
  ·rw [decide_eq_true hf] at p4
   obtain ⟨s1, s2, s3⟩ := put_found ha pa hf.1 (id := t) hf.2
   obtain ⟨r, r1, r2, r3, r5, r4⟩ := ih (i + 1) _ (by omega) s1 s2 (by rw [List.length_set]; omega) hn.2
   refine ⟨r, Ev.step hstep (Ev.bind p4 ?_), r2, r3, r5, fin _ s3 r r4⟩
   refine Ev.congr (fun k => ?_) r1
   have hpa := pa (a.getD p z50) (getD_mem a z50 p hf.1)
   rw [hG]
   simp only [if_true, Int.toNat_natCast, rd_T50]
   rw [if_pos (by omega), if_pos (by omega), wrap64_id (by omega) (by omega), bounded_eq, Option.bind_some]
  ·rw [decide_eq_false hf] at p4
   have h2 : ∀ j, p ≤ j → j < a.length → t < key a j := by
    intro j hj hj2
    have h3 := p3 j hj hj2
    rcases Nat.lt_or_ge p j with h | h
    ·have := ss_key ha p j h hj2
     have := p3 p (Nat.le_refl _) (by omega)
     omega
    ·have hpj : j = p := by omega
     subst hpj
     have : key a j ≠ t := fun hk => hf ⟨hj2, hk⟩
     omega
   obtain ⟨s1, s2, s3⟩ := put_new ha pa p1 (id := t) (mem_take_key p1 p2) (mem_drop_key h2)
   have hlen : (a.take p ++ [(⟨t, 1⟩ : S50)] ++ a.drop p).length = a.length + 1 := by simp only [List.length_append, List.length_take, List.length_drop, List.length_singleton]; omega
   obtain ⟨r, r1, r2, r3, r5, r4⟩ := ih (i + 1) _ (by omega) s1 s2 (by rw [hlen]; omega) hn.2
   refine ⟨r, Ev.step hstep (Ev.bind p4 ?_), r2, r3, r5, fin _ s3 r r4⟩
   refine Ev.congr (fun k => ?_) r1
   rw [hG]
   simp only [Bool.false_eq_true, if_false, api_Use_47.f]
   rw [if_pos (by omega), if_pos (by omega), if_pos (by simp), if_pos (by simp only [List.length_singleton]; omega), Option.bind_some, Int.toNat_natCast]
theorem range_loop (l : List S50) (hl : l.length ≤ 100000) (items : List Int) (hi : items.length ≤ 1000) (hn : items.Nodup) (d : Nat) : ∀ (i : Nat), i + d = items.length → (∀ x ∈ items.take i, ¬ (x < 1 ∨ x > 9999999)) →
  (wild items ∧ Ev (fun k => exposure_Record.l1 k l items items (items.length : Int) (i : Int)) ([], 3)) ∨
  (¬ wild items ∧ ∃ r, Ev (fun k => exposure_Record.l1 k l items items (items.length : Int) (i : Int)) (r, 0) ∧ SS r ∧ Pos r ∧ r.length ≤ 1001000 ∧ ∀ x, tot r x = if x ∈ items then bd (cnt l x + 1) else cnt l x) := by
 induction d with
 | zero =>
  intro i hid h0
  rw [List.take_of_length_le (by omega)] at h0
  refine .inr ⟨fun ⟨x, hx, h⟩ => h0 x hx h, ?_⟩
  have hk := keys_length (l.map (·.f0))
  rw [List.length_map] at hk
  have hnl := nrm_length l (keys (l.map (·.f0)))
  obtain ⟨r, r1, r2, r3, r5, r4⟩ := put_loop items hi items.length 0 (nrm l (keys (l.map (·.f0)))) (by omega) (nrm_ss l (keys_sorted _)) (nrm_pos _ _) (by omega) (by rw [List.drop_zero]; exact hn)
  refine ⟨r, ?_, r2, r3, r5, fun x => ?_⟩
  ·refine Ev.step (f := fun k => (exposure_normal.f k l).bind fun t260 => (exposure_Record.l2 k t260 items (items.length : Int) 0)) (fun k => ?_) (Ev.bind (normal_ev l (by omega)) r1)
   simp only [exposure_Record.l1]
   rw [if_neg (by omega)]
  ·have := r4 x
   rw [List.drop_zero, nrm_keys_tot] at this
   exact this
 | succ d ih =>
  intro i hid h0
  have w := wrap_next (i := i) (n := items.length) (by omega) (by omega)
  obtain ⟨t, ht⟩ : ∃ t, t = items.getD i 0 := ⟨_, rfl⟩
  have e : rd items (i : Int) = t := by unfold rd; rw [Int.toNat_natCast, ht]
  have hmem : t ∈ items := by rw [ht]; exact getD_mem items 0 i (by omega)
  by_cases hw : t < 1 ∨ t > 9999999
  ·refine .inl ⟨⟨t, hmem, hw⟩, Ev.last (fun k => ?_)⟩
   simp only [exposure_Record.l1]
   rw [if_pos (by omega), if_pos (by omega), if_pos (by omega), e]
   by_cases h1 : t < 1
   ·rw [if_pos h1]
   ·rw [if_neg h1, if_pos (by omega)]
  ·have hs : ∀ k, exposure_Record.l1 (k + 1) l items items (items.length : Int) (i : Int) = exposure_Record.l1 k l items items (items.length : Int) ((i + 1 : Nat) : Int) := fun k => by
    simp only [exposure_Record.l1]
    rw [if_pos (by omega), if_pos (by omega), if_pos (by omega), e, if_neg (by omega), if_neg (by omega), w]
   have h1 : ∀ x ∈ items.take (i + 1), ¬ (x < 1 ∨ x > 9999999) := by
    rw [take_snoc items 0 i (by omega), ← ht]
    intro x hx
    rcases List.mem_append.1 hx with hx | hx
    ·exact h0 x hx
    ·rw [List.mem_singleton.1 hx]; exact hw
   rcases ih (i + 1) (by omega) h1 with ⟨a1, a2⟩ | ⟨a1, r, a2, a3⟩
   ·exact .inl ⟨a1, Ev.step hs a2⟩
   ·exact .inr ⟨a1, r, Ev.step hs a2, a3⟩
theorem nodup_snoc {l : List Int} {t : Int} : (l ++ [t]).Nodup ↔ l.Nodup ∧ t ∉ l := by
 rw [List.nodup_append]
 constructor
 ·rintro ⟨h1, _, h3⟩
  exact ⟨h1, fun hm => h3 t hm t List.mem_cons_self rfl⟩
 ·rintro ⟨h1, h2⟩
  refine ⟨h1, by simp, ?_⟩
  intro a ha b hb hab
  rw [List.mem_singleton.1 hb] at hab
  exact h2 (hab ▸ ha)
theorem dup_loop (l : List S50) (hl : l.length ≤ 100000) (items : List Int) (hi : items.length ≤ 1000) (d : Nat) : ∀ (i : Nat), i + d = items.length → (items.take i).Nodup →
  (dups items ∧ Ev (fun k => exposure_Record.l0 k l items items (items.length : Int) (i : Int)) ([], 7)) ∨
  (¬ dups items ∧ wild items ∧ Ev (fun k => exposure_Record.l0 k l items items (items.length : Int) (i : Int)) ([], 3)) ∨
  (¬ dups items ∧ ¬ wild items ∧ ∃ r, Ev (fun k => exposure_Record.l0 k l items items (items.length : Int) (i : Int)) (r, 0) ∧ SS r ∧ Pos r ∧ r.length ≤ 1001000 ∧ ∀ x, tot r x = if x ∈ items then bd (cnt l x + 1) else cnt l x) := by
 induction d with
 | zero =>
  intro i hid h0
  rw [List.take_of_length_le (by omega)] at h0
  have hs : ∀ k, exposure_Record.l0 (k + 1) l items items (items.length : Int) (i : Int) = exposure_Record.l1 k l items items (items.length : Int) 0 := fun k => by
   simp only [exposure_Record.l0]
   rw [if_neg (by omega)]
  have hnd : ¬ dups items := fun h => h h0
  rcases range_loop l hl items hi h0 items.length 0 (by omega) (by simp) with ⟨a1, a2⟩ | ⟨a1, r, a2, a3⟩
  ·exact .inr (.inl ⟨hnd, a1, Ev.step hs a2⟩)
  ·exact .inr (.inr ⟨hnd, a1, r, Ev.step hs a2, a3⟩)
 | succ d ih =>
  intro i hid h0
  have w := wrap_next (i := i) (n := items.length) (by omega) (by omega)
  obtain ⟨t, ht⟩ : ∃ t, t = items.getD i 0 := ⟨_, rfl⟩
  have e : rd items (i : Int) = t := by unfold rd; rw [Int.toNat_natCast, ht]
  have hc := contains_ev (items.take i) t (by rw [List.length_take]; omega)
  have hs : ∀ k, exposure_Record.l0 (k + 1) l items items (items.length : Int) (i : Int) = (slices_Contains_int_int.f k (items.take i) t).bind fun t258 => (if t258 = true then (some (([] : List (S50)), 7)) else (exposure_Record.l0 k l items items (items.length : Int) ((i + 1 : Nat) : Int))) := fun k => by
   simp only [exposure_Record.l0]
   rw [if_pos (by omega), if_pos (by omega), if_pos (by omega), if_pos (by omega), e, w, Int.toNat_natCast]
  have hsn := take_snoc items 0 i (by omega)
  rw [← ht] at hsn
  by_cases hm : t ∈ items.take i
  ·refine .inl ⟨?_, Ev.step hs (Ev.bind hc (Ev.ite_pos (decide_eq_true hm) (Ev.now _)))⟩
   intro hnd
   have h1 : (items.take (i + 1)).Nodup := List.Sublist.nodup (List.take_sublist _ _) hnd
   rw [hsn, nodup_snoc] at h1
   exact h1.2 hm
  ·have h1 : (items.take (i + 1)).Nodup := by rw [hsn, nodup_snoc]; exact ⟨h0, hm⟩
   have hf : ¬ (decide (t ∈ items.take i) = true) := by simpa using hm
   rcases ih (i + 1) (by omega) h1 with ⟨a1, a2⟩ | ⟨a0, a1, a2⟩ | ⟨a0, a1, r, a2, a3⟩
   ·exact .inl ⟨a1, Ev.step hs (Ev.bind hc (Ev.ite_neg hf a2))⟩
   ·exact .inr (.inl ⟨a0, a1, Ev.step hs (Ev.bind hc (Ev.ite_neg hf a2))⟩)
   ·exact .inr (.inr ⟨a0, a1, r, Ev.step hs (Ev.bind hc (Ev.ite_neg hf a2)), a3⟩)
theorem record_ev (l : List S50) (hl : l.length ≤ 100000) (items : List Int) (hi : items.length ≤ 1000) :
  (dups items ∧ Ev (fun k => exposure_Record.f k l items) ([], 7)) ∨
  (¬ dups items ∧ wild items ∧ Ev (fun k => exposure_Record.f k l items) ([], 3)) ∨
  (¬ dups items ∧ ¬ wild items ∧ ∃ r, Ev (fun k => exposure_Record.f k l items) (r, 0) ∧ SS r ∧ Pos r ∧ r.length ≤ 1001000 ∧ ∀ x, tot r x = if x ∈ items then bd (cnt l x + 1) else cnt l x) :=
 dup_loop l hl items hi items.length 0 (by omega) (by simp)
theorem uses_self (a : List S50) (ha : a.length ≤ 9223372036854775807) : Ev (fun k => examboardlaw37_uses.f k a a) true := by
 unfold examboardlaw37_uses.f
 refine Ev.ite_pos rfl ?_
 have key : ∀ d i : Nat, i + d = a.length → Ev (fun k => examboardlaw37_uses.l0 k a a (i : Int)) true := by
  intro d
  induction d with
  | zero =>
   intro i hi
   refine Ev.last (fun k => ?_)
   simp only [examboardlaw37_uses.l0]
   rw [if_neg (by omega)]
  | succ d ih =>
   intro i hi
   have w := wrap_next (i := i) (n := a.length) (by omega) (by omega)
   refine Ev.step (fun k => ?_) (ih (i + 1) (by omega))
   simp only [examboardlaw37_uses.l0]
   rw [if_pos (by omega), if_pos (by omega), if_pos (by omega), if_neg (by simp), w]
 exact key a.length 0 (by omega)
theorem each_loop (l items : List _) (a : List S50) (hl : l.length ≤ 100000) (hi : items.length ≤ 1000) (hal : a.length ≤ 1001000) (ht : ∀ x, tot a x = if x ∈ items then bd (cnt l x + 1) else cnt l x) (d : Nat) : ∀ (i : Nat), i + d = items.length →
  Ev (fun k => examboardlaw37_ExposureOrder.l3 k l items a (i : Int)) true := by
 induction d with
 | zero =>
  intro i hid
  refine Ev.last (fun k => ?_)
  simp only [examboardlaw37_ExposureOrder.l3]
  rw [if_neg (by omega)]
 | succ d ih =>
  intro i hid
  have w := wrap_next (i := i) (n := items.length) (by omega) (by omega)
  obtain ⟨t, htt⟩ : ∃ t, t = items.getD i 0 := ⟨_, rfl⟩
  have e : rd items (i : Int) = t := by unfold rd; rw [Int.toNat_natCast, htt]
  have hmem : t ∈ items := by rw [htt]; exact getD_mem items 0 i (by omega)
  have h1 := count_ev l t (by omega)
  have h2 := count_ev a t (by omega)
  have hb := cnt_bounds l t
  have hca : cnt a t = bd (cnt l t + 1) := by
   unfold cnt at *
   rw [ht t, if_pos hmem, bd_id (bd_bounds _).1 (bd_bounds _).2]
  have hs : ∀ k, examboardlaw37_ExposureOrder.l3 (k + 1) l items a (i : Int) = (exposure_Count.f k l t).bind fun t298 => ((exposure_Count.f k a t).bind fun t300 => (if t300 = (wrap64 (t298 + 1)) then (examboardlaw37_ExposureOrder.l3 k l items a ((i + 1 : Nat) : Int)) else (if t300 = t298 then (if t298 = 1000000 then (examboardlaw37_ExposureOrder.l3 k l items a ((i + 1 : Nat) : Int)) else (some false)) else (some false)))) := fun k => by
   simp only [examboardlaw37_ExposureOrder.l3]
   rw [if_pos (by omega), if_pos (by omega), e, w]
  refine Ev.step hs (Ev.bind h1 (Ev.bind h2 ?_))
  have hk := ih (i + 1) (by omega)
  by_cases h3 : cnt a t = wrap64 (cnt l t + 1)
  ·exact Ev.ite_pos h3 hk
  ·have hw : wrap64 (cnt l t + 1) = cnt l t + 1 := wrap64_id (by omega) (by omega)
   rw [hw] at h3
   have h4 : cnt l t = 1000000 := by
    rw [hca] at h3
    unfold bd at h3
    split at h3
    ·omega
    ·split at h3
     ·omega
     ·omega
   have h5 : cnt a t = cnt l t := by rw [hca, h4]; decide
   rw [← hw] at h3
   exact Ev.ite_neg h3 (Ev.ite_pos h5 (Ev.ite_pos h4 hk))
theorem form_loop (l items : List _) (a : List S50) (hl : l.length ≤ 100000) (hi : items.length ≤ 1000) (hal : a.length ≤ 1001000) (ha : SS a) (pa : Pos a) (ht : ∀ x, tot a x = if x ∈ items then bd (cnt l x + 1) else cnt l x) (d : Nat) : ∀ (i : Nat), i + d = a.length →
  Ev (fun k => examboardlaw37_ExposureOrder.l2 k l items a (i : Int)) true := by
 induction d with
 | zero =>
  intro i hid
  refine Ev.step (fun k => ?_) (each_loop l items a hl hi hal ht items.length 0 (by omega))
  simp only [examboardlaw37_ExposureOrder.l2]
  rw [if_neg (by omega)]
  rfl
 | succ d ih =>
  intro i hid
  have w := wrap_next (i := i) (n := a.length) (by omega) (by omega)
  have hp := pa (a.getD i z50) (getD_mem a z50 i (by omega))
  have e : rd_T50 a (i : Int) = a.getD i z50 := by unfold rd_T50; rw [Int.toNat_natCast]
  refine Ev.step (fun k => ?_) (ih (i + 1) (by omega))
  simp only [examboardlaw37_ExposureOrder.l2]
  rw [if_pos (by omega), if_pos (by omega), e, if_neg (by omega)]
  by_cases h0 : (i : Int) > 0
  ·have w1 : wrap64 ((i : Int) - 1) = ((i - 1 : Nat) : Int) := by rw [wrap64_id (by omega) (by omega)]; omega
   have e1 : rd_T50 a ((i - 1 : Nat) : Int) = a.getD (i - 1) z50 := by unfold rd_T50; rw [Int.toNat_natCast]
   have hk := ss_key ha (i - 1) i (by omega) (by omega)
   unfold key at hk
   rw [if_pos h0, w1, if_pos (by omega), if_pos (by omega), e1, if_neg (by omega), w]
  ·rw [if_neg h0, w]
theorem back_items (l items : List _) (a : List S50) (e : Int) (b : List S50) (hi : items.length ≤ 1000) {r : Bool} (h : Ev (fun k => (exposure_Record.f k b items.reverse).bind fun bt289 => (if e = bt289.2 then ((examboardlaw37_uses.f k a bt289.1).bind fun t293 => (if t293 = true then (examboardlaw37_ExposureOrder.j3 k l items a e bt289.1 bt289.2 (e != 0)) else (examboardlaw37_ExposureOrder.j3 k l items a e bt289.1 bt289.2 true))) else (examboardlaw37_ExposureOrder.j3 k l items a e bt289.1 bt289.2 true))) r) (i : Nat) : i ≤ items.length →
  Ev (fun k => examboardlaw37_ExposureOrder.l1 k l items a e b (items.drop i).reverse ((i : Int) - 1)) r := by
 induction i with
 | zero =>
  intro _
  refine Ev.step (fun k => ?_) h
  simp only [examboardlaw37_ExposureOrder.l1]
  rw [if_neg (by omega), List.drop_zero]
 | succ i ih =>
  intro hle
  have w : wrap64 (((i + 1 : Nat) : Int) - 1 - 1) = (i : Int) - 1 := by rw [wrap64_id (by omega) (by omega)]; omega
  have e1 : rd items (((i + 1 : Nat) : Int) - 1) = items.getD i 0 := by unfold rd; rw [show ((((i + 1 : Nat) : Int) - 1)).toNat = i by omega]
  have h1 := ih (by omega)
  rw [getD_drop items 0 i (by omega), List.reverse_cons] at h1
  refine Ev.step (fun k => ?_) h1
  simp only [examboardlaw37_ExposureOrder.l1]
  rw [if_pos (by omega), if_pos (by omega), if_pos (by omega), if_pos (by rw [List.length_reverse, List.length_drop]; omega), w, e1]
theorem back_uses (l : List S50) (items : List Int) (a : List S50) (e : Int) (hl : l.length ≤ 1000) (hi : items.length ≤ 1000) {r : Bool} (h : Ev (fun k => (exposure_Record.f k l.reverse items.reverse).bind fun bt289 => (if e = bt289.2 then ((examboardlaw37_uses.f k a bt289.1).bind fun t293 => (if t293 = true then (examboardlaw37_ExposureOrder.j3 k l items a e bt289.1 bt289.2 (e != 0)) else (examboardlaw37_ExposureOrder.j3 k l items a e bt289.1 bt289.2 true))) else (examboardlaw37_ExposureOrder.j3 k l items a e bt289.1 bt289.2 true))) r) (i : Nat) : i ≤ l.length →
  Ev (fun k => examboardlaw37_ExposureOrder.l0 k l items a e (l.drop i).reverse ((i : Int) - 1)) r := by
 induction i with
 | zero =>
  intro _
  have h1 := back_items l items a e l.reverse hi h items.length (Nat.le_refl _)
  rw [List.drop_length, List.reverse_nil] at h1
  have w : wrap64 ((items.length : Int) - 1) = (items.length : Int) - 1 := wrap64_id (by omega) (by omega)
  refine Ev.step (fun k => ?_) h1
  simp only [examboardlaw37_ExposureOrder.l0]
  rw [if_neg (by omega), List.drop_zero, w]
 | succ i ih =>
  intro hle
  have w : wrap64 (((i + 1 : Nat) : Int) - 1 - 1) = (i : Int) - 1 := by rw [wrap64_id (by omega) (by omega)]; omega
  have e1 : rd_T50 l (((i + 1 : Nat) : Int) - 1) = l.getD i z50 := by unfold rd_T50; rw [show ((((i + 1 : Nat) : Int) - 1)).toNat = i by omega]
  have h1 := ih (by omega)
  rw [getD_drop l z50 i (by omega), List.reverse_cons] at h1
  refine Ev.step (fun k => ?_) h1
  simp only [examboardlaw37_ExposureOrder.l0]
  rw [if_pos (by omega), if_pos (by omega), if_pos (by omega), if_pos (by rw [List.length_reverse, List.length_drop]; omega), w, e1]
theorem dups_reverse (l : List Int) : dups l.reverse ↔ dups l := by
 unfold dups List.Nodup
 rw [List.pairwise_reverse]
 exact not_congr ⟨fun h => h.imp (fun h => Ne.symm h), fun h => h.imp (fun h => Ne.symm h)⟩
theorem wild_reverse (l : List Int) : wild l.reverse ↔ wild l := by unfold wild; simp only [List.mem_reverse]
theorem order_main (l : List S50) (items : List Int) (hl : l.length ≤ 100) (hi : items.length ≤ 30) : Ev (fun k => examboardlaw37_ExposureOrder.j0 k l items false) true := by
 have w0 : wrap64 ((l.length : Int) - 1) = (l.length : Int) - 1 := wrap64_id (by omega) (by omega)
 have hs : ∀ k, examboardlaw37_ExposureOrder.j0 (k + 1) l items false = (exposure_Record.f k l items).bind fun bt277 => (examboardlaw37_ExposureOrder.l0 k l items bt277.1 bt277.2 ([] : List (S50)) ((l.length : Int) - 1)) := fun k => by
  simp only [examboardlaw37_ExposureOrder.j0]
  rw [if_neg (by decide), w0]
 have back : ∀ (a : List S50) (e : Int), Ev (fun k => (exposure_Record.f k l.reverse items.reverse).bind fun bt289 => (if e = bt289.2 then ((examboardlaw37_uses.f k a bt289.1).bind fun t293 => (if t293 = true then (examboardlaw37_ExposureOrder.j3 k l items a e bt289.1 bt289.2 (e != 0)) else (examboardlaw37_ExposureOrder.j3 k l items a e bt289.1 bt289.2 true))) else (examboardlaw37_ExposureOrder.j3 k l items a e bt289.1 bt289.2 true))) true →
   Ev (fun k => examboardlaw37_ExposureOrder.l0 k l items a e ([] : List (S50)) ((l.length : Int) - 1)) true := fun a e h => by
  have h1 := back_uses l items a e (by omega) (by omega) h l.length (Nat.le_refl _)
  rw [List.drop_length, List.reverse_nil] at h1
  exact h1
 have nilcase : ∀ e : Int, Ev (fun k => exposure_Record.f k l.reverse items.reverse) ([], e) → e ≠ 0 → Ev (fun k => examboardlaw37_ExposureOrder.l0 k l items [] e ([] : List (S50)) ((l.length : Int) - 1)) true := fun e h he => by
  refine back [] e (Ev.bind h (Ev.ite_pos rfl (Ev.bind (uses_self [] (by decide)) (Ev.ite_pos rfl ?_))))
  refine Ev.last (fun k => ?_)
  simp only [examboardlaw37_ExposureOrder.j3]
  rw [if_pos (by simpa using he)]
  rfl
 rcases record_ev l (by omega) items (by omega) with ⟨a1, a2⟩ | ⟨a0, a1, a2⟩ | ⟨a0, a1, r, a2, a3, a4, a5, a6⟩
 ·rcases record_ev l.reverse (by rw [List.length_reverse]; omega) items.reverse (by rw [List.length_reverse]; omega) with ⟨b1, b2⟩ | ⟨b0, b1, b2⟩ | ⟨b0, _⟩
  ·exact Ev.step hs (Ev.bind a2 (nilcase 7 b2 (by decide)))
  ·exact absurd ((dups_reverse items).2 a1) b0
  ·exact absurd ((dups_reverse items).2 a1) b0
 ·rcases record_ev l.reverse (by rw [List.length_reverse]; omega) items.reverse (by rw [List.length_reverse]; omega) with ⟨b1, b2⟩ | ⟨b0, b1, b2⟩ | ⟨b0, b1, _⟩
  ·exact absurd ((dups_reverse items).1 b1) a0
  ·exact Ev.step hs (Ev.bind a2 (nilcase 3 b2 (by decide)))
  ·exact absurd ((wild_reverse items).2 a1) b1
 ·rcases record_ev l.reverse (by rw [List.length_reverse]; omega) items.reverse (by rw [List.length_reverse]; omega) with ⟨b1, b2⟩ | ⟨b0, b1, b2⟩ | ⟨b0, b1, q, b2, b3, b4, b5, b6⟩
  ·exact absurd ((dups_reverse items).1 b1) a0
  ·exact absurd ((wild_reverse items).1 b1) a1
  ·have hq : q = r := canon_eq b3 b4 a3 a4 (fun x => by
    rw [a6 x, b6 x, cnt_reverse]
    simp only [List.mem_reverse])
   subst hq
   refine Ev.step hs (Ev.bind a2 (back q 0 (Ev.bind b2 (Ev.ite_pos rfl (Ev.bind (uses_self q (by omega)) (Ev.ite_pos rfl ?_))))))
   refine Ev.step (fun k => ?_) (form_loop l items q (by omega) (by omega) a5 a3 a4 a6 q.length 0 (by omega))
   simp only [examboardlaw37_ExposureOrder.j3]
   rw [if_neg (by decide)]
   rfl
theorem order_law (l : List S50) (items : List Int) : Ev (fun k => examboardlaw37_ExposureOrder.f k l items) true := by
 have stop : Ev (fun k => examboardlaw37_ExposureOrder.j0 k l items true) true := Ev.last (fun k => by simp only [examboardlaw37_ExposureOrder.j0, if_true])
 unfold examboardlaw37_ExposureOrder.f
 by_cases h1 : (l.length : Int) > 100
 ·exact Ev.ite_pos h1 stop
 ·refine Ev.ite_neg h1 ?_
  by_cases h2 : (items.length : Int) > 30
  ·rw [decide_eq_true h2]; exact stop
  ·rw [decide_eq_false h2]; exact order_main l items (by omega) (by omega)
end Go.Proofs.Ythamhjmhgcpdgaa.Ord
end
