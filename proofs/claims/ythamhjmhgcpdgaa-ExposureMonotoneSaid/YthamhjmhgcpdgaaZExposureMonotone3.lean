/- Lemmas and contracts for the law ExposureMonotone: words of the print, contracts of the functions that the law reaches, and what these compute, as far as the law needs them; packed by a program of this session. -/
import Derived.Test.YthamhjmhgcpdgaaZExposureMonotone2
section
namespace Go.Proofs.Ythamhjmhgcpdgaa.Q
open Go.RowKit Go.Proofs.YthamhjmhgcpdgaaW.PrintWords Go.Proofs.YthamhjmhgcpdgaaW.PrintLast Go.Proofs.YthamhjmhgcpdgaaW.PrintMore Go.Proofs.Ythamhjmhgcpdgaa.MyWords
attribute [local go_sem] max2_int min2_int max_two min_two
set_option linter.unusedVariables false
set_option linter.unusedSimpArgs false
def ratio_Mul.T3 : Bool × List (List Nat × List Nat) := (true, [([], []), ([], []), ([0, 1], [0, 1]), ([], []), ([3], [3]), ([], []), ([5], [5]), ([4, 6, 2], [4, 6]), ([2, 7, 7], [2, 7]), ([8, 8, 0, 1, 2, 3, 4, 5, 6, 7, 8], [8])])
def ratio_Mul.B3 : List Nat := [0, 0, 3, 0, 8, 0, 32, 127, 255, 511]
theorem ratio_Mul.tab3 : rtab .any (opsOf Try.f27 3) = ratio_Mul.T3 := by kernel_rfl
theorem ratio_Mul.bits3 : waitsOk ratio_Mul.T3.2 ratio_Mul.B3 = true := by kernel_rfl
set_option maxHeartbeats 8000000 in
set_option maxRecDepth 100000 in
theorem ratio_Mul.calls (k : Nat) (a0_0 : Bool) (P0_1_ : Nat → Prop) (A0_1 : Option Addr) (c0_1 : Nat) (l0_1 : List Int) (A0_2 : Option Addr) (c0_2 : Nat) (l0_2 : List Int) (a1_0 : Bool) (P1_1_ : Nat → Prop) (A1_1 : Option Addr) (c1_1 : Nat) (l1_1 : List Int) (A1_2 : Option Addr) (c1_2 : Nat) (l1_2 : List Int) (r1 : Bool) (r2 : List Int) (r3 : List Int) (w : World) (hs0_1 : Kd.V (Kd.int .u32) 87 w w.heap.size (fun k_ => P0_1_ k_) (.slice A0_1 l0_1.length c0_1) l0_1) (hr0_2 : Kd.C (Kd.int .u32) w A0_2 l0_2.length l0_2) (hc0_2 : l0_2.length ≤ c0_2) (hs1_1 : Kd.V (Kd.int .u32) 87 w w.heap.size (fun k_ => P1_1_ k_) (.slice A1_1 l1_1.length c1_1) l1_1) (hr1_2 : Kd.C (Kd.int .u32) w A1_2 l1_2.length l1_2) (hc1_2 : l1_2.length ≤ c1_2) (h : ratio_Mul.f k a0_0 l0_1 l0_2 a1_0 l1_1 l1_2 = some (r1, r2, r3)) :
    Calls Try.prog 27 #[.agg #[.bool a0_0, .slice A0_1 l0_1.length c0_1, .slice A0_2 l0_2.length c0_2], .agg #[.bool a1_0, .slice A1_1 l1_1.length c1_1, .slice A1_2 l1_2.length c1_2]] w fun e w' => ∃ v1_ v2_ : Value, e = .returned (.agg #[.bool r1, v1_, v2_]) ∧ Kd.R (Kd.int .u32) 87 w' w.heap.size (fun k_ => (w.heap.size ≤ k_)) v1_ r2 ∧ Kd.V (Kd.int .u32) 87 w' w.heap.size (fun k_ => ((P0_1_ k_ ∨ P1_1_ k_) ∨ w.heap.size ≤ k_) ∧ some k_ ≠ (v1_ : Value).ownBlock) v2_ r3 ∧ Below w.heap.size w w' := by
  have hu29 := Try.underlying29
  have hu27 := Try.underlying27
  have HO0_1 := mk0 (show Kd.V (Kd.int .u32) 87 w w.heap.size (fun k_ => ((P0_1_ k_ ∨ P1_1_ k_) ∨ w.heap.size ≤ k_)) (.slice A0_1 l0_1.length c0_1) l0_1 from Kd.V_mono hs0_1 (fun k_ hk => .inl (.inl hk)))
  have HR0_2 := mk0 hr0_2
  have HC0_2 := mk0 hc0_2
  clear hr0_2 hc0_2
  have HO1_1 := mk0 (show Kd.V (Kd.int .u32) 87 w w.heap.size (fun k_ => ((P0_1_ k_ ∨ P1_1_ k_) ∨ w.heap.size ≤ k_)) (.slice A1_1 l1_1.length c1_1) l1_1 from Kd.V_mono hs1_1 (fun k_ hk => .inl (.inr hk)))
  have HR1_2 := mk0 hr1_2
  have HC1_2 := mk0 hc1_2
  clear hr1_2 hc1_2
  have HB := mk0 (Below.refl w.heap.size w)
  have H : ((ratio_parts.f k a0_0 l0_1 l0_2).bind fun bt816 => ((ratio_parts.f k a1_0 l1_1 l1_2).bind fun bt826 => ((integer_Mul.f k bt816.1 bt816.2.1 bt826.1 bt826.2.1).bind fun bt836 => ((nat_Mul.f k bt816.2.2.2 bt826.2.2.2).bind fun t840 => ((ratio_lowest.f k bt836.1 bt836.2 t840).bind fun bt843 => (some (bt843.1, bt843.2.1, bt843.2.2))))))) = some (r1, r2, r3) := h
  clear h
  obtain ⟨⟨t816, t817, t820, t821⟩, A3, H⟩ := bindA H
  obtain ⟨⟨t826, t827, t830, t831⟩, A4, H⟩ := bindA H
  obtain ⟨⟨t836, t837⟩, A5, H⟩ := bindA H
  obtain ⟨t840, A6, H⟩ := bindA H
  obtain ⟨⟨t843, t844, t847⟩, A7, H⟩ := bindA H
  simp only [Option.some.injEq, Prod.mk.injEq] at H
  obtain ⟨rfl, rfl, rfl⟩ := H
  go_enter Try.func27, Try.ntmps27
  try go_wp2_with (first | ((with_reducible refine gate_dst (N := 2) rfl ?_); refine box_event rfl (N := 2) rfl (cs := #[.bool a0_0, .slice A0_1 l0_1.length c0_1, .slice A0_2 l0_2.length c0_2]) (t := 29) (by first | (go_simp; done) | (go_simp; rfl)) ?_; intro gb813 hg w8 hbox hb; replace HO0_1 := vB HO0_1 hg hb; replace HO1_1 := vB HO1_1 hg hb; have BK813 := mk0 (hbox); have GE813 := geB hg HB; replace HB := hbS HB hb; clear hb hbox hg) | ((with_reducible refine gate_dst (N := 3) rfl ?_); refine box_event rfl (N := 3) rfl (cs := #[.bool a1_0, .slice A1_1 l1_1.length c1_1, .slice A1_2 l1_2.length c1_2]) (t := 29) (by first | (go_simp; done) | (go_simp; rfl)) ?_; intro gb814 hg w9 hbox hb; replace HO0_1 := vB HO0_1 hg hb; replace HO1_1 := vB HO1_1 hg hb; have BK814 := mk0 (hbox); have GE814 := geB hg HB; replace HB := hbS HB hb; have NB813_814 := nbA hg BK813; have NB814_813 := nbB hg BK813; replace BK813 := bkB BK813 hb; clear hb hbox hg) | ((with_reducible refine gate_dst (N := 4) rfl ?_); refine box_event rfl (N := 4) rfl (cs := #[.bool false, .slice none 0 0, .slice none 0 0]) (t := 29) (by first | (go_simp; done) | (go_simp; rfl)) ?_; intro gb815 hg w10 hbox hb; replace HO0_1 := vB HO0_1 hg hb; replace HO1_1 := vB HO1_1 hg hb; have BK815 := mk0 (hbox); have GE815 := geB hg HB; replace HB := hbS HB hb; have NB813_815 := nbA hg BK813; have NB815_813 := nbB hg BK813; replace BK813 := bkB BK813 hb; have NB814_815 := nbA hg BK814; have NB815_814 := nbB hg BK814; replace BK814 := bkB BK814 hb; clear hb hbox hg; have hnb11 := NB813_814.out; have hnc11 := NB814_813.out; have hnb12 := NB813_815.out; have hnc12 := NB815_813.out; have hcz13_0 : w10.cell? ⟨gb813, 0, none⟩ = some (.bool a0_0) := (blk_cell BK813.out 0).trans rfl; have hcz13_1 : w10.cell? ⟨gb813, 1, none⟩ = some (.slice A0_1 l0_1.length c0_1) := (blk_cell BK813.out 1).trans rfl; have hcz13_2 : w10.cell? ⟨gb813, 2, none⟩ = some (.slice A0_2 l0_2.length c0_2) := (blk_cell BK813.out 2).trans rfl; have hfz13_0 := blk_frozen BK813.out 0; have hfz13_1 := blk_frozen BK813.out 1; have hfz13_2 := blk_frozen BK813.out 2) | ((with_reducible refine gate_callee (f := 36) rfl ?_); refine goesL_ (some 11) rfl rfl Try.func36 (by kernel_rfl) rfl #[.agg #[.bool a0_0, .slice A0_1 l0_1.length c0_1, .slice A0_2 l0_2.length c0_2]] rfl (by first | (go_simp; done) | (go_simp; rfl)) ?_; (with_reducible refine (ratio_parts.calls k a0_0 (fun k_ => (((((P0_1_ k_ ∨ P1_1_ k_) ∨ w.heap.size ≤ k_) ∧ k_ ≠ gb813) ∧ k_ ≠ gb814) ∧ k_ ≠ gb815)) _ _ l0_1 _ _ l0_2 t816 t817 t820 t821 _ HO0_1.out (by exact Kd.C_below HR0_2.out HB.out) HC0_2.out A3.out).mono ?_); rintro e w14 ⟨v818, v822, rfl, ho0, ho1, hb⟩; refine ⟨_, rfl, ?_⟩; replace HO0_1 := mk0 (Kd.V_elder' HO0_1.out (Kd.R_base ho1) hb); replace HO1_1 := mk0 (Kd.V_elder' HO1_1.out (Kd.R_base ho1) hb); have HO819 := mk0 (Kd.V_lower (Kd.V_mono (ok' := fun k_ => ((P0_1_ k_ ∨ P1_1_ k_) ∨ w.heap.size ≤ k_) ∧ some k_ ≠ (v822 : Value).ownBlock ∧ k_ ≠ gb813 ∧ k_ ≠ gb814 ∧ k_ ≠ gb815) ho0 (fun k_ hk_ => ⟨Or.elim hk_.1 (fun hs_ => hs_.1.1.1) (fun hn_ => (.inr (Nat.le_trans (below_size HB.out) hn_))), hk_.2, Or.elim hk_.1 (fun hs_ => hs_.1.1.2) (fun hn_ => (Kd.freshB BK813.out k_ hn_)), Or.elim hk_.1 (fun hs_ => hs_.1.2) (fun hn_ => (Kd.freshB BK814.out k_ hn_)), Or.elim hk_.1 (fun hs_ => hs_.2) (fun hn_ => (Kd.freshB BK815.out k_ hn_))⟩)) (below_size HB.out)); have HO823 := mk0 (Kd.R_lower (Kd.R_newM (M := fun k_ => (w.heap.size ≤ k_)) (Kd.R_mono (ok' := fun k_ => True) ho1 (fun _ hk_ => trivial)) (below_size HB.out) (fun k_ h_ => h_)) (below_size HB.out)); replace BK813 := bkB BK813 hb; replace BK814 := bkB BK814 hb; replace BK815 := bkB BK815 hb; replace HB := hbS HB hb) | ((with_reducible refine gate_dst (N := 5) rfl ?_); refine box_event rfl (N := 5) rfl (cs := #[.bool false, .slice none 0 0]) (t := 27) (by first | (go_simp; done) | (go_simp; rfl)) ?_; intro gb824 hg w15 hbox hb; replace HO0_1 := vB HO0_1 hg hb; replace HO1_1 := vB HO1_1 hg hb; replace HO819 := vB HO819 hg hb; replace HO823 := rB HO823 hb; have BK824 := mk0 (hbox); have GE824 := geB hg HB; replace HB := hbS HB hb; have NB813_824 := nbA hg BK813; have NB824_813 := nbB hg BK813; replace BK813 := bkB BK813 hb; have NB814_824 := nbA hg BK814; have NB824_814 := nbB hg BK814; replace BK814 := bkB BK814 hb; have NB815_824 := nbA hg BK815; have NB824_815 := nbB hg BK815; replace BK815 := bkB BK815 hb; clear hb hbox hg) | ((with_reducible refine gate_dst (N := 6) rfl ?_); refine box_event rfl (N := 6) rfl (cs := #[.bool false, .slice none 0 0]) (t := 27) (by first | (go_simp; done) | (go_simp; rfl)) ?_; intro gb825 hg w16 hbox hb; replace HO0_1 := vB HO0_1 hg hb; replace HO1_1 := vB HO1_1 hg hb; replace HO819 := vB HO819 hg hb; replace HO823 := rB HO823 hb; have BK825 := mk0 (hbox); have GE825 := geB hg HB; replace HB := hbS HB hb; have NB813_825 := nbA hg BK813; have NB825_813 := nbB hg BK813; replace BK813 := bkB BK813 hb; have NB814_825 := nbA hg BK814; have NB825_814 := nbB hg BK814; replace BK814 := bkB BK814 hb; have NB815_825 := nbA hg BK815; have NB825_815 := nbB hg BK815; replace BK815 := bkB BK815 hb; have NB824_825 := nbA hg BK824; have NB825_824 := nbB hg BK824; replace BK824 := bkB BK824 hb; clear hb hbox hg; have hnb17 := NB824_813.out; have hnc17 := NB813_824.out; have hnb18 := NB824_814.out; have hnc18 := NB814_824.out; have hnb19 := NB824_815.out; have hnc19 := NB815_824.out; have hnb20 := NB824_825.out; have hnc20 := NB825_824.out; have hcz21_0 : w16.cell? ⟨gb824, 0, none⟩ = some (.bool false) := (blk_cell BK824.out 0).trans rfl; have hcz21_1 : w16.cell? ⟨gb824, 1, none⟩ = some (.slice none 0 0) := (blk_cell BK824.out 1).trans rfl; have hfz21_0 := blk_frozen BK824.out 0; have hfz21_1 := blk_frozen BK824.out 1; obtain ⟨Ao22, co22, eo22⟩ := Kd.V_slice HO819.out; subst eo22) | ((with_reducible refine gate_store (t := 27) (p := 5) rfl ?_); refine store_event (t := 27) (p := 5) (v := ?vo_w23) (w1 := ((w16.setCell ⟨gb824, 0, none⟩ (.bool t816)).setCell ⟨gb824, 1, none⟩ (.slice Ao22 t817.length co22))) ?hg ?ho ?hn ?hr ?_; (case ho => rfl); (case hg => rfl); (case hn => rfl); (case hr => first | (go_simp; done) | (go_simp; rfl)); intro w23 hw; replace HO0_1 : Aside0 (Kd.V (Kd.int .u32) 87 w23 w.heap.size (fun k_ => ((P0_1_ k_ ∨ P1_1_ k_) ∨ w.heap.size ≤ k_) ∧ some k_ ≠ (v822 : Value).ownBlock ∧ k_ ≠ gb813 ∧ k_ ≠ gb814 ∧ k_ ≠ gb815 ∧ k_ ≠ gb824 ∧ k_ ≠ gb825) (.slice A0_1 l0_1.length c0_1) l0_1) := ⟨(by rw [hw]; exact (Kd.V_mono (Kd.V_far (p := ⟨gb824, 1, none⟩) (Kd.V_far (p := ⟨gb824, 0, none⟩) (Kd.V_mono HO0_1.out (fun k_ hk => (⟨hk, hk.1.2⟩ : _ ∧ k_ ≠ gb824))) (fun _ hk => hk.2) (.bool t816)) (fun _ hk => hk.2) (.slice Ao22 t817.length co22)) (fun _ hk => ⟨hk.1.1.1.1.1.1.1, ⟨hk.1.1.1.2, ⟨hk.1.1.1.1.1.1.2, ⟨hk.1.1.1.1.1.2, ⟨hk.1.1.1.1.2, ⟨hk.1.1.2, hk.1.2⟩⟩⟩⟩⟩⟩)))⟩; replace HO1_1 : Aside0 (Kd.V (Kd.int .u32) 87 w23 w.heap.size (fun k_ => ((P0_1_ k_ ∨ P1_1_ k_) ∨ w.heap.size ≤ k_) ∧ some k_ ≠ (v822 : Value).ownBlock ∧ k_ ≠ gb813 ∧ k_ ≠ gb814 ∧ k_ ≠ gb815 ∧ k_ ≠ gb824 ∧ k_ ≠ gb825) (.slice A1_1 l1_1.length c1_1) l1_1) := ⟨(by rw [hw]; exact (Kd.V_mono (Kd.V_far (p := ⟨gb824, 1, none⟩) (Kd.V_far (p := ⟨gb824, 0, none⟩) (Kd.V_mono HO1_1.out (fun k_ hk => (⟨hk, hk.1.2⟩ : _ ∧ k_ ≠ gb824))) (fun _ hk => hk.2) (.bool t816)) (fun _ hk => hk.2) (.slice Ao22 t817.length co22)) (fun _ hk => ⟨hk.1.1.1.1.1.1.1, ⟨hk.1.1.1.2, ⟨hk.1.1.1.1.1.1.2, ⟨hk.1.1.1.1.1.2, ⟨hk.1.1.1.1.2, ⟨hk.1.1.2, hk.1.2⟩⟩⟩⟩⟩⟩)))⟩; replace HO819 : Aside0 (Kd.V (Kd.int .u32) 87 w23 w.heap.size (fun k_ => ((P0_1_ k_ ∨ P1_1_ k_) ∨ w.heap.size ≤ k_) ∧ some k_ ≠ (v822 : Value).ownBlock ∧ k_ ≠ gb813 ∧ k_ ≠ gb814 ∧ k_ ≠ gb815 ∧ k_ ≠ gb824 ∧ k_ ≠ gb825) (.slice Ao22 t817.length co22) t817) := ⟨(by rw [hw]; exact (Kd.V_mono (Kd.V_far (p := ⟨gb824, 1, none⟩) (Kd.V_far (p := ⟨gb824, 0, none⟩) (Kd.V_mono HO819.out (fun k_ hk => (⟨hk, hk.1.2⟩ : _ ∧ k_ ≠ gb824))) (fun _ hk => hk.2) (.bool t816)) (fun _ hk => hk.2) (.slice Ao22 t817.length co22)) (fun _ hk => ⟨hk.1.1.1.1, ⟨hk.1.1.1.2.1, ⟨hk.1.1.1.2.2.1, ⟨hk.1.1.1.2.2.2.1, ⟨hk.1.1.1.2.2.2.2, ⟨hk.1.1.2, hk.1.2⟩⟩⟩⟩⟩⟩)))⟩; replace HO823 : Aside0 (Kd.R (Kd.int .u32) 87 w23 w.heap.size (fun k_ => (w.heap.size ≤ k_)) v822 t821) := ⟨(by rw [hw]; exact (Kd.R_mono (Kd.R_far (p := ⟨gb824, 1, none⟩) (Kd.R_far (p := ⟨gb824, 0, none⟩) (Kd.R_types HO823.out BK824.out (by decide)) (fun _ hk => hk.2) (.bool t816)) (fun _ hk => hk.2) (.slice Ao22 t817.length co22)) (fun _ hk => hk.1.1)))⟩; replace BK813 := far2 hw BK813 NB813_824; replace BK814 := far2 hw BK814 NB814_824; replace BK815 := far2 hw BK815 NB815_824; replace BK824 : Aside0 (w23.heap[gb824]? = some (.cells #[.bool t816, .slice Ao22 t817.length co22] 27 (0, 0))) := put2 hw BK824; replace BK825 := far2 hw BK825 NB825_824; replace HB : Aside0 (Below w.heap.size w w23) := ⟨(by rw [hw]; exact (by repeat (first | exact HB.out | refine below_set ?_ GE815.out | refine below_set ?_ GE824.out | refine below_set ?_ GE825.out)))⟩; clear hw; have hnb24 := NB825_813.out; have hnc24 := NB813_825.out; have hnb25 := NB825_814.out; have hnc25 := NB814_825.out; have hnb26 := NB825_815.out; have hnc26 := NB815_825.out; have hcz27_0 : w23.cell? ⟨gb825, 0, none⟩ = some (.bool false) := (blk_cell BK825.out 0).trans rfl; have hcz27_1 : w23.cell? ⟨gb825, 1, none⟩ = some (.slice none 0 0) := (blk_cell BK825.out 1).trans rfl; have hfz27_0 := blk_frozen BK825.out 0; have hfz27_1 := blk_frozen BK825.out 1; obtain ⟨Ao28, co28, eo28⟩ := Kd.R_slice HO823.out; subst eo28) | ((with_reducible refine gate_store (t := 27) (p := 6) rfl ?_); refine store_event (t := 27) (p := 6) (v := ?vo_w29) (w1 := ((w23.setCell ⟨gb825, 0, none⟩ (.bool t820)).setCell ⟨gb825, 1, none⟩ (.slice Ao28 t821.length co28))) ?hg ?ho ?hn ?hr ?_; (case ho => rfl); (case hg => rfl); (case hn => rfl); (case hr => first | (go_simp; done) | (go_simp; rfl)); intro w29 hw; replace HO0_1 : Aside0 (Kd.V (Kd.int .u32) 87 w29 w.heap.size (fun k_ => ((P0_1_ k_ ∨ P1_1_ k_) ∨ w.heap.size ≤ k_) ∧ some k_ ≠ (.slice Ao28 t821.length co28 : Value).ownBlock ∧ k_ ≠ gb813 ∧ k_ ≠ gb814 ∧ k_ ≠ gb815 ∧ k_ ≠ gb824 ∧ k_ ≠ gb825) (.slice A0_1 l0_1.length c0_1) l0_1) := ⟨(by rw [hw]; exact (Kd.V_mono (Kd.V_far (p := ⟨gb825, 1, none⟩) (Kd.V_far (p := ⟨gb825, 0, none⟩) (Kd.V_mono HO0_1.out (fun k_ hk => (⟨hk, hk.2.2.2.2.2.2⟩ : _ ∧ k_ ≠ gb825))) (fun _ hk => hk.2) (.bool t820)) (fun _ hk => hk.2) (.slice Ao28 t821.length co28)) (fun _ hk => ⟨hk.1.1, ⟨hk.1.2.1, ⟨hk.1.2.2.1, ⟨hk.1.2.2.2.1, ⟨hk.1.2.2.2.2.1, ⟨hk.1.2.2.2.2.2.1, hk.1.2.2.2.2.2.2⟩⟩⟩⟩⟩⟩)))⟩; replace HO1_1 : Aside0 (Kd.V (Kd.int .u32) 87 w29 w.heap.size (fun k_ => ((P0_1_ k_ ∨ P1_1_ k_) ∨ w.heap.size ≤ k_) ∧ some k_ ≠ (.slice Ao28 t821.length co28 : Value).ownBlock ∧ k_ ≠ gb813 ∧ k_ ≠ gb814 ∧ k_ ≠ gb815 ∧ k_ ≠ gb824 ∧ k_ ≠ gb825) (.slice A1_1 l1_1.length c1_1) l1_1) := ⟨(by rw [hw]; exact (Kd.V_mono (Kd.V_far (p := ⟨gb825, 1, none⟩) (Kd.V_far (p := ⟨gb825, 0, none⟩) (Kd.V_mono HO1_1.out (fun k_ hk => (⟨hk, hk.2.2.2.2.2.2⟩ : _ ∧ k_ ≠ gb825))) (fun _ hk => hk.2) (.bool t820)) (fun _ hk => hk.2) (.slice Ao28 t821.length co28)) (fun _ hk => ⟨hk.1.1, ⟨hk.1.2.1, ⟨hk.1.2.2.1, ⟨hk.1.2.2.2.1, ⟨hk.1.2.2.2.2.1, ⟨hk.1.2.2.2.2.2.1, hk.1.2.2.2.2.2.2⟩⟩⟩⟩⟩⟩)))⟩; replace HO819 : Aside0 (Kd.V (Kd.int .u32) 87 w29 w.heap.size (fun k_ => ((P0_1_ k_ ∨ P1_1_ k_) ∨ w.heap.size ≤ k_) ∧ some k_ ≠ (.slice Ao28 t821.length co28 : Value).ownBlock ∧ k_ ≠ gb813 ∧ k_ ≠ gb814 ∧ k_ ≠ gb815 ∧ k_ ≠ gb824 ∧ k_ ≠ gb825) (.slice Ao22 t817.length co22) t817) := ⟨(by rw [hw]; exact (Kd.V_mono (Kd.V_far (p := ⟨gb825, 1, none⟩) (Kd.V_far (p := ⟨gb825, 0, none⟩) (Kd.V_mono HO819.out (fun k_ hk => (⟨hk, hk.2.2.2.2.2.2⟩ : _ ∧ k_ ≠ gb825))) (fun _ hk => hk.2) (.bool t820)) (fun _ hk => hk.2) (.slice Ao28 t821.length co28)) (fun _ hk => ⟨hk.1.1, ⟨hk.1.2.1, ⟨hk.1.2.2.1, ⟨hk.1.2.2.2.1, ⟨hk.1.2.2.2.2.1, ⟨hk.1.2.2.2.2.2.1, hk.1.2.2.2.2.2.2⟩⟩⟩⟩⟩⟩)))⟩; replace HO823 : Aside0 (Kd.R (Kd.int .u32) 87 w29 w.heap.size (fun k_ => (w.heap.size ≤ k_)) (.slice Ao28 t821.length co28) t821) := ⟨(by rw [hw]; exact (Kd.R_mono (Kd.R_far (p := ⟨gb825, 1, none⟩) (Kd.R_far (p := ⟨gb825, 0, none⟩) (Kd.R_types HO823.out BK825.out (by decide)) (fun _ hk => hk.2) (.bool t820)) (fun _ hk => hk.2) (.slice Ao28 t821.length co28)) (fun _ hk => hk.1)))⟩; replace BK813 := far2 hw BK813 NB813_825; replace BK814 := far2 hw BK814 NB814_825; replace BK815 := far2 hw BK815 NB815_825; replace BK824 := far2 hw BK824 NB824_825; replace BK825 : Aside0 (w29.heap[gb825]? = some (.cells #[.bool t820, .slice Ao28 t821.length co28] 27 (0, 0))) := put2 hw BK825; replace HB : Aside0 (Below w.heap.size w w29) := ⟨(by rw [hw]; exact (by repeat (first | exact HB.out | refine below_set ?_ GE815.out | refine below_set ?_ GE824.out | refine below_set ?_ GE825.out)))⟩; clear hw; have hnb30 := NB814_815.out; have hnc30 := NB815_814.out; have hcz31_0 : w29.cell? ⟨gb814, 0, none⟩ = some (.bool a1_0) := (blk_cell BK814.out 0).trans rfl; have hcz31_1 : w29.cell? ⟨gb814, 1, none⟩ = some (.slice A1_1 l1_1.length c1_1) := (blk_cell BK814.out 1).trans rfl; have hcz31_2 : w29.cell? ⟨gb814, 2, none⟩ = some (.slice A1_2 l1_2.length c1_2) := (blk_cell BK814.out 2).trans rfl; have hfz31_0 := blk_frozen BK814.out 0; have hfz31_1 := blk_frozen BK814.out 1; have hfz31_2 := blk_frozen BK814.out 2) | ((with_reducible refine gate_callee (f := 36) rfl ?_); refine goesL_ (some 16) rfl rfl Try.func36 (by kernel_rfl) rfl #[.agg #[.bool a1_0, .slice A1_1 l1_1.length c1_1, .slice A1_2 l1_2.length c1_2]] rfl (by first | (go_simp; done) | (go_simp; rfl)) ?_; (with_reducible refine (ratio_parts.calls k a1_0 (fun k_ => (((P0_1_ k_ ∨ P1_1_ k_) ∨ w.heap.size ≤ k_) ∧ (some k_ ≠ (.slice Ao28 t821.length co28 : Value).ownBlock ∧ (k_ ≠ gb813 ∧ (k_ ≠ gb814 ∧ (k_ ≠ gb815 ∧ (k_ ≠ gb824 ∧ k_ ≠ gb825))))))) _ _ l1_1 _ _ l1_2 t826 t827 t830 t831 _ HO1_1.out (by exact Kd.C_below HR1_2.out HB.out) HC1_2.out A4.out).mono ?_); rintro e w32 ⟨v828, v832, rfl, ho0, ho1, hb⟩; refine ⟨_, rfl, ?_⟩; replace HO0_1 := mk0 (Kd.V_elder' HO0_1.out (Kd.R_base ho1) hb); replace HO1_1 := mk0 (Kd.V_elder' HO1_1.out (Kd.R_base ho1) hb); replace HO819 := mk0 (Kd.V_elder' HO819.out (Kd.R_base ho1) hb); have HO829 := mk0 (Kd.V_lower (Kd.V_mono (ok' := fun k_ => ((P0_1_ k_ ∨ P1_1_ k_) ∨ w.heap.size ≤ k_) ∧ some k_ ≠ (v832 : Value).ownBlock ∧ some k_ ≠ (.slice Ao28 t821.length co28 : Value).ownBlock ∧ k_ ≠ gb813 ∧ k_ ≠ gb814 ∧ k_ ≠ gb815 ∧ k_ ≠ gb824 ∧ k_ ≠ gb825) ho0 (fun k_ hk_ => ⟨Or.elim hk_.1 (fun hs_ => hs_.1) (fun hn_ => (.inr (Nat.le_trans (below_size HB.out) hn_))), hk_.2, Or.elim hk_.1 (fun hs_ => hs_.2.1) (fun hn_ => (Kd.fresh' (Kd.R_lt HO823.out) k_ hn_)), Or.elim hk_.1 (fun hs_ => hs_.2.2.1) (fun hn_ => (Kd.freshB BK813.out k_ hn_)), Or.elim hk_.1 (fun hs_ => hs_.2.2.2.1) (fun hn_ => (Kd.freshB BK814.out k_ hn_)), Or.elim hk_.1 (fun hs_ => hs_.2.2.2.2.1) (fun hn_ => (Kd.freshB BK815.out k_ hn_)), Or.elim hk_.1 (fun hs_ => hs_.2.2.2.2.2.1) (fun hn_ => (Kd.freshB BK824.out k_ hn_)), Or.elim hk_.1 (fun hs_ => hs_.2.2.2.2.2.2) (fun hn_ => (Kd.freshB BK825.out k_ hn_))⟩)) (below_size HB.out)); have HO833 := mk0 (Kd.R_lower (Kd.R_new' (Kd.R_newM (M := fun k_ => (w.heap.size ≤ k_)) (Kd.R_mono (ok' := fun k_ => True) ho1 (fun _ hk_ => trivial)) (below_size HB.out) (fun k_ h_ => h_)) (Kd.R_lt HO823.out)) (below_size HB.out)); replace HO823 := mk0 (Kd.R_elder' HO823.out (Kd.R_base ho1) hb); replace BK813 := bkB BK813 hb; replace BK814 := bkB BK814 hb; replace BK815 := bkB BK815 hb; replace BK824 := bkB BK824 hb; replace BK825 := bkB BK825 hb; replace HB := hbS HB hb) | ((with_reducible refine gate_dst (N := 7) rfl ?_); refine box_event rfl (N := 7) rfl (cs := #[.bool false, .slice none 0 0]) (t := 27) (by first | (go_simp; done) | (go_simp; rfl)) ?_; intro gb834 hg w33 hbox hb; replace HO0_1 := vB HO0_1 hg hb; replace HO1_1 := vB HO1_1 hg hb; replace HO819 := vB HO819 hg hb; replace HO823 := rB HO823 hb; replace HO829 := vB HO829 hg hb; replace HO833 := rB HO833 hb; have BK834 := mk0 (hbox); have GE834 := geB hg HB; replace HB := hbS HB hb; have NB813_834 := nbA hg BK813; have NB834_813 := nbB hg BK813; replace BK813 := bkB BK813 hb; have NB814_834 := nbA hg BK814; have NB834_814 := nbB hg BK814; replace BK814 := bkB BK814 hb; have NB815_834 := nbA hg BK815; have NB834_815 := nbB hg BK815; replace BK815 := bkB BK815 hb; have NB824_834 := nbA hg BK824; have NB834_824 := nbB hg BK824; replace BK824 := bkB BK824 hb; have NB825_834 := nbA hg BK825; have NB834_825 := nbB hg BK825; replace BK825 := bkB BK825 hb; clear hb hbox hg) | ((with_reducible refine gate_dst (N := 8) rfl ?_); refine box_event rfl (N := 8) rfl (cs := #[.bool false, .slice none 0 0]) (t := 27) (by first | (go_simp; done) | (go_simp; rfl)) ?_; intro gb835 hg w34 hbox hb; replace HO0_1 := vB HO0_1 hg hb; replace HO1_1 := vB HO1_1 hg hb; replace HO819 := vB HO819 hg hb; replace HO823 := rB HO823 hb; replace HO829 := vB HO829 hg hb; replace HO833 := rB HO833 hb; have BK835 := mk0 (hbox); have GE835 := geB hg HB; replace HB := hbS HB hb; have NB813_835 := nbA hg BK813; have NB835_813 := nbB hg BK813; replace BK813 := bkB BK813 hb; have NB814_835 := nbA hg BK814; have NB835_814 := nbB hg BK814; replace BK814 := bkB BK814 hb; have NB815_835 := nbA hg BK815; have NB835_815 := nbB hg BK815; replace BK815 := bkB BK815 hb; have NB824_835 := nbA hg BK824; have NB835_824 := nbB hg BK824; replace BK824 := bkB BK824 hb; have NB825_835 := nbA hg BK825; have NB835_825 := nbB hg BK825; replace BK825 := bkB BK825 hb; have NB834_835 := nbA hg BK834; have NB835_834 := nbB hg BK834; replace BK834 := bkB BK834 hb; clear hb hbox hg; have hnb35 := NB834_813.out; have hnc35 := NB813_834.out; have hnb36 := NB834_814.out; have hnc36 := NB814_834.out; have hnb37 := NB834_815.out; have hnc37 := NB815_834.out; have hnb38 := NB834_824.out; have hnc38 := NB824_834.out; have hnb39 := NB834_825.out; have hnc39 := NB825_834.out; have hnb40 := NB834_835.out; have hnc40 := NB835_834.out; have hcz41_0 : w34.cell? ⟨gb834, 0, none⟩ = some (.bool false) := (blk_cell BK834.out 0).trans rfl; have hcz41_1 : w34.cell? ⟨gb834, 1, none⟩ = some (.slice none 0 0) := (blk_cell BK834.out 1).trans rfl; have hfz41_0 := blk_frozen BK834.out 0; have hfz41_1 := blk_frozen BK834.out 1; obtain ⟨Ao42, co42, eo42⟩ := Kd.V_slice HO829.out; subst eo42; have hnb43 := NB835_813.out; have hnc43 := NB813_835.out; have hnb44 := NB835_814.out; have hnc44 := NB814_835.out; have hnb45 := NB835_815.out; have hnc45 := NB815_835.out; have hnb46 := NB835_824.out; have hnc46 := NB824_835.out; have hnb47 := NB835_825.out; have hnc47 := NB825_835.out; have hcz48_0 : w34.cell? ⟨gb835, 0, none⟩ = some (.bool false) := (blk_cell BK835.out 0).trans rfl; have hcz48_1 : w34.cell? ⟨gb835, 1, none⟩ = some (.slice none 0 0) := (blk_cell BK835.out 1).trans rfl; have hfz48_0 := blk_frozen BK835.out 0; have hfz48_1 := blk_frozen BK835.out 1; obtain ⟨Ao49, co49, eo49⟩ := Kd.R_slice HO833.out; subst eo49))
  have n0_ : Aside0 (Kd.V (Kd.int .u32) 87 ((((w34.setCell ⟨gb834, 0, none⟩ (.bool t826)).setCell ⟨gb834, 1, none⟩ (.slice Ao42 t827.length co42)).setCell ⟨gb835, 0, none⟩ (.bool t830)).setCell ⟨gb835, 1, none⟩ (.slice Ao49 t831.length co49)) w.heap.size (fun k_ => ((P0_1_ k_ ∨ P1_1_ k_) ∨ w.heap.size ≤ k_) ∧ some k_ ≠ (.slice Ao28 t821.length co28 : Value).ownBlock ∧ some k_ ≠ (.slice Ao49 t831.length co49 : Value).ownBlock ∧ k_ ≠ gb813 ∧ k_ ≠ gb814 ∧ k_ ≠ gb815 ∧ k_ ≠ gb824 ∧ k_ ≠ gb825 ∧ k_ ≠ gb834 ∧ k_ ≠ gb835) (.slice A0_1 l0_1.length c0_1) l0_1) := ⟨Kd.V_mono (Kd.V_far (p := ⟨gb835, 1, none⟩) (Kd.V_far (p := ⟨gb835, 0, none⟩) (Kd.V_far (p := ⟨gb834, 1, none⟩) (Kd.V_far (p := ⟨gb834, 0, none⟩) (Kd.V_mono (Kd.V_mono HO0_1.out (fun k_ hk => (⟨hk, hk.1.2⟩ : _ ∧ k_ ≠ gb834))) (fun k_ hk => (⟨hk, hk.1.2⟩ : _ ∧ k_ ≠ gb835))) (fun _ hk => hk.1.2) (.bool t826)) (fun _ hk => hk.1.2) (.slice Ao42 t827.length co42)) (fun _ hk => hk.2) (.bool t830)) (fun _ hk => hk.2) (.slice Ao49 t831.length co49)) (fun _ hk => ⟨hk.1.1.1.1.1.1, ⟨hk.1.1.1.1.1.2.1, ⟨hk.1.1.1.1.2, ⟨hk.1.1.1.1.1.2.2.1, ⟨hk.1.1.1.1.1.2.2.2.1, ⟨hk.1.1.1.1.1.2.2.2.2.1, ⟨hk.1.1.1.1.1.2.2.2.2.2.1, ⟨hk.1.1.1.1.1.2.2.2.2.2.2, ⟨hk.1.1.1.2, hk.1.1.2⟩⟩⟩⟩⟩⟩⟩⟩⟩)⟩
  have n1_ : Aside0 (Kd.V (Kd.int .u32) 87 ((((w34.setCell ⟨gb834, 0, none⟩ (.bool t826)).setCell ⟨gb834, 1, none⟩ (.slice Ao42 t827.length co42)).setCell ⟨gb835, 0, none⟩ (.bool t830)).setCell ⟨gb835, 1, none⟩ (.slice Ao49 t831.length co49)) w.heap.size (fun k_ => ((P0_1_ k_ ∨ P1_1_ k_) ∨ w.heap.size ≤ k_) ∧ some k_ ≠ (.slice Ao28 t821.length co28 : Value).ownBlock ∧ some k_ ≠ (.slice Ao49 t831.length co49 : Value).ownBlock ∧ k_ ≠ gb813 ∧ k_ ≠ gb814 ∧ k_ ≠ gb815 ∧ k_ ≠ gb824 ∧ k_ ≠ gb825 ∧ k_ ≠ gb834 ∧ k_ ≠ gb835) (.slice A1_1 l1_1.length c1_1) l1_1) := ⟨Kd.V_mono (Kd.V_far (p := ⟨gb835, 1, none⟩) (Kd.V_far (p := ⟨gb835, 0, none⟩) (Kd.V_far (p := ⟨gb834, 1, none⟩) (Kd.V_far (p := ⟨gb834, 0, none⟩) (Kd.V_mono (Kd.V_mono HO1_1.out (fun k_ hk => (⟨hk, hk.1.2⟩ : _ ∧ k_ ≠ gb834))) (fun k_ hk => (⟨hk, hk.1.2⟩ : _ ∧ k_ ≠ gb835))) (fun _ hk => hk.1.2) (.bool t826)) (fun _ hk => hk.1.2) (.slice Ao42 t827.length co42)) (fun _ hk => hk.2) (.bool t830)) (fun _ hk => hk.2) (.slice Ao49 t831.length co49)) (fun _ hk => ⟨hk.1.1.1.1.1.1, ⟨hk.1.1.1.1.1.2.1, ⟨hk.1.1.1.1.2, ⟨hk.1.1.1.1.1.2.2.1, ⟨hk.1.1.1.1.1.2.2.2.1, ⟨hk.1.1.1.1.1.2.2.2.2.1, ⟨hk.1.1.1.1.1.2.2.2.2.2.1, ⟨hk.1.1.1.1.1.2.2.2.2.2.2, ⟨hk.1.1.1.2, hk.1.1.2⟩⟩⟩⟩⟩⟩⟩⟩⟩)⟩
  have n2_ : Aside0 (Kd.V (Kd.int .u32) 87 ((((w34.setCell ⟨gb834, 0, none⟩ (.bool t826)).setCell ⟨gb834, 1, none⟩ (.slice Ao42 t827.length co42)).setCell ⟨gb835, 0, none⟩ (.bool t830)).setCell ⟨gb835, 1, none⟩ (.slice Ao49 t831.length co49)) w.heap.size (fun k_ => ((P0_1_ k_ ∨ P1_1_ k_) ∨ w.heap.size ≤ k_) ∧ some k_ ≠ (.slice Ao28 t821.length co28 : Value).ownBlock ∧ some k_ ≠ (.slice Ao49 t831.length co49 : Value).ownBlock ∧ k_ ≠ gb813 ∧ k_ ≠ gb814 ∧ k_ ≠ gb815 ∧ k_ ≠ gb824 ∧ k_ ≠ gb825 ∧ k_ ≠ gb834 ∧ k_ ≠ gb835) (.slice Ao22 t817.length co22) t817) := ⟨Kd.V_mono (Kd.V_far (p := ⟨gb835, 1, none⟩) (Kd.V_far (p := ⟨gb835, 0, none⟩) (Kd.V_far (p := ⟨gb834, 1, none⟩) (Kd.V_far (p := ⟨gb834, 0, none⟩) (Kd.V_mono (Kd.V_mono HO819.out (fun k_ hk => (⟨hk, hk.1.2⟩ : _ ∧ k_ ≠ gb834))) (fun k_ hk => (⟨hk, hk.1.2⟩ : _ ∧ k_ ≠ gb835))) (fun _ hk => hk.1.2) (.bool t826)) (fun _ hk => hk.1.2) (.slice Ao42 t827.length co42)) (fun _ hk => hk.2) (.bool t830)) (fun _ hk => hk.2) (.slice Ao49 t831.length co49)) (fun _ hk => ⟨hk.1.1.1.1.1.1, ⟨hk.1.1.1.1.1.2.1, ⟨hk.1.1.1.1.2, ⟨hk.1.1.1.1.1.2.2.1, ⟨hk.1.1.1.1.1.2.2.2.1, ⟨hk.1.1.1.1.1.2.2.2.2.1, ⟨hk.1.1.1.1.1.2.2.2.2.2.1, ⟨hk.1.1.1.1.1.2.2.2.2.2.2, ⟨hk.1.1.1.2, hk.1.1.2⟩⟩⟩⟩⟩⟩⟩⟩⟩)⟩
  have n3_ : Aside0 (Kd.R (Kd.int .u32) 87 ((((w34.setCell ⟨gb834, 0, none⟩ (.bool t826)).setCell ⟨gb834, 1, none⟩ (.slice Ao42 t827.length co42)).setCell ⟨gb835, 0, none⟩ (.bool t830)).setCell ⟨gb835, 1, none⟩ (.slice Ao49 t831.length co49)) w.heap.size (fun k_ => (w.heap.size ≤ k_) ∧ some k_ ≠ (.slice Ao49 t831.length co49 : Value).ownBlock) (.slice Ao28 t821.length co28) t821) := ⟨Kd.R_mono (Kd.R_far (p := ⟨gb835, 1, none⟩) (Kd.R_far (p := ⟨gb835, 0, none⟩) (Kd.R_far (p := ⟨gb834, 1, none⟩) (Kd.R_far (p := ⟨gb834, 0, none⟩) (Kd.R_types (Kd.R_types HO823.out BK834.out (by decide)) BK835.out (by decide)) (fun _ hk => hk.1.2) (.bool t826)) (fun _ hk => hk.1.2) (.slice Ao42 t827.length co42)) (fun _ hk => hk.2) (.bool t830)) (fun _ hk => hk.2) (.slice Ao49 t831.length co49)) (fun _ hk => ⟨hk.1.1.1, hk.1.1.2⟩)⟩
  have n4_ : Aside0 (Kd.V (Kd.int .u32) 87 ((((w34.setCell ⟨gb834, 0, none⟩ (.bool t826)).setCell ⟨gb834, 1, none⟩ (.slice Ao42 t827.length co42)).setCell ⟨gb835, 0, none⟩ (.bool t830)).setCell ⟨gb835, 1, none⟩ (.slice Ao49 t831.length co49)) w.heap.size (fun k_ => ((P0_1_ k_ ∨ P1_1_ k_) ∨ w.heap.size ≤ k_) ∧ some k_ ≠ (.slice Ao28 t821.length co28 : Value).ownBlock ∧ some k_ ≠ (.slice Ao49 t831.length co49 : Value).ownBlock ∧ k_ ≠ gb813 ∧ k_ ≠ gb814 ∧ k_ ≠ gb815 ∧ k_ ≠ gb824 ∧ k_ ≠ gb825 ∧ k_ ≠ gb834 ∧ k_ ≠ gb835) (.slice Ao42 t827.length co42) t827) := ⟨Kd.V_mono (Kd.V_far (p := ⟨gb835, 1, none⟩) (Kd.V_far (p := ⟨gb835, 0, none⟩) (Kd.V_far (p := ⟨gb834, 1, none⟩) (Kd.V_far (p := ⟨gb834, 0, none⟩) (Kd.V_mono (Kd.V_mono HO829.out (fun k_ hk => (⟨hk, hk.1.2⟩ : _ ∧ k_ ≠ gb834))) (fun k_ hk => (⟨hk, hk.1.2⟩ : _ ∧ k_ ≠ gb835))) (fun _ hk => hk.1.2) (.bool t826)) (fun _ hk => hk.1.2) (.slice Ao42 t827.length co42)) (fun _ hk => hk.2) (.bool t830)) (fun _ hk => hk.2) (.slice Ao49 t831.length co49)) (fun _ hk => ⟨hk.1.1.1.1.1, ⟨hk.1.1.1.1.2.2.1, ⟨hk.1.1.1.1.2.1, ⟨hk.1.1.1.1.2.2.2.1, ⟨hk.1.1.1.1.2.2.2.2.1, ⟨hk.1.1.1.1.2.2.2.2.2.1, ⟨hk.1.1.1.1.2.2.2.2.2.2.1, ⟨hk.1.1.1.1.2.2.2.2.2.2.2, ⟨hk.1.1.1.2, hk.1.1.2⟩⟩⟩⟩⟩⟩⟩⟩⟩)⟩
  have n5_ : Aside0 (Kd.R (Kd.int .u32) 87 ((((w34.setCell ⟨gb834, 0, none⟩ (.bool t826)).setCell ⟨gb834, 1, none⟩ (.slice Ao42 t827.length co42)).setCell ⟨gb835, 0, none⟩ (.bool t830)).setCell ⟨gb835, 1, none⟩ (.slice Ao49 t831.length co49)) w.heap.size (fun k_ => (w.heap.size ≤ k_) ∧ some k_ ≠ (.slice Ao28 t821.length co28 : Value).ownBlock) (.slice Ao49 t831.length co49) t831) := ⟨Kd.R_mono (Kd.R_far (p := ⟨gb835, 1, none⟩) (Kd.R_far (p := ⟨gb835, 0, none⟩) (Kd.R_far (p := ⟨gb834, 1, none⟩) (Kd.R_far (p := ⟨gb834, 0, none⟩) (Kd.R_types (Kd.R_types HO833.out BK834.out (by decide)) BK835.out (by decide)) (fun _ hk => hk.1.2) (.bool t826)) (fun _ hk => hk.1.2) (.slice Ao42 t827.length co42)) (fun _ hk => hk.2) (.bool t830)) (fun _ hk => hk.2) (.slice Ao49 t831.length co49)) (fun _ hk => ⟨hk.1.1.1.1, hk.1.1.2⟩)⟩
  have n6_ : Aside0 (((((w34.setCell ⟨gb834, 0, none⟩ (.bool t826)).setCell ⟨gb834, 1, none⟩ (.slice Ao42 t827.length co42)).setCell ⟨gb835, 0, none⟩ (.bool t830)).setCell ⟨gb835, 1, none⟩ (.slice Ao49 t831.length co49)).heap[gb813]? = some (.cells #[.bool a0_0, .slice A0_1 l0_1.length c0_1, .slice A0_2 l0_2.length c0_2] 29 (0, 0))) := ⟨by (with_reducible repeat (first | refine blk_drewN ?_ _ | refine blk_drew ?_ | refine blk_alloc ?_ _)); refine blk_far ?_ NB813_835.out _; (with_reducible repeat (first | refine blk_drewN ?_ _ | refine blk_drew ?_ | refine blk_alloc ?_ _)); refine blk_far ?_ NB813_835.out _; (with_reducible repeat (first | refine blk_drewN ?_ _ | refine blk_drew ?_ | refine blk_alloc ?_ _)); refine blk_far ?_ NB813_834.out _; (with_reducible repeat (first | refine blk_drewN ?_ _ | refine blk_drew ?_ | refine blk_alloc ?_ _)); refine blk_far ?_ NB813_834.out _; (with_reducible repeat (first | refine blk_drewN ?_ _ | refine blk_drew ?_ | refine blk_alloc ?_ _)); exact BK813.out⟩
  have n7_ : Aside0 (((((w34.setCell ⟨gb834, 0, none⟩ (.bool t826)).setCell ⟨gb834, 1, none⟩ (.slice Ao42 t827.length co42)).setCell ⟨gb835, 0, none⟩ (.bool t830)).setCell ⟨gb835, 1, none⟩ (.slice Ao49 t831.length co49)).heap[gb814]? = some (.cells #[.bool a1_0, .slice A1_1 l1_1.length c1_1, .slice A1_2 l1_2.length c1_2] 29 (0, 0))) := ⟨by (with_reducible repeat (first | refine blk_drewN ?_ _ | refine blk_drew ?_ | refine blk_alloc ?_ _)); refine blk_far ?_ NB814_835.out _; (with_reducible repeat (first | refine blk_drewN ?_ _ | refine blk_drew ?_ | refine blk_alloc ?_ _)); refine blk_far ?_ NB814_835.out _; (with_reducible repeat (first | refine blk_drewN ?_ _ | refine blk_drew ?_ | refine blk_alloc ?_ _)); refine blk_far ?_ NB814_834.out _; (with_reducible repeat (first | refine blk_drewN ?_ _ | refine blk_drew ?_ | refine blk_alloc ?_ _)); refine blk_far ?_ NB814_834.out _; (with_reducible repeat (first | refine blk_drewN ?_ _ | refine blk_drew ?_ | refine blk_alloc ?_ _)); exact BK814.out⟩
  have n8_ : Aside0 (((((w34.setCell ⟨gb834, 0, none⟩ (.bool t826)).setCell ⟨gb834, 1, none⟩ (.slice Ao42 t827.length co42)).setCell ⟨gb835, 0, none⟩ (.bool t830)).setCell ⟨gb835, 1, none⟩ (.slice Ao49 t831.length co49)).heap[gb815]? = some (.cells #[.bool false, .slice none 0 0, .slice none 0 0] 29 (0, 0))) := ⟨by (with_reducible repeat (first | refine blk_drewN ?_ _ | refine blk_drew ?_ | refine blk_alloc ?_ _)); refine blk_far ?_ NB815_835.out _; (with_reducible repeat (first | refine blk_drewN ?_ _ | refine blk_drew ?_ | refine blk_alloc ?_ _)); refine blk_far ?_ NB815_835.out _; (with_reducible repeat (first | refine blk_drewN ?_ _ | refine blk_drew ?_ | refine blk_alloc ?_ _)); refine blk_far ?_ NB815_834.out _; (with_reducible repeat (first | refine blk_drewN ?_ _ | refine blk_drew ?_ | refine blk_alloc ?_ _)); refine blk_far ?_ NB815_834.out _; (with_reducible repeat (first | refine blk_drewN ?_ _ | refine blk_drew ?_ | refine blk_alloc ?_ _)); exact BK815.out⟩
  have n9_ : Aside0 (((((w34.setCell ⟨gb834, 0, none⟩ (.bool t826)).setCell ⟨gb834, 1, none⟩ (.slice Ao42 t827.length co42)).setCell ⟨gb835, 0, none⟩ (.bool t830)).setCell ⟨gb835, 1, none⟩ (.slice Ao49 t831.length co49)).heap[gb824]? = some (.cells #[.bool t816, .slice Ao22 t817.length co22] 27 (0, 0))) := ⟨by (with_reducible repeat (first | refine blk_drewN ?_ _ | refine blk_drew ?_ | refine blk_alloc ?_ _)); refine blk_far ?_ NB824_835.out _; (with_reducible repeat (first | refine blk_drewN ?_ _ | refine blk_drew ?_ | refine blk_alloc ?_ _)); refine blk_far ?_ NB824_835.out _; (with_reducible repeat (first | refine blk_drewN ?_ _ | refine blk_drew ?_ | refine blk_alloc ?_ _)); refine blk_far ?_ NB824_834.out _; (with_reducible repeat (first | refine blk_drewN ?_ _ | refine blk_drew ?_ | refine blk_alloc ?_ _)); refine blk_far ?_ NB824_834.out _; (with_reducible repeat (first | refine blk_drewN ?_ _ | refine blk_drew ?_ | refine blk_alloc ?_ _)); exact BK824.out⟩
  have n10_ : Aside0 (((((w34.setCell ⟨gb834, 0, none⟩ (.bool t826)).setCell ⟨gb834, 1, none⟩ (.slice Ao42 t827.length co42)).setCell ⟨gb835, 0, none⟩ (.bool t830)).setCell ⟨gb835, 1, none⟩ (.slice Ao49 t831.length co49)).heap[gb825]? = some (.cells #[.bool t820, .slice Ao28 t821.length co28] 27 (0, 0))) := ⟨by (with_reducible repeat (first | refine blk_drewN ?_ _ | refine blk_drew ?_ | refine blk_alloc ?_ _)); refine blk_far ?_ NB825_835.out _; (with_reducible repeat (first | refine blk_drewN ?_ _ | refine blk_drew ?_ | refine blk_alloc ?_ _)); refine blk_far ?_ NB825_835.out _; (with_reducible repeat (first | refine blk_drewN ?_ _ | refine blk_drew ?_ | refine blk_alloc ?_ _)); refine blk_far ?_ NB825_834.out _; (with_reducible repeat (first | refine blk_drewN ?_ _ | refine blk_drew ?_ | refine blk_alloc ?_ _)); refine blk_far ?_ NB825_834.out _; (with_reducible repeat (first | refine blk_drewN ?_ _ | refine blk_drew ?_ | refine blk_alloc ?_ _)); exact BK825.out⟩
  have n11_ : Aside0 (((((w34.setCell ⟨gb834, 0, none⟩ (.bool t826)).setCell ⟨gb834, 1, none⟩ (.slice Ao42 t827.length co42)).setCell ⟨gb835, 0, none⟩ (.bool t830)).setCell ⟨gb835, 1, none⟩ (.slice Ao49 t831.length co49)).heap[gb834]? = some (.cells #[.bool t826, .slice Ao42 t827.length co42] 27 (0, 0))) := ⟨by (with_reducible repeat (first | refine blk_drewN ?_ _ | refine blk_drew ?_ | refine blk_alloc ?_ _)); refine blk_far ?_ NB834_835.out _; (with_reducible repeat (first | refine blk_drewN ?_ _ | refine blk_drew ?_ | refine blk_alloc ?_ _)); refine blk_far ?_ NB834_835.out _; (with_reducible repeat (first | refine blk_drewN ?_ _ | refine blk_drew ?_ | refine blk_alloc ?_ _)); refine blk_put (cs := #[.bool t826, .slice none 0 0]) ?_ 1 _ rfl; (with_reducible repeat (first | refine blk_drewN ?_ _ | refine blk_drew ?_ | refine blk_alloc ?_ _)); refine blk_put (cs := #[.bool false, .slice none 0 0]) ?_ 0 _ rfl; (with_reducible repeat (first | refine blk_drewN ?_ _ | refine blk_drew ?_ | refine blk_alloc ?_ _)); exact BK834.out⟩
  have n12_ : Aside0 (((((w34.setCell ⟨gb834, 0, none⟩ (.bool t826)).setCell ⟨gb834, 1, none⟩ (.slice Ao42 t827.length co42)).setCell ⟨gb835, 0, none⟩ (.bool t830)).setCell ⟨gb835, 1, none⟩ (.slice Ao49 t831.length co49)).heap[gb835]? = some (.cells #[.bool t830, .slice Ao49 t831.length co49] 27 (0, 0))) := ⟨by (with_reducible repeat (first | refine blk_drewN ?_ _ | refine blk_drew ?_ | refine blk_alloc ?_ _)); refine blk_put (cs := #[.bool t830, .slice none 0 0]) ?_ 1 _ rfl; (with_reducible repeat (first | refine blk_drewN ?_ _ | refine blk_drew ?_ | refine blk_alloc ?_ _)); refine blk_put (cs := #[.bool false, .slice none 0 0]) ?_ 0 _ rfl; (with_reducible repeat (first | refine blk_drewN ?_ _ | refine blk_drew ?_ | refine blk_alloc ?_ _)); refine blk_far ?_ NB835_834.out _; (with_reducible repeat (first | refine blk_drewN ?_ _ | refine blk_drew ?_ | refine blk_alloc ?_ _)); refine blk_far ?_ NB835_834.out _; (with_reducible repeat (first | refine blk_drewN ?_ _ | refine blk_drew ?_ | refine blk_alloc ?_ _)); exact BK835.out⟩
  have n13_ : Aside0 (Below w.heap.size w ((((w34.setCell ⟨gb834, 0, none⟩ (.bool t826)).setCell ⟨gb834, 1, none⟩ (.slice Ao42 t827.length co42)).setCell ⟨gb835, 0, none⟩ (.bool t830)).setCell ⟨gb835, 1, none⟩ (.slice Ao49 t831.length co49))) := ⟨by repeat (first | exact HB.out | refine below_set ?_ GE813.out | refine below_set ?_ GE814.out | refine below_set ?_ GE815.out | refine below_set ?_ GE824.out | refine below_set ?_ GE825.out | refine below_set ?_ GE834.out | refine below_set ?_ GE835.out)⟩
  (try clear HO0_1)
  (try clear HO1_1)
  (try clear HO819)
  (try clear HO823)
  (try clear HO829)
  (try clear HO833)
  (try clear BK813)
  (try clear BK814)
  (try clear BK815)
  (try clear BK824)
  (try clear BK825)
  (try clear BK834)
  (try clear BK835)
  (try clear HB)
  generalize ((((w34.setCell ⟨gb834, 0, none⟩ (.bool t826)).setCell ⟨gb834, 1, none⟩ (.slice Ao42 t827.length co42)).setCell ⟨gb835, 0, none⟩ (.bool t830)).setCell ⟨gb835, 1, none⟩ (.slice Ao49 t831.length co49)) = w50 at n0_ n1_ n2_ n3_ n4_ n5_ n6_ n7_ n8_ n9_ n10_ n11_ n12_ n13_ ⊢
  have HO0_1 := n0_
  have HO1_1 := n1_
  have HO819 := n2_
  have HO823 := n3_
  have HO829 := n4_
  have HO833 := n5_
  have BK813 := n6_
  have BK814 := n7_
  have BK815 := n8_
  have BK824 := n9_
  have BK825 := n10_
  have BK834 := n11_
  have BK835 := n12_
  have HB := n13_
  clear n0_ n1_ n2_ n3_ n4_ n5_ n6_ n7_ n8_ n9_ n10_ n11_ n12_ n13_
  replace HO0_1 := mk0 (Kd.V_drew HO0_1.out)
  replace HO1_1 := mk0 (Kd.V_drew HO1_1.out)
  replace HO819 := mk0 (Kd.V_drew HO819.out)
  replace HO823 := mk0 (Kd.R_drew HO823.out)
  replace HO829 := mk0 (Kd.V_drew HO829.out)
  replace HO833 := mk0 (Kd.R_drew HO833.out)
  replace BK813 := mk0 (blk_drew BK813.out)
  replace BK814 := mk0 (blk_drew BK814.out)
  replace BK815 := mk0 (blk_drew BK815.out)
  replace BK824 := mk0 (blk_drew BK824.out)
  replace BK825 := mk0 (blk_drew BK825.out)
  replace BK834 := mk0 (blk_drew BK834.out)
  replace BK835 := mk0 (blk_drew BK835.out)
  replace HB := mk0 (below_drew1 HB.out)
  refine start_ (n := 10) (S := fun w' => w'.cell? ⟨gb824, 0, none⟩ = some (.bool t816) ∧ w'.cell? ⟨gb824, 1, none⟩ = some (.slice Ao22 t817.length co22) ∧ w'.cell? ⟨gb834, 0, none⟩ = some (.bool t826) ∧ w'.cell? ⟨gb834, 1, none⟩ = some (.slice Ao42 t827.length co42) ∧ w'.cell? ⟨gb825, 0, none⟩ = some (.bool t820) ∧ w'.cell? ⟨gb825, 1, none⟩ = some (.slice Ao28 t821.length co28) ∧ w'.cell? ⟨gb835, 0, none⟩ = some (.bool t830) ∧ w'.cell? ⟨gb835, 1, none⟩ = some (.slice Ao49 t831.length co49)) (ds := []) #[false, false, false, false, false, false, false, false, false, false] (by kernel_rfl) rfl rfl ⟨(blk_cell BK824.out 0).trans rfl, (blk_cell BK824.out 1).trans rfl, (blk_cell BK834.out 0).trans rfl, (blk_cell BK834.out 1).trans rfl, (blk_cell BK825.out 0).trans rfl, (blk_cell BK825.out 1).trans rfl, (blk_cell BK835.out 0).trans rfl, (blk_cell BK835.out 1).trans rfl⟩ (fun hHeld => ?_); refine with_tabW ratio_Mul.tab3 ratio_Mul.bits3 (fun HT_ HW_ => ?_)
  generalize w50.drew = w51 at HO0_1 HO1_1 HO819 HO823 HO829 HO833 BK813 BK814 BK815 BK824 BK825 BK834 BK835 HB hHeld ⊢
  refine pure_ (i := 3) (N := some 22) (v := ?_) (a' := ?_) #[false, false, false, true, false, false, false, false, false, false] rfl rfl (any_of HT_.out (by kernel_rfl)) (fun _ _ _ h => h) (Or.inl ⟨by rfl, ?_⟩) ?_ ?_
  rotate_left
  · intro w'
    go_simp
    with_reducible rfl
  rotate_left
  · simp only [Act.put, List.setIfInBounds_toArray, List.set_cons_zero, List.set_cons_succ, i64_w, i32_w]
    rfl
  refine pure_ (i := 5) (N := some 24) (v := ?_) (a' := ?_) #[false, false, false, true, false, true, false, false, false, false] rfl rfl (any_of HT_.out (by kernel_rfl)) (fun _ _ _ h => h) (Or.inl ⟨by rfl, ?_⟩) ?_ ?_
  rotate_left
  · intro w'
    go_simp
    with_reducible rfl
  rotate_left
  · simp only [Act.put, List.setIfInBounds_toArray, List.set_cons_zero, List.set_cons_succ, i64_w, i32_w]
    rfl
  refine take_ (i := 0) (N := some 19) (v := ?_) (a' := ?_) #[true, false, false, true, false, true, false, false, false, false] rfl rfl (take_ofW HT_.out HW_.out (by kernel_rfl)) (fun _ _ _ h => h) (Or.inl ⟨by rfl, ?_⟩) hHeld ?_ ?_
  rotate_left
  · rintro w' ⟨s0, s1, s2, s3, s4, s5, s6, s7⟩
    go_simp
    with_reducible rfl
  rotate_left
  · simp only [Act.put, List.setIfInBounds_toArray, List.set_cons_zero, List.set_cons_succ, i64_w, i32_w]
    rfl
  refine take_ (i := 1) (N := some 20) (v := ?_) (a' := ?_) #[true, true, false, true, false, true, false, false, false, false] rfl rfl (take_ofW HT_.out HW_.out (by kernel_rfl)) (fun _ _ _ h => h) (Or.inl ⟨by rfl, ?_⟩) hHeld ?_ ?_
  rotate_left
  · rintro w' ⟨s0, s1, s2, s3, s4, s5, s6, s7⟩
    go_simp
    with_reducible rfl
  rotate_left
  · simp only [Act.put, List.setIfInBounds_toArray, List.set_cons_zero, List.set_cons_succ, i64_w, i32_w]
    rfl
  refine take_ (i := 4) (N := some 23) (v := ?_) (a' := ?_) #[true, true, false, true, true, true, false, false, false, false] rfl rfl (take_ofW HT_.out HW_.out (by kernel_rfl)) (fun _ _ _ h => h) (Or.inl ⟨by rfl, ?_⟩) hHeld ?_ ?_
  rotate_left
  · rintro w' ⟨s0, s1, s2, s3, s4, s5, s6, s7⟩
    go_simp
    with_reducible rfl
  rotate_left
  · simp only [Act.put, List.setIfInBounds_toArray, List.set_cons_zero, List.set_cons_succ, i64_w, i32_w]
    rfl
  refine take_ (i := 6) (N := some 25) (v := ?_) (a' := ?_) #[true, true, false, true, true, true, true, false, false, false] rfl rfl (take_ofW HT_.out HW_.out (by kernel_rfl)) (fun _ _ _ h => h) (Or.inl ⟨by rfl, ?_⟩) hHeld ?_ ?_
  rotate_left
  · rintro w' ⟨s0, s1, s2, s3, s4, s5, s6, s7⟩
    go_simp
    with_reducible rfl
  rotate_left
  · simp only [Act.put, List.setIfInBounds_toArray, List.set_cons_zero, List.set_cons_succ, i64_w, i32_w]
    rfl
  refine one_ (i := 2) (N := some 21) #[true, true, true, true, true, true, true, false, false, false] rfl rfl (one_of HT_.out (by kernel_rfl)) (by decide) (fun K hK => ?_)
  refine goes_ Try.func52 (by kernel_rfl) rfl #[.agg #[.bool t816, .slice Ao22 t817.length co22], .agg #[.bool t826, .slice Ao42 t827.length co42]] (by rfl) rfl rfl (by first | (go_simp; done) | (go_simp; rfl)) ?_
  with_reducible refine (integer_Mul.calls k t816 _ _ t817 t826 _ _ t827 t836 t837 _ ?side1 ?side2 ?side3 ?side4 A5.out).mono ?_
  (case side1 => repeat (first | exact (Kd.V_reads' HO819.out).2.2 | (with_reducible refine Kd.C_alloc ?_ _) | (with_reducible refine Kd.C_drewN ?_ _) | (with_reducible refine Kd.C_drew ?_)))
  (case side2 => exact (Kd.V_reads' HO819.out).2.1)
  (case side3 => repeat (first | exact (Kd.V_reads' HO829.out).2.2 | (with_reducible refine Kd.C_alloc ?_ _) | (with_reducible refine Kd.C_drewN ?_ _) | (with_reducible refine Kd.C_drew ?_)))
  (case side4 => exact (Kd.V_reads' HO829.out).2.1)
  rintro e w52 ⟨v838, rfl, ho0, hb⟩
  refine ⟨_, rfl, ?_⟩
  replace HO0_1 := mk0 (Kd.V_elder' HO0_1.out (Kd.R_base ho0) hb)
  replace HO1_1 := mk0 (Kd.V_elder' HO1_1.out (Kd.R_base ho0) hb)
  replace HO819 := mk0 (Kd.V_elder' HO819.out (Kd.R_base ho0) hb)
  replace HO829 := mk0 (Kd.V_elder' HO829.out (Kd.R_base ho0) hb)
  have HO839 := mk0 (Kd.R_lower (Kd.R_new' (Kd.R_new' (Kd.R_newM (M := fun k_ => (w.heap.size ≤ k_)) ho0 (below_size (by repeat (first | exact HB.out | refine below_set ?_ GE813.out | refine below_set ?_ GE814.out | refine below_set ?_ GE815.out | refine below_set ?_ GE824.out | refine below_set ?_ GE825.out | refine below_set ?_ GE834.out | refine below_set ?_ GE835.out))) (fun k_ h_ => h_)) (Kd.R_lt HO823.out)) (Kd.R_lt HO833.out)) (below_size (by repeat (first | exact HB.out | refine below_set ?_ GE813.out | refine below_set ?_ GE814.out | refine below_set ?_ GE815.out | refine below_set ?_ GE824.out | refine below_set ?_ GE825.out | refine below_set ?_ GE834.out | refine below_set ?_ GE835.out))))
  replace HO823 := mk0 (Kd.R_elder' HO823.out (Kd.R_base ho0) hb)
  replace HO833 := mk0 (Kd.R_elder' HO833.out (Kd.R_base ho0) hb)
  replace BK813 := bkB BK813 hb
  replace BK814 := bkB BK814 hb
  replace BK815 := bkB BK815 hb
  replace BK824 := bkB BK824 hb
  replace BK825 := bkB BK825 hb
  replace BK834 := bkB BK834 hb
  replace BK835 := bkB BK835 hb
  replace HB := mk0 (below_step (by repeat (first | exact HB.out | refine below_set ?_ GE813.out | refine below_set ?_ GE814.out | refine below_set ?_ GE815.out | refine below_set ?_ GE824.out | refine below_set ?_ GE825.out | refine below_set ?_ GE834.out | refine below_set ?_ GE835.out)) hb)
  refine hK.out _ _ ⟨(blk_cell BK824.out 0).trans rfl, (blk_cell BK824.out 1).trans rfl, (blk_cell BK834.out 0).trans rfl, (blk_cell BK834.out 1).trans rfl, (blk_cell BK825.out 0).trans rfl, (blk_cell BK825.out 1).trans rfl, (blk_cell BK835.out 0).trans rfl, (blk_cell BK835.out 1).trans rfl⟩ (fun hHeld => ?_)
  clear hK K
  refine norm_ (a' := ?_) ?_ ?_
  rotate_left
  · show Act.put _ (some 21) _ = _
    simp only [Act.put, List.setIfInBounds_toArray, List.set_cons_zero, List.set_cons_succ, i64_w, i32_w]
    rfl
  refine one_ (i := 7) (N := some 26) #[true, true, true, true, true, true, true, true, false, false] rfl rfl (one_of HT_.out (by kernel_rfl)) (by decide) (fun K hK => ?_)
  refine goes_ Try.func54 (by kernel_rfl) rfl #[.slice Ao28 t821.length co28, .slice Ao49 t831.length co49] (by rfl) rfl rfl (by first | (go_simp; done) | (go_simp; rfl)) ?_
  with_reducible refine (nat_Mul.calls k (fun k_ => some k_ = (.slice Ao28 t821.length co28 : Value).ownBlock) _ _ t821 (fun k_ => some k_ = (.slice Ao49 t831.length co49 : Value).ownBlock) _ _ t831 t840 _ ?side1 ?side2 A6.out).mono ?_
  (case side1 => exact Kd.R_V (Kd.R_tight rfl (Kd.R_types (Kd.R_types (Kd.R_types (Kd.R_types (Kd.R_types (Kd.R_types (Kd.R_types (HO823.out) BK813.out (by decide)) BK814.out (by decide)) BK815.out (by decide)) BK824.out (by decide)) BK825.out (by decide)) BK834.out (by decide)) BK835.out (by decide))))
  (case side2 => exact Kd.R_V (Kd.R_tight rfl (Kd.R_types (Kd.R_types (Kd.R_types (Kd.R_types (Kd.R_types (Kd.R_types (Kd.R_types (HO833.out) BK813.out (by decide)) BK814.out (by decide)) BK815.out (by decide)) BK824.out (by decide)) BK825.out (by decide)) BK834.out (by decide)) BK835.out (by decide))))
  rintro e w53 ⟨v841, rfl, ho0, hb⟩
  refine ⟨_, rfl, ?_⟩
  replace HO0_1 := mk0 (Kd.V_below HO0_1.out hb)
  replace HO1_1 := mk0 (Kd.V_below HO1_1.out hb)
  replace HO819 := mk0 (Kd.V_below HO819.out hb)
  replace HO829 := mk0 (Kd.V_below HO829.out hb)
  have HO842 := mk0 (Kd.V_lower (Kd.V_mono (ok' := fun k_ => ((P0_1_ k_ ∨ P1_1_ k_) ∨ w.heap.size ≤ k_) ∧ some k_ ≠ (v838 : Value).ownBlock ∧ k_ ≠ gb813 ∧ k_ ≠ gb814 ∧ k_ ≠ gb815 ∧ k_ ≠ gb824 ∧ k_ ≠ gb825 ∧ k_ ≠ gb834 ∧ k_ ≠ gb835) ho0 (fun k_ hk_ => ⟨Or.elim hk_ (fun hs_ => Or.elim hs_ (fun hs_ => (.inr (((Kd.R_types (Kd.R_types (Kd.R_types (Kd.R_types (Kd.R_types (Kd.R_types (Kd.R_types (HO823.out) BK813.out (by decide)) BK814.out (by decide)) BK815.out (by decide)) BK824.out (by decide)) BK825.out (by decide)) BK834.out (by decide)) BK835.out (by decide)).1 k_ hs_.symm).1.1.1.1.1.1.1.1.1))) (fun hs_ => (.inr (((Kd.R_types (Kd.R_types (Kd.R_types (Kd.R_types (Kd.R_types (Kd.R_types (Kd.R_types (HO833.out) BK813.out (by decide)) BK814.out (by decide)) BK815.out (by decide)) BK824.out (by decide)) BK825.out (by decide)) BK834.out (by decide)) BK835.out (by decide)).1 k_ hs_.symm).1.1.1.1.1.1.1.1.1)))) (fun hn_ => (.inr (Nat.le_trans (below_size (by repeat (first | exact HB.out | refine below_set ?_ GE813.out | refine below_set ?_ GE814.out | refine below_set ?_ GE815.out | refine below_set ?_ GE824.out | refine below_set ?_ GE825.out | refine below_set ?_ GE834.out | refine below_set ?_ GE835.out))) hn_))), Or.elim hk_ (fun hs_ => Or.elim hs_ (fun hs_ => ((Kd.R_types (Kd.R_types (Kd.R_types (Kd.R_types (Kd.R_types (Kd.R_types (Kd.R_types (HO823.out) BK813.out (by decide)) BK814.out (by decide)) BK815.out (by decide)) BK824.out (by decide)) BK825.out (by decide)) BK834.out (by decide)) BK835.out (by decide)).1 k_ hs_.symm).1.1.1.1.1.1.1.2) (fun hs_ => ((Kd.R_types (Kd.R_types (Kd.R_types (Kd.R_types (Kd.R_types (Kd.R_types (Kd.R_types (HO833.out) BK813.out (by decide)) BK814.out (by decide)) BK815.out (by decide)) BK824.out (by decide)) BK825.out (by decide)) BK834.out (by decide)) BK835.out (by decide)).1 k_ hs_.symm).1.1.1.1.1.1.1.2)) (fun hn_ => (Kd.fresh' (Kd.R_lt HO839.out) k_ hn_)), Or.elim hk_ (fun hs_ => Or.elim hs_ (fun hs_ => ((Kd.R_types (Kd.R_types (Kd.R_types (Kd.R_types (Kd.R_types (Kd.R_types (Kd.R_types (HO823.out) BK813.out (by decide)) BK814.out (by decide)) BK815.out (by decide)) BK824.out (by decide)) BK825.out (by decide)) BK834.out (by decide)) BK835.out (by decide)).1 k_ hs_.symm).1.1.1.1.1.1.2) (fun hs_ => ((Kd.R_types (Kd.R_types (Kd.R_types (Kd.R_types (Kd.R_types (Kd.R_types (Kd.R_types (HO833.out) BK813.out (by decide)) BK814.out (by decide)) BK815.out (by decide)) BK824.out (by decide)) BK825.out (by decide)) BK834.out (by decide)) BK835.out (by decide)).1 k_ hs_.symm).1.1.1.1.1.1.2)) (fun hn_ => (Kd.freshB BK813.out k_ hn_)), Or.elim hk_ (fun hs_ => Or.elim hs_ (fun hs_ => ((Kd.R_types (Kd.R_types (Kd.R_types (Kd.R_types (Kd.R_types (Kd.R_types (Kd.R_types (HO823.out) BK813.out (by decide)) BK814.out (by decide)) BK815.out (by decide)) BK824.out (by decide)) BK825.out (by decide)) BK834.out (by decide)) BK835.out (by decide)).1 k_ hs_.symm).1.1.1.1.1.2) (fun hs_ => ((Kd.R_types (Kd.R_types (Kd.R_types (Kd.R_types (Kd.R_types (Kd.R_types (Kd.R_types (HO833.out) BK813.out (by decide)) BK814.out (by decide)) BK815.out (by decide)) BK824.out (by decide)) BK825.out (by decide)) BK834.out (by decide)) BK835.out (by decide)).1 k_ hs_.symm).1.1.1.1.1.2)) (fun hn_ => (Kd.freshB BK814.out k_ hn_)), Or.elim hk_ (fun hs_ => Or.elim hs_ (fun hs_ => ((Kd.R_types (Kd.R_types (Kd.R_types (Kd.R_types (Kd.R_types (Kd.R_types (Kd.R_types (HO823.out) BK813.out (by decide)) BK814.out (by decide)) BK815.out (by decide)) BK824.out (by decide)) BK825.out (by decide)) BK834.out (by decide)) BK835.out (by decide)).1 k_ hs_.symm).1.1.1.1.2) (fun hs_ => ((Kd.R_types (Kd.R_types (Kd.R_types (Kd.R_types (Kd.R_types (Kd.R_types (Kd.R_types (HO833.out) BK813.out (by decide)) BK814.out (by decide)) BK815.out (by decide)) BK824.out (by decide)) BK825.out (by decide)) BK834.out (by decide)) BK835.out (by decide)).1 k_ hs_.symm).1.1.1.1.2)) (fun hn_ => (Kd.freshB BK815.out k_ hn_)), Or.elim hk_ (fun hs_ => Or.elim hs_ (fun hs_ => ((Kd.R_types (Kd.R_types (Kd.R_types (Kd.R_types (Kd.R_types (Kd.R_types (Kd.R_types (HO823.out) BK813.out (by decide)) BK814.out (by decide)) BK815.out (by decide)) BK824.out (by decide)) BK825.out (by decide)) BK834.out (by decide)) BK835.out (by decide)).1 k_ hs_.symm).1.1.1.2) (fun hs_ => ((Kd.R_types (Kd.R_types (Kd.R_types (Kd.R_types (Kd.R_types (Kd.R_types (Kd.R_types (HO833.out) BK813.out (by decide)) BK814.out (by decide)) BK815.out (by decide)) BK824.out (by decide)) BK825.out (by decide)) BK834.out (by decide)) BK835.out (by decide)).1 k_ hs_.symm).1.1.1.2)) (fun hn_ => (Kd.freshB BK824.out k_ hn_)), Or.elim hk_ (fun hs_ => Or.elim hs_ (fun hs_ => ((Kd.R_types (Kd.R_types (Kd.R_types (Kd.R_types (Kd.R_types (Kd.R_types (Kd.R_types (HO823.out) BK813.out (by decide)) BK814.out (by decide)) BK815.out (by decide)) BK824.out (by decide)) BK825.out (by decide)) BK834.out (by decide)) BK835.out (by decide)).1 k_ hs_.symm).1.1.2) (fun hs_ => ((Kd.R_types (Kd.R_types (Kd.R_types (Kd.R_types (Kd.R_types (Kd.R_types (Kd.R_types (HO833.out) BK813.out (by decide)) BK814.out (by decide)) BK815.out (by decide)) BK824.out (by decide)) BK825.out (by decide)) BK834.out (by decide)) BK835.out (by decide)).1 k_ hs_.symm).1.1.2)) (fun hn_ => (Kd.freshB BK825.out k_ hn_)), Or.elim hk_ (fun hs_ => Or.elim hs_ (fun hs_ => ((Kd.R_types (Kd.R_types (Kd.R_types (Kd.R_types (Kd.R_types (Kd.R_types (Kd.R_types (HO823.out) BK813.out (by decide)) BK814.out (by decide)) BK815.out (by decide)) BK824.out (by decide)) BK825.out (by decide)) BK834.out (by decide)) BK835.out (by decide)).1 k_ hs_.symm).1.2) (fun hs_ => ((Kd.R_types (Kd.R_types (Kd.R_types (Kd.R_types (Kd.R_types (Kd.R_types (Kd.R_types (HO833.out) BK813.out (by decide)) BK814.out (by decide)) BK815.out (by decide)) BK824.out (by decide)) BK825.out (by decide)) BK834.out (by decide)) BK835.out (by decide)).1 k_ hs_.symm).1.2)) (fun hn_ => (Kd.freshB BK834.out k_ hn_)), Or.elim hk_ (fun hs_ => Or.elim hs_ (fun hs_ => ((Kd.R_types (Kd.R_types (Kd.R_types (Kd.R_types (Kd.R_types (Kd.R_types (Kd.R_types (HO823.out) BK813.out (by decide)) BK814.out (by decide)) BK815.out (by decide)) BK824.out (by decide)) BK825.out (by decide)) BK834.out (by decide)) BK835.out (by decide)).1 k_ hs_.symm).2) (fun hs_ => ((Kd.R_types (Kd.R_types (Kd.R_types (Kd.R_types (Kd.R_types (Kd.R_types (Kd.R_types (HO833.out) BK813.out (by decide)) BK814.out (by decide)) BK815.out (by decide)) BK824.out (by decide)) BK825.out (by decide)) BK834.out (by decide)) BK835.out (by decide)).1 k_ hs_.symm).2)) (fun hn_ => (Kd.freshB BK835.out k_ hn_))⟩)) (below_size (by repeat (first | exact HB.out | refine below_set ?_ GE813.out | refine below_set ?_ GE814.out | refine below_set ?_ GE815.out | refine below_set ?_ GE824.out | refine below_set ?_ GE825.out | refine below_set ?_ GE834.out | refine below_set ?_ GE835.out))))
  replace HO823 := rB HO823 hb
  replace HO833 := rB HO833 hb
  replace HO839 := rB HO839 hb
  replace BK813 := bkB BK813 hb
  replace BK814 := bkB BK814 hb
  replace BK815 := bkB BK815 hb
  replace BK824 := bkB BK824 hb
  replace BK825 := bkB BK825 hb
  replace BK834 := bkB BK834 hb
  replace BK835 := bkB BK835 hb
  replace HB := mk0 (below_step (by repeat (first | exact HB.out | refine below_set ?_ GE813.out | refine below_set ?_ GE814.out | refine below_set ?_ GE815.out | refine below_set ?_ GE824.out | refine below_set ?_ GE825.out | refine below_set ?_ GE834.out | refine below_set ?_ GE835.out)) hb)
  obtain ⟨Ao54, co54, eo54⟩ := Kd.R_slice HO839.out
  (first | subst eo54 | (injection eo54 with f1_ f2_ f3_; have f4_ := f1_.symm; have f5_ := f3_.symm; clear f1_ f2_ f3_; subst f4_; subst f5_))
  obtain ⟨Ao55, co55, eo55⟩ := Kd.V_slice HO842.out
  (first | subst eo55 | (injection eo55 with f1_ f2_ f3_; have f4_ := f1_.symm; have f5_ := f3_.symm; clear f1_ f2_ f3_; subst f4_; subst f5_))
  refine hK.out _ _ ⟨(blk_cell BK824.out 0).trans rfl, (blk_cell BK824.out 1).trans rfl, (blk_cell BK834.out 0).trans rfl, (blk_cell BK834.out 1).trans rfl, (blk_cell BK825.out 0).trans rfl, (blk_cell BK825.out 1).trans rfl, (blk_cell BK835.out 0).trans rfl, (blk_cell BK835.out 1).trans rfl⟩ (fun hHeld => ?_)
  clear hK K
  refine norm_ (a' := ?_) ?_ ?_
  rotate_left
  · show Act.put _ (some 26) _ = _
    simp only [Act.put, List.setIfInBounds_toArray, List.set_cons_zero, List.set_cons_succ, i64_w, i32_w]
    rfl
  refine one_ (i := 8) (N := some 27) #[true, true, true, true, true, true, true, true, true, false] rfl rfl (one_of HT_.out (by kernel_rfl)) (by decide) (fun K hK => ?_)
  refine goes_ Try.func53 (by kernel_rfl) rfl #[.agg #[.bool t836, .slice Ao54 t837.length co54], .slice Ao55 t840.length co55] (by rfl) rfl rfl (by first | (go_simp; done) | (go_simp; rfl)) ?_
  with_reducible refine (ratio_lowest.calls k t836 (fun k_ => some k_ = (.slice Ao54 t837.length co54 : Value).ownBlock) _ _ t837 (fun k_ => (((P0_1_ k_ ∨ P1_1_ k_) ∨ w.heap.size ≤ k_) ∧ (some k_ ≠ (.slice Ao54 t837.length co54 : Value).ownBlock ∧ (k_ ≠ gb813 ∧ (k_ ≠ gb814 ∧ (k_ ≠ gb815 ∧ (k_ ≠ gb824 ∧ (k_ ≠ gb825 ∧ (k_ ≠ gb834 ∧ k_ ≠ gb835))))))))) _ _ t840 t843 t844 t847 _ ?side1 ?side2 A7.out).mono ?_
  (case side1 => exact Kd.R_V (Kd.R_tight rfl (Kd.R_types (Kd.R_types (Kd.R_types (Kd.R_types (Kd.R_types (Kd.R_types (Kd.R_types (HO839.out) BK813.out (by decide)) BK814.out (by decide)) BK815.out (by decide)) BK824.out (by decide)) BK825.out (by decide)) BK834.out (by decide)) BK835.out (by decide))))
  (case side2 => exact HO842.out)
  rintro e w56 ⟨v845, v848, rfl, ho0, ho1, hb⟩
  refine ⟨_, rfl, ?_⟩
  replace HO0_1 := mk0 (Kd.V_elder' HO0_1.out (Kd.R_base ho0) hb)
  replace HO1_1 := mk0 (Kd.V_elder' HO1_1.out (Kd.R_base ho0) hb)
  replace HO819 := mk0 (Kd.V_elder' HO819.out (Kd.R_base ho0) hb)
  replace HO829 := mk0 (Kd.V_elder' HO829.out (Kd.R_base ho0) hb)
  replace HO842 := mk0 (Kd.V_elder' HO842.out (Kd.R_base ho0) hb)
  have HO846 := mk0 (Kd.R_lower (Kd.R_new' (Kd.R_new' (Kd.R_new' (Kd.R_newM (M := fun k_ => (w.heap.size ≤ k_)) (Kd.R_mono (ok' := fun k_ => True) ho0 (fun _ hk_ => trivial)) (below_size (by repeat (first | exact HB.out | refine below_set ?_ GE813.out | refine below_set ?_ GE814.out | refine below_set ?_ GE815.out | refine below_set ?_ GE824.out | refine below_set ?_ GE825.out | refine below_set ?_ GE834.out | refine below_set ?_ GE835.out))) (fun k_ h_ => h_)) (Kd.R_lt HO823.out)) (Kd.R_lt HO833.out)) (Kd.R_lt HO839.out)) (below_size (by repeat (first | exact HB.out | refine below_set ?_ GE813.out | refine below_set ?_ GE814.out | refine below_set ?_ GE815.out | refine below_set ?_ GE824.out | refine below_set ?_ GE825.out | refine below_set ?_ GE834.out | refine below_set ?_ GE835.out))))
  replace HO823 := mk0 (Kd.R_elder' HO823.out (Kd.R_base ho0) hb)
  replace HO833 := mk0 (Kd.R_elder' HO833.out (Kd.R_base ho0) hb)
  have HO849 := mk0 (Kd.V_lower (Kd.V_mono (ok' := fun k_ => ((P0_1_ k_ ∨ P1_1_ k_) ∨ w.heap.size ≤ k_) ∧ some k_ ≠ (v845 : Value).ownBlock ∧ k_ ≠ gb813 ∧ k_ ≠ gb814 ∧ k_ ≠ gb815 ∧ k_ ≠ gb824 ∧ k_ ≠ gb825 ∧ k_ ≠ gb834 ∧ k_ ≠ gb835) ho1 (fun k_ hk_ => ⟨Or.elim hk_.1 (fun hs_ => Or.elim hs_ (fun hs_ => (.inr (((Kd.R_types (Kd.R_types (Kd.R_types (Kd.R_types (Kd.R_types (Kd.R_types (Kd.R_types (HO839.out) BK813.out (by decide)) BK814.out (by decide)) BK815.out (by decide)) BK824.out (by decide)) BK825.out (by decide)) BK834.out (by decide)) BK835.out (by decide)).1 k_ hs_.symm).1.1.1.1.1.1.1.1.1.1))) (fun hs_ => hs_.1)) (fun hn_ => (.inr (Nat.le_trans (below_size (by repeat (first | exact HB.out | refine below_set ?_ GE813.out | refine below_set ?_ GE814.out | refine below_set ?_ GE815.out | refine below_set ?_ GE824.out | refine below_set ?_ GE825.out | refine below_set ?_ GE834.out | refine below_set ?_ GE835.out))) hn_))), hk_.2, Or.elim hk_.1 (fun hs_ => Or.elim hs_ (fun hs_ => ((Kd.R_types (Kd.R_types (Kd.R_types (Kd.R_types (Kd.R_types (Kd.R_types (Kd.R_types (HO839.out) BK813.out (by decide)) BK814.out (by decide)) BK815.out (by decide)) BK824.out (by decide)) BK825.out (by decide)) BK834.out (by decide)) BK835.out (by decide)).1 k_ hs_.symm).1.1.1.1.1.1.2) (fun hs_ => hs_.2.2.1)) (fun hn_ => (Kd.freshB BK813.out k_ hn_)), Or.elim hk_.1 (fun hs_ => Or.elim hs_ (fun hs_ => ((Kd.R_types (Kd.R_types (Kd.R_types (Kd.R_types (Kd.R_types (Kd.R_types (Kd.R_types (HO839.out) BK813.out (by decide)) BK814.out (by decide)) BK815.out (by decide)) BK824.out (by decide)) BK825.out (by decide)) BK834.out (by decide)) BK835.out (by decide)).1 k_ hs_.symm).1.1.1.1.1.2) (fun hs_ => hs_.2.2.2.1)) (fun hn_ => (Kd.freshB BK814.out k_ hn_)), Or.elim hk_.1 (fun hs_ => Or.elim hs_ (fun hs_ => ((Kd.R_types (Kd.R_types (Kd.R_types (Kd.R_types (Kd.R_types (Kd.R_types (Kd.R_types (HO839.out) BK813.out (by decide)) BK814.out (by decide)) BK815.out (by decide)) BK824.out (by decide)) BK825.out (by decide)) BK834.out (by decide)) BK835.out (by decide)).1 k_ hs_.symm).1.1.1.1.2) (fun hs_ => hs_.2.2.2.2.1)) (fun hn_ => (Kd.freshB BK815.out k_ hn_)), Or.elim hk_.1 (fun hs_ => Or.elim hs_ (fun hs_ => ((Kd.R_types (Kd.R_types (Kd.R_types (Kd.R_types (Kd.R_types (Kd.R_types (Kd.R_types (HO839.out) BK813.out (by decide)) BK814.out (by decide)) BK815.out (by decide)) BK824.out (by decide)) BK825.out (by decide)) BK834.out (by decide)) BK835.out (by decide)).1 k_ hs_.symm).1.1.1.2) (fun hs_ => hs_.2.2.2.2.2.1)) (fun hn_ => (Kd.freshB BK824.out k_ hn_)), Or.elim hk_.1 (fun hs_ => Or.elim hs_ (fun hs_ => ((Kd.R_types (Kd.R_types (Kd.R_types (Kd.R_types (Kd.R_types (Kd.R_types (Kd.R_types (HO839.out) BK813.out (by decide)) BK814.out (by decide)) BK815.out (by decide)) BK824.out (by decide)) BK825.out (by decide)) BK834.out (by decide)) BK835.out (by decide)).1 k_ hs_.symm).1.1.2) (fun hs_ => hs_.2.2.2.2.2.2.1)) (fun hn_ => (Kd.freshB BK825.out k_ hn_)), Or.elim hk_.1 (fun hs_ => Or.elim hs_ (fun hs_ => ((Kd.R_types (Kd.R_types (Kd.R_types (Kd.R_types (Kd.R_types (Kd.R_types (Kd.R_types (HO839.out) BK813.out (by decide)) BK814.out (by decide)) BK815.out (by decide)) BK824.out (by decide)) BK825.out (by decide)) BK834.out (by decide)) BK835.out (by decide)).1 k_ hs_.symm).1.2) (fun hs_ => hs_.2.2.2.2.2.2.2.1)) (fun hn_ => (Kd.freshB BK834.out k_ hn_)), Or.elim hk_.1 (fun hs_ => Or.elim hs_ (fun hs_ => ((Kd.R_types (Kd.R_types (Kd.R_types (Kd.R_types (Kd.R_types (Kd.R_types (Kd.R_types (HO839.out) BK813.out (by decide)) BK814.out (by decide)) BK815.out (by decide)) BK824.out (by decide)) BK825.out (by decide)) BK834.out (by decide)) BK835.out (by decide)).1 k_ hs_.symm).2) (fun hs_ => hs_.2.2.2.2.2.2.2.2)) (fun hn_ => (Kd.freshB BK835.out k_ hn_))⟩)) (below_size (by repeat (first | exact HB.out | refine below_set ?_ GE813.out | refine below_set ?_ GE814.out | refine below_set ?_ GE815.out | refine below_set ?_ GE824.out | refine below_set ?_ GE825.out | refine below_set ?_ GE834.out | refine below_set ?_ GE835.out))))
  replace HO839 := mk0 (Kd.R_elder' HO839.out (Kd.R_base ho0) hb)
  replace BK813 := bkB BK813 hb
  replace BK814 := bkB BK814 hb
  replace BK815 := bkB BK815 hb
  replace BK824 := bkB BK824 hb
  replace BK825 := bkB BK825 hb
  replace BK834 := bkB BK834 hb
  replace BK835 := bkB BK835 hb
  replace HB := mk0 (below_step (by repeat (first | exact HB.out | refine below_set ?_ GE813.out | refine below_set ?_ GE814.out | refine below_set ?_ GE815.out | refine below_set ?_ GE824.out | refine below_set ?_ GE825.out | refine below_set ?_ GE834.out | refine below_set ?_ GE835.out)) hb)
  obtain ⟨Ao58, co58, eo58⟩ := Kd.R_slice HO846.out
  (first | subst eo58 | (injection eo58 with f1_ f2_ f3_; have f4_ := f1_.symm; have f5_ := f3_.symm; clear f1_ f2_ f3_; subst f4_; subst f5_))
  obtain ⟨Ao60, co60, eo60⟩ := Kd.V_slice HO849.out
  (first | subst eo60 | (injection eo60 with f1_ f2_ f3_; have f4_ := f1_.symm; have f5_ := f3_.symm; clear f1_ f2_ f3_; subst f4_; subst f5_))
  refine hK.out _ _ ⟨(blk_cell BK824.out 0).trans rfl, (blk_cell BK824.out 1).trans rfl, (blk_cell BK834.out 0).trans rfl, (blk_cell BK834.out 1).trans rfl, (blk_cell BK825.out 0).trans rfl, (blk_cell BK825.out 1).trans rfl, (blk_cell BK835.out 0).trans rfl, (blk_cell BK835.out 1).trans rfl⟩ (fun hHeld => ?_)
  clear hK K
  refine norm_ (a' := ?_) ?_ ?_
  rotate_left
  · show Act.put _ (some 27) _ = _
    simp only [Act.put, List.setIfInBounds_toArray, List.set_cons_zero, List.set_cons_succ, i64_w, i32_w]
    rfl
  refine one_ (i := 9) (N := none) #[true, true, true, true, true, true, true, true, true, true] rfl rfl (one_of HT_.out (by kernel_rfl)) (by decide) (fun K hK => ?_)
  have hs57 : w56.cell? ⟨gb815, 0, none⟩ = some (.bool false) := (blk_cell BK815.out 0).trans rfl
  have hfs57 := blk_frozen BK815.out 0
  have hns57_0 := NB813_815.out
  have hns57_1 := NB814_815.out
  have hns57_3 := NB824_815.out
  have hns57_4 := NB825_815.out
  have hns57_5 := NB834_815.out
  have hns57_6 := NB835_815.out
  have hms57_0 := NB815_813.out
  have hms57_1 := NB815_814.out
  have hms57_3 := NB815_824.out
  have hms57_4 := NB815_825.out
  have hms57_5 := NB815_834.out
  have hms57_6 := NB815_835.out
  have hs59 : w56.cell? ⟨gb815, 1, none⟩ = some (.slice none 0 0) := (blk_cell BK815.out 1).trans rfl
  have hfs59 := blk_frozen BK815.out 1
  have hns59_0 := NB813_815.out
  have hns59_1 := NB814_815.out
  have hns59_3 := NB824_815.out
  have hns59_4 := NB825_815.out
  have hns59_5 := NB834_815.out
  have hns59_6 := NB835_815.out
  have hms59_0 := NB815_813.out
  have hms59_1 := NB815_814.out
  have hms59_3 := NB815_824.out
  have hms59_4 := NB815_825.out
  have hms59_5 := NB815_834.out
  have hms59_6 := NB815_835.out
  have hs61 : w56.cell? ⟨gb815, 2, none⟩ = some (.slice none 0 0) := (blk_cell BK815.out 2).trans rfl
  have hfs61 := blk_frozen BK815.out 2
  have hns61_0 := NB813_815.out
  have hns61_1 := NB814_815.out
  have hns61_3 := NB824_815.out
  have hns61_4 := NB825_815.out
  have hns61_5 := NB834_815.out
  have hns61_6 := NB835_815.out
  have hms61_0 := NB815_813.out
  have hms61_1 := NB815_814.out
  have hms61_3 := NB815_824.out
  have hms61_4 := NB815_825.out
  have hms61_5 := NB815_834.out
  have hms61_6 := NB815_835.out
  refine skip_ (w1 := ?_) (by rfl) rfl ?_ ?_
  rotate_left
  · go_simp
    rfl
  refine hK.out _ _ ⟨((cell_far (p := ⟨gb815, _, none⟩) NB824_815.out _).trans (((cell_far (p := ⟨gb815, _, none⟩) NB824_815.out _).trans (((cell_far (p := ⟨gb815, _, none⟩) NB824_815.out _).trans (hHeld.1)))))), ((cell_far (p := ⟨gb815, _, none⟩) NB824_815.out _).trans (((cell_far (p := ⟨gb815, _, none⟩) NB824_815.out _).trans (((cell_far (p := ⟨gb815, _, none⟩) NB824_815.out _).trans (hHeld.2.1)))))), ((cell_far (p := ⟨gb815, _, none⟩) NB834_815.out _).trans (((cell_far (p := ⟨gb815, _, none⟩) NB834_815.out _).trans (((cell_far (p := ⟨gb815, _, none⟩) NB834_815.out _).trans (hHeld.2.2.1)))))), ((cell_far (p := ⟨gb815, _, none⟩) NB834_815.out _).trans (((cell_far (p := ⟨gb815, _, none⟩) NB834_815.out _).trans (((cell_far (p := ⟨gb815, _, none⟩) NB834_815.out _).trans (hHeld.2.2.2.1)))))), ((cell_far (p := ⟨gb815, _, none⟩) NB825_815.out _).trans (((cell_far (p := ⟨gb815, _, none⟩) NB825_815.out _).trans (((cell_far (p := ⟨gb815, _, none⟩) NB825_815.out _).trans (hHeld.2.2.2.2.1)))))), ((cell_far (p := ⟨gb815, _, none⟩) NB825_815.out _).trans (((cell_far (p := ⟨gb815, _, none⟩) NB825_815.out _).trans (((cell_far (p := ⟨gb815, _, none⟩) NB825_815.out _).trans (hHeld.2.2.2.2.2.1)))))), ((cell_far (p := ⟨gb815, _, none⟩) NB835_815.out _).trans (((cell_far (p := ⟨gb815, _, none⟩) NB835_815.out _).trans (((cell_far (p := ⟨gb815, _, none⟩) NB835_815.out _).trans (hHeld.2.2.2.2.2.2.1)))))), ((cell_far (p := ⟨gb815, _, none⟩) NB835_815.out _).trans (((cell_far (p := ⟨gb815, _, none⟩) NB835_815.out _).trans (((cell_far (p := ⟨gb815, _, none⟩) NB835_815.out _).trans (hHeld.2.2.2.2.2.2.2))))))⟩ (fun hHeld => ?_)
  clear hK K
  refine done_ (done_of HT_.out (by kernel_rfl)) ?_
  try go_wp2
  refine bodyPost_ret (results_cell_row rfl _ _ gb815 29 #[.bool t843, .slice Ao58 t844.length co58, .slice Ao60 t847.length co60] (0, 0) _ rfl (by (with_reducible repeat (first | refine blk_drewN ?_ _ | refine blk_drew ?_ | refine blk_alloc ?_ _)); refine blk_put (cs := #[.bool t843, .slice Ao58 t844.length co58, .slice none 0 0]) ?_ 2 _ rfl; (with_reducible repeat (first | refine blk_drewN ?_ _ | refine blk_drew ?_ | refine blk_alloc ?_ _)); refine blk_put (cs := #[.bool t843, .slice none 0 0, .slice none 0 0]) ?_ 1 _ rfl; (with_reducible repeat (first | refine blk_drewN ?_ _ | refine blk_drew ?_ | refine blk_alloc ?_ _)); refine blk_put (cs := #[.bool false, .slice none 0 0, .slice none 0 0]) ?_ 0 _ rfl; (with_reducible repeat (first | refine blk_drewN ?_ _ | refine blk_drew ?_ | refine blk_alloc ?_ _)); exact BK815.out) Try.underlying29 rfl (by kernel_rfl)) rfl ?_
  exact ⟨_, _, by first | rfl | (simp [errW_none, errW_some] <;> rfl) | (simp [*, errW_none, errW_some] <;> rfl), Kd.R_mono (Kd.R_far (p := ⟨gb815, 2, none⟩) (Kd.R_far (p := ⟨gb815, 1, none⟩) (Kd.R_far (p := ⟨gb815, 0, none⟩) (Kd.R_types HO846.out BK815.out (by decide)) (fun _ hk => hk.2) (.bool t843)) (fun _ hk => hk.2) (.slice Ao58 t844.length co58)) (fun _ hk => hk.2) (.slice Ao60 t847.length co60)) (fun _ hk => hk.1.1.1.1.1), Kd.V_mono (Kd.V_far (p := ⟨gb815, 2, none⟩) (Kd.V_far (p := ⟨gb815, 1, none⟩) (Kd.V_far (p := ⟨gb815, 0, none⟩) (Kd.V_mono HO849.out (fun k_ hk => (⟨hk, hk.2.2.2.2.1⟩ : _ ∧ k_ ≠ gb815))) (fun _ hk => hk.2) (.bool t843)) (fun _ hk => hk.2) (.slice Ao58 t844.length co58)) (fun _ hk => hk.2) (.slice Ao60 t847.length co60)) (fun _ hk => ⟨hk.1.1, hk.1.2.1⟩), by repeat (first | exact HB.out | refine below_set ?_ GE813.out | refine below_set ?_ GE814.out | refine below_set ?_ GE815.out | refine below_set ?_ GE824.out | refine below_set ?_ GE825.out | refine below_set ?_ GE834.out | refine below_set ?_ GE835.out)⟩
end Go.Proofs.Ythamhjmhgcpdgaa.Q
end
section
namespace Go.Proofs.Ythamhjmhgcpdgaa.Q
open Go.RowKit Go.Proofs.YthamhjmhgcpdgaaW.PrintWords Go.Proofs.YthamhjmhgcpdgaaW.PrintLast Go.Proofs.YthamhjmhgcpdgaaW.PrintMore Go.Proofs.Ythamhjmhgcpdgaa.MyWords
attribute [local go_sem] max2_int min2_int max_two min_two
set_option linter.unusedVariables false
set_option linter.unusedSimpArgs false
set_option maxHeartbeats 8000000 in
set_option maxRecDepth 100000 in
theorem ratio_Make.calls (k : Nat) (a0_0 : Bool) (P0_1_ : Nat → Prop) (A0_1 : Option Addr) (c0_1 : Nat) (l0_1 : List Int) (a1_0 : Bool) (P1_1_ : Nat → Prop) (A1_1 : Option Addr) (c1_1 : Nat) (l1_1 : List Int) (r1 : Bool) (r2 : List Int) (r3 : List Int) (r4 : Bool) (w : World) (hs0_1 : Kd.V (Kd.int .u32) 87 w w.heap.size (fun k_ => P0_1_ k_) (.slice A0_1 l0_1.length c0_1) l0_1) (hs1_1 : Kd.V (Kd.int .u32) 87 w w.heap.size (fun k_ => P1_1_ k_) (.slice A1_1 l1_1.length c1_1) l1_1) (h : ratio_Make.f k a0_0 l0_1 a1_0 l1_1 = some (r1, r2, r3, r4)) :
    Calls Try.prog 38 #[.agg #[.bool a0_0, .slice A0_1 l0_1.length c0_1], .agg #[.bool a1_0, .slice A1_1 l1_1.length c1_1]] w fun e w' => ∃ v1_ v2_ : Value, e = .returned (.tuple #[.agg #[.bool r1, v1_, v2_], .bool r4]) ∧ Kd.R (Kd.int .u32) 87 w' w.heap.size (fun k_ => (w.heap.size ≤ k_)) v1_ r2 ∧ Kd.V (Kd.int .u32) 87 w' w.heap.size (fun k_ => ((P0_1_ k_ ∨ P1_1_ k_) ∨ w.heap.size ≤ k_) ∧ some k_ ≠ (v1_ : Value).ownBlock) v2_ r3 ∧ Below w.heap.size w w' := by
  have hu27 := Try.underlying27
  have hu29 := Try.underlying29
  have HO0_1 := mk0 (show Kd.V (Kd.int .u32) 87 w w.heap.size (fun k_ => ((P0_1_ k_ ∨ P1_1_ k_) ∨ w.heap.size ≤ k_)) (.slice A0_1 l0_1.length c0_1) l0_1 from Kd.V_mono hs0_1 (fun k_ hk => .inl (.inl hk)))
  have HO1_1 := mk0 (show Kd.V (Kd.int .u32) 87 w w.heap.size (fun k_ => ((P0_1_ k_ ∨ P1_1_ k_) ∨ w.heap.size ≤ k_)) (.slice A1_1 l1_1.length c1_1) l1_1 from Kd.V_mono hs1_1 (fun k_ hk => .inl (.inr hk)))
  have HB := mk0 (Below.refl w.heap.size w)
  have H : ((nat_Bits.f k l1_1).bind fun t285 => (if t285 = 0 then ((ratio_zero.f k).bind fun bt286 => (some (bt286.1, bt286.2.1, bt286.2.2, false))) else ((ratio_lowest.f k (a0_0 != a1_0) l0_1 l1_1).bind fun bt293 => (some (bt293.1, bt293.2.1, bt293.2.2, true))))) = some (r1, r2, r3, r4) := h
  clear h
  obtain ⟨t285, A3, H⟩ := bindA H
  by_cases c4 : t285 = 0
  · rw [if_pos c4] at H
    have c4b0 : (t285 == 0) = true := beq_iff_eq.mpr c4
    have c4b1 : (t285 != 0) = false := bne_eq_false_iff_eq.mpr c4
    clear c4
    obtain ⟨⟨t286, t287, t290⟩, A5, H⟩ := bindA H
    simp only [Option.some.injEq, Prod.mk.injEq] at H
    obtain ⟨rfl, rfl, rfl, rfl⟩ := H
    go_enter Try.func38, Try.ntmps38
    go_wp2_with (first | ((with_reducible refine gate_dst (N := 2) rfl ?_); refine box_event rfl (N := 2) rfl (cs := #[.bool a0_0, .slice A0_1 l0_1.length c0_1]) (t := 27) (by first | (go_simp; done) | (go_simp; rfl)) ?_; intro gb282 hg w6 hbox hb; replace HO0_1 := vB HO0_1 hg hb; replace HO1_1 := vB HO1_1 hg hb; have BK282 := mk0 (hbox); have GE282 := geB hg HB; replace HB := hbS HB hb; clear hb hbox hg) | ((with_reducible refine gate_dst (N := 3) rfl ?_); refine box_event rfl (N := 3) rfl (cs := #[.bool a1_0, .slice A1_1 l1_1.length c1_1]) (t := 27) (by first | (go_simp; done) | (go_simp; rfl)) ?_; intro gb283 hg w7 hbox hb; replace HO0_1 := vB HO0_1 hg hb; replace HO1_1 := vB HO1_1 hg hb; have BK283 := mk0 (hbox); have GE283 := geB hg HB; replace HB := hbS HB hb; have NB282_283 := nbA hg BK282; have NB283_282 := nbB hg BK282; replace BK282 := bkB BK282 hb; clear hb hbox hg) | ((with_reducible refine gate_dst (N := 4) rfl ?_); refine box_event rfl (N := 4) rfl (cs := #[.bool false, .slice none 0 0, .slice none 0 0]) (t := 29) (by first | (go_simp; done) | (go_simp; rfl)) ?_; intro gb284 hg w8 hbox hb; replace HO0_1 := vB HO0_1 hg hb; replace HO1_1 := vB HO1_1 hg hb; have BK284 := mk0 (hbox); have GE284 := geB hg HB; replace HB := hbS HB hb; have NB282_284 := nbA hg BK282; have NB284_282 := nbB hg BK282; replace BK282 := bkB BK282 hb; have NB283_284 := nbA hg BK283; have NB284_283 := nbB hg BK283; replace BK283 := bkB BK283 hb; clear hb hbox hg; have hnb9 := NB283_282.out; have hnc9 := NB282_283.out; have hnb10 := NB283_284.out; have hnc10 := NB284_283.out; have hcz11_0 : w8.cell? ⟨gb283, 0, none⟩ = some (.bool a1_0) := (blk_cell BK283.out 0).trans rfl; have hcz11_1 : w8.cell? ⟨gb283, 1, none⟩ = some (.slice A1_1 l1_1.length c1_1) := (blk_cell BK283.out 1).trans rfl; have hfz11_0 := blk_frozen BK283.out 0; have hfz11_1 := blk_frozen BK283.out 1) | ((with_reducible refine gate_callee (f := 64) rfl ?_); refine goesL_ (some 8) rfl rfl Try.func64 (by kernel_rfl) rfl #[.slice A1_1 l1_1.length c1_1] rfl (by (try simp only [List.map_toArray, List.map_cons, List.map_nil]); first | done | rfl | (simp only [List.length_drop, List.length_take]; rfl)) ?_; (with_reducible refine (nat_Bits.calls k _ _ l1_1 t285 _ (by exact (Kd.V_reads' HO1_1.out).2.2) (by exact (Kd.V_reads' HO1_1.out).2.1) A3.out).mono ?_); rintro e w12 ⟨rfl, hb⟩; refine ⟨_, rfl, ?_⟩; replace HO0_1 := mk0 (Kd.V_below HO0_1.out hb); replace HO1_1 := mk0 (Kd.V_below HO1_1.out hb); replace BK282 := bkB BK282 hb; replace BK283 := bkB BK283 hb; replace BK284 := bkB BK284 hb; replace HB := hbS HB hb) | ((with_reducible refine gate_callee (f := 67) rfl ?_); refine goesL_ (some 10) rfl rfl Try.func67 (by kernel_rfl) rfl #[] rfl (by (try simp only [List.map_toArray, List.map_cons, List.map_nil]); first | done | rfl | (simp only [List.length_drop, List.length_take]; rfl)) ?_; (with_reducible refine (ratio_zero.calls k  t286 t287 t290 _ A5.out).mono ?_); rintro e w13 ⟨v288, v291, rfl, ho0, ho1, hb⟩; refine ⟨_, rfl, ?_⟩; replace HO0_1 := mk0 (Kd.V_elder' HO0_1.out (Kd.R_base ho0) hb); replace HO1_1 := mk0 (Kd.V_elder' HO1_1.out (Kd.R_base ho0) hb); have HO289 := mk0 (Kd.R_lower (Kd.R_newM (M := fun k_ => (w.heap.size ≤ k_)) (Kd.R_mono (ok' := fun k_ => True) ho0 (fun _ hk_ => trivial)) (below_size HB.out) (fun k_ h_ => h_)) (below_size HB.out)); have HO292 := mk0 (Kd.V_lower (Kd.V_mono (ok' := fun k_ => ((P0_1_ k_ ∨ P1_1_ k_) ∨ w.heap.size ≤ k_) ∧ some k_ ≠ (v288 : Value).ownBlock ∧ k_ ≠ gb282 ∧ k_ ≠ gb283 ∧ k_ ≠ gb284) ho1 (fun k_ hk_ => ⟨(.inr (Nat.le_trans (below_size HB.out) hk_.1)), hk_.2, (Kd.freshB BK282.out k_ hk_.1), (Kd.freshB BK283.out k_ hk_.1), (Kd.freshB BK284.out k_ hk_.1)⟩)) (below_size HB.out)); replace BK282 := bkB BK282 hb; replace BK283 := bkB BK283 hb; replace BK284 := bkB BK284 hb; replace HB := hbS HB hb; have hnb14 := NB284_282.out; have hnc14 := NB282_284.out; have hcz15_0 : w13.cell? ⟨gb284, 0, none⟩ = some (.bool false) := (blk_cell BK284.out 0).trans rfl; have hcz15_1 : w13.cell? ⟨gb284, 1, none⟩ = some (.slice none 0 0) := (blk_cell BK284.out 1).trans rfl; have hcz15_2 : w13.cell? ⟨gb284, 2, none⟩ = some (.slice none 0 0) := (blk_cell BK284.out 2).trans rfl; have hfz15_0 := blk_frozen BK284.out 0; have hfz15_1 := blk_frozen BK284.out 1; have hfz15_2 := blk_frozen BK284.out 2; obtain ⟨Ao16, co16, eo16⟩ := Kd.R_slice HO289.out; subst eo16; obtain ⟨Ao17, co17, eo17⟩ := Kd.V_slice HO292.out; subst eo17))
    refine bodyPost_ret (results_ct rfl _ _ gb284 29 #[.bool t286, .slice Ao16 t287.length co16, .slice Ao17 t290.length co17] (0, 0) _ rfl (by (with_reducible repeat (first | refine blk_drewN ?_ _ | refine blk_drew ?_ | refine blk_alloc ?_ _)); refine blk_put (cs := #[.bool t286, .slice Ao16 t287.length co16, .slice none 0 0]) ?_ 2 _ rfl; (with_reducible repeat (first | refine blk_drewN ?_ _ | refine blk_drew ?_ | refine blk_alloc ?_ _)); refine blk_put (cs := #[.bool t286, .slice none 0 0, .slice none 0 0]) ?_ 1 _ rfl; (with_reducible repeat (first | refine blk_drewN ?_ _ | refine blk_drew ?_ | refine blk_alloc ?_ _)); refine blk_put (cs := #[.bool false, .slice none 0 0, .slice none 0 0]) ?_ 0 _ rfl; (with_reducible repeat (first | refine blk_drewN ?_ _ | refine blk_drew ?_ | refine blk_alloc ?_ _)); exact BK284.out) Try.underlying29 rfl (by kernel_rfl)) rfl ?_
    exact ⟨_, _, by first | rfl | (simp [errW_none, errW_some] <;> rfl) | (simp [*, errW_none, errW_some] <;> rfl), Kd.R_mono (Kd.R_far (p := ⟨gb284, 2, none⟩) (Kd.R_far (p := ⟨gb284, 1, none⟩) (Kd.R_far (p := ⟨gb284, 0, none⟩) (Kd.R_types HO289.out BK284.out (by decide)) (fun _ hk => hk.2) (.bool t286)) (fun _ hk => hk.2) (.slice Ao16 t287.length co16)) (fun _ hk => hk.2) (.slice Ao17 t290.length co17)) (fun _ hk => hk.1.1), Kd.V_mono (Kd.V_far (p := ⟨gb284, 2, none⟩) (Kd.V_far (p := ⟨gb284, 1, none⟩) (Kd.V_far (p := ⟨gb284, 0, none⟩) (Kd.V_mono HO292.out (fun k_ hk => (⟨hk, hk.2.2.2.2⟩ : _ ∧ k_ ≠ gb284))) (fun _ hk => hk.2) (.bool t286)) (fun _ hk => hk.2) (.slice Ao16 t287.length co16)) (fun _ hk => hk.2) (.slice Ao17 t290.length co17)) (fun _ hk => ⟨hk.1.1, hk.1.2.1⟩), by repeat (first | exact HB.out | refine below_set ?_ GE282.out | refine below_set ?_ GE283.out | refine below_set ?_ GE284.out)⟩
  · rw [if_neg c4] at H
    have c4b0 : (t285 == 0) = false := beq_eq_false_iff_ne.mpr c4
    have c4b1 : (t285 != 0) = true := bne_iff_ne.mpr c4
    obtain ⟨⟨t293, t294, t297⟩, A18, H⟩ := bindA H
    simp only [Option.some.injEq, Prod.mk.injEq] at H
    obtain ⟨rfl, rfl, rfl, rfl⟩ := H
    go_enter Try.func38, Try.ntmps38
    go_wp2_with (first | ((with_reducible refine gate_dst (N := 2) rfl ?_); refine box_event rfl (N := 2) rfl (cs := #[.bool a0_0, .slice A0_1 l0_1.length c0_1]) (t := 27) (by first | (go_simp; done) | (go_simp; rfl)) ?_; intro gb282 hg w19 hbox hb; replace HO0_1 := vB HO0_1 hg hb; replace HO1_1 := vB HO1_1 hg hb; have BK282 := mk0 (hbox); have GE282 := geB hg HB; replace HB := hbS HB hb; clear hb hbox hg) | ((with_reducible refine gate_dst (N := 3) rfl ?_); refine box_event rfl (N := 3) rfl (cs := #[.bool a1_0, .slice A1_1 l1_1.length c1_1]) (t := 27) (by first | (go_simp; done) | (go_simp; rfl)) ?_; intro gb283 hg w20 hbox hb; replace HO0_1 := vB HO0_1 hg hb; replace HO1_1 := vB HO1_1 hg hb; have BK283 := mk0 (hbox); have GE283 := geB hg HB; replace HB := hbS HB hb; have NB282_283 := nbA hg BK282; have NB283_282 := nbB hg BK282; replace BK282 := bkB BK282 hb; clear hb hbox hg) | ((with_reducible refine gate_dst (N := 4) rfl ?_); refine box_event rfl (N := 4) rfl (cs := #[.bool false, .slice none 0 0, .slice none 0 0]) (t := 29) (by first | (go_simp; done) | (go_simp; rfl)) ?_; intro gb284 hg w21 hbox hb; replace HO0_1 := vB HO0_1 hg hb; replace HO1_1 := vB HO1_1 hg hb; have BK284 := mk0 (hbox); have GE284 := geB hg HB; replace HB := hbS HB hb; have NB282_284 := nbA hg BK282; have NB284_282 := nbB hg BK282; replace BK282 := bkB BK282 hb; have NB283_284 := nbA hg BK283; have NB284_283 := nbB hg BK283; replace BK283 := bkB BK283 hb; clear hb hbox hg; have hnb22 := NB283_282.out; have hnc22 := NB282_283.out; have hnb23 := NB283_284.out; have hnc23 := NB284_283.out; have hcz24_0 : w21.cell? ⟨gb283, 0, none⟩ = some (.bool a1_0) := (blk_cell BK283.out 0).trans rfl; have hcz24_1 : w21.cell? ⟨gb283, 1, none⟩ = some (.slice A1_1 l1_1.length c1_1) := (blk_cell BK283.out 1).trans rfl; have hfz24_0 := blk_frozen BK283.out 0; have hfz24_1 := blk_frozen BK283.out 1) | ((with_reducible refine gate_callee (f := 64) rfl ?_); refine goesL_ (some 8) rfl rfl Try.func64 (by kernel_rfl) rfl #[.slice A1_1 l1_1.length c1_1] rfl (by (try simp only [List.map_toArray, List.map_cons, List.map_nil]); first | done | rfl | (simp only [List.length_drop, List.length_take]; rfl)) ?_; (with_reducible refine (nat_Bits.calls k _ _ l1_1 t285 _ (by exact (Kd.V_reads' HO1_1.out).2.2) (by exact (Kd.V_reads' HO1_1.out).2.1) A3.out).mono ?_); rintro e w25 ⟨rfl, hb⟩; refine ⟨_, rfl, ?_⟩; replace HO0_1 := mk0 (Kd.V_below HO0_1.out hb); replace HO1_1 := mk0 (Kd.V_below HO1_1.out hb); replace BK282 := bkB BK282 hb; replace BK283 := bkB BK283 hb; replace BK284 := bkB BK284 hb; replace HB := hbS HB hb; have hnb26 := NB282_284.out; have hnc26 := NB284_282.out; have hcz27_0 : w25.cell? ⟨gb282, 0, none⟩ = some (.bool a0_0) := (blk_cell BK282.out 0).trans rfl; have hcz27_1 : w25.cell? ⟨gb282, 1, none⟩ = some (.slice A0_1 l0_1.length c0_1) := (blk_cell BK282.out 1).trans rfl; have hfz27_0 := blk_frozen BK282.out 0; have hfz27_1 := blk_frozen BK282.out 1; have hcz28_0 : w25.cell? ⟨gb283, 0, none⟩ = some (.bool a1_0) := (blk_cell BK283.out 0).trans rfl; have hcz28_1 : w25.cell? ⟨gb283, 1, none⟩ = some (.slice A1_1 l1_1.length c1_1) := (blk_cell BK283.out 1).trans rfl; have hfz28_0 := blk_frozen BK283.out 0; have hfz28_1 := blk_frozen BK283.out 1) | ((with_reducible refine gate_callee (f := 53) rfl ?_); refine goesL_ (some 21) rfl rfl Try.func53 (by kernel_rfl) rfl #[.agg #[.bool (a0_0 != a1_0), .slice A0_1 l0_1.length c0_1], .slice A1_1 l1_1.length c1_1] rfl (by (try simp only [List.map_toArray, List.map_cons, List.map_nil]); first | done | rfl | (simp only [List.length_drop, List.length_take]; rfl)) ?_; (with_reducible refine (ratio_lowest.calls k (a0_0 != a1_0) (fun k_ => (((((P0_1_ k_ ∨ P1_1_ k_) ∨ w.heap.size ≤ k_) ∧ k_ ≠ gb282) ∧ k_ ≠ gb283) ∧ k_ ≠ gb284)) _ _ l0_1 (fun k_ => (((((P0_1_ k_ ∨ P1_1_ k_) ∨ w.heap.size ≤ k_) ∧ k_ ≠ gb282) ∧ k_ ≠ gb283) ∧ k_ ≠ gb284)) _ _ l1_1 t293 t294 t297 _ HO0_1.out HO1_1.out A18.out).mono ?_); rintro e w29 ⟨v295, v298, rfl, ho0, ho1, hb⟩; refine ⟨_, rfl, ?_⟩; replace HO0_1 := mk0 (Kd.V_elder' HO0_1.out (Kd.R_base ho0) hb); replace HO1_1 := mk0 (Kd.V_elder' HO1_1.out (Kd.R_base ho0) hb); have HO296 := mk0 (Kd.R_lower (Kd.R_newM (M := fun k_ => (w.heap.size ≤ k_)) (Kd.R_mono (ok' := fun k_ => True) ho0 (fun _ hk_ => trivial)) (below_size HB.out) (fun k_ h_ => h_)) (below_size HB.out)); have HO299 := mk0 (Kd.V_lower (Kd.V_mono (ok' := fun k_ => ((P0_1_ k_ ∨ P1_1_ k_) ∨ w.heap.size ≤ k_) ∧ some k_ ≠ (v295 : Value).ownBlock ∧ k_ ≠ gb282 ∧ k_ ≠ gb283 ∧ k_ ≠ gb284) ho1 (fun k_ hk_ => ⟨Or.elim hk_.1 (fun hs_ => Or.elim hs_ (fun hs_ => hs_.1.1.1) (fun hs_ => hs_.1.1.1)) (fun hn_ => (.inr (Nat.le_trans (below_size HB.out) hn_))), hk_.2, Or.elim hk_.1 (fun hs_ => Or.elim hs_ (fun hs_ => hs_.1.1.2) (fun hs_ => hs_.1.1.2)) (fun hn_ => (Kd.freshB BK282.out k_ hn_)), Or.elim hk_.1 (fun hs_ => Or.elim hs_ (fun hs_ => hs_.1.2) (fun hs_ => hs_.1.2)) (fun hn_ => (Kd.freshB BK283.out k_ hn_)), Or.elim hk_.1 (fun hs_ => Or.elim hs_ (fun hs_ => hs_.2) (fun hs_ => hs_.2)) (fun hn_ => (Kd.freshB BK284.out k_ hn_))⟩)) (below_size HB.out)); replace BK282 := bkB BK282 hb; replace BK283 := bkB BK283 hb; replace BK284 := bkB BK284 hb; replace HB := hbS HB hb; have hcz30_0 : w29.cell? ⟨gb284, 0, none⟩ = some (.bool false) := (blk_cell BK284.out 0).trans rfl; have hcz30_1 : w29.cell? ⟨gb284, 1, none⟩ = some (.slice none 0 0) := (blk_cell BK284.out 1).trans rfl; have hcz30_2 : w29.cell? ⟨gb284, 2, none⟩ = some (.slice none 0 0) := (blk_cell BK284.out 2).trans rfl; have hfz30_0 := blk_frozen BK284.out 0; have hfz30_1 := blk_frozen BK284.out 1; have hfz30_2 := blk_frozen BK284.out 2; obtain ⟨Ao31, co31, eo31⟩ := Kd.R_slice HO296.out; subst eo31; obtain ⟨Ao32, co32, eo32⟩ := Kd.V_slice HO299.out; subst eo32))
    refine bodyPost_ret (results_ct rfl _ _ gb284 29 #[.bool t293, .slice Ao31 t294.length co31, .slice Ao32 t297.length co32] (0, 0) _ rfl (by (with_reducible repeat (first | refine blk_drewN ?_ _ | refine blk_drew ?_ | refine blk_alloc ?_ _)); refine blk_put (cs := #[.bool t293, .slice Ao31 t294.length co31, .slice none 0 0]) ?_ 2 _ rfl; (with_reducible repeat (first | refine blk_drewN ?_ _ | refine blk_drew ?_ | refine blk_alloc ?_ _)); refine blk_put (cs := #[.bool t293, .slice none 0 0, .slice none 0 0]) ?_ 1 _ rfl; (with_reducible repeat (first | refine blk_drewN ?_ _ | refine blk_drew ?_ | refine blk_alloc ?_ _)); refine blk_put (cs := #[.bool false, .slice none 0 0, .slice none 0 0]) ?_ 0 _ rfl; (with_reducible repeat (first | refine blk_drewN ?_ _ | refine blk_drew ?_ | refine blk_alloc ?_ _)); exact BK284.out) Try.underlying29 rfl (by kernel_rfl)) rfl ?_
    exact ⟨_, _, by first | rfl | (simp [errW_none, errW_some] <;> rfl) | (simp [*, errW_none, errW_some] <;> rfl), Kd.R_mono (Kd.R_far (p := ⟨gb284, 2, none⟩) (Kd.R_far (p := ⟨gb284, 1, none⟩) (Kd.R_far (p := ⟨gb284, 0, none⟩) (Kd.R_types HO296.out BK284.out (by decide)) (fun _ hk => hk.2) (.bool t293)) (fun _ hk => hk.2) (.slice Ao31 t294.length co31)) (fun _ hk => hk.2) (.slice Ao32 t297.length co32)) (fun _ hk => hk.1.1), Kd.V_mono (Kd.V_far (p := ⟨gb284, 2, none⟩) (Kd.V_far (p := ⟨gb284, 1, none⟩) (Kd.V_far (p := ⟨gb284, 0, none⟩) (Kd.V_mono HO299.out (fun k_ hk => (⟨hk, hk.2.2.2.2⟩ : _ ∧ k_ ≠ gb284))) (fun _ hk => hk.2) (.bool t293)) (fun _ hk => hk.2) (.slice Ao31 t294.length co31)) (fun _ hk => hk.2) (.slice Ao32 t297.length co32)) (fun _ hk => ⟨hk.1.1, hk.1.2.1⟩), by repeat (first | exact HB.out | refine below_set ?_ GE282.out | refine below_set ?_ GE283.out | refine below_set ?_ GE284.out)⟩
end Go.Proofs.Ythamhjmhgcpdgaa.Q
end
section
namespace Go.Proofs.Ythamhjmhgcpdgaa.Q
open Go.RowKit Go.Proofs.YthamhjmhgcpdgaaW.PrintWords Go.Proofs.YthamhjmhgcpdgaaW.PrintLast Go.Proofs.YthamhjmhgcpdgaaW.PrintMore Go.Proofs.Ythamhjmhgcpdgaa.MyWords
attribute [local go_sem] max2_int min2_int max_two min_two
set_option linter.unusedVariables false
set_option linter.unusedSimpArgs false
set_option maxHeartbeats 8000000 in
set_option maxRecDepth 100000 in
theorem integer_Of.calls (k : Nat) (a0 : Int) (r1 : Bool) (r2 : List Int) (w : World) (h : integer_Of.f k a0 = some (r1, r2)) :
    Calls Try.prog 39 #[.int .i64 a0] w fun e w' => ∃ v1_ : Value, e = .returned (.agg #[.bool r1, v1_]) ∧ Kd.V (Kd.int .u32) 87 w' w.heap.size (fun k_ => (w.heap.size ≤ k_)) v1_ r2 ∧ Below w.heap.size w w' := by
  have hu27 := Try.underlying27
  have HB := mk0 (Below.refl w.heap.size w)
  have H : (if a0 < 0 then ((nat_Of.f k (IntKind.u64.wrap ((IntKind.u64.wrap (wrap64 (-(wrap64 (a0 + 1))))) + 1))).bind fun t301 => (some (true, t301))) else ((nat_Of.f k (IntKind.u64.wrap (a0))).bind fun t304 => (some (false, t304)))) = some (r1, r2) := h
  clear h
  by_cases c2 : a0 < 0
  · rw [if_pos c2] at H
    have c2b0 : decide (a0 < 0) = true := decide_eq_true c2
    clear c2
    obtain ⟨t301, A3, H⟩ := bindA H
    simp only [Option.some.injEq, Prod.mk.injEq] at H
    obtain ⟨rfl, rfl⟩ := H
    go_enter Try.func39, Try.ntmps39
    go_wp2_with (first | ((with_reducible refine gate_dst (N := 2) rfl ?_); refine box_event rfl (N := 2) rfl (cs := #[.bool false, .slice none 0 0]) (t := 27) (by first | (go_simp; done) | (go_simp; rfl)) ?_; intro gb300 hg w4 hbox hb; have BK300 := mk0 (hbox); have GE300 := geB hg HB; replace HB := hbS HB hb; clear hb hbox hg) | ((with_reducible refine gate_callee (f := 66) rfl ?_); refine goesL_ (some 10) rfl rfl Try.func66 (by kernel_rfl) rfl #[.int .u64 (IntKind.u64.wrap ((IntKind.u64.wrap (wrap64 (-(wrap64 (a0 + 1))))) + 1))] rfl (by first | (go_simp; done) | (go_simp; rfl)) ?_; (with_reducible refine (nat_Of.calls k (IntKind.u64.wrap ((IntKind.u64.wrap (wrap64 (-(wrap64 (a0 + 1))))) + 1)) t301 _ A3.out).mono ?_); rintro e w5 ⟨v302, rfl, ho0, hb⟩; refine ⟨_, rfl, ?_⟩; have HO303 := mk0 (Kd.V_lower (Kd.V_mono (ok' := fun k_ => (w.heap.size ≤ k_) ∧ k_ ≠ gb300) ho0 (fun k_ hk_ => ⟨(Nat.le_trans (below_size HB.out) hk_), (Kd.freshB BK300.out k_ hk_)⟩)) (below_size HB.out)); replace BK300 := bkB BK300 hb; replace HB := hbS HB hb; obtain ⟨Ao6, co6, eo6⟩ := Kd.V_slice HO303.out; subst eo6; have hcz7_0 : w5.cell? ⟨gb300, 0, none⟩ = some (.bool false) := (blk_cell BK300.out 0).trans rfl; have hcz7_1 : w5.cell? ⟨gb300, 1, none⟩ = some (.slice none 0 0) := (blk_cell BK300.out 1).trans rfl; have hfz7_0 := blk_frozen BK300.out 0; have hfz7_1 := blk_frozen BK300.out 1))
    refine bodyPost_ret (results_cell_row rfl _ _ gb300 27 #[.bool true, .slice Ao6 t301.length co6] (0, 0) _ rfl (by (with_reducible repeat (first | refine blk_drewN ?_ _ | refine blk_drew ?_ | refine blk_alloc ?_ _)); refine blk_put (cs := #[.bool true, .slice none 0 0]) ?_ 1 _ rfl; (with_reducible repeat (first | refine blk_drewN ?_ _ | refine blk_drew ?_ | refine blk_alloc ?_ _)); refine blk_put (cs := #[.bool false, .slice none 0 0]) ?_ 0 _ rfl; (with_reducible repeat (first | refine blk_drewN ?_ _ | refine blk_drew ?_ | refine blk_alloc ?_ _)); exact BK300.out) Try.underlying27 rfl (by kernel_rfl)) rfl ?_
    exact ⟨_, by first | rfl | (simp [errW_none, errW_some] <;> rfl) | (simp [*, errW_none, errW_some] <;> rfl), Kd.V_mono (Kd.V_far (p := ⟨gb300, 1, none⟩) (Kd.V_far (p := ⟨gb300, 0, none⟩) (Kd.V_mono HO303.out (fun k_ hk => (⟨hk, hk.2⟩ : _ ∧ k_ ≠ gb300))) (fun _ hk => hk.2) (.bool true)) (fun _ hk => hk.2) (.slice Ao6 t301.length co6)) (fun _ hk => hk.1.1), by repeat (first | exact HB.out | refine below_set ?_ GE300.out)⟩
  · rw [if_neg c2] at H
    have c2b0 : decide (a0 < 0) = false := decide_eq_false c2
    clear c2
    obtain ⟨t304, A8, H⟩ := bindA H
    simp only [Option.some.injEq, Prod.mk.injEq] at H
    obtain ⟨rfl, rfl⟩ := H
    go_enter Try.func39, Try.ntmps39
    go_wp2_with (first | ((with_reducible refine gate_dst (N := 2) rfl ?_); refine box_event rfl (N := 2) rfl (cs := #[.bool false, .slice none 0 0]) (t := 27) (by first | (go_simp; done) | (go_simp; rfl)) ?_; intro gb300 hg w9 hbox hb; have BK300 := mk0 (hbox); have GE300 := geB hg HB; replace HB := hbS HB hb; clear hb hbox hg) | ((with_reducible refine gate_callee (f := 66) rfl ?_); refine goesL_ (some 14) rfl rfl Try.func66 (by kernel_rfl) rfl #[.int .u64 (IntKind.u64.wrap (a0))] rfl (by first | (go_simp; done) | (go_simp; rfl)) ?_; (with_reducible refine (nat_Of.calls k (IntKind.u64.wrap (a0)) t304 _ A8.out).mono ?_); rintro e w10 ⟨v305, rfl, ho0, hb⟩; refine ⟨_, rfl, ?_⟩; have HO306 := mk0 (Kd.V_lower (Kd.V_mono (ok' := fun k_ => (w.heap.size ≤ k_) ∧ k_ ≠ gb300) ho0 (fun k_ hk_ => ⟨(Nat.le_trans (below_size HB.out) hk_), (Kd.freshB BK300.out k_ hk_)⟩)) (below_size HB.out)); replace BK300 := bkB BK300 hb; replace HB := hbS HB hb; obtain ⟨Ao11, co11, eo11⟩ := Kd.V_slice HO306.out; subst eo11; have hcz12_0 : w10.cell? ⟨gb300, 0, none⟩ = some (.bool false) := (blk_cell BK300.out 0).trans rfl; have hcz12_1 : w10.cell? ⟨gb300, 1, none⟩ = some (.slice none 0 0) := (blk_cell BK300.out 1).trans rfl; have hfz12_0 := blk_frozen BK300.out 0; have hfz12_1 := blk_frozen BK300.out 1))
    refine bodyPost_ret (results_cell_row rfl _ _ gb300 27 #[.bool false, .slice Ao11 t304.length co11] (0, 0) _ rfl (by (with_reducible repeat (first | refine blk_drewN ?_ _ | refine blk_drew ?_ | refine blk_alloc ?_ _)); refine blk_put (cs := #[.bool false, .slice none 0 0]) ?_ 1 _ rfl; (with_reducible repeat (first | refine blk_drewN ?_ _ | refine blk_drew ?_ | refine blk_alloc ?_ _)); refine blk_put (cs := #[.bool false, .slice none 0 0]) ?_ 0 _ rfl; (with_reducible repeat (first | refine blk_drewN ?_ _ | refine blk_drew ?_ | refine blk_alloc ?_ _)); exact BK300.out) Try.underlying27 rfl (by kernel_rfl)) rfl ?_
    exact ⟨_, by first | rfl | (simp [errW_none, errW_some] <;> rfl) | (simp [*, errW_none, errW_some] <;> rfl), Kd.V_mono (Kd.V_far (p := ⟨gb300, 1, none⟩) (Kd.V_far (p := ⟨gb300, 0, none⟩) (Kd.V_mono HO306.out (fun k_ hk => (⟨hk, hk.2⟩ : _ ∧ k_ ≠ gb300))) (fun _ hk => hk.2) (.bool false)) (fun _ hk => hk.2) (.slice Ao11 t304.length co11)) (fun _ hk => hk.1.1), by repeat (first | exact HB.out | refine below_set ?_ GE300.out)⟩
end Go.Proofs.Ythamhjmhgcpdgaa.Q
end
section
namespace Go.Proofs.Ythamhjmhgcpdgaa.Q
open Go.RowKit Go.Proofs.YthamhjmhgcpdgaaW.PrintWords Go.Proofs.YthamhjmhgcpdgaaW.PrintLast Go.Proofs.YthamhjmhgcpdgaaW.PrintMore Go.Proofs.Ythamhjmhgcpdgaa.MyWords
attribute [local go_sem] max2_int min2_int max_two min_two
set_option linter.unusedVariables false
set_option linter.unusedSimpArgs false
set_option maxHeartbeats 8000000 in
set_option maxRecDepth 100000 in
theorem ratio_Of.calls (k : Nat) (a0 : Int) (a1 : Int) (r1 : Bool) (r2 : List Int) (r3 : List Int) (r4 : Bool) (w : World) (h : ratio_Of.f k a0 a1 = some (r1, r2, r3, r4)) :
    Calls Try.prog 16 #[.int .i64 a0, .int .i64 a1] w fun e w' => ∃ v1_ v2_ : Value, e = .returned (.tuple #[.agg #[.bool r1, v1_, v2_], .bool r4]) ∧ Kd.R (Kd.int .u32) 87 w' w.heap.size (fun k_ => (w.heap.size ≤ k_)) v1_ r2 ∧ Kd.V (Kd.int .u32) 87 w' w.heap.size (fun k_ => (w.heap.size ≤ k_) ∧ some k_ ≠ (v1_ : Value).ownBlock) v2_ r3 ∧ Below w.heap.size w w' := by
  have hu29 := Try.underlying29
  have HB := mk0 (Below.refl w.heap.size w)
  have H : ((integer_Of.f k a0).bind fun bt308 => ((integer_Of.f k a1).bind fun bt312 => ((ratio_Make.f k bt308.1 bt308.2 bt312.1 bt312.2).bind fun bt316 => (some (bt316.1, bt316.2.1, bt316.2.2.1, bt316.2.2.2))))) = some (r1, r2, r3, r4) := h
  clear h
  obtain ⟨⟨t308, t309⟩, A3, H⟩ := bindA H
  obtain ⟨⟨t312, t313⟩, A4, H⟩ := bindA H
  obtain ⟨⟨t316, t317, t320, t323⟩, A5, H⟩ := bindA H
  simp only [Option.some.injEq, Prod.mk.injEq] at H
  obtain ⟨rfl, rfl, rfl, rfl⟩ := H
  go_enter Try.func16, Try.ntmps16
  go_wp2_with (first | ((with_reducible refine gate_dst (N := 4) rfl ?_); refine box_event rfl (N := 4) rfl (cs := #[.bool false, .slice none 0 0, .slice none 0 0]) (t := 29) (by first | (go_simp; done) | (go_simp; rfl)) ?_; intro gb307 hg w6 hbox hb; have BK307 := mk0 (hbox); have GE307 := geB hg HB; replace HB := hbS HB hb; clear hb hbox hg) | ((with_reducible refine gate_callee (f := 39) rfl ?_); refine goesL_ (some 7) rfl rfl Try.func39 (by kernel_rfl) rfl #[.int .i64 a0] rfl (by first | (go_simp; done) | (go_simp; rfl)) ?_; (with_reducible refine (integer_Of.calls k a0 t308 t309 _ A3.out).mono ?_); rintro e w7 ⟨v310, rfl, ho0, hb⟩; refine ⟨_, rfl, ?_⟩; have HO311 := mk0 (Kd.V_lower (Kd.V_mono (ok' := fun k_ => (w.heap.size ≤ k_) ∧ k_ ≠ gb307) ho0 (fun k_ hk_ => ⟨(Nat.le_trans (below_size HB.out) hk_), (Kd.freshB BK307.out k_ hk_)⟩)) (below_size HB.out)); replace BK307 := bkB BK307 hb; replace HB := hbS HB hb) | ((with_reducible refine gate_callee (f := 39) rfl ?_); refine goesL_ (some 9) rfl rfl Try.func39 (by kernel_rfl) rfl #[.int .i64 a1] rfl (by first | (go_simp; done) | (go_simp; rfl)) ?_; (with_reducible refine (integer_Of.calls k a1 t312 t313 _ A4.out).mono ?_); rintro e w8 ⟨v314, rfl, ho0, hb⟩; refine ⟨_, rfl, ?_⟩; replace HO311 := mk0 (Kd.V_below HO311.out hb); have HO315 := mk0 (Kd.V_lower (Kd.V_mono (ok' := fun k_ => (w.heap.size ≤ k_) ∧ k_ ≠ gb307) ho0 (fun k_ hk_ => ⟨(Nat.le_trans (below_size HB.out) hk_), (Kd.freshB BK307.out k_ hk_)⟩)) (below_size HB.out)); replace BK307 := bkB BK307 hb; replace HB := hbS HB hb; obtain ⟨Ao9, co9, eo9⟩ := Kd.V_slice HO311.out; subst eo9; obtain ⟨Ao10, co10, eo10⟩ := Kd.V_slice HO315.out; subst eo10) | ((with_reducible refine gate_callee (f := 38) rfl ?_); refine goesL_ (some 10) rfl rfl Try.func38 (by kernel_rfl) rfl #[.agg #[.bool t308, .slice Ao9 t309.length co9], .agg #[.bool t312, .slice Ao10 t313.length co10]] rfl (by first | (go_simp; done) | (go_simp; rfl)) ?_; (with_reducible refine (ratio_Make.calls k t308 (fun k_ => ((w.heap.size ≤ k_) ∧ k_ ≠ gb307)) _ _ t309 t312 (fun k_ => ((w.heap.size ≤ k_) ∧ k_ ≠ gb307)) _ _ t313 t316 t317 t320 t323 _ HO311.out HO315.out A5.out).mono ?_); rintro e w11 ⟨v318, v321, rfl, ho0, ho1, hb⟩; refine ⟨_, rfl, ?_⟩; replace HO311 := mk0 (Kd.V_elder' HO311.out (Kd.R_base ho0) hb); replace HO315 := mk0 (Kd.V_elder' HO315.out (Kd.R_base ho0) hb); have HO319 := mk0 (Kd.R_lower (Kd.R_newM (M := fun k_ => (w.heap.size ≤ k_)) (Kd.R_mono (ok' := fun k_ => True) ho0 (fun _ hk_ => trivial)) (below_size HB.out) (fun k_ h_ => h_)) (below_size HB.out)); have HO322 := mk0 (Kd.V_lower (Kd.V_mono (ok' := fun k_ => (w.heap.size ≤ k_) ∧ some k_ ≠ (v318 : Value).ownBlock ∧ k_ ≠ gb307) ho1 (fun k_ hk_ => ⟨Or.elim hk_.1 (fun hs_ => Or.elim hs_ (fun hs_ => hs_.1) (fun hs_ => hs_.1)) (fun hn_ => (Nat.le_trans (below_size HB.out) hn_)), hk_.2, Or.elim hk_.1 (fun hs_ => Or.elim hs_ (fun hs_ => hs_.2) (fun hs_ => hs_.2)) (fun hn_ => (Kd.freshB BK307.out k_ hn_))⟩)) (below_size HB.out)); replace BK307 := bkB BK307 hb; replace HB := hbS HB hb; have hcz12_0 : w11.cell? ⟨gb307, 0, none⟩ = some (.bool false) := (blk_cell BK307.out 0).trans rfl; have hcz12_1 : w11.cell? ⟨gb307, 1, none⟩ = some (.slice none 0 0) := (blk_cell BK307.out 1).trans rfl; have hcz12_2 : w11.cell? ⟨gb307, 2, none⟩ = some (.slice none 0 0) := (blk_cell BK307.out 2).trans rfl; have hfz12_0 := blk_frozen BK307.out 0; have hfz12_1 := blk_frozen BK307.out 1; have hfz12_2 := blk_frozen BK307.out 2; obtain ⟨Ao13, co13, eo13⟩ := Kd.R_slice HO319.out; subst eo13; obtain ⟨Ao14, co14, eo14⟩ := Kd.V_slice HO322.out; subst eo14))
  refine bodyPost_ret (results_ct rfl _ _ gb307 29 #[.bool t316, .slice Ao13 t317.length co13, .slice Ao14 t320.length co14] (0, 0) _ rfl (by (with_reducible repeat (first | refine blk_drewN ?_ _ | refine blk_drew ?_ | refine blk_alloc ?_ _)); refine blk_put (cs := #[.bool t316, .slice Ao13 t317.length co13, .slice none 0 0]) ?_ 2 _ rfl; (with_reducible repeat (first | refine blk_drewN ?_ _ | refine blk_drew ?_ | refine blk_alloc ?_ _)); refine blk_put (cs := #[.bool t316, .slice none 0 0, .slice none 0 0]) ?_ 1 _ rfl; (with_reducible repeat (first | refine blk_drewN ?_ _ | refine blk_drew ?_ | refine blk_alloc ?_ _)); refine blk_put (cs := #[.bool false, .slice none 0 0, .slice none 0 0]) ?_ 0 _ rfl; (with_reducible repeat (first | refine blk_drewN ?_ _ | refine blk_drew ?_ | refine blk_alloc ?_ _)); exact BK307.out) Try.underlying29 rfl (by kernel_rfl)) rfl ?_
  exact ⟨_, _, by first | rfl | (simp [errW_none, errW_some] <;> rfl) | (simp [*, errW_none, errW_some] <;> rfl), Kd.R_mono (Kd.R_far (p := ⟨gb307, 2, none⟩) (Kd.R_far (p := ⟨gb307, 1, none⟩) (Kd.R_far (p := ⟨gb307, 0, none⟩) (Kd.R_types HO319.out BK307.out (by decide)) (fun _ hk => hk.2) (.bool t316)) (fun _ hk => hk.2) (.slice Ao13 t317.length co13)) (fun _ hk => hk.2) (.slice Ao14 t320.length co14)) (fun _ hk => hk.1.1), Kd.V_mono (Kd.V_far (p := ⟨gb307, 2, none⟩) (Kd.V_far (p := ⟨gb307, 1, none⟩) (Kd.V_far (p := ⟨gb307, 0, none⟩) (Kd.V_mono HO322.out (fun k_ hk => (⟨hk, hk.2.2⟩ : _ ∧ k_ ≠ gb307))) (fun _ hk => hk.2) (.bool t316)) (fun _ hk => hk.2) (.slice Ao13 t317.length co13)) (fun _ hk => hk.2) (.slice Ao14 t320.length co14)) (fun _ hk => ⟨hk.1.1, hk.1.2.1⟩), by repeat (first | exact HB.out | refine below_set ?_ GE307.out)⟩
end Go.Proofs.Ythamhjmhgcpdgaa.Q
end
section
namespace Go.Proofs.Ythamhjmhgcpdgaa.Q
open Go.RowKit Go.Proofs.YthamhjmhgcpdgaaW.PrintWords Go.Proofs.YthamhjmhgcpdgaaW.PrintLast Go.Proofs.YthamhjmhgcpdgaaW.PrintMore Go.Proofs.Ythamhjmhgcpdgaa.MyWords
attribute [local go_sem] max2_int min2_int max_two min_two
set_option linter.unusedVariables false
set_option linter.unusedSimpArgs false
set_option maxHeartbeats 8000000 in
set_option maxRecDepth 100000 in
theorem exposure_fraction.calls (k : Nat) (a0 : Int) (a1 : Int) (r1 : Bool) (r2 : List Int) (r3 : List Int) (w : World) (h : exposure_fraction.f k a0 a1 = some (r1, r2, r3)) :
    Calls Try.prog 30 #[.int .i64 a0, .int .i64 a1] w fun e w' => ∃ v1_ v2_ : Value, e = .returned (.agg #[.bool r1, v1_, v2_]) ∧ Kd.R (Kd.int .u32) 87 w' w.heap.size (fun k_ => (w.heap.size ≤ k_)) v1_ r2 ∧ Kd.V (Kd.int .u32) 87 w' w.heap.size (fun k_ => (w.heap.size ≤ k_) ∧ some k_ ≠ (v1_ : Value).ownBlock) v2_ r3 ∧ Below w.heap.size w w' := by
  have hu29 := Try.underlying29
  have HB := mk0 (Below.refl w.heap.size w)
  have H : ((ratio_Of.f k a0 a1).bind fun bt851 => (some (bt851.1, bt851.2.1, bt851.2.2.1))) = some (r1, r2, r3) := h
  clear h
  obtain ⟨⟨t851, t852, t855, t858⟩, A3, H⟩ := bindA H
  simp only [Option.some.injEq, Prod.mk.injEq] at H
  obtain ⟨rfl, rfl, rfl⟩ := H
  go_enter Try.func30, Try.ntmps30
  go_wp2_with (first | ((with_reducible refine gate_dst (N := 4) rfl ?_); refine box_event rfl (N := 4) rfl (cs := #[.bool false, .slice none 0 0, .slice none 0 0]) (t := 29) (by first | (go_simp; done) | (go_simp; rfl)) ?_; intro gb850 hg w4 hbox hb; have BK850 := mk0 (hbox); have GE850 := geB hg HB; replace HB := hbS HB hb; clear hb hbox hg) | ((with_reducible refine gate_callee (f := 16) rfl ?_); refine goesL_ (some 10) rfl rfl Try.func16 (by kernel_rfl) rfl #[.int .i64 a0, .int .i64 a1] rfl (by first | (go_simp; done) | (go_simp; rfl)) ?_; (with_reducible refine (ratio_Of.calls k a0 a1 t851 t852 t855 t858 _ A3.out).mono ?_); rintro e w5 ⟨v853, v856, rfl, ho0, ho1, hb⟩; refine ⟨_, rfl, ?_⟩; have HO854 := mk0 (Kd.R_lower (Kd.R_newM (M := fun k_ => (w.heap.size ≤ k_)) (Kd.R_mono (ok' := fun k_ => True) ho0 (fun _ hk_ => trivial)) (below_size HB.out) (fun k_ h_ => h_)) (below_size HB.out)); have HO857 := mk0 (Kd.V_lower (Kd.V_mono (ok' := fun k_ => (w.heap.size ≤ k_) ∧ some k_ ≠ (v853 : Value).ownBlock ∧ k_ ≠ gb850) ho1 (fun k_ hk_ => ⟨(Nat.le_trans (below_size HB.out) hk_.1), hk_.2, (Kd.freshB BK850.out k_ hk_.1)⟩)) (below_size HB.out)); replace BK850 := bkB BK850 hb; replace HB := hbS HB hb) | ((with_reducible refine gate_dst (N := 5) rfl ?_); refine box_event rfl (N := 5) rfl (cs := #[.bool false, .slice none 0 0, .slice none 0 0]) (t := 29) (by first | (go_simp; done) | (go_simp; rfl)) ?_; intro gb859 hg w6 hbox hb; replace HO854 := rB HO854 hb; replace HO857 := vB HO857 hg hb; have BK859 := mk0 (hbox); have GE859 := geB hg HB; replace HB := hbS HB hb; have NB850_859 := nbA hg BK850; have NB859_850 := nbB hg BK850; replace BK850 := bkB BK850 hb; clear hb hbox hg; have hnb7 := NB859_850.out; have hnc7 := NB850_859.out; have hcz8_0 : w6.cell? ⟨gb859, 0, none⟩ = some (.bool false) := (blk_cell BK859.out 0).trans rfl; have hcz8_1 : w6.cell? ⟨gb859, 1, none⟩ = some (.slice none 0 0) := (blk_cell BK859.out 1).trans rfl; have hcz8_2 : w6.cell? ⟨gb859, 2, none⟩ = some (.slice none 0 0) := (blk_cell BK859.out 2).trans rfl; have hfz8_0 := blk_frozen BK859.out 0; have hfz8_1 := blk_frozen BK859.out 1; have hfz8_2 := blk_frozen BK859.out 2; obtain ⟨Ao9, co9, eo9⟩ := Kd.R_slice HO854.out; subst eo9; obtain ⟨Ao10, co10, eo10⟩ := Kd.V_slice HO857.out; subst eo10; have hcz11_0 : w6.cell? ⟨gb850, 0, none⟩ = some (.bool false) := (blk_cell BK850.out 0).trans rfl; have hcz11_1 : w6.cell? ⟨gb850, 1, none⟩ = some (.slice none 0 0) := (blk_cell BK850.out 1).trans rfl; have hcz11_2 : w6.cell? ⟨gb850, 2, none⟩ = some (.slice none 0 0) := (blk_cell BK850.out 2).trans rfl; have hfz11_0 := blk_frozen BK850.out 0; have hfz11_1 := blk_frozen BK850.out 1; have hfz11_2 := blk_frozen BK850.out 2))
  refine bodyPost_ret (results_cell_row rfl _ _ gb850 29 #[.bool t851, .slice Ao9 t852.length co9, .slice Ao10 t855.length co10] (0, 0) _ rfl (by (with_reducible repeat (first | refine blk_drewN ?_ _ | refine blk_drew ?_ | refine blk_alloc ?_ _)); refine blk_put (cs := #[.bool t851, .slice Ao9 t852.length co9, .slice none 0 0]) ?_ 2 _ rfl; (with_reducible repeat (first | refine blk_drewN ?_ _ | refine blk_drew ?_ | refine blk_alloc ?_ _)); refine blk_put (cs := #[.bool t851, .slice none 0 0, .slice none 0 0]) ?_ 1 _ rfl; (with_reducible repeat (first | refine blk_drewN ?_ _ | refine blk_drew ?_ | refine blk_alloc ?_ _)); refine blk_put (cs := #[.bool false, .slice none 0 0, .slice none 0 0]) ?_ 0 _ rfl; (with_reducible repeat (first | refine blk_drewN ?_ _ | refine blk_drew ?_ | refine blk_alloc ?_ _)); refine blk_far ?_ NB850_859.out _; (with_reducible repeat (first | refine blk_drewN ?_ _ | refine blk_drew ?_ | refine blk_alloc ?_ _)); refine blk_far ?_ NB850_859.out _; (with_reducible repeat (first | refine blk_drewN ?_ _ | refine blk_drew ?_ | refine blk_alloc ?_ _)); refine blk_far ?_ NB850_859.out _; (with_reducible repeat (first | refine blk_drewN ?_ _ | refine blk_drew ?_ | refine blk_alloc ?_ _)); exact BK850.out) Try.underlying29 rfl (by kernel_rfl)) rfl ?_
  exact ⟨_, _, by first | rfl | (simp [errW_none, errW_some] <;> rfl) | (simp [*, errW_none, errW_some] <;> rfl), Kd.R_mono (Kd.R_far (p := ⟨gb850, 2, none⟩) (Kd.R_far (p := ⟨gb850, 1, none⟩) (Kd.R_far (p := ⟨gb850, 0, none⟩) (Kd.R_far (p := ⟨gb859, 2, none⟩) (Kd.R_far (p := ⟨gb859, 1, none⟩) (Kd.R_far (p := ⟨gb859, 0, none⟩) (Kd.R_types (Kd.R_types HO854.out BK859.out (by decide)) BK850.out (by decide)) (fun _ hk => hk.1.2) (.bool t851)) (fun _ hk => hk.1.2) (.slice Ao9 t852.length co9)) (fun _ hk => hk.1.2) (.slice Ao10 t855.length co10)) (fun _ hk => hk.2) (.bool t851)) (fun _ hk => hk.2) (.slice Ao9 t852.length co9)) (fun _ hk => hk.2) (.slice Ao10 t855.length co10)) (fun _ hk => hk.1.1.1), Kd.V_mono (Kd.V_far (p := ⟨gb850, 2, none⟩) (Kd.V_far (p := ⟨gb850, 1, none⟩) (Kd.V_far (p := ⟨gb850, 0, none⟩) (Kd.V_far (p := ⟨gb859, 2, none⟩) (Kd.V_far (p := ⟨gb859, 1, none⟩) (Kd.V_far (p := ⟨gb859, 0, none⟩) (Kd.V_mono (Kd.V_mono HO857.out (fun k_ hk => (⟨hk, hk.2⟩ : _ ∧ k_ ≠ gb859))) (fun k_ hk => (⟨hk, hk.1.1.2.2⟩ : _ ∧ k_ ≠ gb850))) (fun _ hk => hk.1.2) (.bool t851)) (fun _ hk => hk.1.2) (.slice Ao9 t852.length co9)) (fun _ hk => hk.1.2) (.slice Ao10 t855.length co10)) (fun _ hk => hk.2) (.bool t851)) (fun _ hk => hk.2) (.slice Ao9 t852.length co9)) (fun _ hk => hk.2) (.slice Ao10 t855.length co10)) (fun _ hk => ⟨hk.1.1.1.1, hk.1.1.1.2.1⟩), by repeat (first | exact HB.out | refine below_set ?_ GE850.out | refine below_set ?_ GE859.out)⟩
end Go.Proofs.Ythamhjmhgcpdgaa.Q
end
section
namespace Go.Proofs.Ythamhjmhgcpdgaa.Q
open Go.RowKit Go.Proofs.YthamhjmhgcpdgaaW.PrintWords Go.Proofs.YthamhjmhgcpdgaaW.PrintLast Go.Proofs.YthamhjmhgcpdgaaW.PrintMore Go.Proofs.Ythamhjmhgcpdgaa.MyWords
attribute [local go_sem] max2_int min2_int max_two min_two
set_option linter.unusedVariables false
set_option linter.unusedSimpArgs false
set_option maxHeartbeats 8000000 in
set_option maxRecDepth 100000 in
theorem exposure_bounded.calls (a0 : Int) (r : Int) (w : World) (h : exposure_bounded.f a0 = some r) :
    Calls Try.prog 31 #[.int .i64 a0] w fun e w' => e = .returned (.int .i64 r) ∧ Below w.heap.size w w' := by
  have HB := mk0 (Below.refl w.heap.size w)
  have H : (some (mn (mx a0 0) 1000000)) = some r := h
  clear h
  obtain ⟨ji2, hji2⟩ : ∃ j_ : Int, (mx a0 0) = j_ := ⟨_, rfl⟩
  replace H : (some (mn (ji2) 1000000)) = some r := by first | (rw [hji2] at H; exact H) | (simp only [hji2] at H ⊢; exact H)
  (try (have hji2l : 0 ≤ ji2 := by (rw [← hji2]; unfold mx; (repeat' split) <;> omega)))
  (try (have hji2m : 0 ≤ ji2 := by omega))
  have hji2_ : (if a0 < 0 then 0 else a0) = ji2 := hji2
  obtain ⟨ji3, hji3⟩ : ∃ j_ : Int, (mn (ji2) 1000000) = j_ := ⟨_, rfl⟩
  replace H : (some ji3) = some r := by first | (rw [hji3] at H; exact H) | (simp only [hji3] at H ⊢; exact H)
  have hji3_ : (if 1000000 < (ji2) then 1000000 else (ji2)) = ji3 := hji3
  obtain rfl := Option.some.inj H
  go_enter Try.func31, Try.ntmps31
  go_wp2
  go_ret
  exact ⟨by first | rfl | (simp [errW_none, errW_some] <;> rfl) | (simp only [← hji2, ← hji3]; first | rfl | (simp [errW_none, errW_some] <;> rfl)) | (simp [*, errW_none, errW_some] <;> rfl), HB.out⟩
end Go.Proofs.Ythamhjmhgcpdgaa.Q
end
section
namespace Go.Proofs.Ythamhjmhgcpdgaa.Q
open Go.RowKit Go.Proofs.YthamhjmhgcpdgaaW.PrintWords Go.Proofs.YthamhjmhgcpdgaaW.PrintLast Go.Proofs.YthamhjmhgcpdgaaW.PrintMore Go.Proofs.Ythamhjmhgcpdgaa.MyWords
attribute [local go_sem] max2_int min2_int max_two min_two
set_option linter.unusedVariables false
set_option linter.unusedSimpArgs false
def exposure_Eligible.T2 : Bool × List (List Nat × List Nat) := (true, [([], []), ([0], [0]), ([1], [1]), ([2, 1], [2]), ([], []), ([], []), ([4, 5, 3], [4, 5]), ([3, 6, 6], [3, 6]), ([7], [7]), ([8, 7, 0, 1, 2, 3, 4, 5, 6, 7, 8], [8])])
def exposure_Eligible.B2 : List Nat := [0, 1, 3, 7, 0, 0, 63, 127, 255, 511]
theorem exposure_Eligible.tab2 : rtab .any (opsOf Try.f13 2) = exposure_Eligible.T2 := by kernel_rfl
theorem exposure_Eligible.bits2 : waitsOk exposure_Eligible.T2.2 exposure_Eligible.B2 = true := by kernel_rfl
set_option maxHeartbeats 8000000 in
set_option maxRecDepth 100000 in
theorem exposure_Eligible.calls (k : Nat) (a0 : Int) (a1 : Int) (a2_0 : Bool) (A2_1 : Option Addr) (c2_1 : Nat) (l2_1 : List Int) (A2_2 : Option Addr) (c2_2 : Nat) (l2_2 : List Int) (a3 : Int) (r : Bool) (w : World) (hr2_1 : Kd.C (Kd.int .u32) w A2_1 l2_1.length l2_1) (hc2_1 : l2_1.length ≤ c2_1) (hr2_2 : Kd.C (Kd.int .u32) w A2_2 l2_2.length l2_2) (hc2_2 : l2_2.length ≤ c2_2) (h : exposure_Eligible.f k a0 a1 a2_0 l2_1 l2_2 a3 = some r) :
    Calls Try.prog 13 #[.int .i64 a0, .int .i64 a1, .agg #[.bool a2_0, .slice A2_1 l2_1.length c2_1, .slice A2_2 l2_2.length c2_2], .int .i64 a3] w fun e w' => e = .returned (.bool r) ∧ Below w.heap.size w w' := by
  have hu29 := Try.underlying29
  have HR2_1 := mk0 hr2_1
  have HC2_1 := mk0 hc2_1
  clear hr2_1 hc2_1
  have HR2_2 := mk0 hr2_2
  have HC2_2 := mk0 hc2_2
  clear hr2_2 hc2_2
  have HB := mk0 (Below.refl w.heap.size w)
  have H : ((exposure_bounded.f a1).bind fun t861 => ((exposure_bounded.f a3).bind fun t862 => ((exposure_fraction.f k (wrap64 ((wrap64 (t861 + 1)) + t862)) 1).bind fun bt863 => ((exposure_bounded.f a0).bind fun t871 => ((exposure_fraction.f k (wrap64 (t871 + 1)) 1).bind fun bt872 => ((ratio_Mul.f k a2_0 l2_1 l2_2 bt863.1 bt863.2.1 bt863.2.2).bind fun bt879 => ((ratio_Cmp.f k bt872.1 bt872.2.1 bt872.2.2 bt879.1 bt879.2.1 bt879.2.2).bind fun t886 => (some (decide (t886 ≤ 0)))))))))) = some r := h
  clear h
  obtain ⟨t861, A5, H⟩ := bindA H
  obtain ⟨t862, A6, H⟩ := bindA H
  obtain ⟨⟨t863, t864, t867⟩, A7, H⟩ := bindA H
  obtain ⟨t871, A8, H⟩ := bindA H
  obtain ⟨⟨t872, t873, t876⟩, A9, H⟩ := bindA H
  obtain ⟨⟨t879, t880, t883⟩, A10, H⟩ := bindA H
  obtain ⟨t886, A11, H⟩ := bindA H
  obtain rfl := Option.some.inj H
  go_enter Try.func13, Try.ntmps13
  try go_wp2_with (first | ((with_reducible refine gate_dst (N := 6) rfl ?_); refine box_event rfl (N := 6) rfl (cs := #[.bool a2_0, .slice A2_1 l2_1.length c2_1, .slice A2_2 l2_2.length c2_2]) (t := 29) (by first | (go_simp; done) | (go_simp; rfl)) ?_; intro gb860 hg w12 hbox hb; have BK860 := mk0 (hbox); have GW860 := geB hg HB; have GE860 := geB hg HB; replace HB := hbS HB hb; clear hb hbox hg) | ((with_reducible refine gate_callee (f := 31) rfl ?_); refine goesL_ (some 11) rfl rfl Try.func31 (by kernel_rfl) rfl #[.int .i64 a1] rfl (by first | (go_simp; done) | (go_simp; rfl)) ?_; (with_reducible refine (exposure_bounded.calls a1 t861 _ A5.out).mono ?_); rintro e w13 ⟨rfl, hb⟩; refine ⟨_, rfl, ?_⟩; replace BK860 := bkB BK860 hb; replace HB := hbS HB hb) | ((with_reducible refine gate_callee (f := 31) rfl ?_); refine goesL_ (some 14) rfl rfl Try.func31 (by kernel_rfl) rfl #[.int .i64 a3] rfl (by first | (go_simp; done) | (go_simp; rfl)) ?_; (with_reducible refine (exposure_bounded.calls a3 t862 _ A6.out).mono ?_); rintro e w14 ⟨rfl, hb⟩; refine ⟨_, rfl, ?_⟩; replace BK860 := bkB BK860 hb; replace HB := hbS HB hb) | ((with_reducible refine gate_callee (f := 30) rfl ?_); refine goesL_ (some 16) rfl rfl Try.func30 (by kernel_rfl) rfl #[.int .i64 (wrap64 ((wrap64 (t861 + 1)) + t862)), .int .i64 1] rfl (by first | (go_simp; done) | (go_simp; rfl)) ?_; (with_reducible refine (exposure_fraction.calls k (wrap64 ((wrap64 (t861 + 1)) + t862)) 1 t863 t864 t867 _ A7.out).mono ?_); rintro e w15 ⟨v865, v868, rfl, ho0, ho1, hb⟩; refine ⟨_, rfl, ?_⟩; have HO866 := mk0 (Kd.R_lower (Kd.R_mono (ok' := fun k_ => True) ho0 (fun _ hk_ => trivial)) (below_size HB.out)); have HO869 := mk0 (Kd.V_lower (Kd.V_mono (ok' := fun k_ => some k_ ≠ (v865 : Value).ownBlock ∧ k_ ≠ gb860) ho1 (fun k_ hk_ => ⟨hk_.2, (Kd.freshB BK860.out k_ hk_.1)⟩)) (below_size HB.out)); replace BK860 := bkB BK860 hb; replace HB := hbS HB hb) | ((with_reducible refine gate_dst (N := 9) rfl ?_); refine box_event rfl (N := 9) rfl (cs := #[.bool false, .slice none 0 0, .slice none 0 0]) (t := 29) (by first | (go_simp; done) | (go_simp; rfl)) ?_; intro gb870 hg w16 hbox hb; replace HO866 := rB HO866 hb; replace HO869 := vB HO869 hg hb; have BK870 := mk0 (hbox); have GW870 := geB hg HB; have GE870 := geB hg HB; replace HB := hbS HB hb; have NB860_870 := nbA hg BK860; have NB870_860 := nbB hg BK860; replace BK860 := bkB BK860 hb; clear hb hbox hg; have hnb17 := NB870_860.out; have hnc17 := NB860_870.out; have hcz18_0 : w16.cell? ⟨gb870, 0, none⟩ = some (.bool false) := (blk_cell BK870.out 0).trans rfl; have hcz18_1 : w16.cell? ⟨gb870, 1, none⟩ = some (.slice none 0 0) := (blk_cell BK870.out 1).trans rfl; have hcz18_2 : w16.cell? ⟨gb870, 2, none⟩ = some (.slice none 0 0) := (blk_cell BK870.out 2).trans rfl; have hfz18_0 := blk_frozen BK870.out 0; have hfz18_1 := blk_frozen BK870.out 1; have hfz18_2 := blk_frozen BK870.out 2; obtain ⟨Ao19, co19, eo19⟩ := Kd.R_slice HO866.out; subst eo19; obtain ⟨Ao20, co20, eo20⟩ := Kd.V_slice HO869.out; subst eo20))
  have n0_ : Aside0 (Kd.R (Kd.int .u32) 87 (((w16.setCell ⟨gb870, 0, none⟩ (.bool t863)).setCell ⟨gb870, 1, none⟩ (.slice Ao19 t864.length co19)).setCell ⟨gb870, 2, none⟩ (.slice Ao20 t867.length co20)) w.heap.size (fun _ => True) (.slice Ao19 t864.length co19) t864) := ⟨Kd.R_mono (Kd.R_far (p := ⟨gb870, 2, none⟩) (Kd.R_far (p := ⟨gb870, 1, none⟩) (Kd.R_far (p := ⟨gb870, 0, none⟩) (Kd.R_types HO866.out BK870.out (by decide)) (fun _ hk => hk.2) (.bool t863)) (fun _ hk => hk.2) (.slice Ao19 t864.length co19)) (fun _ hk => hk.2) (.slice Ao20 t867.length co20)) (fun _ hk => trivial)⟩
  have n1_ : Aside0 (Kd.V (Kd.int .u32) 87 (((w16.setCell ⟨gb870, 0, none⟩ (.bool t863)).setCell ⟨gb870, 1, none⟩ (.slice Ao19 t864.length co19)).setCell ⟨gb870, 2, none⟩ (.slice Ao20 t867.length co20)) w.heap.size (fun k_ => some k_ ≠ (.slice Ao19 t864.length co19 : Value).ownBlock ∧ k_ ≠ gb860 ∧ k_ ≠ gb870) (.slice Ao20 t867.length co20) t867) := ⟨Kd.V_mono (Kd.V_far (p := ⟨gb870, 2, none⟩) (Kd.V_far (p := ⟨gb870, 1, none⟩) (Kd.V_far (p := ⟨gb870, 0, none⟩) (Kd.V_mono HO869.out (fun k_ hk => (⟨hk, hk.2⟩ : _ ∧ k_ ≠ gb870))) (fun _ hk => hk.2) (.bool t863)) (fun _ hk => hk.2) (.slice Ao19 t864.length co19)) (fun _ hk => hk.2) (.slice Ao20 t867.length co20)) (fun _ hk => ⟨hk.1.1.1, ⟨hk.1.1.2, hk.1.2⟩⟩)⟩
  have n2_ : Aside0 ((((w16.setCell ⟨gb870, 0, none⟩ (.bool t863)).setCell ⟨gb870, 1, none⟩ (.slice Ao19 t864.length co19)).setCell ⟨gb870, 2, none⟩ (.slice Ao20 t867.length co20)).heap[gb860]? = some (.cells #[.bool a2_0, .slice A2_1 l2_1.length c2_1, .slice A2_2 l2_2.length c2_2] 29 (0, 0))) := ⟨by (with_reducible repeat (first | refine blk_drewN ?_ _ | refine blk_drew ?_ | refine blk_alloc ?_ _)); refine blk_far ?_ NB860_870.out _; (with_reducible repeat (first | refine blk_drewN ?_ _ | refine blk_drew ?_ | refine blk_alloc ?_ _)); refine blk_far ?_ NB860_870.out _; (with_reducible repeat (first | refine blk_drewN ?_ _ | refine blk_drew ?_ | refine blk_alloc ?_ _)); refine blk_far ?_ NB860_870.out _; (with_reducible repeat (first | refine blk_drewN ?_ _ | refine blk_drew ?_ | refine blk_alloc ?_ _)); exact BK860.out⟩
  have n3_ : Aside0 ((((w16.setCell ⟨gb870, 0, none⟩ (.bool t863)).setCell ⟨gb870, 1, none⟩ (.slice Ao19 t864.length co19)).setCell ⟨gb870, 2, none⟩ (.slice Ao20 t867.length co20)).heap[gb870]? = some (.cells #[.bool t863, .slice Ao19 t864.length co19, .slice Ao20 t867.length co20] 29 (0, 0))) := ⟨by (with_reducible repeat (first | refine blk_drewN ?_ _ | refine blk_drew ?_ | refine blk_alloc ?_ _)); refine blk_put (cs := #[.bool t863, .slice Ao19 t864.length co19, .slice none 0 0]) ?_ 2 _ rfl; (with_reducible repeat (first | refine blk_drewN ?_ _ | refine blk_drew ?_ | refine blk_alloc ?_ _)); refine blk_put (cs := #[.bool t863, .slice none 0 0, .slice none 0 0]) ?_ 1 _ rfl; (with_reducible repeat (first | refine blk_drewN ?_ _ | refine blk_drew ?_ | refine blk_alloc ?_ _)); refine blk_put (cs := #[.bool false, .slice none 0 0, .slice none 0 0]) ?_ 0 _ rfl; (with_reducible repeat (first | refine blk_drewN ?_ _ | refine blk_drew ?_ | refine blk_alloc ?_ _)); exact BK870.out⟩
  have n4_ : Aside0 (Below w.heap.size w (((w16.setCell ⟨gb870, 0, none⟩ (.bool t863)).setCell ⟨gb870, 1, none⟩ (.slice Ao19 t864.length co19)).setCell ⟨gb870, 2, none⟩ (.slice Ao20 t867.length co20))) := ⟨by repeat (first | exact HB.out | refine below_set ?_ GE860.out | refine below_set ?_ GE870.out)⟩
  (try clear HO866)
  (try clear HO869)
  (try clear BK860)
  (try clear BK870)
  (try clear HB)
  generalize (((w16.setCell ⟨gb870, 0, none⟩ (.bool t863)).setCell ⟨gb870, 1, none⟩ (.slice Ao19 t864.length co19)).setCell ⟨gb870, 2, none⟩ (.slice Ao20 t867.length co20)) = w21 at n0_ n1_ n2_ n3_ n4_ ⊢
  have HO866 := n0_
  have HO869 := n1_
  have BK860 := n2_
  have BK870 := n3_
  have HB := n4_
  clear n0_ n1_ n2_ n3_ n4_
  replace HO866 := mk0 (Kd.R_drew HO866.out)
  replace HO869 := mk0 (Kd.V_drew HO869.out)
  replace BK860 := mk0 (blk_drew BK860.out)
  replace BK870 := mk0 (blk_drew BK870.out)
  replace HB := mk0 (below_drew1 HB.out)
  refine start_ (n := 10) (S := fun w' => w'.cell? ⟨gb860, 0, none⟩ = some (.bool a2_0) ∧ w'.cell? ⟨gb860, 1, none⟩ = some (.slice A2_1 l2_1.length c2_1) ∧ w'.cell? ⟨gb860, 2, none⟩ = some (.slice A2_2 l2_2.length c2_2) ∧ w'.cell? ⟨gb870, 0, none⟩ = some (.bool t863) ∧ w'.cell? ⟨gb870, 1, none⟩ = some (.slice Ao19 t864.length co19) ∧ w'.cell? ⟨gb870, 2, none⟩ = some (.slice Ao20 t867.length co20)) (ds := []) #[false, false, false, false, false, false, false, false, false, false] (by kernel_rfl) rfl rfl ⟨(blk_cell BK860.out 0).trans rfl, (blk_cell BK860.out 1).trans rfl, (blk_cell BK860.out 2).trans rfl, (blk_cell BK870.out 0).trans rfl, (blk_cell BK870.out 1).trans rfl, (blk_cell BK870.out 2).trans rfl⟩ (fun hHeld => ?_); refine with_tabW exposure_Eligible.tab2 exposure_Eligible.bits2 (fun HT_ HW_ => ?_)
  generalize w21.drew = w22 at HO866 HO869 BK860 BK870 HB hHeld ⊢
  refine pure_ (i := 0) (N := some 17) (v := ?_) (a' := ?_) #[true, false, false, false, false, false, false, false, false, false] rfl rfl (any_of HT_.out (by kernel_rfl)) (fun _ _ _ h => h) (Or.inl ⟨by rfl, ?_⟩) ?_ ?_
  rotate_left
  · intro w'
    go_simp
    with_reducible rfl
  rotate_left
  · simp only [Act.put, List.setIfInBounds_toArray, List.set_cons_zero, List.set_cons_succ, i64_w, i32_w]
    rfl
  refine take_ (i := 4) (N := some 21) (v := ?_) (a' := ?_) #[true, false, false, false, true, false, false, false, false, false] rfl rfl (take_ofW HT_.out HW_.out (by kernel_rfl)) (fun _ _ _ h => h) (Or.inl ⟨by rfl, ?_⟩) hHeld ?_ ?_
  rotate_left
  · rintro w' ⟨s0, s1, s2, s3, s4, s5⟩
    go_simp
    with_reducible rfl
  rotate_left
  · simp only [Act.put, List.setIfInBounds_toArray, List.set_cons_zero, List.set_cons_succ, i64_w, i32_w]
    rfl
  refine take_ (i := 5) (N := some 22) (v := ?_) (a' := ?_) #[true, false, false, false, true, true, false, false, false, false] rfl rfl (take_ofW HT_.out HW_.out (by kernel_rfl)) (fun _ _ _ h => h) (Or.inl ⟨by rfl, ?_⟩) hHeld ?_ ?_
  rotate_left
  · rintro w' ⟨s0, s1, s2, s3, s4, s5⟩
    go_simp
    with_reducible rfl
  rotate_left
  · simp only [Act.put, List.setIfInBounds_toArray, List.set_cons_zero, List.set_cons_succ, i64_w, i32_w]
    rfl
  refine one_ (i := 1) (N := some 18) #[true, true, false, false, true, true, false, false, false, false] rfl rfl (one_of HT_.out (by kernel_rfl)) (by decide) (fun K hK => ?_)
  refine goes_ Try.func31 (by kernel_rfl) rfl #[.int .i64 a0] (by rfl) rfl rfl (by first | (go_simp; done) | (go_simp; rfl)) ?_
  with_reducible refine (exposure_bounded.calls a0 t871 _ A8.out).mono ?_
  rintro e w23 ⟨rfl, hb⟩
  refine ⟨_, rfl, ?_⟩
  replace HO866 := rB HO866 hb
  replace HO869 := mk0 (Kd.V_below HO869.out hb)
  replace BK860 := bkB BK860 hb
  replace BK870 := bkB BK870 hb
  replace HB := mk0 (below_step (by repeat (first | exact HB.out | refine below_set ?_ GE860.out | refine below_set ?_ GE870.out)) hb)
  refine hK.out _ _ ⟨(blk_cell BK860.out 0).trans rfl, (blk_cell BK860.out 1).trans rfl, (blk_cell BK860.out 2).trans rfl, (blk_cell BK870.out 0).trans rfl, (blk_cell BK870.out 1).trans rfl, (blk_cell BK870.out 2).trans rfl⟩ (fun hHeld => ?_)
  clear hK K
  refine norm_ (a' := ?_) ?_ ?_
  rotate_left
  · show Act.put _ (some 18) _ = _
    simp only [Act.put, List.setIfInBounds_toArray, List.set_cons_zero, List.set_cons_succ, i64_w, i32_w]
    rfl
  refine pure_ (i := 2) (N := some 19) (v := ?_) (a' := ?_) #[true, true, true, false, true, true, false, false, false, false] rfl rfl (any_of HT_.out (by kernel_rfl)) (fun _ _ _ h => h) (Or.inl ⟨by rfl, ?_⟩) ?_ ?_
  rotate_left
  · intro w'
    go_simp
    with_reducible rfl
  rotate_left
  · simp only [Act.put, List.setIfInBounds_toArray, List.set_cons_zero, List.set_cons_succ, i64_w, i32_w]
    rfl
  refine one_ (i := 3) (N := some 20) #[true, true, true, true, true, true, false, false, false, false] rfl rfl (one_of HT_.out (by kernel_rfl)) (by decide) (fun K hK => ?_)
  refine goes_ Try.func30 (by kernel_rfl) rfl #[.int .i64 (wrap64 (t871 + 1)), .int .i64 1] (by rfl) rfl rfl (by first | (go_simp; done) | (go_simp; rfl)) ?_
  with_reducible refine (exposure_fraction.calls k (wrap64 (t871 + 1)) 1 t872 t873 t876 _ A9.out).mono ?_
  rintro e w24 ⟨v874, v877, rfl, ho0, ho1, hb⟩
  refine ⟨_, rfl, ?_⟩
  replace HO869 := mk0 (Kd.V_elder' HO869.out (Kd.R_base ho0) hb)
  have HO875 := mk0 (Kd.R_lower (Kd.R_new' (Kd.R_mono (ok' := fun k_ => True) ho0 (fun _ hk_ => trivial)) (Kd.R_lt HO866.out)) (below_size (by repeat (first | exact HB.out | refine below_set ?_ GE860.out | refine below_set ?_ GE870.out))))
  have HO878 := mk0 (Kd.V_lower (Kd.V_mono (ok' := fun k_ => some k_ ≠ (v874 : Value).ownBlock ∧ some k_ ≠ (.slice Ao19 t864.length co19 : Value).ownBlock ∧ k_ ≠ gb860 ∧ k_ ≠ gb870) ho1 (fun k_ hk_ => ⟨hk_.2, (Kd.fresh' (Kd.R_lt HO866.out) k_ hk_.1), (Kd.freshB BK860.out k_ hk_.1), (Kd.freshB BK870.out k_ hk_.1)⟩)) (below_size (by repeat (first | exact HB.out | refine below_set ?_ GE860.out | refine below_set ?_ GE870.out))))
  replace HO866 := mk0 (Kd.R_elder' HO866.out (Kd.R_base ho0) hb)
  replace BK860 := bkB BK860 hb
  replace BK870 := bkB BK870 hb
  replace HB := mk0 (below_step (by repeat (first | exact HB.out | refine below_set ?_ GE860.out | refine below_set ?_ GE870.out)) hb)
  refine hK.out _ _ ⟨(blk_cell BK860.out 0).trans rfl, (blk_cell BK860.out 1).trans rfl, (blk_cell BK860.out 2).trans rfl, (blk_cell BK870.out 0).trans rfl, (blk_cell BK870.out 1).trans rfl, (blk_cell BK870.out 2).trans rfl⟩ (fun hHeld => ?_)
  clear hK K
  refine norm_ (a' := ?_) ?_ ?_
  rotate_left
  · show Act.put _ (some 20) _ = _
    simp only [Act.put, List.setIfInBounds_toArray, List.set_cons_zero, List.set_cons_succ, i64_w, i32_w]
    rfl
  refine one_ (i := 6) (N := some 23) #[true, true, true, true, true, true, true, false, false, false] rfl rfl (one_of HT_.out (by kernel_rfl)) (by decide) (fun K hK => ?_)
  refine goes_ Try.func27 (by kernel_rfl) rfl #[.agg #[.bool a2_0, .slice A2_1 l2_1.length c2_1, .slice A2_2 l2_2.length c2_2], .agg #[.bool t863, .slice Ao19 t864.length co19, .slice Ao20 t867.length co20]] (by rfl) rfl rfl (by first | (go_simp; done) | (go_simp; rfl)) ?_
  with_reducible refine (ratio_Mul.calls k a2_0 (fun k_ => k_ < w.heap.size) _ _ l2_1 _ _ l2_2 t863 (fun k_ => some k_ = (.slice Ao19 t864.length co19 : Value).ownBlock) _ _ t864 _ _ t867 t879 t880 t883 _ ?side1 ?side2 ?side3 ?side4 ?side5 ?side6 A10.out).mono ?_
  (case side1 => exact Kd.V_mk HC2_1.out (Kd.F_below (Kd.C_F (Kd.heap_int .u32) HR2_1.out) (by repeat (first | exact HB.out | refine below_set ?_ GE860.out | refine below_set ?_ GE870.out))))
  (case side2 => repeat (first | exact (Kd.C_below HR2_2.out HB.out) | (with_reducible refine Kd.C_alloc ?_ _) | (with_reducible refine Kd.C_drewN ?_ _) | (with_reducible refine Kd.C_drew ?_)))
  (case side3 => exact HC2_2.out)
  (case side4 => exact Kd.R_V (Kd.R_tight rfl (Kd.R_types (Kd.R_types (HO866.out) BK860.out (by decide)) BK870.out (by decide))))
  (case side5 => repeat (first | exact (Kd.V_reads' HO869.out).2.2 | (with_reducible refine Kd.C_alloc ?_ _) | (with_reducible refine Kd.C_drewN ?_ _) | (with_reducible refine Kd.C_drew ?_)))
  (case side6 => exact (Kd.V_reads' HO869.out).2.1)
  rintro e w25 ⟨v881, v884, rfl, ho0, ho1, hb⟩
  refine ⟨_, rfl, ?_⟩
  replace HO869 := mk0 (Kd.V_elder' HO869.out (Kd.R_base ho0) hb)
  replace HO878 := mk0 (Kd.V_elder' HO878.out (Kd.R_base ho0) hb)
  have HO882 := mk0 (Kd.R_lower (Kd.R_new' (Kd.R_new' (Kd.R_mono (ok' := fun k_ => True) ho0 (fun _ hk_ => trivial)) (Kd.R_lt HO866.out)) (Kd.R_lt HO875.out)) (below_size (by repeat (first | exact HB.out | refine below_set ?_ GE860.out | refine below_set ?_ GE870.out))))
  have HO885 := mk0 (Kd.V_lower (Kd.V_mono (ok' := fun k_ => some k_ ≠ (v881 : Value).ownBlock ∧ some k_ ≠ (v874 : Value).ownBlock ∧ k_ ≠ gb860 ∧ k_ ≠ gb870) ho1 (fun k_ hk_ => ⟨hk_.2, Or.elim hk_.1 (fun hs_ => Or.elim hs_ (fun hs_ => fun e_ => Nat.not_le.2 hs_ (Kd.R_base HO875.out k_ e_.symm)) (fun hs_ => ((Kd.R_types (Kd.R_types (HO866.out) BK860.out (by decide)) BK870.out (by decide)).1 k_ hs_.symm).1.1.2)) (fun hn_ => (Kd.fresh' (Kd.R_lt HO875.out) k_ hn_)), Or.elim hk_.1 (fun hs_ => Or.elim hs_ (fun hs_ => fun e_ => Nat.not_le.2 hs_ (by rw [e_]; exact GW860.out)) (fun hs_ => ((Kd.R_types (Kd.R_types (HO866.out) BK860.out (by decide)) BK870.out (by decide)).1 k_ hs_.symm).1.2)) (fun hn_ => (Kd.freshB BK860.out k_ hn_)), Or.elim hk_.1 (fun hs_ => Or.elim hs_ (fun hs_ => fun e_ => Nat.not_le.2 hs_ (by rw [e_]; exact GW870.out)) (fun hs_ => ((Kd.R_types (Kd.R_types (HO866.out) BK860.out (by decide)) BK870.out (by decide)).1 k_ hs_.symm).2)) (fun hn_ => (Kd.freshB BK870.out k_ hn_))⟩)) (below_size (by repeat (first | exact HB.out | refine below_set ?_ GE860.out | refine below_set ?_ GE870.out))))
  replace HO866 := mk0 (Kd.R_elder' HO866.out (Kd.R_base ho0) hb)
  replace HO875 := mk0 (Kd.R_elder' HO875.out (Kd.R_base ho0) hb)
  replace BK860 := bkB BK860 hb
  replace BK870 := bkB BK870 hb
  replace HB := mk0 (below_step (by repeat (first | exact HB.out | refine below_set ?_ GE860.out | refine below_set ?_ GE870.out)) hb)
  obtain ⟨Ao26, co26, eo26⟩ := Kd.R_slice HO875.out
  (first | subst eo26 | (injection eo26 with f1_ f2_ f3_; have f4_ := f1_.symm; have f5_ := f3_.symm; clear f1_ f2_ f3_; subst f4_; subst f5_))
  obtain ⟨Ao27, co27, eo27⟩ := Kd.V_slice HO878.out
  (first | subst eo27 | (injection eo27 with f1_ f2_ f3_; have f4_ := f1_.symm; have f5_ := f3_.symm; clear f1_ f2_ f3_; subst f4_; subst f5_))
  obtain ⟨Ao28, co28, eo28⟩ := Kd.R_slice HO882.out
  (first | subst eo28 | (injection eo28 with f1_ f2_ f3_; have f4_ := f1_.symm; have f5_ := f3_.symm; clear f1_ f2_ f3_; subst f4_; subst f5_))
  obtain ⟨Ao29, co29, eo29⟩ := Kd.V_slice HO885.out
  (first | subst eo29 | (injection eo29 with f1_ f2_ f3_; have f4_ := f1_.symm; have f5_ := f3_.symm; clear f1_ f2_ f3_; subst f4_; subst f5_))
  refine hK.out _ _ ⟨(blk_cell BK860.out 0).trans rfl, (blk_cell BK860.out 1).trans rfl, (blk_cell BK860.out 2).trans rfl, (blk_cell BK870.out 0).trans rfl, (blk_cell BK870.out 1).trans rfl, (blk_cell BK870.out 2).trans rfl⟩ (fun hHeld => ?_)
  clear hK K
  refine norm_ (a' := ?_) ?_ ?_
  rotate_left
  · show Act.put _ (some 23) _ = _
    simp only [Act.put, List.setIfInBounds_toArray, List.set_cons_zero, List.set_cons_succ, i64_w, i32_w]
    rfl
  refine one_ (i := 7) (N := some 24) #[true, true, true, true, true, true, true, true, false, false] rfl rfl (one_of HT_.out (by kernel_rfl)) (by decide) (fun K hK => ?_)
  refine goes_ Try.func26 (by kernel_rfl) rfl #[.agg #[.bool t872, .slice Ao26 t873.length co26, .slice Ao27 t876.length co27], .agg #[.bool t879, .slice Ao28 t880.length co28, .slice Ao29 t883.length co29]] (by rfl) rfl rfl (by first | (go_simp; done) | (go_simp; rfl)) ?_
  with_reducible refine (ratio_Cmp.calls k t872 _ _ t873 _ _ t876 t879 _ _ t880 _ _ t883 t886 _ ?side1 ?side2 ?side3 ?side4 ?side5 ?side6 ?side7 ?side8 A11.out).mono ?_
  (case side1 => repeat (first | exact (Kd.R_reads' HO875.out).2.2 | (with_reducible refine Kd.C_alloc ?_ _) | (with_reducible refine Kd.C_drewN ?_ _) | (with_reducible refine Kd.C_drew ?_)))
  (case side2 => exact (Kd.R_reads' HO875.out).2.1)
  (case side3 => repeat (first | exact (Kd.V_reads' HO878.out).2.2 | (with_reducible refine Kd.C_alloc ?_ _) | (with_reducible refine Kd.C_drewN ?_ _) | (with_reducible refine Kd.C_drew ?_)))
  (case side4 => exact (Kd.V_reads' HO878.out).2.1)
  (case side5 => repeat (first | exact (Kd.R_reads' HO882.out).2.2 | (with_reducible refine Kd.C_alloc ?_ _) | (with_reducible refine Kd.C_drewN ?_ _) | (with_reducible refine Kd.C_drew ?_)))
  (case side6 => exact (Kd.R_reads' HO882.out).2.1)
  (case side7 => repeat (first | exact (Kd.V_reads' HO885.out).2.2 | (with_reducible refine Kd.C_alloc ?_ _) | (with_reducible refine Kd.C_drewN ?_ _) | (with_reducible refine Kd.C_drew ?_)))
  (case side8 => exact (Kd.V_reads' HO885.out).2.1)
  rintro e w30 ⟨rfl, hb⟩
  refine ⟨_, rfl, ?_⟩
  replace HO866 := rB HO866 hb
  replace HO869 := mk0 (Kd.V_below HO869.out hb)
  replace HO875 := rB HO875 hb
  replace HO878 := mk0 (Kd.V_below HO878.out hb)
  replace HO882 := rB HO882 hb
  replace HO885 := mk0 (Kd.V_below HO885.out hb)
  replace BK860 := bkB BK860 hb
  replace BK870 := bkB BK870 hb
  replace HB := mk0 (below_step (by repeat (first | exact HB.out | refine below_set ?_ GE860.out | refine below_set ?_ GE870.out)) hb)
  refine hK.out _ _ ⟨(blk_cell BK860.out 0).trans rfl, (blk_cell BK860.out 1).trans rfl, (blk_cell BK860.out 2).trans rfl, (blk_cell BK870.out 0).trans rfl, (blk_cell BK870.out 1).trans rfl, (blk_cell BK870.out 2).trans rfl⟩ (fun hHeld => ?_)
  clear hK K
  refine norm_ (a' := ?_) ?_ ?_
  rotate_left
  · show Act.put _ (some 24) _ = _
    simp only [Act.put, List.setIfInBounds_toArray, List.set_cons_zero, List.set_cons_succ, i64_w, i32_w]
    rfl
  refine pure_ (i := 8) (N := some 25) (v := ?_) (a' := ?_) #[true, true, true, true, true, true, true, true, true, false] rfl rfl (any_of HT_.out (by kernel_rfl)) (fun _ _ _ h => h) (Or.inl ⟨by rfl, ?_⟩) ?_ ?_
  rotate_left
  · intro w'
    go_simp
    with_reducible rfl
  rotate_left
  · simp only [Act.put, List.setIfInBounds_toArray, List.set_cons_zero, List.set_cons_succ, i64_w, i32_w]
    rfl
  refine pure_ (i := 9) (N := some 8) (v := ?_) (a' := ?_) #[true, true, true, true, true, true, true, true, true, true] rfl rfl (any_of HT_.out (by kernel_rfl)) (fun _ _ _ h => h) (Or.inl ⟨by rfl, ?_⟩) ?_ ?_
  rotate_left
  · intro w'
    go_simp
    with_reducible rfl
  rotate_left
  · simp only [Act.put, List.setIfInBounds_toArray, List.set_cons_zero, List.set_cons_succ, i64_w, i32_w]
    rfl
  refine done_ (done_of HT_.out (by kernel_rfl)) ?_
  try go_wp2
  go_ret
  exact ⟨by first | rfl | (simp [errW_none, errW_some] <;> rfl) | (simp [*, errW_none, errW_some] <;> rfl), by repeat (first | exact HB.out | refine below_set ?_ GE860.out | refine below_set ?_ GE870.out)⟩
end Go.Proofs.Ythamhjmhgcpdgaa.Q
end
section
namespace Go.Proofs.Ythamhjmhgcpdgaa.Q
open Go.RowKit Go.Proofs.YthamhjmhgcpdgaaW.PrintWords Go.Proofs.YthamhjmhgcpdgaaW.PrintLast Go.Proofs.YthamhjmhgcpdgaaW.PrintMore Go.Proofs.Ythamhjmhgcpdgaa.MyWords
attribute [local go_sem] max2_int min2_int max_two min_two
set_option linter.unusedVariables false
set_option linter.unusedSimpArgs false
set_option maxHeartbeats 8000000 in
set_option maxRecDepth 100000 in
theorem ratio_Sign.calls (k : Nat) (a0_0 : Bool) (A0_1 : Option Addr) (c0_1 : Nat) (l0_1 : List Int) (A0_2 : Option Addr) (c0_2 : Nat) (l0_2 : List Int) (r : Int) (w : World) (hr0_1 : Kd.C (Kd.int .u32) w A0_1 l0_1.length l0_1) (hc0_1 : l0_1.length ≤ c0_1) (hr0_2 : Kd.C (Kd.int .u32) w A0_2 l0_2.length l0_2) (hc0_2 : l0_2.length ≤ c0_2) (h : ratio_Sign.f k a0_0 l0_1 l0_2 = some r) :
    Calls Try.prog 15 #[.agg #[.bool a0_0, .slice A0_1 l0_1.length c0_1, .slice A0_2 l0_2.length c0_2]] w fun e w' => e = .returned (.int .i64 r) ∧ Below w.heap.size w w' := by
  have hu29 := Try.underlying29
  have hu27 := Try.underlying27
  have HR0_1 := mk0 hr0_1
  have HC0_1 := mk0 hc0_1
  clear hr0_1 hc0_1
  have HR0_2 := mk0 hr0_2
  have HC0_2 := mk0 hc0_2
  clear hr0_2 hc0_2
  have HB := mk0 (Below.refl w.heap.size w)
  have H : ((ratio_parts.f k a0_0 l0_1 l0_2).bind fun bt929 => ((integer_Sign.f k bt929.1 bt929.2.1).bind fun t939 => (some t939))) = some r := h
  clear h
  obtain ⟨⟨t929, t930, t933, t934⟩, A2, H⟩ := bindA H
  obtain ⟨t939, A3, H⟩ := bindA H
  obtain rfl := Option.some.inj H
  go_enter Try.func15, Try.ntmps15
  go_wp2_with (first | ((with_reducible refine gate_dst (N := 1) rfl ?_); refine box_event rfl (N := 1) rfl (cs := #[.bool a0_0, .slice A0_1 l0_1.length c0_1, .slice A0_2 l0_2.length c0_2]) (t := 29) (by first | (go_simp; done) | (go_simp; rfl)) ?_; intro gb928 hg w4 hbox hb; have BK928 := mk0 (hbox); have GW928 := geB hg HB; have GE928 := geB hg HB; replace HB := hbS HB hb; clear hb hbox hg; have hcz5_0 : w4.cell? ⟨gb928, 0, none⟩ = some (.bool a0_0) := (blk_cell BK928.out 0).trans rfl; have hcz5_1 : w4.cell? ⟨gb928, 1, none⟩ = some (.slice A0_1 l0_1.length c0_1) := (blk_cell BK928.out 1).trans rfl; have hcz5_2 : w4.cell? ⟨gb928, 2, none⟩ = some (.slice A0_2 l0_2.length c0_2) := (blk_cell BK928.out 2).trans rfl; have hfz5_0 := blk_frozen BK928.out 0; have hfz5_1 := blk_frozen BK928.out 1; have hfz5_2 := blk_frozen BK928.out 2) | ((with_reducible refine gate_callee (f := 36) rfl ?_); refine goesL_ (some 7) rfl rfl Try.func36 (by kernel_rfl) rfl #[.agg #[.bool a0_0, .slice A0_1 l0_1.length c0_1, .slice A0_2 l0_2.length c0_2]] rfl (by first | (go_simp; done) | (go_simp; rfl)) ?_; (with_reducible refine (ratio_parts.calls k a0_0 (fun k_ => k_ < w.heap.size) _ _ l0_1 _ _ l0_2 t929 t930 t933 t934 _ (by exact Kd.V_mk HC0_1.out (Kd.F_below (Kd.C_F (Kd.heap_int .u32) HR0_1.out) HB.out)) (by exact Kd.C_below HR0_2.out HB.out) HC0_2.out A2.out).mono ?_); rintro e w6 ⟨v931, v935, rfl, ho0, ho1, hb⟩; refine ⟨_, rfl, ?_⟩; have HO932 := mk0 (Kd.V_lower (Kd.V_mono (ok' := fun k_ => some k_ ≠ (v935 : Value).ownBlock ∧ k_ ≠ gb928) ho0 (fun k_ hk_ => ⟨hk_.2, Or.elim hk_.1 (fun hs_ => fun e_ => Nat.not_le.2 hs_ (by rw [e_]; exact GW928.out)) (fun hn_ => (Kd.freshB BK928.out k_ hn_))⟩)) (below_size HB.out)); have HO936 := mk0 (Kd.R_lower (Kd.R_mono (ok' := fun k_ => True) ho1 (fun _ hk_ => trivial)) (below_size HB.out)); replace BK928 := bkB BK928 hb; replace HB := hbS HB hb) | ((with_reducible refine gate_dst (N := 3) rfl ?_); refine box_event rfl (N := 3) rfl (cs := #[.bool false, .slice none 0 0]) (t := 27) (by first | (go_simp; done) | (go_simp; rfl)) ?_; intro gb937 hg w7 hbox hb; replace HO932 := vB HO932 hg hb; replace HO936 := rB HO936 hb; have BK937 := mk0 (hbox); have GE937 := geB hg HB; replace HB := hbS HB hb; have NB928_937 := nbA hg BK928; have NB937_928 := nbB hg BK928; replace BK928 := bkB BK928 hb; clear hb hbox hg) | ((with_reducible refine gate_dst (N := 4) rfl ?_); refine box_event rfl (N := 4) rfl (cs := #[.bool false, .slice none 0 0]) (t := 27) (by first | (go_simp; done) | (go_simp; rfl)) ?_; intro gb938 hg w8 hbox hb; replace HO932 := vB HO932 hg hb; replace HO936 := rB HO936 hb; have BK938 := mk0 (hbox); have GE938 := geB hg HB; replace HB := hbS HB hb; have NB928_938 := nbA hg BK928; have NB938_928 := nbB hg BK928; replace BK928 := bkB BK928 hb; have NB937_938 := nbA hg BK937; have NB938_937 := nbB hg BK937; replace BK937 := bkB BK937 hb; clear hb hbox hg; have hnb9 := NB937_928.out; have hnc9 := NB928_937.out; have hnb10 := NB937_938.out; have hnc10 := NB938_937.out; have hcz11_0 : w8.cell? ⟨gb937, 0, none⟩ = some (.bool false) := (blk_cell BK937.out 0).trans rfl; have hcz11_1 : w8.cell? ⟨gb937, 1, none⟩ = some (.slice none 0 0) := (blk_cell BK937.out 1).trans rfl; have hfz11_0 := blk_frozen BK937.out 0; have hfz11_1 := blk_frozen BK937.out 1; obtain ⟨Ao12, co12, eo12⟩ := Kd.V_slice HO932.out; subst eo12; have hnb13 := NB938_928.out; have hnc13 := NB928_938.out; have hcz14_0 : w8.cell? ⟨gb938, 0, none⟩ = some (.bool false) := (blk_cell BK938.out 0).trans rfl; have hcz14_1 : w8.cell? ⟨gb938, 1, none⟩ = some (.slice none 0 0) := (blk_cell BK938.out 1).trans rfl; have hfz14_0 := blk_frozen BK938.out 0; have hfz14_1 := blk_frozen BK938.out 1; obtain ⟨Ao15, co15, eo15⟩ := Kd.R_slice HO936.out; subst eo15) | ((with_reducible refine gate_callee (f := 37) rfl ?_); refine goesL_ (some 11) rfl rfl Try.func37 (by kernel_rfl) rfl #[.agg #[.bool t929, .slice Ao12 t930.length co12]] rfl (by first | (go_simp; done) | (go_simp; rfl)) ?_; (with_reducible refine (integer_Sign.calls k t929 _ _ t930 t939 _ (by refine (Kd.V_reads' (e := 87) (base := w.heap.size) (ok := fun k_ => (((some k_ ≠ (.slice Ao15 t934.length co15 : Value).ownBlock ∧ k_ ≠ gb928) ∧ k_ ≠ gb937) ∧ k_ ≠ gb938)) (n := t930.length) (c := co12) ?_).2.2; exact ((Kd.V_mono (Kd.V_mono (Kd.V_far (p := ⟨gb938, 1, none⟩) (Kd.V_far (p := ⟨gb938, 0, none⟩) (Kd.V_far (p := ⟨gb937, 1, none⟩) (Kd.V_far (p := ⟨gb937, 0, none⟩) (Kd.V_mono (Kd.V_mono HO932.out (fun k_ hk => (⟨hk, hk.1.2⟩ : _ ∧ k_ ≠ gb937))) (fun k_ hk => (⟨hk, hk.1.2⟩ : _ ∧ k_ ≠ gb938))) (fun _ hk => hk.1.2) (.bool t929)) (fun _ hk => hk.1.2) (.slice Ao12 t930.length co12)) (fun _ hk => hk.2) (.bool t933)) (fun _ hk => hk.2) (.slice Ao15 t934.length co15)) (fun _ h_ => h_.1)) (fun _ h_ => h_.1)))) (by exact (Kd.V_reads' HO932.out).2.1) A3.out).mono ?_); rintro e w16 ⟨rfl, hb⟩; refine ⟨_, rfl, ?_⟩; replace HO932 := mk0 (Kd.V_below ((Kd.V_mono (Kd.V_mono (Kd.V_far (p := ⟨gb938, 1, none⟩) (Kd.V_far (p := ⟨gb938, 0, none⟩) (Kd.V_far (p := ⟨gb937, 1, none⟩) (Kd.V_far (p := ⟨gb937, 0, none⟩) (Kd.V_mono (Kd.V_mono HO932.out (fun k_ hk => (⟨hk, hk.1.2⟩ : _ ∧ k_ ≠ gb937))) (fun k_ hk => (⟨hk, hk.1.2⟩ : _ ∧ k_ ≠ gb938))) (fun _ hk => hk.1.2) (.bool t929)) (fun _ hk => hk.1.2) (.slice Ao12 t930.length co12)) (fun _ hk => hk.2) (.bool t933)) (fun _ hk => hk.2) (.slice Ao15 t934.length co15)) (fun _ h_ => h_.1)) (fun _ h_ => h_.1))) hb); replace HO936 := mk0 (Kd.R_below ((Kd.R_mono (Kd.R_mono (Kd.R_far (p := ⟨gb938, 1, none⟩) (Kd.R_far (p := ⟨gb938, 0, none⟩) (Kd.R_far (p := ⟨gb937, 1, none⟩) (Kd.R_far (p := ⟨gb937, 0, none⟩) (Kd.R_types (Kd.R_types HO936.out BK937.out (by decide)) BK938.out (by decide)) (fun _ hk => hk.1.2) (.bool t929)) (fun _ hk => hk.1.2) (.slice Ao12 t930.length co12)) (fun _ hk => hk.2) (.bool t933)) (fun _ hk => hk.2) (.slice Ao15 t934.length co15)) (fun _ h_ => h_.1)) (fun _ h_ => h_.1))) hb); replace BK928 := mk0 (blk_below (g := gb928) (o := .cells #[.bool a0_0, .slice A0_1 l0_1.length c0_1, .slice A0_2 l0_2.length c0_2] 29 (0, 0)) (by (with_reducible repeat (first | refine blk_drewN ?_ _ | refine blk_drew ?_ | refine blk_alloc ?_ _)); refine blk_far ?_ NB928_938.out _; (with_reducible repeat (first | refine blk_drewN ?_ _ | refine blk_drew ?_ | refine blk_alloc ?_ _)); refine blk_far ?_ NB928_938.out _; (with_reducible repeat (first | refine blk_drewN ?_ _ | refine blk_drew ?_ | refine blk_alloc ?_ _)); refine blk_far ?_ NB928_937.out _; (with_reducible repeat (first | refine blk_drewN ?_ _ | refine blk_drew ?_ | refine blk_alloc ?_ _)); refine blk_far ?_ NB928_937.out _; (with_reducible repeat (first | refine blk_drewN ?_ _ | refine blk_drew ?_ | refine blk_alloc ?_ _)); exact BK928.out) hb); replace BK937 := mk0 (blk_below (g := gb937) (o := .cells #[.bool t929, .slice Ao12 t930.length co12] 27 (0, 0)) (by (with_reducible repeat (first | refine blk_drewN ?_ _ | refine blk_drew ?_ | refine blk_alloc ?_ _)); refine blk_far ?_ NB937_938.out _; (with_reducible repeat (first | refine blk_drewN ?_ _ | refine blk_drew ?_ | refine blk_alloc ?_ _)); refine blk_far ?_ NB937_938.out _; (with_reducible repeat (first | refine blk_drewN ?_ _ | refine blk_drew ?_ | refine blk_alloc ?_ _)); refine blk_put (cs := #[.bool t929, .slice none 0 0]) ?_ 1 _ rfl; (with_reducible repeat (first | refine blk_drewN ?_ _ | refine blk_drew ?_ | refine blk_alloc ?_ _)); refine blk_put (cs := #[.bool false, .slice none 0 0]) ?_ 0 _ rfl; (with_reducible repeat (first | refine blk_drewN ?_ _ | refine blk_drew ?_ | refine blk_alloc ?_ _)); exact BK937.out) hb); replace BK938 := mk0 (blk_below (g := gb938) (o := .cells #[.bool t933, .slice Ao15 t934.length co15] 27 (0, 0)) (by (with_reducible repeat (first | refine blk_drewN ?_ _ | refine blk_drew ?_ | refine blk_alloc ?_ _)); refine blk_put (cs := #[.bool t933, .slice none 0 0]) ?_ 1 _ rfl; (with_reducible repeat (first | refine blk_drewN ?_ _ | refine blk_drew ?_ | refine blk_alloc ?_ _)); refine blk_put (cs := #[.bool false, .slice none 0 0]) ?_ 0 _ rfl; (with_reducible repeat (first | refine blk_drewN ?_ _ | refine blk_drew ?_ | refine blk_alloc ?_ _)); refine blk_far ?_ NB938_937.out _; (with_reducible repeat (first | refine blk_drewN ?_ _ | refine blk_drew ?_ | refine blk_alloc ?_ _)); refine blk_far ?_ NB938_937.out _; (with_reducible repeat (first | refine blk_drewN ?_ _ | refine blk_drew ?_ | refine blk_alloc ?_ _)); exact BK938.out) hb); replace HB := mk0 (below_step (by repeat (first | exact HB.out | refine below_set ?_ GE937.out | refine below_set ?_ GE938.out)) hb)))
  go_ret
  exact ⟨by first | rfl | (simp [errW_none, errW_some] <;> rfl) | (simp [*, errW_none, errW_some] <;> rfl), by repeat (first | exact HB.out | refine below_set ?_ GE928.out | refine below_set ?_ GE937.out | refine below_set ?_ GE938.out)⟩
end Go.Proofs.Ythamhjmhgcpdgaa.Q
end
section
namespace Go.Proofs.Ythamhjmhgcpdgaa.Q
open Go.RowKit Go.Proofs.YthamhjmhgcpdgaaW.PrintWords Go.Proofs.YthamhjmhgcpdgaaW.PrintLast Go.Proofs.YthamhjmhgcpdgaaW.PrintMore Go.Proofs.Ythamhjmhgcpdgaa.MyWords
attribute [local go_sem] max2_int min2_int max_two min_two
set_option linter.unusedVariables false
set_option linter.unusedSimpArgs false
mutual
def examboardlaw37_ExposureMonotone.j0 : Nat → Int → Int → Int → Int → Int → Bool → Bool → List Int → List Int → Option (Bool)
  | 0, _, _, _, _, _, _, _, _, _ => none
  | k + 1, x0, x1, x3, x4, x5, x61, x941000, x941001, x941002 => if x61 = true then (some true) else ((ratio_Of.f k 1 1).bind fun bt943 => ((exposure_Eligible.f k x0 x0 bt943.1 bt943.2.1 bt943.2.2.1 0).bind fun t952 => (if t952 = true then ((exposure_Eligible.f k (wrap64 (x0 + 1)) x0 bt943.1 bt943.2.1 bt943.2.2.1 0).bind fun t953 => (examboardlaw37_ExposureMonotone.j1 k x0 x1 x3 x4 x5 t953 x941000 x941001 x941002)) else (examboardlaw37_ExposureMonotone.j1 k x0 x1 x3 x4 x5 true x941000 x941001 x941002))))
def examboardlaw37_ExposureMonotone.j1 : Nat → Int → Int → Int → Int → Int → Bool → Bool → List Int → List Int → Option (Bool)
  | 0, _, _, _, _, _, _, _, _, _ => none
  | k + 1, x0, x1, x3, x4, x5, x77, x941000, x941001, x941002 => if x77 = true then (some false) else ((exposure_Eligible.f k x0 x1 x941000 x941001 x941002 x3).bind fun t954 => (if t954 = true then ((exposure_Eligible.f k (wrap64 (x0 - x4)) x1 x941000 x941001 x941002 x3).bind fun t955 => (if t955 = true then ((exposure_Eligible.f k x0 (wrap64 (x1 + x5)) x941000 x941001 x941002 x3).bind fun t956 => (if t956 = true then ((exposure_Eligible.f k x0 x1 x941000 x941001 x941002 (wrap64 (x3 + x5))).bind fun t957 => (some t957)) else (some false))) else (some false))) else (some true)))
end
def examboardlaw37_ExposureMonotone.f (k : Nat) (a0 : Int) (a1 : Int) (a2_0 : Bool) (l2_1 : List Int) (l2_2 : List Int) (a3 : Int) (a4 : Int) (a5 : Int) : Option (Bool) := (examboardlaw37_large.f a2_0 l2_1 l2_2).bind fun t941 => (if t941 = true then (examboardlaw37_ExposureMonotone.j0 k a0 a1 a3 a4 a5 true a2_0 l2_1 l2_2) else ((ratio_Sign.f k a2_0 l2_1 l2_2).bind fun t942 => (if t942 < 0 then (examboardlaw37_ExposureMonotone.j0 k a0 a1 a3 a4 a5 true a2_0 l2_1 l2_2) else (if a0 < 0 then (examboardlaw37_ExposureMonotone.j0 k a0 a1 a3 a4 a5 true a2_0 l2_1 l2_2) else (if a1 < 0 then (examboardlaw37_ExposureMonotone.j0 k a0 a1 a3 a4 a5 true a2_0 l2_1 l2_2) else (if a3 < 0 then (examboardlaw37_ExposureMonotone.j0 k a0 a1 a3 a4 a5 true a2_0 l2_1 l2_2) else (if a0 > 9999 then (examboardlaw37_ExposureMonotone.j0 k a0 a1 a3 a4 a5 true a2_0 l2_1 l2_2) else (if a1 > 9999 then (examboardlaw37_ExposureMonotone.j0 k a0 a1 a3 a4 a5 true a2_0 l2_1 l2_2) else (if a3 > 9999 then (examboardlaw37_ExposureMonotone.j0 k a0 a1 a3 a4 a5 true a2_0 l2_1 l2_2) else (if a4 < 0 then (examboardlaw37_ExposureMonotone.j0 k a0 a1 a3 a4 a5 true a2_0 l2_1 l2_2) else (if a5 < 0 then (examboardlaw37_ExposureMonotone.j0 k a0 a1 a3 a4 a5 true a2_0 l2_1 l2_2) else (if a4 > 9999 then (examboardlaw37_ExposureMonotone.j0 k a0 a1 a3 a4 a5 true a2_0 l2_1 l2_2) else (examboardlaw37_ExposureMonotone.j0 k a0 a1 a3 a4 a5 (decide (a5 > 9999)) a2_0 l2_1 l2_2)))))))))))))
end Go.Proofs.Ythamhjmhgcpdgaa.Q
end
section
namespace Go.Proofs.Ythamhjmhgcpdgaa.Q
open Go.RowKit Go.Proofs.YthamhjmhgcpdgaaW.PrintWords Go.Proofs.YthamhjmhgcpdgaaW.PrintLast Go.Proofs.YthamhjmhgcpdgaaW.PrintMore Go.Proofs.Ythamhjmhgcpdgaa.MyWords
attribute [local go_sem] max2_int min2_int max_two min_two
set_option linter.unusedVariables false
set_option linter.unusedSimpArgs false
set_option maxHeartbeats 8000000 in
set_option maxRecDepth 100000 in
theorem examboardlaw37_ExposureMonotone.calls (k : Nat) (a0 : Int) (a1 : Int) (a2_0 : Bool) (A2_1 : Option Addr) (c2_1 : Nat) (l2_1 : List Int) (A2_2 : Option Addr) (c2_2 : Nat) (l2_2 : List Int) (a3 : Int) (a4 : Int) (a5 : Int) (r : Bool) (w : World) (hr2_1 : Kd.C (Kd.int .u32) w A2_1 l2_1.length l2_1) (hc2_1 : l2_1.length ≤ c2_1) (hr2_2 : Kd.C (Kd.int .u32) w A2_2 l2_2.length l2_2) (hc2_2 : l2_2.length ≤ c2_2) (h : examboardlaw37_ExposureMonotone.f k a0 a1 a2_0 l2_1 l2_2 a3 a4 a5 = some r) :
    Calls Try.prog 5 #[.int .i64 a0, .int .i64 a1, .agg #[.bool a2_0, .slice A2_1 l2_1.length c2_1, .slice A2_2 l2_2.length c2_2], .int .i64 a3, .int .i64 a4, .int .i64 a5] w fun e w' => e = .returned (.bool r) ∧ Below w.heap.size w w' := by
  have hu29 := Try.underlying29
  have HR2_1 := mk0 hr2_1
  have HC2_1 := mk0 hc2_1
  clear hr2_1 hc2_1
  have HR2_2 := mk0 hr2_2
  have HC2_2 := mk0 hc2_2
  clear hr2_2 hc2_2
  have HB := mk0 (Below.refl w.heap.size w)
  have H : ((examboardlaw37_large.f a2_0 l2_1 l2_2).bind fun t941 => (if t941 = true then (examboardlaw37_ExposureMonotone.j0 k a0 a1 a3 a4 a5 true a2_0 l2_1 l2_2) else ((ratio_Sign.f k a2_0 l2_1 l2_2).bind fun t942 => (if t942 < 0 then (examboardlaw37_ExposureMonotone.j0 k a0 a1 a3 a4 a5 true a2_0 l2_1 l2_2) else (if a0 < 0 then (examboardlaw37_ExposureMonotone.j0 k a0 a1 a3 a4 a5 true a2_0 l2_1 l2_2) else (if a1 < 0 then (examboardlaw37_ExposureMonotone.j0 k a0 a1 a3 a4 a5 true a2_0 l2_1 l2_2) else (if a3 < 0 then (examboardlaw37_ExposureMonotone.j0 k a0 a1 a3 a4 a5 true a2_0 l2_1 l2_2) else (if a0 > 9999 then (examboardlaw37_ExposureMonotone.j0 k a0 a1 a3 a4 a5 true a2_0 l2_1 l2_2) else (if a1 > 9999 then (examboardlaw37_ExposureMonotone.j0 k a0 a1 a3 a4 a5 true a2_0 l2_1 l2_2) else (if a3 > 9999 then (examboardlaw37_ExposureMonotone.j0 k a0 a1 a3 a4 a5 true a2_0 l2_1 l2_2) else (if a4 < 0 then (examboardlaw37_ExposureMonotone.j0 k a0 a1 a3 a4 a5 true a2_0 l2_1 l2_2) else (if a5 < 0 then (examboardlaw37_ExposureMonotone.j0 k a0 a1 a3 a4 a5 true a2_0 l2_1 l2_2) else (if a4 > 9999 then (examboardlaw37_ExposureMonotone.j0 k a0 a1 a3 a4 a5 true a2_0 l2_1 l2_2) else (examboardlaw37_ExposureMonotone.j0 k a0 a1 a3 a4 a5 (decide (a5 > 9999)) a2_0 l2_1 l2_2)))))))))))))) = some r := h
  clear h
  have HC7 := mk0 H
  clear H
  go_enter Try.func5, Try.ntmps5
  go_upto_region 1 with (first | ((with_reducible refine gate_dst (N := 8) rfl ?_); refine box_event rfl (N := 8) rfl (cs := #[.bool a2_0, .slice A2_1 l2_1.length c2_1, .slice A2_2 l2_2.length c2_2]) (t := 29) (by first | (go_simp; done) | (go_simp; rfl)) ?_; intro gb940 hg w8 hbox hb; have BK940 := mk0 (hbox); have GE940 := geB hg HB; replace HB := hbS HB hb; clear hb hbox hg))
  (try simp only [Act.put, List.setIfInBounds_toArray, List.set_cons_zero, List.set_cons_succ])
  go_cut [61] (fun v61 wc => ∃ (kq : Nat) (x61_6 : Bool), v61 = .bool x61_6 ∧ Aside0 (examboardlaw37_ExposureMonotone.j0 kq a0 a1 a3 a4 a5 x61_6 a2_0 l2_1 l2_2 = some r) ∧ Aside0 (kq ≤ k) ∧ Aside0 (wc.heap[gb940]? = some (.cells #[.bool a2_0, (.slice A2_1 l2_1.length c2_1), (.slice A2_2 l2_2.length c2_2)] 29 (0, 0))) ∧ Aside0 (Below w.heap.size w wc))
  case first =>
    have H := HC7.out
    clear HC7
    obtain ⟨t941, A9, H⟩ := bindA H
    by_cases c10 : t941 = true
    · subst c10
      have H1 : (examboardlaw37_ExposureMonotone.j0 k a0 a1 a3 a4 a5 true a2_0 l2_1 l2_2) = some r := by rw [if_pos rfl] at H; exact H
      clear H
      have H := H1
      clear H1
      have H' := mk0 H
      clear H
      have hcz11_0 : w8.cell? ⟨gb940, 0, none⟩ = some (.bool a2_0) := (blk_cell BK940.out 0).trans rfl
      have hcz11_1 : w8.cell? ⟨gb940, 1, none⟩ = some (.slice A2_1 l2_1.length c2_1) := (blk_cell BK940.out 1).trans rfl
      have hcz11_2 : w8.cell? ⟨gb940, 2, none⟩ = some (.slice A2_2 l2_2.length c2_2) := (blk_cell BK940.out 2).trans rfl
      have hfz11_0 := blk_frozen BK940.out 0
      have hfz11_1 := blk_frozen BK940.out 1
      have hfz11_2 := blk_frozen BK940.out 2
      go_wp2_with (first | ((with_reducible refine gate_callee (f := 10) rfl ?_); refine goesL_ (some 16) rfl rfl Try.func10 (by kernel_rfl) rfl #[.agg #[.bool a2_0, .slice A2_1 l2_1.length c2_1, .slice A2_2 l2_2.length c2_2]] rfl (by first | (go_simp; done) | (go_simp; rfl)) ?_; (with_reducible refine (examboardlaw37_large.calls a2_0 _ _ l2_1 _ _ l2_2 true _ (by exact Kd.C_below HR2_1.out HB.out) HC2_1.out (by exact Kd.C_below HR2_2.out HB.out) HC2_2.out A9.out).mono ?_); rintro e w12 ⟨rfl, hb⟩; refine ⟨_, rfl, ?_⟩; replace BK940 := bkB BK940 hb; replace HB := hbS HB hb))
      go_meet
      case rel => exact ⟨_, (true), (by first | rfl | (simp; done) | (simp [*]; done)), H', ⟨by first | omega | exact Nat.le_refl _⟩, ⟨BK940.out⟩, ⟨by repeat (first | exact HB.out | refine below_set ?_ GE940.out)⟩⟩
    · replace c10 := Bool.eq_false_iff.mpr c10
      subst c10
      have H1 : ((ratio_Sign.f k a2_0 l2_1 l2_2).bind fun t942 => (if t942 < 0 then (examboardlaw37_ExposureMonotone.j0 k a0 a1 a3 a4 a5 true a2_0 l2_1 l2_2) else (if a0 < 0 then (examboardlaw37_ExposureMonotone.j0 k a0 a1 a3 a4 a5 true a2_0 l2_1 l2_2) else (if a1 < 0 then (examboardlaw37_ExposureMonotone.j0 k a0 a1 a3 a4 a5 true a2_0 l2_1 l2_2) else (if a3 < 0 then (examboardlaw37_ExposureMonotone.j0 k a0 a1 a3 a4 a5 true a2_0 l2_1 l2_2) else (if a0 > 9999 then (examboardlaw37_ExposureMonotone.j0 k a0 a1 a3 a4 a5 true a2_0 l2_1 l2_2) else (if a1 > 9999 then (examboardlaw37_ExposureMonotone.j0 k a0 a1 a3 a4 a5 true a2_0 l2_1 l2_2) else (if a3 > 9999 then (examboardlaw37_ExposureMonotone.j0 k a0 a1 a3 a4 a5 true a2_0 l2_1 l2_2) else (if a4 < 0 then (examboardlaw37_ExposureMonotone.j0 k a0 a1 a3 a4 a5 true a2_0 l2_1 l2_2) else (if a5 < 0 then (examboardlaw37_ExposureMonotone.j0 k a0 a1 a3 a4 a5 true a2_0 l2_1 l2_2) else (if a4 > 9999 then (examboardlaw37_ExposureMonotone.j0 k a0 a1 a3 a4 a5 true a2_0 l2_1 l2_2) else (examboardlaw37_ExposureMonotone.j0 k a0 a1 a3 a4 a5 (decide (a5 > 9999)) a2_0 l2_1 l2_2)))))))))))) = some r := by rw [if_neg (show ¬ (false = true) by decide)] at H; exact H
      clear H
      have H := H1
      clear H1
      obtain ⟨t942, A13, H⟩ := bindA H
      by_cases c14 : t942 < 0
      · rw [if_pos c14] at H
        have c14b0 : decide (t942 < 0) = true := decide_eq_true c14
        clear c14
        (first | rw [c14b0] | (simp only [i64_w, i32_w]; rw [c14b0]) | skip)
        have H' := mk0 H
        clear H
        have hcz15_0 : w8.cell? ⟨gb940, 0, none⟩ = some (.bool a2_0) := (blk_cell BK940.out 0).trans rfl
        have hcz15_1 : w8.cell? ⟨gb940, 1, none⟩ = some (.slice A2_1 l2_1.length c2_1) := (blk_cell BK940.out 1).trans rfl
        have hcz15_2 : w8.cell? ⟨gb940, 2, none⟩ = some (.slice A2_2 l2_2.length c2_2) := (blk_cell BK940.out 2).trans rfl
        have hfz15_0 := blk_frozen BK940.out 0
        have hfz15_1 := blk_frozen BK940.out 1
        have hfz15_2 := blk_frozen BK940.out 2
        go_wp2_with (first | ((with_reducible refine gate_callee (f := 10) rfl ?_); refine goesL_ (some 16) rfl rfl Try.func10 (by kernel_rfl) rfl #[.agg #[.bool a2_0, .slice A2_1 l2_1.length c2_1, .slice A2_2 l2_2.length c2_2]] rfl (by first | (go_simp; done) | (go_simp; rfl)) ?_; (with_reducible refine (examboardlaw37_large.calls a2_0 _ _ l2_1 _ _ l2_2 false _ (by exact Kd.C_below HR2_1.out HB.out) HC2_1.out (by exact Kd.C_below HR2_2.out HB.out) HC2_2.out A9.out).mono ?_); rintro e w16 ⟨rfl, hb⟩; refine ⟨_, rfl, ?_⟩; replace BK940 := bkB BK940 hb; replace HB := hbS HB hb; have hcz17_0 : w16.cell? ⟨gb940, 0, none⟩ = some (.bool a2_0) := (blk_cell BK940.out 0).trans rfl; have hcz17_1 : w16.cell? ⟨gb940, 1, none⟩ = some (.slice A2_1 l2_1.length c2_1) := (blk_cell BK940.out 1).trans rfl; have hcz17_2 : w16.cell? ⟨gb940, 2, none⟩ = some (.slice A2_2 l2_2.length c2_2) := (blk_cell BK940.out 2).trans rfl; have hfz17_0 := blk_frozen BK940.out 0; have hfz17_1 := blk_frozen BK940.out 1; have hfz17_2 := blk_frozen BK940.out 2) | (go_at_call 15; (with_reducible refine (ratio_Sign.calls k a2_0 _ _ l2_1 _ _ l2_2 t942 _ (by exact Kd.C_below HR2_1.out HB.out) HC2_1.out (by exact Kd.C_below HR2_2.out HB.out) HC2_2.out A13.out).mono ?_); rintro e w18 ⟨rfl, hb⟩; replace BK940 := bkB BK940 hb; replace HB := hbS HB hb))
        go_meet
        case rel => exact ⟨_, (true), (by first | rfl | (simp; done) | (simp [*]; done)), H', ⟨by first | omega | exact Nat.le_refl _⟩, ⟨BK940.out⟩, ⟨by repeat (first | exact HB.out | refine below_set ?_ GE940.out)⟩⟩
      · rw [if_neg c14] at H
        have c14b0 : decide (t942 < 0) = false := decide_eq_false c14
        clear c14
        (first | rw [c14b0] | (simp only [i64_w, i32_w]; rw [c14b0]) | skip)
        by_cases c19 : a0 < 0
        · rw [if_pos c19] at H
          have c19b0 : decide (a0 < 0) = true := decide_eq_true c19
          clear c19
          have H' := mk0 H
          clear H
          have hcz20_0 : w8.cell? ⟨gb940, 0, none⟩ = some (.bool a2_0) := (blk_cell BK940.out 0).trans rfl
          have hcz20_1 : w8.cell? ⟨gb940, 1, none⟩ = some (.slice A2_1 l2_1.length c2_1) := (blk_cell BK940.out 1).trans rfl
          have hcz20_2 : w8.cell? ⟨gb940, 2, none⟩ = some (.slice A2_2 l2_2.length c2_2) := (blk_cell BK940.out 2).trans rfl
          have hfz20_0 := blk_frozen BK940.out 0
          have hfz20_1 := blk_frozen BK940.out 1
          have hfz20_2 := blk_frozen BK940.out 2
          go_wp2_with (first | ((with_reducible refine gate_callee (f := 10) rfl ?_); refine goesL_ (some 16) rfl rfl Try.func10 (by kernel_rfl) rfl #[.agg #[.bool a2_0, .slice A2_1 l2_1.length c2_1, .slice A2_2 l2_2.length c2_2]] rfl (by first | (go_simp; done) | (go_simp; rfl)) ?_; (with_reducible refine (examboardlaw37_large.calls a2_0 _ _ l2_1 _ _ l2_2 false _ (by exact Kd.C_below HR2_1.out HB.out) HC2_1.out (by exact Kd.C_below HR2_2.out HB.out) HC2_2.out A9.out).mono ?_); rintro e w21 ⟨rfl, hb⟩; refine ⟨_, rfl, ?_⟩; replace BK940 := bkB BK940 hb; replace HB := hbS HB hb; have hcz22_0 : w21.cell? ⟨gb940, 0, none⟩ = some (.bool a2_0) := (blk_cell BK940.out 0).trans rfl; have hcz22_1 : w21.cell? ⟨gb940, 1, none⟩ = some (.slice A2_1 l2_1.length c2_1) := (blk_cell BK940.out 1).trans rfl; have hcz22_2 : w21.cell? ⟨gb940, 2, none⟩ = some (.slice A2_2 l2_2.length c2_2) := (blk_cell BK940.out 2).trans rfl; have hfz22_0 := blk_frozen BK940.out 0; have hfz22_1 := blk_frozen BK940.out 1; have hfz22_2 := blk_frozen BK940.out 2) | (go_at_call 15; (with_reducible refine (ratio_Sign.calls k a2_0 _ _ l2_1 _ _ l2_2 t942 _ (by exact Kd.C_below HR2_1.out HB.out) HC2_1.out (by exact Kd.C_below HR2_2.out HB.out) HC2_2.out A13.out).mono ?_); rintro e w23 ⟨rfl, hb⟩; replace BK940 := bkB BK940 hb; replace HB := hbS HB hb))
          go_meet
          case rel => exact ⟨_, (true), (by first | rfl | (simp; done) | (simp [*]; done)), H', ⟨by first | omega | exact Nat.le_refl _⟩, ⟨BK940.out⟩, ⟨by repeat (first | exact HB.out | refine below_set ?_ GE940.out)⟩⟩
        · rw [if_neg c19] at H
          have c19b0 : decide (a0 < 0) = false := decide_eq_false c19
          clear c19
          by_cases c24 : a1 < 0
          · rw [if_pos c24] at H
            have c24b0 : decide (a1 < 0) = true := decide_eq_true c24
            clear c24
            have H' := mk0 H
            clear H
            have hcz25_0 : w8.cell? ⟨gb940, 0, none⟩ = some (.bool a2_0) := (blk_cell BK940.out 0).trans rfl
            have hcz25_1 : w8.cell? ⟨gb940, 1, none⟩ = some (.slice A2_1 l2_1.length c2_1) := (blk_cell BK940.out 1).trans rfl
            have hcz25_2 : w8.cell? ⟨gb940, 2, none⟩ = some (.slice A2_2 l2_2.length c2_2) := (blk_cell BK940.out 2).trans rfl
            have hfz25_0 := blk_frozen BK940.out 0
            have hfz25_1 := blk_frozen BK940.out 1
            have hfz25_2 := blk_frozen BK940.out 2
            go_wp2_with (first | ((with_reducible refine gate_callee (f := 10) rfl ?_); refine goesL_ (some 16) rfl rfl Try.func10 (by kernel_rfl) rfl #[.agg #[.bool a2_0, .slice A2_1 l2_1.length c2_1, .slice A2_2 l2_2.length c2_2]] rfl (by first | (go_simp; done) | (go_simp; rfl)) ?_; (with_reducible refine (examboardlaw37_large.calls a2_0 _ _ l2_1 _ _ l2_2 false _ (by exact Kd.C_below HR2_1.out HB.out) HC2_1.out (by exact Kd.C_below HR2_2.out HB.out) HC2_2.out A9.out).mono ?_); rintro e w26 ⟨rfl, hb⟩; refine ⟨_, rfl, ?_⟩; replace BK940 := bkB BK940 hb; replace HB := hbS HB hb; have hcz27_0 : w26.cell? ⟨gb940, 0, none⟩ = some (.bool a2_0) := (blk_cell BK940.out 0).trans rfl; have hcz27_1 : w26.cell? ⟨gb940, 1, none⟩ = some (.slice A2_1 l2_1.length c2_1) := (blk_cell BK940.out 1).trans rfl; have hcz27_2 : w26.cell? ⟨gb940, 2, none⟩ = some (.slice A2_2 l2_2.length c2_2) := (blk_cell BK940.out 2).trans rfl; have hfz27_0 := blk_frozen BK940.out 0; have hfz27_1 := blk_frozen BK940.out 1; have hfz27_2 := blk_frozen BK940.out 2) | (go_at_call 15; (with_reducible refine (ratio_Sign.calls k a2_0 _ _ l2_1 _ _ l2_2 t942 _ (by exact Kd.C_below HR2_1.out HB.out) HC2_1.out (by exact Kd.C_below HR2_2.out HB.out) HC2_2.out A13.out).mono ?_); rintro e w28 ⟨rfl, hb⟩; replace BK940 := bkB BK940 hb; replace HB := hbS HB hb))
            go_meet
            case rel => exact ⟨_, (true), (by first | rfl | (simp; done) | (simp [*]; done)), H', ⟨by first | omega | exact Nat.le_refl _⟩, ⟨BK940.out⟩, ⟨by repeat (first | exact HB.out | refine below_set ?_ GE940.out)⟩⟩
          · rw [if_neg c24] at H
            have c24b0 : decide (a1 < 0) = false := decide_eq_false c24
            clear c24
            by_cases c29 : a3 < 0
            · rw [if_pos c29] at H
              have c29b0 : decide (a3 < 0) = true := decide_eq_true c29
              clear c29
              have H' := mk0 H
              clear H
              have hcz30_0 : w8.cell? ⟨gb940, 0, none⟩ = some (.bool a2_0) := (blk_cell BK940.out 0).trans rfl
              have hcz30_1 : w8.cell? ⟨gb940, 1, none⟩ = some (.slice A2_1 l2_1.length c2_1) := (blk_cell BK940.out 1).trans rfl
              have hcz30_2 : w8.cell? ⟨gb940, 2, none⟩ = some (.slice A2_2 l2_2.length c2_2) := (blk_cell BK940.out 2).trans rfl
              have hfz30_0 := blk_frozen BK940.out 0
              have hfz30_1 := blk_frozen BK940.out 1
              have hfz30_2 := blk_frozen BK940.out 2
              go_wp2_with (first | ((with_reducible refine gate_callee (f := 10) rfl ?_); refine goesL_ (some 16) rfl rfl Try.func10 (by kernel_rfl) rfl #[.agg #[.bool a2_0, .slice A2_1 l2_1.length c2_1, .slice A2_2 l2_2.length c2_2]] rfl (by first | (go_simp; done) | (go_simp; rfl)) ?_; (with_reducible refine (examboardlaw37_large.calls a2_0 _ _ l2_1 _ _ l2_2 false _ (by exact Kd.C_below HR2_1.out HB.out) HC2_1.out (by exact Kd.C_below HR2_2.out HB.out) HC2_2.out A9.out).mono ?_); rintro e w31 ⟨rfl, hb⟩; refine ⟨_, rfl, ?_⟩; replace BK940 := bkB BK940 hb; replace HB := hbS HB hb; have hcz32_0 : w31.cell? ⟨gb940, 0, none⟩ = some (.bool a2_0) := (blk_cell BK940.out 0).trans rfl; have hcz32_1 : w31.cell? ⟨gb940, 1, none⟩ = some (.slice A2_1 l2_1.length c2_1) := (blk_cell BK940.out 1).trans rfl; have hcz32_2 : w31.cell? ⟨gb940, 2, none⟩ = some (.slice A2_2 l2_2.length c2_2) := (blk_cell BK940.out 2).trans rfl; have hfz32_0 := blk_frozen BK940.out 0; have hfz32_1 := blk_frozen BK940.out 1; have hfz32_2 := blk_frozen BK940.out 2) | (go_at_call 15; (with_reducible refine (ratio_Sign.calls k a2_0 _ _ l2_1 _ _ l2_2 t942 _ (by exact Kd.C_below HR2_1.out HB.out) HC2_1.out (by exact Kd.C_below HR2_2.out HB.out) HC2_2.out A13.out).mono ?_); rintro e w33 ⟨rfl, hb⟩; replace BK940 := bkB BK940 hb; replace HB := hbS HB hb))
              go_meet
              case rel => exact ⟨_, (true), (by first | rfl | (simp; done) | (simp [*]; done)), H', ⟨by first | omega | exact Nat.le_refl _⟩, ⟨BK940.out⟩, ⟨by repeat (first | exact HB.out | refine below_set ?_ GE940.out)⟩⟩
            · rw [if_neg c29] at H
              have c29b0 : decide (a3 < 0) = false := decide_eq_false c29
              clear c29
              by_cases c34 : a0 > 9999
              · rw [if_pos c34] at H
                have c34b0 : decide (9999 < a0) = true := decide_eq_true c34
                clear c34
                have H' := mk0 H
                clear H
                have hcz35_0 : w8.cell? ⟨gb940, 0, none⟩ = some (.bool a2_0) := (blk_cell BK940.out 0).trans rfl
                have hcz35_1 : w8.cell? ⟨gb940, 1, none⟩ = some (.slice A2_1 l2_1.length c2_1) := (blk_cell BK940.out 1).trans rfl
                have hcz35_2 : w8.cell? ⟨gb940, 2, none⟩ = some (.slice A2_2 l2_2.length c2_2) := (blk_cell BK940.out 2).trans rfl
                have hfz35_0 := blk_frozen BK940.out 0
                have hfz35_1 := blk_frozen BK940.out 1
                have hfz35_2 := blk_frozen BK940.out 2
                go_wp2_with (first | ((with_reducible refine gate_callee (f := 10) rfl ?_); refine goesL_ (some 16) rfl rfl Try.func10 (by kernel_rfl) rfl #[.agg #[.bool a2_0, .slice A2_1 l2_1.length c2_1, .slice A2_2 l2_2.length c2_2]] rfl (by first | (go_simp; done) | (go_simp; rfl)) ?_; (with_reducible refine (examboardlaw37_large.calls a2_0 _ _ l2_1 _ _ l2_2 false _ (by exact Kd.C_below HR2_1.out HB.out) HC2_1.out (by exact Kd.C_below HR2_2.out HB.out) HC2_2.out A9.out).mono ?_); rintro e w36 ⟨rfl, hb⟩; refine ⟨_, rfl, ?_⟩; replace BK940 := bkB BK940 hb; replace HB := hbS HB hb; have hcz37_0 : w36.cell? ⟨gb940, 0, none⟩ = some (.bool a2_0) := (blk_cell BK940.out 0).trans rfl; have hcz37_1 : w36.cell? ⟨gb940, 1, none⟩ = some (.slice A2_1 l2_1.length c2_1) := (blk_cell BK940.out 1).trans rfl; have hcz37_2 : w36.cell? ⟨gb940, 2, none⟩ = some (.slice A2_2 l2_2.length c2_2) := (blk_cell BK940.out 2).trans rfl; have hfz37_0 := blk_frozen BK940.out 0; have hfz37_1 := blk_frozen BK940.out 1; have hfz37_2 := blk_frozen BK940.out 2) | (go_at_call 15; (with_reducible refine (ratio_Sign.calls k a2_0 _ _ l2_1 _ _ l2_2 t942 _ (by exact Kd.C_below HR2_1.out HB.out) HC2_1.out (by exact Kd.C_below HR2_2.out HB.out) HC2_2.out A13.out).mono ?_); rintro e w38 ⟨rfl, hb⟩; replace BK940 := bkB BK940 hb; replace HB := hbS HB hb))
                go_meet
                case rel => exact ⟨_, (true), (by first | rfl | (simp; done) | (simp [*]; done)), H', ⟨by first | omega | exact Nat.le_refl _⟩, ⟨BK940.out⟩, ⟨by repeat (first | exact HB.out | refine below_set ?_ GE940.out)⟩⟩
              · rw [if_neg c34] at H
                have c34b0 : decide (9999 < a0) = false := decide_eq_false c34
                clear c34
                by_cases c39 : a1 > 9999
                · rw [if_pos c39] at H
                  have c39b0 : decide (9999 < a1) = true := decide_eq_true c39
                  clear c39
                  have H' := mk0 H
                  clear H
                  have hcz40_0 : w8.cell? ⟨gb940, 0, none⟩ = some (.bool a2_0) := (blk_cell BK940.out 0).trans rfl
                  have hcz40_1 : w8.cell? ⟨gb940, 1, none⟩ = some (.slice A2_1 l2_1.length c2_1) := (blk_cell BK940.out 1).trans rfl
                  have hcz40_2 : w8.cell? ⟨gb940, 2, none⟩ = some (.slice A2_2 l2_2.length c2_2) := (blk_cell BK940.out 2).trans rfl
                  have hfz40_0 := blk_frozen BK940.out 0
                  have hfz40_1 := blk_frozen BK940.out 1
                  have hfz40_2 := blk_frozen BK940.out 2
                  go_wp2_with (first | ((with_reducible refine gate_callee (f := 10) rfl ?_); refine goesL_ (some 16) rfl rfl Try.func10 (by kernel_rfl) rfl #[.agg #[.bool a2_0, .slice A2_1 l2_1.length c2_1, .slice A2_2 l2_2.length c2_2]] rfl (by first | (go_simp; done) | (go_simp; rfl)) ?_; (with_reducible refine (examboardlaw37_large.calls a2_0 _ _ l2_1 _ _ l2_2 false _ (by exact Kd.C_below HR2_1.out HB.out) HC2_1.out (by exact Kd.C_below HR2_2.out HB.out) HC2_2.out A9.out).mono ?_); rintro e w41 ⟨rfl, hb⟩; refine ⟨_, rfl, ?_⟩; replace BK940 := bkB BK940 hb; replace HB := hbS HB hb; have hcz42_0 : w41.cell? ⟨gb940, 0, none⟩ = some (.bool a2_0) := (blk_cell BK940.out 0).trans rfl; have hcz42_1 : w41.cell? ⟨gb940, 1, none⟩ = some (.slice A2_1 l2_1.length c2_1) := (blk_cell BK940.out 1).trans rfl; have hcz42_2 : w41.cell? ⟨gb940, 2, none⟩ = some (.slice A2_2 l2_2.length c2_2) := (blk_cell BK940.out 2).trans rfl; have hfz42_0 := blk_frozen BK940.out 0; have hfz42_1 := blk_frozen BK940.out 1; have hfz42_2 := blk_frozen BK940.out 2) | (go_at_call 15; (with_reducible refine (ratio_Sign.calls k a2_0 _ _ l2_1 _ _ l2_2 t942 _ (by exact Kd.C_below HR2_1.out HB.out) HC2_1.out (by exact Kd.C_below HR2_2.out HB.out) HC2_2.out A13.out).mono ?_); rintro e w43 ⟨rfl, hb⟩; replace BK940 := bkB BK940 hb; replace HB := hbS HB hb))
                  go_meet
                  case rel => exact ⟨_, (true), (by first | rfl | (simp; done) | (simp [*]; done)), H', ⟨by first | omega | exact Nat.le_refl _⟩, ⟨BK940.out⟩, ⟨by repeat (first | exact HB.out | refine below_set ?_ GE940.out)⟩⟩
                · rw [if_neg c39] at H
                  have c39b0 : decide (9999 < a1) = false := decide_eq_false c39
                  clear c39
                  by_cases c44 : a3 > 9999
                  · rw [if_pos c44] at H
                    have c44b0 : decide (9999 < a3) = true := decide_eq_true c44
                    clear c44
                    have H' := mk0 H
                    clear H
                    have hcz45_0 : w8.cell? ⟨gb940, 0, none⟩ = some (.bool a2_0) := (blk_cell BK940.out 0).trans rfl
                    have hcz45_1 : w8.cell? ⟨gb940, 1, none⟩ = some (.slice A2_1 l2_1.length c2_1) := (blk_cell BK940.out 1).trans rfl
                    have hcz45_2 : w8.cell? ⟨gb940, 2, none⟩ = some (.slice A2_2 l2_2.length c2_2) := (blk_cell BK940.out 2).trans rfl
                    have hfz45_0 := blk_frozen BK940.out 0
                    have hfz45_1 := blk_frozen BK940.out 1
                    have hfz45_2 := blk_frozen BK940.out 2
                    go_wp2_with (first | ((with_reducible refine gate_callee (f := 10) rfl ?_); refine goesL_ (some 16) rfl rfl Try.func10 (by kernel_rfl) rfl #[.agg #[.bool a2_0, .slice A2_1 l2_1.length c2_1, .slice A2_2 l2_2.length c2_2]] rfl (by first | (go_simp; done) | (go_simp; rfl)) ?_; (with_reducible refine (examboardlaw37_large.calls a2_0 _ _ l2_1 _ _ l2_2 false _ (by exact Kd.C_below HR2_1.out HB.out) HC2_1.out (by exact Kd.C_below HR2_2.out HB.out) HC2_2.out A9.out).mono ?_); rintro e w46 ⟨rfl, hb⟩; refine ⟨_, rfl, ?_⟩; replace BK940 := bkB BK940 hb; replace HB := hbS HB hb; have hcz47_0 : w46.cell? ⟨gb940, 0, none⟩ = some (.bool a2_0) := (blk_cell BK940.out 0).trans rfl; have hcz47_1 : w46.cell? ⟨gb940, 1, none⟩ = some (.slice A2_1 l2_1.length c2_1) := (blk_cell BK940.out 1).trans rfl; have hcz47_2 : w46.cell? ⟨gb940, 2, none⟩ = some (.slice A2_2 l2_2.length c2_2) := (blk_cell BK940.out 2).trans rfl; have hfz47_0 := blk_frozen BK940.out 0; have hfz47_1 := blk_frozen BK940.out 1; have hfz47_2 := blk_frozen BK940.out 2) | (go_at_call 15; (with_reducible refine (ratio_Sign.calls k a2_0 _ _ l2_1 _ _ l2_2 t942 _ (by exact Kd.C_below HR2_1.out HB.out) HC2_1.out (by exact Kd.C_below HR2_2.out HB.out) HC2_2.out A13.out).mono ?_); rintro e w48 ⟨rfl, hb⟩; replace BK940 := bkB BK940 hb; replace HB := hbS HB hb))
                    go_meet
                    case rel => exact ⟨_, (true), (by first | rfl | (simp; done) | (simp [*]; done)), H', ⟨by first | omega | exact Nat.le_refl _⟩, ⟨BK940.out⟩, ⟨by repeat (first | exact HB.out | refine below_set ?_ GE940.out)⟩⟩
                  · rw [if_neg c44] at H
                    have c44b0 : decide (9999 < a3) = false := decide_eq_false c44
                    clear c44
                    by_cases c49 : a4 < 0
                    · rw [if_pos c49] at H
                      have c49b0 : decide (a4 < 0) = true := decide_eq_true c49
                      clear c49
                      have H' := mk0 H
                      clear H
                      have hcz50_0 : w8.cell? ⟨gb940, 0, none⟩ = some (.bool a2_0) := (blk_cell BK940.out 0).trans rfl
                      have hcz50_1 : w8.cell? ⟨gb940, 1, none⟩ = some (.slice A2_1 l2_1.length c2_1) := (blk_cell BK940.out 1).trans rfl
                      have hcz50_2 : w8.cell? ⟨gb940, 2, none⟩ = some (.slice A2_2 l2_2.length c2_2) := (blk_cell BK940.out 2).trans rfl
                      have hfz50_0 := blk_frozen BK940.out 0
                      have hfz50_1 := blk_frozen BK940.out 1
                      have hfz50_2 := blk_frozen BK940.out 2
                      go_wp2_with (first | ((with_reducible refine gate_callee (f := 10) rfl ?_); refine goesL_ (some 16) rfl rfl Try.func10 (by kernel_rfl) rfl #[.agg #[.bool a2_0, .slice A2_1 l2_1.length c2_1, .slice A2_2 l2_2.length c2_2]] rfl (by first | (go_simp; done) | (go_simp; rfl)) ?_; (with_reducible refine (examboardlaw37_large.calls a2_0 _ _ l2_1 _ _ l2_2 false _ (by exact Kd.C_below HR2_1.out HB.out) HC2_1.out (by exact Kd.C_below HR2_2.out HB.out) HC2_2.out A9.out).mono ?_); rintro e w51 ⟨rfl, hb⟩; refine ⟨_, rfl, ?_⟩; replace BK940 := bkB BK940 hb; replace HB := hbS HB hb; have hcz52_0 : w51.cell? ⟨gb940, 0, none⟩ = some (.bool a2_0) := (blk_cell BK940.out 0).trans rfl; have hcz52_1 : w51.cell? ⟨gb940, 1, none⟩ = some (.slice A2_1 l2_1.length c2_1) := (blk_cell BK940.out 1).trans rfl; have hcz52_2 : w51.cell? ⟨gb940, 2, none⟩ = some (.slice A2_2 l2_2.length c2_2) := (blk_cell BK940.out 2).trans rfl; have hfz52_0 := blk_frozen BK940.out 0; have hfz52_1 := blk_frozen BK940.out 1; have hfz52_2 := blk_frozen BK940.out 2) | (go_at_call 15; (with_reducible refine (ratio_Sign.calls k a2_0 _ _ l2_1 _ _ l2_2 t942 _ (by exact Kd.C_below HR2_1.out HB.out) HC2_1.out (by exact Kd.C_below HR2_2.out HB.out) HC2_2.out A13.out).mono ?_); rintro e w53 ⟨rfl, hb⟩; replace BK940 := bkB BK940 hb; replace HB := hbS HB hb))
                      go_meet
                      case rel => exact ⟨_, (true), (by first | rfl | (simp; done) | (simp [*]; done)), H', ⟨by first | omega | exact Nat.le_refl _⟩, ⟨BK940.out⟩, ⟨by repeat (first | exact HB.out | refine below_set ?_ GE940.out)⟩⟩
                    · rw [if_neg c49] at H
                      have c49b0 : decide (a4 < 0) = false := decide_eq_false c49
                      clear c49
                      by_cases c54 : a5 < 0
                      · rw [if_pos c54] at H
                        have c54b0 : decide (a5 < 0) = true := decide_eq_true c54
                        clear c54
                        have H' := mk0 H
                        clear H
                        have hcz55_0 : w8.cell? ⟨gb940, 0, none⟩ = some (.bool a2_0) := (blk_cell BK940.out 0).trans rfl
                        have hcz55_1 : w8.cell? ⟨gb940, 1, none⟩ = some (.slice A2_1 l2_1.length c2_1) := (blk_cell BK940.out 1).trans rfl
                        have hcz55_2 : w8.cell? ⟨gb940, 2, none⟩ = some (.slice A2_2 l2_2.length c2_2) := (blk_cell BK940.out 2).trans rfl
                        have hfz55_0 := blk_frozen BK940.out 0
                        have hfz55_1 := blk_frozen BK940.out 1
                        have hfz55_2 := blk_frozen BK940.out 2
                        go_wp2_with (first | ((with_reducible refine gate_callee (f := 10) rfl ?_); refine goesL_ (some 16) rfl rfl Try.func10 (by kernel_rfl) rfl #[.agg #[.bool a2_0, .slice A2_1 l2_1.length c2_1, .slice A2_2 l2_2.length c2_2]] rfl (by first | (go_simp; done) | (go_simp; rfl)) ?_; (with_reducible refine (examboardlaw37_large.calls a2_0 _ _ l2_1 _ _ l2_2 false _ (by exact Kd.C_below HR2_1.out HB.out) HC2_1.out (by exact Kd.C_below HR2_2.out HB.out) HC2_2.out A9.out).mono ?_); rintro e w56 ⟨rfl, hb⟩; refine ⟨_, rfl, ?_⟩; replace BK940 := bkB BK940 hb; replace HB := hbS HB hb; have hcz57_0 : w56.cell? ⟨gb940, 0, none⟩ = some (.bool a2_0) := (blk_cell BK940.out 0).trans rfl; have hcz57_1 : w56.cell? ⟨gb940, 1, none⟩ = some (.slice A2_1 l2_1.length c2_1) := (blk_cell BK940.out 1).trans rfl; have hcz57_2 : w56.cell? ⟨gb940, 2, none⟩ = some (.slice A2_2 l2_2.length c2_2) := (blk_cell BK940.out 2).trans rfl; have hfz57_0 := blk_frozen BK940.out 0; have hfz57_1 := blk_frozen BK940.out 1; have hfz57_2 := blk_frozen BK940.out 2) | (go_at_call 15; (with_reducible refine (ratio_Sign.calls k a2_0 _ _ l2_1 _ _ l2_2 t942 _ (by exact Kd.C_below HR2_1.out HB.out) HC2_1.out (by exact Kd.C_below HR2_2.out HB.out) HC2_2.out A13.out).mono ?_); rintro e w58 ⟨rfl, hb⟩; replace BK940 := bkB BK940 hb; replace HB := hbS HB hb))
                        go_meet
                        case rel => exact ⟨_, (true), (by first | rfl | (simp; done) | (simp [*]; done)), H', ⟨by first | omega | exact Nat.le_refl _⟩, ⟨BK940.out⟩, ⟨by repeat (first | exact HB.out | refine below_set ?_ GE940.out)⟩⟩
                      · rw [if_neg c54] at H
                        have c54b0 : decide (a5 < 0) = false := decide_eq_false c54
                        clear c54
                        by_cases c59 : a4 > 9999
                        · rw [if_pos c59] at H
                          have c59b0 : decide (9999 < a4) = true := decide_eq_true c59
                          clear c59
                          have H' := mk0 H
                          clear H
                          have hcz60_0 : w8.cell? ⟨gb940, 0, none⟩ = some (.bool a2_0) := (blk_cell BK940.out 0).trans rfl
                          have hcz60_1 : w8.cell? ⟨gb940, 1, none⟩ = some (.slice A2_1 l2_1.length c2_1) := (blk_cell BK940.out 1).trans rfl
                          have hcz60_2 : w8.cell? ⟨gb940, 2, none⟩ = some (.slice A2_2 l2_2.length c2_2) := (blk_cell BK940.out 2).trans rfl
                          have hfz60_0 := blk_frozen BK940.out 0
                          have hfz60_1 := blk_frozen BK940.out 1
                          have hfz60_2 := blk_frozen BK940.out 2
                          go_wp2_with (first | ((with_reducible refine gate_callee (f := 10) rfl ?_); refine goesL_ (some 16) rfl rfl Try.func10 (by kernel_rfl) rfl #[.agg #[.bool a2_0, .slice A2_1 l2_1.length c2_1, .slice A2_2 l2_2.length c2_2]] rfl (by first | (go_simp; done) | (go_simp; rfl)) ?_; (with_reducible refine (examboardlaw37_large.calls a2_0 _ _ l2_1 _ _ l2_2 false _ (by exact Kd.C_below HR2_1.out HB.out) HC2_1.out (by exact Kd.C_below HR2_2.out HB.out) HC2_2.out A9.out).mono ?_); rintro e w61 ⟨rfl, hb⟩; refine ⟨_, rfl, ?_⟩; replace BK940 := bkB BK940 hb; replace HB := hbS HB hb; have hcz62_0 : w61.cell? ⟨gb940, 0, none⟩ = some (.bool a2_0) := (blk_cell BK940.out 0).trans rfl; have hcz62_1 : w61.cell? ⟨gb940, 1, none⟩ = some (.slice A2_1 l2_1.length c2_1) := (blk_cell BK940.out 1).trans rfl; have hcz62_2 : w61.cell? ⟨gb940, 2, none⟩ = some (.slice A2_2 l2_2.length c2_2) := (blk_cell BK940.out 2).trans rfl; have hfz62_0 := blk_frozen BK940.out 0; have hfz62_1 := blk_frozen BK940.out 1; have hfz62_2 := blk_frozen BK940.out 2) | (go_at_call 15; (with_reducible refine (ratio_Sign.calls k a2_0 _ _ l2_1 _ _ l2_2 t942 _ (by exact Kd.C_below HR2_1.out HB.out) HC2_1.out (by exact Kd.C_below HR2_2.out HB.out) HC2_2.out A13.out).mono ?_); rintro e w63 ⟨rfl, hb⟩; replace BK940 := bkB BK940 hb; replace HB := hbS HB hb))
                          go_meet
                          case rel => exact ⟨_, (true), (by first | rfl | (simp; done) | (simp [*]; done)), H', ⟨by first | omega | exact Nat.le_refl _⟩, ⟨BK940.out⟩, ⟨by repeat (first | exact HB.out | refine below_set ?_ GE940.out)⟩⟩
                        · rw [if_neg c59] at H
                          have c59b0 : decide (9999 < a4) = false := decide_eq_false c59
                          clear c59
                          have H' := mk0 H
                          clear H
                          have hcz64_0 : w8.cell? ⟨gb940, 0, none⟩ = some (.bool a2_0) := (blk_cell BK940.out 0).trans rfl
                          have hcz64_1 : w8.cell? ⟨gb940, 1, none⟩ = some (.slice A2_1 l2_1.length c2_1) := (blk_cell BK940.out 1).trans rfl
                          have hcz64_2 : w8.cell? ⟨gb940, 2, none⟩ = some (.slice A2_2 l2_2.length c2_2) := (blk_cell BK940.out 2).trans rfl
                          have hfz64_0 := blk_frozen BK940.out 0
                          have hfz64_1 := blk_frozen BK940.out 1
                          have hfz64_2 := blk_frozen BK940.out 2
                          go_wp2_with (first | ((with_reducible refine gate_callee (f := 10) rfl ?_); refine goesL_ (some 16) rfl rfl Try.func10 (by kernel_rfl) rfl #[.agg #[.bool a2_0, .slice A2_1 l2_1.length c2_1, .slice A2_2 l2_2.length c2_2]] rfl (by first | (go_simp; done) | (go_simp; rfl)) ?_; (with_reducible refine (examboardlaw37_large.calls a2_0 _ _ l2_1 _ _ l2_2 false _ (by exact Kd.C_below HR2_1.out HB.out) HC2_1.out (by exact Kd.C_below HR2_2.out HB.out) HC2_2.out A9.out).mono ?_); rintro e w65 ⟨rfl, hb⟩; refine ⟨_, rfl, ?_⟩; replace BK940 := bkB BK940 hb; replace HB := hbS HB hb; have hcz66_0 : w65.cell? ⟨gb940, 0, none⟩ = some (.bool a2_0) := (blk_cell BK940.out 0).trans rfl; have hcz66_1 : w65.cell? ⟨gb940, 1, none⟩ = some (.slice A2_1 l2_1.length c2_1) := (blk_cell BK940.out 1).trans rfl; have hcz66_2 : w65.cell? ⟨gb940, 2, none⟩ = some (.slice A2_2 l2_2.length c2_2) := (blk_cell BK940.out 2).trans rfl; have hfz66_0 := blk_frozen BK940.out 0; have hfz66_1 := blk_frozen BK940.out 1; have hfz66_2 := blk_frozen BK940.out 2) | (go_at_call 15; (with_reducible refine (ratio_Sign.calls k a2_0 _ _ l2_1 _ _ l2_2 t942 _ (by exact Kd.C_below HR2_1.out HB.out) HC2_1.out (by exact Kd.C_below HR2_2.out HB.out) HC2_2.out A13.out).mono ?_); rintro e w67 ⟨rfl, hb⟩; replace BK940 := bkB BK940 hb; replace HB := hbS HB hb))
                          go_meet
                          case rel => exact ⟨_, (decide (a5 > 9999)), (by first | rfl | (simp; done) | (simp [*]; done)), H', ⟨by first | omega | exact Nat.le_refl _⟩, ⟨BK940.out⟩, ⟨by repeat (first | exact HB.out | refine below_set ?_ GE940.out)⟩⟩
  case rest =>
    clear HC7
    try clear c1
    try clear c2
    try clear p2
    try clear c3
    try clear c4
    try clear c5
    try clear c10
    try clear c14
    try clear c14b0
    try clear c19
    try clear c19b0
    try clear c24
    try clear c24b0
    try clear c29
    try clear c29b0
    try clear c34
    try clear c34b0
    try clear c39
    try clear c39b0
    try clear c44
    try clear c44b0
    try clear c49
    try clear c49b0
    try clear c54
    try clear c54b0
    try clear c59
    try clear c59b0
    try clear hcz11_0
    try clear hcz11_1
    try clear hcz11_2
    try clear hcz15_0
    try clear hcz15_1
    try clear hcz15_2
    try clear hcz17_0
    try clear hcz17_1
    try clear hcz17_2
    try clear hcz20_0
    try clear hcz20_1
    try clear hcz20_2
    try clear hcz22_0
    try clear hcz22_1
    try clear hcz22_2
    try clear hcz25_0
    try clear hcz25_1
    try clear hcz25_2
    try clear hcz27_0
    try clear hcz27_1
    try clear hcz27_2
    try clear hcz30_0
    try clear hcz30_1
    try clear hcz30_2
    try clear hcz32_0
    try clear hcz32_1
    try clear hcz32_2
    try clear hcz35_0
    try clear hcz35_1
    try clear hcz35_2
    try clear hcz37_0
    try clear hcz37_1
    try clear hcz37_2
    try clear hcz40_0
    try clear hcz40_1
    try clear hcz40_2
    try clear hcz42_0
    try clear hcz42_1
    try clear hcz42_2
    try clear hcz45_0
    try clear hcz45_1
    try clear hcz45_2
    try clear hcz47_0
    try clear hcz47_1
    try clear hcz47_2
    try clear hcz50_0
    try clear hcz50_1
    try clear hcz50_2
    try clear hcz52_0
    try clear hcz52_1
    try clear hcz52_2
    try clear hcz55_0
    try clear hcz55_1
    try clear hcz55_2
    try clear hcz57_0
    try clear hcz57_1
    try clear hcz57_2
    try clear hcz60_0
    try clear hcz60_1
    try clear hcz60_2
    try clear hcz62_0
    try clear hcz62_1
    try clear hcz62_2
    try clear hcz64_0
    try clear hcz64_1
    try clear hcz64_2
    try clear hcz66_0
    try clear hcz66_1
    try clear hcz66_2
    try clear hfz11_0
    try clear hfz11_1
    try clear hfz11_2
    try clear hfz15_0
    try clear hfz15_1
    try clear hfz15_2
    try clear hfz17_0
    try clear hfz17_1
    try clear hfz17_2
    try clear hfz20_0
    try clear hfz20_1
    try clear hfz20_2
    try clear hfz22_0
    try clear hfz22_1
    try clear hfz22_2
    try clear hfz25_0
    try clear hfz25_1
    try clear hfz25_2
    try clear hfz27_0
    try clear hfz27_1
    try clear hfz27_2
    try clear hfz30_0
    try clear hfz30_1
    try clear hfz30_2
    try clear hfz32_0
    try clear hfz32_1
    try clear hfz32_2
    try clear hfz35_0
    try clear hfz35_1
    try clear hfz35_2
    try clear hfz37_0
    try clear hfz37_1
    try clear hfz37_2
    try clear hfz40_0
    try clear hfz40_1
    try clear hfz40_2
    try clear hfz42_0
    try clear hfz42_1
    try clear hfz42_2
    try clear hfz45_0
    try clear hfz45_1
    try clear hfz45_2
    try clear hfz47_0
    try clear hfz47_1
    try clear hfz47_2
    try clear hfz50_0
    try clear hfz50_1
    try clear hfz50_2
    try clear hfz52_0
    try clear hfz52_1
    try clear hfz52_2
    try clear hfz55_0
    try clear hfz55_1
    try clear hfz55_2
    try clear hfz57_0
    try clear hfz57_1
    try clear hfz57_2
    try clear hfz60_0
    try clear hfz60_1
    try clear hfz60_2
    try clear hfz62_0
    try clear hfz62_1
    try clear hfz62_2
    try clear hfz64_0
    try clear hfz64_1
    try clear hfz64_2
    try clear hfz66_0
    try clear hfz66_1
    try clear hfz66_2
    obtain ⟨kq, x61_6, rfl, HA, HJ6, BK940, HB⟩ := hcut
    cases kq with
    | zero => exact absurd HA.out (by simp [examboardlaw37_ExposureMonotone.j0])
    | succ kj6 =>
      have H := HA.out
      clear HA
      simp only [examboardlaw37_ExposureMonotone.j0] at H
      by_cases c68 : x61_6 = true
      · subst c68
        have H1 : (some true) = some r := by rw [if_pos rfl] at H; exact H
        clear H
        have H := H1
        clear H1
        obtain rfl := Option.some.inj H
        go_wp2
        go_ret
        exact ⟨by first | rfl | (simp [errW_none, errW_some] <;> rfl) | (simp [*, errW_none, errW_some] <;> rfl), by repeat (first | exact HB.out | refine below_set ?_ GE940.out)⟩
      · replace c68 := Bool.eq_false_iff.mpr c68
        subst c68
        have H1 : ((ratio_Of.f kj6 1 1).bind fun bt943 => ((exposure_Eligible.f kj6 a0 a0 bt943.1 bt943.2.1 bt943.2.2.1 0).bind fun t952 => (if t952 = true then ((exposure_Eligible.f kj6 (wrap64 (a0 + 1)) a0 bt943.1 bt943.2.1 bt943.2.2.1 0).bind fun t953 => (examboardlaw37_ExposureMonotone.j1 kj6 a0 a1 a3 a4 a5 t953 a2_0 l2_1 l2_2)) else (examboardlaw37_ExposureMonotone.j1 kj6 a0 a1 a3 a4 a5 true a2_0 l2_1 l2_2)))) = some r := by rw [if_neg (show ¬ (false = true) by decide)] at H; exact H
        clear H
        have H := H1
        clear H1
        obtain ⟨⟨t943, t944, t947, t950⟩, A69, H⟩ := bindA H
        have HC70 := mk0 H
        clear H
        go_upto_region 4 with (first | ((with_reducible refine gate_callee (f := 16) rfl ?_); refine goesL_ (some 63) rfl rfl Try.func16 (by kernel_rfl) rfl #[.int .i64 1, .int .i64 1] rfl (by first | (go_simp; done) | (go_simp; rfl)) ?_; (with_reducible refine (ratio_Of.calls kj6 1 1 t943 t944 t947 t950 _ A69.out).mono ?_); rintro e w71 ⟨v945, v948, rfl, ho0, ho1, hb⟩; refine ⟨_, rfl, ?_⟩; have HO946 := mk0 (Kd.R_lower (Kd.R_mono (ok' := fun k_ => True) ho0 (fun _ hk_ => trivial)) (below_size HB.out)); have HO949 := mk0 (Kd.V_lower (Kd.V_mono (ok' := fun k_ => some k_ ≠ (v945 : Value).ownBlock ∧ k_ ≠ gb940) ho1 (fun k_ hk_ => ⟨hk_.2, (Kd.freshB BK940.out k_ hk_.1)⟩)) (below_size HB.out)); replace BK940 := bkB BK940 hb; replace HB := hbS HB hb) | ((with_reducible refine gate_dst (N := 13) rfl ?_); refine box_event rfl (N := 13) rfl (cs := #[.bool false, .slice none 0 0, .slice none 0 0]) (t := 29) (by first | (go_simp; done) | (go_simp; rfl)) ?_; intro gb951 hg w72 hbox hb; replace HO946 := rB HO946 hb; replace HO949 := vB HO949 hg hb; have BK951 := mk0 (hbox); have GE951 := geB hg HB; replace HB := hbS HB hb; have NB940_951 := nbA hg BK940; have NB951_940 := nbB hg BK940; replace BK940 := bkB BK940 hb; clear hb hbox hg; have hnb73 := NB951_940.out; have hnc73 := NB940_951.out; have hcz74_0 : w72.cell? ⟨gb951, 0, none⟩ = some (.bool false) := (blk_cell BK951.out 0).trans rfl; have hcz74_1 : w72.cell? ⟨gb951, 1, none⟩ = some (.slice none 0 0) := (blk_cell BK951.out 1).trans rfl; have hcz74_2 : w72.cell? ⟨gb951, 2, none⟩ = some (.slice none 0 0) := (blk_cell BK951.out 2).trans rfl; have hfz74_0 := blk_frozen BK951.out 0; have hfz74_1 := blk_frozen BK951.out 1; have hfz74_2 := blk_frozen BK951.out 2; obtain ⟨Ao75, co75, eo75⟩ := Kd.R_slice HO946.out; subst eo75; obtain ⟨Ao76, co76, eo76⟩ := Kd.V_slice HO949.out; subst eo76))
        (try simp only [Act.put, List.setIfInBounds_toArray, List.set_cons_zero, List.set_cons_succ])
        go_cut [77] (fun v77 wc => ∃ (kq : Nat) (x77_69 : Bool), v77 = .bool x77_69 ∧ Aside0 (examboardlaw37_ExposureMonotone.j1 kq a0 a1 a3 a4 a5 x77_69 a2_0 l2_1 l2_2 = some r) ∧ Aside0 (kq ≤ kj6) ∧ Aside0 (Kd.R (Kd.int .u32) 87 wc w.heap.size (fun _ => True) (.slice Ao75 t944.length co75) t944) ∧ Aside0 (Kd.V (Kd.int .u32) 87 wc w.heap.size (fun k_ => some k_ ≠ ((.slice Ao75 t944.length co75) : Value).ownBlock ∧ k_ ≠ gb940 ∧ k_ ≠ gb951) (.slice Ao76 t947.length co76) t947) ∧ Aside0 (wc.heap[gb940]? = some (.cells #[.bool a2_0, (.slice A2_1 l2_1.length c2_1), (.slice A2_2 l2_2.length c2_2)] 29 (0, 0))) ∧ Aside0 (wc.heap[gb951]? = some (.cells #[.bool t943, (.slice Ao75 t944.length co75), (.slice Ao76 t947.length co76)] 29 (0, 0))) ∧ Aside0 (Below w.heap.size w wc))
        case first =>
          have H := HC70.out
          clear HC70
          obtain ⟨t952, A77, H⟩ := bindA H
          by_cases c78 : t952 = true
          · subst c78
            have H1 : ((exposure_Eligible.f kj6 (wrap64 (a0 + 1)) a0 t943 t944 t947 0).bind fun t953 => (examboardlaw37_ExposureMonotone.j1 kj6 a0 a1 a3 a4 a5 t953 a2_0 l2_1 l2_2)) = some r := by rw [if_pos rfl] at H; exact H
            clear H
            have H := H1
            clear H1
            obtain ⟨t953, A79, H⟩ := bindA H
            have H' := mk0 H
            clear H
            have hnb80 := NB951_940.out
            have hnc80 := NB940_951.out
            have hcz81_0 : w72.cell? ⟨gb951, 0, none⟩ = some (.bool false) := (blk_cell BK951.out 0).trans rfl
            have hcz81_1 : w72.cell? ⟨gb951, 1, none⟩ = some (.slice none 0 0) := (blk_cell BK951.out 1).trans rfl
            have hcz81_2 : w72.cell? ⟨gb951, 2, none⟩ = some (.slice none 0 0) := (blk_cell BK951.out 2).trans rfl
            have hfz81_0 := blk_frozen BK951.out 0
            have hfz81_1 := blk_frozen BK951.out 1
            have hfz81_2 := blk_frozen BK951.out 2
            go_wp2_with (first | ((with_reducible refine gate_callee (f := 13) rfl ?_); refine goesL_ (some 69) rfl rfl Try.func13 (by kernel_rfl) rfl #[.int .i64 a0, .int .i64 a0, .agg #[.bool t943, .slice Ao75 t944.length co75, .slice Ao76 t947.length co76], .int .i64 0] rfl (by first | (go_simp; done) | (go_simp; rfl)) ?_; (with_reducible refine (exposure_Eligible.calls kj6 a0 a0 t943 _ _ t944 _ _ t947 0 true _ (by refine (Kd.R_reads' (e := 87) (base := w.heap.size) (ok := fun k_ => True) (n := t944.length) (c := co75) ?_).2.2; exact ((Kd.R_mono (Kd.R_far (p := ⟨gb951, 2, none⟩) (Kd.R_far (p := ⟨gb951, 1, none⟩) (Kd.R_far (p := ⟨gb951, 0, none⟩) (Kd.R_types HO946.out BK951.out (by decide)) (fun _ hk => hk.2) (.bool t943)) (fun _ hk => hk.2) (.slice Ao75 t944.length co75)) (fun _ hk => hk.2) (.slice Ao76 t947.length co76)) (fun _ h_ => h_.1)))) (by exact (Kd.R_reads' HO946.out).2.1) (by refine (Kd.V_reads' (e := 87) (base := w.heap.size) (ok := fun k_ => ((some k_ ≠ (.slice Ao75 t944.length co75 : Value).ownBlock ∧ k_ ≠ gb940) ∧ k_ ≠ gb951)) (n := t947.length) (c := co76) ?_).2.2; exact ((Kd.V_mono (Kd.V_far (p := ⟨gb951, 2, none⟩) (Kd.V_far (p := ⟨gb951, 1, none⟩) (Kd.V_far (p := ⟨gb951, 0, none⟩) (Kd.V_mono HO949.out (fun k_ hk => (⟨hk, hk.2⟩ : _ ∧ k_ ≠ gb951))) (fun _ hk => hk.2) (.bool t943)) (fun _ hk => hk.2) (.slice Ao75 t944.length co75)) (fun _ hk => hk.2) (.slice Ao76 t947.length co76)) (fun _ h_ => h_.1)))) (by exact (Kd.V_reads' HO949.out).2.1) A77.out).mono ?_); rintro e w82 ⟨rfl, hb⟩; refine ⟨_, rfl, ?_⟩; replace HO946 := mk0 (Kd.R_below ((Kd.R_mono (Kd.R_far (p := ⟨gb951, 2, none⟩) (Kd.R_far (p := ⟨gb951, 1, none⟩) (Kd.R_far (p := ⟨gb951, 0, none⟩) (Kd.R_types HO946.out BK951.out (by decide)) (fun _ hk => hk.2) (.bool t943)) (fun _ hk => hk.2) (.slice Ao75 t944.length co75)) (fun _ hk => hk.2) (.slice Ao76 t947.length co76)) (fun _ h_ => h_.1))) hb); replace HO949 := mk0 (Kd.V_below ((Kd.V_mono (Kd.V_far (p := ⟨gb951, 2, none⟩) (Kd.V_far (p := ⟨gb951, 1, none⟩) (Kd.V_far (p := ⟨gb951, 0, none⟩) (Kd.V_mono HO949.out (fun k_ hk => (⟨hk, hk.2⟩ : _ ∧ k_ ≠ gb951))) (fun _ hk => hk.2) (.bool t943)) (fun _ hk => hk.2) (.slice Ao75 t944.length co75)) (fun _ hk => hk.2) (.slice Ao76 t947.length co76)) (fun _ h_ => h_.1))) hb); replace BK940 := mk0 (blk_below (g := gb940) (o := .cells #[.bool a2_0, .slice A2_1 l2_1.length c2_1, .slice A2_2 l2_2.length c2_2] 29 (0, 0)) (by (with_reducible repeat (first | refine blk_drewN ?_ _ | refine blk_drew ?_ | refine blk_alloc ?_ _)); refine blk_far ?_ NB940_951.out _; (with_reducible repeat (first | refine blk_drewN ?_ _ | refine blk_drew ?_ | refine blk_alloc ?_ _)); refine blk_far ?_ NB940_951.out _; (with_reducible repeat (first | refine blk_drewN ?_ _ | refine blk_drew ?_ | refine blk_alloc ?_ _)); refine blk_far ?_ NB940_951.out _; (with_reducible repeat (first | refine blk_drewN ?_ _ | refine blk_drew ?_ | refine blk_alloc ?_ _)); exact BK940.out) hb); replace BK951 := mk0 (blk_below (g := gb951) (o := .cells #[.bool t943, .slice Ao75 t944.length co75, .slice Ao76 t947.length co76] 29 (0, 0)) (by (with_reducible repeat (first | refine blk_drewN ?_ _ | refine blk_drew ?_ | refine blk_alloc ?_ _)); refine blk_put (cs := #[.bool t943, .slice Ao75 t944.length co75, .slice none 0 0]) ?_ 2 _ rfl; (with_reducible repeat (first | refine blk_drewN ?_ _ | refine blk_drew ?_ | refine blk_alloc ?_ _)); refine blk_put (cs := #[.bool t943, .slice none 0 0, .slice none 0 0]) ?_ 1 _ rfl; (with_reducible repeat (first | refine blk_drewN ?_ _ | refine blk_drew ?_ | refine blk_alloc ?_ _)); refine blk_put (cs := #[.bool false, .slice none 0 0, .slice none 0 0]) ?_ 0 _ rfl; (with_reducible repeat (first | refine blk_drewN ?_ _ | refine blk_drew ?_ | refine blk_alloc ?_ _)); exact BK951.out) hb); replace HB := mk0 (below_step (by repeat (first | exact HB.out | refine below_set ?_ GE951.out)) hb); have hcz83_0 : w82.cell? ⟨gb951, 0, none⟩ = some (.bool t943) := (blk_cell BK951.out 0).trans rfl; have hcz83_1 : w82.cell? ⟨gb951, 1, none⟩ = some (.slice Ao75 t944.length co75) := (blk_cell BK951.out 1).trans rfl; have hcz83_2 : w82.cell? ⟨gb951, 2, none⟩ = some (.slice Ao76 t947.length co76) := (blk_cell BK951.out 2).trans rfl; have hfz83_0 := blk_frozen BK951.out 0; have hfz83_1 := blk_frozen BK951.out 1; have hfz83_2 := blk_frozen BK951.out 2) | (go_at_call 13; (with_reducible refine (exposure_Eligible.calls kj6 (wrap64 (a0 + 1)) a0 t943 _ _ t944 _ _ t947 0 t953 _ (by exact (Kd.R_reads' HO946.out).2.2) (by exact (Kd.R_reads' HO946.out).2.1) (by exact (Kd.V_reads' HO949.out).2.2) (by exact (Kd.V_reads' HO949.out).2.1) A79.out).mono ?_); rintro e w84 ⟨rfl, hb⟩; replace HO946 := rB HO946 hb; replace HO949 := mk0 (Kd.V_below HO949.out hb); replace BK940 := bkB BK940 hb; replace BK951 := bkB BK951 hb; replace HB := mk0 (below_step (by repeat (first | exact HB.out | refine below_set ?_ GE951.out)) hb)))
            go_meet
            case rel => exact ⟨_, (t953), (by first | rfl | (simp; done) | (simp [*]; done)), H', ⟨by have := HJ6.out; first | omega | exact Nat.le_refl _⟩, ⟨HO946.out⟩, ⟨Kd.V_mono HO949.out (fun _ hk => ⟨hk.1.1, ⟨hk.1.2, hk.2⟩⟩)⟩, ⟨BK940.out⟩, ⟨BK951.out⟩, ⟨by repeat (first | exact HB.out | refine below_set ?_ GE940.out | refine below_set ?_ GE951.out)⟩⟩
          · replace c78 := Bool.eq_false_iff.mpr c78
            subst c78
            have H1 : (examboardlaw37_ExposureMonotone.j1 kj6 a0 a1 a3 a4 a5 true a2_0 l2_1 l2_2) = some r := by rw [if_neg (show ¬ (false = true) by decide)] at H; exact H
            clear H
            have H := H1
            clear H1
            have H' := mk0 H
            clear H
            have hnb85 := NB951_940.out
            have hnc85 := NB940_951.out
            have hcz86_0 : w72.cell? ⟨gb951, 0, none⟩ = some (.bool false) := (blk_cell BK951.out 0).trans rfl
            have hcz86_1 : w72.cell? ⟨gb951, 1, none⟩ = some (.slice none 0 0) := (blk_cell BK951.out 1).trans rfl
            have hcz86_2 : w72.cell? ⟨gb951, 2, none⟩ = some (.slice none 0 0) := (blk_cell BK951.out 2).trans rfl
            have hfz86_0 := blk_frozen BK951.out 0
            have hfz86_1 := blk_frozen BK951.out 1
            have hfz86_2 := blk_frozen BK951.out 2
            go_wp2_with (first | ((with_reducible refine gate_callee (f := 13) rfl ?_); refine goesL_ (some 69) rfl rfl Try.func13 (by kernel_rfl) rfl #[.int .i64 a0, .int .i64 a0, .agg #[.bool t943, .slice Ao75 t944.length co75, .slice Ao76 t947.length co76], .int .i64 0] rfl (by first | (go_simp; done) | (go_simp; rfl)) ?_; (with_reducible refine (exposure_Eligible.calls kj6 a0 a0 t943 _ _ t944 _ _ t947 0 false _ (by refine (Kd.R_reads' (e := 87) (base := w.heap.size) (ok := fun k_ => True) (n := t944.length) (c := co75) ?_).2.2; exact ((Kd.R_mono (Kd.R_far (p := ⟨gb951, 2, none⟩) (Kd.R_far (p := ⟨gb951, 1, none⟩) (Kd.R_far (p := ⟨gb951, 0, none⟩) (Kd.R_types HO946.out BK951.out (by decide)) (fun _ hk => hk.2) (.bool t943)) (fun _ hk => hk.2) (.slice Ao75 t944.length co75)) (fun _ hk => hk.2) (.slice Ao76 t947.length co76)) (fun _ h_ => h_.1)))) (by exact (Kd.R_reads' HO946.out).2.1) (by refine (Kd.V_reads' (e := 87) (base := w.heap.size) (ok := fun k_ => ((some k_ ≠ (.slice Ao75 t944.length co75 : Value).ownBlock ∧ k_ ≠ gb940) ∧ k_ ≠ gb951)) (n := t947.length) (c := co76) ?_).2.2; exact ((Kd.V_mono (Kd.V_far (p := ⟨gb951, 2, none⟩) (Kd.V_far (p := ⟨gb951, 1, none⟩) (Kd.V_far (p := ⟨gb951, 0, none⟩) (Kd.V_mono HO949.out (fun k_ hk => (⟨hk, hk.2⟩ : _ ∧ k_ ≠ gb951))) (fun _ hk => hk.2) (.bool t943)) (fun _ hk => hk.2) (.slice Ao75 t944.length co75)) (fun _ hk => hk.2) (.slice Ao76 t947.length co76)) (fun _ h_ => h_.1)))) (by exact (Kd.V_reads' HO949.out).2.1) A77.out).mono ?_); rintro e w87 ⟨rfl, hb⟩; refine ⟨_, rfl, ?_⟩; replace HO946 := mk0 (Kd.R_below ((Kd.R_mono (Kd.R_far (p := ⟨gb951, 2, none⟩) (Kd.R_far (p := ⟨gb951, 1, none⟩) (Kd.R_far (p := ⟨gb951, 0, none⟩) (Kd.R_types HO946.out BK951.out (by decide)) (fun _ hk => hk.2) (.bool t943)) (fun _ hk => hk.2) (.slice Ao75 t944.length co75)) (fun _ hk => hk.2) (.slice Ao76 t947.length co76)) (fun _ h_ => h_.1))) hb); replace HO949 := mk0 (Kd.V_below ((Kd.V_mono (Kd.V_far (p := ⟨gb951, 2, none⟩) (Kd.V_far (p := ⟨gb951, 1, none⟩) (Kd.V_far (p := ⟨gb951, 0, none⟩) (Kd.V_mono HO949.out (fun k_ hk => (⟨hk, hk.2⟩ : _ ∧ k_ ≠ gb951))) (fun _ hk => hk.2) (.bool t943)) (fun _ hk => hk.2) (.slice Ao75 t944.length co75)) (fun _ hk => hk.2) (.slice Ao76 t947.length co76)) (fun _ h_ => h_.1))) hb); replace BK940 := mk0 (blk_below (g := gb940) (o := .cells #[.bool a2_0, .slice A2_1 l2_1.length c2_1, .slice A2_2 l2_2.length c2_2] 29 (0, 0)) (by (with_reducible repeat (first | refine blk_drewN ?_ _ | refine blk_drew ?_ | refine blk_alloc ?_ _)); refine blk_far ?_ NB940_951.out _; (with_reducible repeat (first | refine blk_drewN ?_ _ | refine blk_drew ?_ | refine blk_alloc ?_ _)); refine blk_far ?_ NB940_951.out _; (with_reducible repeat (first | refine blk_drewN ?_ _ | refine blk_drew ?_ | refine blk_alloc ?_ _)); refine blk_far ?_ NB940_951.out _; (with_reducible repeat (first | refine blk_drewN ?_ _ | refine blk_drew ?_ | refine blk_alloc ?_ _)); exact BK940.out) hb); replace BK951 := mk0 (blk_below (g := gb951) (o := .cells #[.bool t943, .slice Ao75 t944.length co75, .slice Ao76 t947.length co76] 29 (0, 0)) (by (with_reducible repeat (first | refine blk_drewN ?_ _ | refine blk_drew ?_ | refine blk_alloc ?_ _)); refine blk_put (cs := #[.bool t943, .slice Ao75 t944.length co75, .slice none 0 0]) ?_ 2 _ rfl; (with_reducible repeat (first | refine blk_drewN ?_ _ | refine blk_drew ?_ | refine blk_alloc ?_ _)); refine blk_put (cs := #[.bool t943, .slice none 0 0, .slice none 0 0]) ?_ 1 _ rfl; (with_reducible repeat (first | refine blk_drewN ?_ _ | refine blk_drew ?_ | refine blk_alloc ?_ _)); refine blk_put (cs := #[.bool false, .slice none 0 0, .slice none 0 0]) ?_ 0 _ rfl; (with_reducible repeat (first | refine blk_drewN ?_ _ | refine blk_drew ?_ | refine blk_alloc ?_ _)); exact BK951.out) hb); replace HB := mk0 (below_step (by repeat (first | exact HB.out | refine below_set ?_ GE951.out)) hb)))
            go_meet
            case rel => exact ⟨_, (true), (by first | rfl | (simp; done) | (simp [*]; done)), H', ⟨by have := HJ6.out; first | omega | exact Nat.le_refl _⟩, ⟨HO946.out⟩, ⟨Kd.V_mono HO949.out (fun _ hk => ⟨hk.1.1, ⟨hk.1.2, hk.2⟩⟩)⟩, ⟨BK940.out⟩, ⟨BK951.out⟩, ⟨by repeat (first | exact HB.out | refine below_set ?_ GE940.out | refine below_set ?_ GE951.out)⟩⟩
        case rest =>
          clear HC70
          try clear c1
          try clear c2
          try clear p2
          try clear c3
          try clear c4
          try clear c5
          try clear c6
          try clear p6
          try clear c7
          try clear c8
          try clear c10
          try clear c13
          try clear c14
          try clear c14b0
          try clear c16
          try clear c19
          try clear c19b0
          try clear c24
          try clear c24b0
          try clear c29
          try clear c29b0
          try clear c34
          try clear c34b0
          try clear c39
          try clear c39b0
          try clear c44
          try clear c44b0
          try clear c49
          try clear c49b0
          try clear c54
          try clear c54b0
          try clear c59
          try clear c59b0
          try clear p64
          try clear c68
          try clear c73
          try clear c78
          try clear c80
          try clear c85
          try clear hcz11_0
          try clear hcz11_1
          try clear hcz11_2
          try clear hcz15_0
          try clear hcz15_1
          try clear hcz15_2
          try clear hcz17_0
          try clear hcz17_1
          try clear hcz17_2
          try clear hcz20_0
          try clear hcz20_1
          try clear hcz20_2
          try clear hcz22_0
          try clear hcz22_1
          try clear hcz22_2
          try clear hcz25_0
          try clear hcz25_1
          try clear hcz25_2
          try clear hcz27_0
          try clear hcz27_1
          try clear hcz27_2
          try clear hcz30_0
          try clear hcz30_1
          try clear hcz30_2
          try clear hcz32_0
          try clear hcz32_1
          try clear hcz32_2
          try clear hcz35_0
          try clear hcz35_1
          try clear hcz35_2
          try clear hcz37_0
          try clear hcz37_1
          try clear hcz37_2
          try clear hcz40_0
          try clear hcz40_1
          try clear hcz40_2
          try clear hcz42_0
          try clear hcz42_1
          try clear hcz42_2
          try clear hcz45_0
          try clear hcz45_1
          try clear hcz45_2
          try clear hcz47_0
          try clear hcz47_1
          try clear hcz47_2
          try clear hcz50_0
          try clear hcz50_1
          try clear hcz50_2
          try clear hcz52_0
          try clear hcz52_1
          try clear hcz52_2
          try clear hcz55_0
          try clear hcz55_1
          try clear hcz55_2
          try clear hcz57_0
          try clear hcz57_1
          try clear hcz57_2
          try clear hcz60_0
          try clear hcz60_1
          try clear hcz60_2
          try clear hcz62_0
          try clear hcz62_1
          try clear hcz62_2
          try clear hcz64_0
          try clear hcz64_1
          try clear hcz64_2
          try clear hcz66_0
          try clear hcz66_1
          try clear hcz66_2
          try clear hcz74_0
          try clear hcz74_1
          try clear hcz74_2
          try clear hcz81_0
          try clear hcz81_1
          try clear hcz81_2
          try clear hcz83_0
          try clear hcz83_1
          try clear hcz83_2
          try clear hcz86_0
          try clear hcz86_1
          try clear hcz86_2
          try clear hfz11_0
          try clear hfz11_1
          try clear hfz11_2
          try clear hfz15_0
          try clear hfz15_1
          try clear hfz15_2
          try clear hfz17_0
          try clear hfz17_1
          try clear hfz17_2
          try clear hfz20_0
          try clear hfz20_1
          try clear hfz20_2
          try clear hfz22_0
          try clear hfz22_1
          try clear hfz22_2
          try clear hfz25_0
          try clear hfz25_1
          try clear hfz25_2
          try clear hfz27_0
          try clear hfz27_1
          try clear hfz27_2
          try clear hfz30_0
          try clear hfz30_1
          try clear hfz30_2
          try clear hfz32_0
          try clear hfz32_1
          try clear hfz32_2
          try clear hfz35_0
          try clear hfz35_1
          try clear hfz35_2
          try clear hfz37_0
          try clear hfz37_1
          try clear hfz37_2
          try clear hfz40_0
          try clear hfz40_1
          try clear hfz40_2
          try clear hfz42_0
          try clear hfz42_1
          try clear hfz42_2
          try clear hfz45_0
          try clear hfz45_1
          try clear hfz45_2
          try clear hfz47_0
          try clear hfz47_1
          try clear hfz47_2
          try clear hfz50_0
          try clear hfz50_1
          try clear hfz50_2
          try clear hfz52_0
          try clear hfz52_1
          try clear hfz52_2
          try clear hfz55_0
          try clear hfz55_1
          try clear hfz55_2
          try clear hfz57_0
          try clear hfz57_1
          try clear hfz57_2
          try clear hfz60_0
          try clear hfz60_1
          try clear hfz60_2
          try clear hfz62_0
          try clear hfz62_1
          try clear hfz62_2
          try clear hfz64_0
          try clear hfz64_1
          try clear hfz64_2
          try clear hfz66_0
          try clear hfz66_1
          try clear hfz66_2
          try clear hfz74_0
          try clear hfz74_1
          try clear hfz74_2
          try clear hfz81_0
          try clear hfz81_1
          try clear hfz81_2
          try clear hfz83_0
          try clear hfz83_1
          try clear hfz83_2
          try clear hfz86_0
          try clear hfz86_1
          try clear hfz86_2
          try clear p2
          obtain ⟨kq, x77_69, rfl, HA, HJ69, HO_952001, HO_952002, BK940, BK951, HB⟩ := hcut
          cases kq with
          | zero => exact absurd HA.out (by simp [examboardlaw37_ExposureMonotone.j1])
          | succ kj69 =>
            have H := HA.out
            clear HA
            simp only [examboardlaw37_ExposureMonotone.j1] at H
            by_cases c88 : x77_69 = true
            · subst c88
              have H1 : (some false) = some r := by rw [if_pos rfl] at H; exact H
              clear H
              have H := H1
              clear H1
              obtain rfl := Option.some.inj H
              go_wp2
              go_ret
              exact ⟨by first | rfl | (simp [errW_none, errW_some] <;> rfl) | (simp [*, errW_none, errW_some] <;> rfl), by repeat (first | exact HB.out | refine below_set ?_ GE940.out | refine below_set ?_ GE951.out)⟩
            · replace c88 := Bool.eq_false_iff.mpr c88
              subst c88
              have H1 : ((exposure_Eligible.f kj69 a0 a1 a2_0 l2_1 l2_2 a3).bind fun t954 => (if t954 = true then ((exposure_Eligible.f kj69 (wrap64 (a0 - a4)) a1 a2_0 l2_1 l2_2 a3).bind fun t955 => (if t955 = true then ((exposure_Eligible.f kj69 a0 (wrap64 (a1 + a5)) a2_0 l2_1 l2_2 a3).bind fun t956 => (if t956 = true then ((exposure_Eligible.f kj69 a0 a1 a2_0 l2_1 l2_2 (wrap64 (a3 + a5))).bind fun t957 => (some t957)) else (some false))) else (some false))) else (some true))) = some r := by rw [if_neg (show ¬ (false = true) by decide)] at H; exact H
              clear H
              have H := H1
              clear H1
              obtain ⟨t954, A89, H⟩ := bindA H
              by_cases c90 : t954 = true
              · subst c90
                have H1 : ((exposure_Eligible.f kj69 (wrap64 (a0 - a4)) a1 a2_0 l2_1 l2_2 a3).bind fun t955 => (if t955 = true then ((exposure_Eligible.f kj69 a0 (wrap64 (a1 + a5)) a2_0 l2_1 l2_2 a3).bind fun t956 => (if t956 = true then ((exposure_Eligible.f kj69 a0 a1 a2_0 l2_1 l2_2 (wrap64 (a3 + a5))).bind fun t957 => (some t957)) else (some false))) else (some false))) = some r := by rw [if_pos rfl] at H; exact H
                clear H
                have H := H1
                clear H1
                obtain ⟨t955, A91, H⟩ := bindA H
                by_cases c92 : t955 = true
                · subst c92
                  have H1 : ((exposure_Eligible.f kj69 a0 (wrap64 (a1 + a5)) a2_0 l2_1 l2_2 a3).bind fun t956 => (if t956 = true then ((exposure_Eligible.f kj69 a0 a1 a2_0 l2_1 l2_2 (wrap64 (a3 + a5))).bind fun t957 => (some t957)) else (some false))) = some r := by rw [if_pos rfl] at H; exact H
                  clear H
                  have H := H1
                  clear H1
                  obtain ⟨t956, A93, H⟩ := bindA H
                  by_cases c94 : t956 = true
                  · subst c94
                    have H1 : ((exposure_Eligible.f kj69 a0 a1 a2_0 l2_1 l2_2 (wrap64 (a3 + a5))).bind fun t957 => (some t957)) = some r := by rw [if_pos rfl] at H; exact H
                    clear H
                    have H := H1
                    clear H1
                    obtain ⟨t957, A95, H⟩ := bindA H
                    obtain rfl := Option.some.inj H
                    have hnb96 := NB940_951.out
                    have hnc96 := NB951_940.out
                    have hcz97_0 : wc.cell? ⟨gb940, 0, none⟩ = some (.bool a2_0) := (blk_cell BK940.out 0).trans rfl
                    have hcz97_1 : wc.cell? ⟨gb940, 1, none⟩ = some (.slice A2_1 l2_1.length c2_1) := (blk_cell BK940.out 1).trans rfl
                    have hcz97_2 : wc.cell? ⟨gb940, 2, none⟩ = some (.slice A2_2 l2_2.length c2_2) := (blk_cell BK940.out 2).trans rfl
                    have hfz97_0 := blk_frozen BK940.out 0
                    have hfz97_1 := blk_frozen BK940.out 1
                    have hfz97_2 := blk_frozen BK940.out 2
                    go_wp2_with (first | ((with_reducible refine gate_callee (f := 13) rfl ?_); refine goesL_ (some 82) rfl rfl Try.func13 (by kernel_rfl) rfl #[.int .i64 a0, .int .i64 a1, .agg #[.bool a2_0, .slice A2_1 l2_1.length c2_1, .slice A2_2 l2_2.length c2_2], .int .i64 a3] rfl (by first | (go_simp; done) | (go_simp; rfl)) ?_; (with_reducible refine (exposure_Eligible.calls kj69 a0 a1 a2_0 _ _ l2_1 _ _ l2_2 a3 true _ (by exact Kd.C_below HR2_1.out HB.out) HC2_1.out (by exact Kd.C_below HR2_2.out HB.out) HC2_2.out A89.out).mono ?_); rintro e w98 ⟨rfl, hb⟩; refine ⟨_, rfl, ?_⟩; replace HO_952001 := rB HO_952001 hb; replace HO_952002 := mk0 (Kd.V_below HO_952002.out hb); replace BK940 := bkB BK940 hb; replace BK951 := bkB BK951 hb; replace HB := hbS HB hb; have hcz99_0 : w98.cell? ⟨gb940, 0, none⟩ = some (.bool a2_0) := (blk_cell BK940.out 0).trans rfl; have hcz99_1 : w98.cell? ⟨gb940, 1, none⟩ = some (.slice A2_1 l2_1.length c2_1) := (blk_cell BK940.out 1).trans rfl; have hcz99_2 : w98.cell? ⟨gb940, 2, none⟩ = some (.slice A2_2 l2_2.length c2_2) := (blk_cell BK940.out 2).trans rfl; have hfz99_0 := blk_frozen BK940.out 0; have hfz99_1 := blk_frozen BK940.out 1; have hfz99_2 := blk_frozen BK940.out 2) | ((with_reducible refine gate_callee (f := 13) rfl ?_); refine goesL_ (some 90) rfl rfl Try.func13 (by kernel_rfl) rfl #[.int .i64 (wrap64 (a0 - a4)), .int .i64 a1, .agg #[.bool a2_0, .slice A2_1 l2_1.length c2_1, .slice A2_2 l2_2.length c2_2], .int .i64 a3] rfl (by first | (go_simp; done) | (go_simp; rfl)) ?_; (with_reducible refine (exposure_Eligible.calls kj69 (wrap64 (a0 - a4)) a1 a2_0 _ _ l2_1 _ _ l2_2 a3 true _ (by exact Kd.C_below HR2_1.out HB.out) HC2_1.out (by exact Kd.C_below HR2_2.out HB.out) HC2_2.out A91.out).mono ?_); rintro e w100 ⟨rfl, hb⟩; refine ⟨_, rfl, ?_⟩; replace HO_952001 := rB HO_952001 hb; replace HO_952002 := mk0 (Kd.V_below HO_952002.out hb); replace BK940 := bkB BK940 hb; replace BK951 := bkB BK951 hb; replace HB := hbS HB hb; have hcz101_0 : w100.cell? ⟨gb940, 0, none⟩ = some (.bool a2_0) := (blk_cell BK940.out 0).trans rfl; have hcz101_1 : w100.cell? ⟨gb940, 1, none⟩ = some (.slice A2_1 l2_1.length c2_1) := (blk_cell BK940.out 1).trans rfl; have hcz101_2 : w100.cell? ⟨gb940, 2, none⟩ = some (.slice A2_2 l2_2.length c2_2) := (blk_cell BK940.out 2).trans rfl; have hfz101_0 := blk_frozen BK940.out 0; have hfz101_1 := blk_frozen BK940.out 1; have hfz101_2 := blk_frozen BK940.out 2) | (go_at_call 13; (with_reducible refine (exposure_Eligible.calls kj69 a0 (wrap64 (a1 + a5)) a2_0 _ _ l2_1 _ _ l2_2 a3 true _ (by exact Kd.C_below HR2_1.out HB.out) HC2_1.out (by exact Kd.C_below HR2_2.out HB.out) HC2_2.out A93.out).mono ?_); rintro e w102 ⟨rfl, hb⟩; replace HO_952001 := rB HO_952001 hb; replace HO_952002 := mk0 (Kd.V_below HO_952002.out hb); replace BK940 := bkB BK940 hb; replace BK951 := bkB BK951 hb; replace HB := hbS HB hb; have hcz103_0 : w102.cell? ⟨gb940, 0, none⟩ = some (.bool a2_0) := (blk_cell BK940.out 0).trans rfl; have hcz103_1 : w102.cell? ⟨gb940, 1, none⟩ = some (.slice A2_1 l2_1.length c2_1) := (blk_cell BK940.out 1).trans rfl; have hcz103_2 : w102.cell? ⟨gb940, 2, none⟩ = some (.slice A2_2 l2_2.length c2_2) := (blk_cell BK940.out 2).trans rfl; have hfz103_0 := blk_frozen BK940.out 0; have hfz103_1 := blk_frozen BK940.out 1; have hfz103_2 := blk_frozen BK940.out 2) | (go_at_call 13; (with_reducible refine (exposure_Eligible.calls kj69 a0 a1 a2_0 _ _ l2_1 _ _ l2_2 (wrap64 (a3 + a5)) t957 _ (by exact Kd.C_below HR2_1.out HB.out) HC2_1.out (by exact Kd.C_below HR2_2.out HB.out) HC2_2.out A95.out).mono ?_); rintro e w104 ⟨rfl, hb⟩; replace HO_952001 := rB HO_952001 hb; replace HO_952002 := mk0 (Kd.V_below HO_952002.out hb); replace BK940 := bkB BK940 hb; replace BK951 := bkB BK951 hb; replace HB := hbS HB hb))
                    go_ret
                    exact ⟨by first | rfl | (simp [errW_none, errW_some] <;> rfl) | (simp [*, errW_none, errW_some] <;> rfl), by repeat (first | exact HB.out | refine below_set ?_ GE940.out | refine below_set ?_ GE951.out)⟩
                  · replace c94 := Bool.eq_false_iff.mpr c94
                    subst c94
                    have H1 : (some false) = some r := by rw [if_neg (show ¬ (false = true) by decide)] at H; exact H
                    clear H
                    have H := H1
                    clear H1
                    obtain rfl := Option.some.inj H
                    have hnb105 := NB940_951.out
                    have hnc105 := NB951_940.out
                    have hcz106_0 : wc.cell? ⟨gb940, 0, none⟩ = some (.bool a2_0) := (blk_cell BK940.out 0).trans rfl
                    have hcz106_1 : wc.cell? ⟨gb940, 1, none⟩ = some (.slice A2_1 l2_1.length c2_1) := (blk_cell BK940.out 1).trans rfl
                    have hcz106_2 : wc.cell? ⟨gb940, 2, none⟩ = some (.slice A2_2 l2_2.length c2_2) := (blk_cell BK940.out 2).trans rfl
                    have hfz106_0 := blk_frozen BK940.out 0
                    have hfz106_1 := blk_frozen BK940.out 1
                    have hfz106_2 := blk_frozen BK940.out 2
                    go_wp2_with (first | ((with_reducible refine gate_callee (f := 13) rfl ?_); refine goesL_ (some 82) rfl rfl Try.func13 (by kernel_rfl) rfl #[.int .i64 a0, .int .i64 a1, .agg #[.bool a2_0, .slice A2_1 l2_1.length c2_1, .slice A2_2 l2_2.length c2_2], .int .i64 a3] rfl (by first | (go_simp; done) | (go_simp; rfl)) ?_; (with_reducible refine (exposure_Eligible.calls kj69 a0 a1 a2_0 _ _ l2_1 _ _ l2_2 a3 true _ (by exact Kd.C_below HR2_1.out HB.out) HC2_1.out (by exact Kd.C_below HR2_2.out HB.out) HC2_2.out A89.out).mono ?_); rintro e w107 ⟨rfl, hb⟩; refine ⟨_, rfl, ?_⟩; replace HO_952001 := rB HO_952001 hb; replace HO_952002 := mk0 (Kd.V_below HO_952002.out hb); replace BK940 := bkB BK940 hb; replace BK951 := bkB BK951 hb; replace HB := hbS HB hb; have hcz108_0 : w107.cell? ⟨gb940, 0, none⟩ = some (.bool a2_0) := (blk_cell BK940.out 0).trans rfl; have hcz108_1 : w107.cell? ⟨gb940, 1, none⟩ = some (.slice A2_1 l2_1.length c2_1) := (blk_cell BK940.out 1).trans rfl; have hcz108_2 : w107.cell? ⟨gb940, 2, none⟩ = some (.slice A2_2 l2_2.length c2_2) := (blk_cell BK940.out 2).trans rfl; have hfz108_0 := blk_frozen BK940.out 0; have hfz108_1 := blk_frozen BK940.out 1; have hfz108_2 := blk_frozen BK940.out 2) | ((with_reducible refine gate_callee (f := 13) rfl ?_); refine goesL_ (some 90) rfl rfl Try.func13 (by kernel_rfl) rfl #[.int .i64 (wrap64 (a0 - a4)), .int .i64 a1, .agg #[.bool a2_0, .slice A2_1 l2_1.length c2_1, .slice A2_2 l2_2.length c2_2], .int .i64 a3] rfl (by first | (go_simp; done) | (go_simp; rfl)) ?_; (with_reducible refine (exposure_Eligible.calls kj69 (wrap64 (a0 - a4)) a1 a2_0 _ _ l2_1 _ _ l2_2 a3 true _ (by exact Kd.C_below HR2_1.out HB.out) HC2_1.out (by exact Kd.C_below HR2_2.out HB.out) HC2_2.out A91.out).mono ?_); rintro e w109 ⟨rfl, hb⟩; refine ⟨_, rfl, ?_⟩; replace HO_952001 := rB HO_952001 hb; replace HO_952002 := mk0 (Kd.V_below HO_952002.out hb); replace BK940 := bkB BK940 hb; replace BK951 := bkB BK951 hb; replace HB := hbS HB hb; have hcz110_0 : w109.cell? ⟨gb940, 0, none⟩ = some (.bool a2_0) := (blk_cell BK940.out 0).trans rfl; have hcz110_1 : w109.cell? ⟨gb940, 1, none⟩ = some (.slice A2_1 l2_1.length c2_1) := (blk_cell BK940.out 1).trans rfl; have hcz110_2 : w109.cell? ⟨gb940, 2, none⟩ = some (.slice A2_2 l2_2.length c2_2) := (blk_cell BK940.out 2).trans rfl; have hfz110_0 := blk_frozen BK940.out 0; have hfz110_1 := blk_frozen BK940.out 1; have hfz110_2 := blk_frozen BK940.out 2) | (go_at_call 13; (with_reducible refine (exposure_Eligible.calls kj69 a0 (wrap64 (a1 + a5)) a2_0 _ _ l2_1 _ _ l2_2 a3 false _ (by exact Kd.C_below HR2_1.out HB.out) HC2_1.out (by exact Kd.C_below HR2_2.out HB.out) HC2_2.out A93.out).mono ?_); rintro e w111 ⟨rfl, hb⟩; replace HO_952001 := rB HO_952001 hb; replace HO_952002 := mk0 (Kd.V_below HO_952002.out hb); replace BK940 := bkB BK940 hb; replace BK951 := bkB BK951 hb; replace HB := hbS HB hb))
                    go_ret
                    exact ⟨by first | rfl | (simp [errW_none, errW_some] <;> rfl) | (simp [*, errW_none, errW_some] <;> rfl), by repeat (first | exact HB.out | refine below_set ?_ GE940.out | refine below_set ?_ GE951.out)⟩
                · replace c92 := Bool.eq_false_iff.mpr c92
                  subst c92
                  have H1 : (some false) = some r := by rw [if_neg (show ¬ (false = true) by decide)] at H; exact H
                  clear H
                  have H := H1
                  clear H1
                  obtain rfl := Option.some.inj H
                  have hnb112 := NB940_951.out
                  have hnc112 := NB951_940.out
                  have hcz113_0 : wc.cell? ⟨gb940, 0, none⟩ = some (.bool a2_0) := (blk_cell BK940.out 0).trans rfl
                  have hcz113_1 : wc.cell? ⟨gb940, 1, none⟩ = some (.slice A2_1 l2_1.length c2_1) := (blk_cell BK940.out 1).trans rfl
                  have hcz113_2 : wc.cell? ⟨gb940, 2, none⟩ = some (.slice A2_2 l2_2.length c2_2) := (blk_cell BK940.out 2).trans rfl
                  have hfz113_0 := blk_frozen BK940.out 0
                  have hfz113_1 := blk_frozen BK940.out 1
                  have hfz113_2 := blk_frozen BK940.out 2
                  go_wp2_with (first | ((with_reducible refine gate_callee (f := 13) rfl ?_); refine goesL_ (some 82) rfl rfl Try.func13 (by kernel_rfl) rfl #[.int .i64 a0, .int .i64 a1, .agg #[.bool a2_0, .slice A2_1 l2_1.length c2_1, .slice A2_2 l2_2.length c2_2], .int .i64 a3] rfl (by first | (go_simp; done) | (go_simp; rfl)) ?_; (with_reducible refine (exposure_Eligible.calls kj69 a0 a1 a2_0 _ _ l2_1 _ _ l2_2 a3 true _ (by exact Kd.C_below HR2_1.out HB.out) HC2_1.out (by exact Kd.C_below HR2_2.out HB.out) HC2_2.out A89.out).mono ?_); rintro e w114 ⟨rfl, hb⟩; refine ⟨_, rfl, ?_⟩; replace HO_952001 := rB HO_952001 hb; replace HO_952002 := mk0 (Kd.V_below HO_952002.out hb); replace BK940 := bkB BK940 hb; replace BK951 := bkB BK951 hb; replace HB := hbS HB hb; have hcz115_0 : w114.cell? ⟨gb940, 0, none⟩ = some (.bool a2_0) := (blk_cell BK940.out 0).trans rfl; have hcz115_1 : w114.cell? ⟨gb940, 1, none⟩ = some (.slice A2_1 l2_1.length c2_1) := (blk_cell BK940.out 1).trans rfl; have hcz115_2 : w114.cell? ⟨gb940, 2, none⟩ = some (.slice A2_2 l2_2.length c2_2) := (blk_cell BK940.out 2).trans rfl; have hfz115_0 := blk_frozen BK940.out 0; have hfz115_1 := blk_frozen BK940.out 1; have hfz115_2 := blk_frozen BK940.out 2) | ((with_reducible refine gate_callee (f := 13) rfl ?_); refine goesL_ (some 90) rfl rfl Try.func13 (by kernel_rfl) rfl #[.int .i64 (wrap64 (a0 - a4)), .int .i64 a1, .agg #[.bool a2_0, .slice A2_1 l2_1.length c2_1, .slice A2_2 l2_2.length c2_2], .int .i64 a3] rfl (by first | (go_simp; done) | (go_simp; rfl)) ?_; (with_reducible refine (exposure_Eligible.calls kj69 (wrap64 (a0 - a4)) a1 a2_0 _ _ l2_1 _ _ l2_2 a3 false _ (by exact Kd.C_below HR2_1.out HB.out) HC2_1.out (by exact Kd.C_below HR2_2.out HB.out) HC2_2.out A91.out).mono ?_); rintro e w116 ⟨rfl, hb⟩; refine ⟨_, rfl, ?_⟩; replace HO_952001 := rB HO_952001 hb; replace HO_952002 := mk0 (Kd.V_below HO_952002.out hb); replace BK940 := bkB BK940 hb; replace BK951 := bkB BK951 hb; replace HB := hbS HB hb))
                  go_ret
                  exact ⟨by first | rfl | (simp [errW_none, errW_some] <;> rfl) | (simp [*, errW_none, errW_some] <;> rfl), by repeat (first | exact HB.out | refine below_set ?_ GE940.out | refine below_set ?_ GE951.out)⟩
              · replace c90 := Bool.eq_false_iff.mpr c90
                subst c90
                have H1 : (some true) = some r := by rw [if_neg (show ¬ (false = true) by decide)] at H; exact H
                clear H
                have H := H1
                clear H1
                obtain rfl := Option.some.inj H
                have hnb117 := NB940_951.out
                have hnc117 := NB951_940.out
                have hcz118_0 : wc.cell? ⟨gb940, 0, none⟩ = some (.bool a2_0) := (blk_cell BK940.out 0).trans rfl
                have hcz118_1 : wc.cell? ⟨gb940, 1, none⟩ = some (.slice A2_1 l2_1.length c2_1) := (blk_cell BK940.out 1).trans rfl
                have hcz118_2 : wc.cell? ⟨gb940, 2, none⟩ = some (.slice A2_2 l2_2.length c2_2) := (blk_cell BK940.out 2).trans rfl
                have hfz118_0 := blk_frozen BK940.out 0
                have hfz118_1 := blk_frozen BK940.out 1
                have hfz118_2 := blk_frozen BK940.out 2
                go_wp2_with (first | ((with_reducible refine gate_callee (f := 13) rfl ?_); refine goesL_ (some 82) rfl rfl Try.func13 (by kernel_rfl) rfl #[.int .i64 a0, .int .i64 a1, .agg #[.bool a2_0, .slice A2_1 l2_1.length c2_1, .slice A2_2 l2_2.length c2_2], .int .i64 a3] rfl (by first | (go_simp; done) | (go_simp; rfl)) ?_; (with_reducible refine (exposure_Eligible.calls kj69 a0 a1 a2_0 _ _ l2_1 _ _ l2_2 a3 false _ (by exact Kd.C_below HR2_1.out HB.out) HC2_1.out (by exact Kd.C_below HR2_2.out HB.out) HC2_2.out A89.out).mono ?_); rintro e w119 ⟨rfl, hb⟩; refine ⟨_, rfl, ?_⟩; replace HO_952001 := rB HO_952001 hb; replace HO_952002 := mk0 (Kd.V_below HO_952002.out hb); replace BK940 := bkB BK940 hb; replace BK951 := bkB BK951 hb; replace HB := hbS HB hb))
                go_ret
                exact ⟨by first | rfl | (simp [errW_none, errW_some] <;> rfl) | (simp [*, errW_none, errW_some] <;> rfl), by repeat (first | exact HB.out | refine below_set ?_ GE940.out | refine below_set ?_ GE951.out)⟩
end Go.Proofs.Ythamhjmhgcpdgaa.Q
end
section
namespace Go.Proofs.Ythamhjmhgcpdgaa.Th
open Go.RowKit Go.Proofs.YthamhjmhgcpdgaaW.PrintWords Go.Proofs.YthamhjmhgcpdgaaW.PrintLast Go.Proofs.YthamhjmhgcpdgaaW.PrintMore
set_option linter.unusedVariables false
set_option linter.unusedSimpArgs false
def val : List Int → Nat
  | [] => 0
  | x :: xs => x.toNat + 4294967296 * val xs
def okl (l : List Int) : Prop := ∀ x ∈ l, 0 ≤ x ∧ x < 4294967296
def limbs (n : Nat) : List Int := if h : n = 0 then [] else ((n % 4294967296 : Nat) : Int) :: limbs (n / 4294967296)
termination_by n
decreasing_by omega
def tl (l : List Int) : Nat → Nat
  | 0 => 0
  | n + 1 => if l.getD n 0 = 0 then tl l n else n + 1
theorem tl_le (l : List Int) (n : Nat) : tl l n ≤ n := by
  induction n with
  | zero => simp [tl]
  | succ n ih => unfold tl; split <;> omega
theorem okl_nil : okl [] := fun _ h => by cases h
theorem okl_cons {x : Int} {l : List Int} : okl (x :: l) ↔ (0 ≤ x ∧ x < 4294967296) ∧ okl l := by simp [okl]
theorem okl_append {a b : List Int} : okl (a ++ b) ↔ okl a ∧ okl b := by
  constructor
  · intro h; exact ⟨fun x hx => h x (List.mem_append_left _ hx), fun x hx => h x (List.mem_append_right _ hx)⟩
  · rintro ⟨h1, h2⟩ x hx
    rcases List.mem_append.1 hx with h | h
    · exact h1 x h
    · exact h2 x h
theorem okl_take {l : List Int} (h : okl l) (n : Nat) : okl (l.take n) := fun x hx => h x (List.mem_of_mem_take hx)
theorem okl_drop {l : List Int} (h : okl l) (n : Nat) : okl (l.drop n) := fun x hx => h x (List.mem_of_mem_drop hx)
theorem okl_set {l : List Int} (h : okl l) (n : Nat) {x : Int} (h0 : 0 ≤ x) (h1 : x < 4294967296) : okl (l.set n x) := fun y hy => by
  rcases List.mem_or_eq_of_mem_set hy with h2 | h2
  · exact h y h2
  · subst h2; exact ⟨h0, h1⟩
theorem okl_replicate (n : Nat) : okl (List.replicate n 0) := fun x hx => by
  rw [List.mem_replicate] at hx; rw [hx.2]; decide
theorem okl_rd {l : List Int} (h : okl l) (i : Int) : 0 ≤ rd l i ∧ rd l i < 4294967296 := by
  unfold rd
  by_cases hi : i.toNat < l.length
  · rw [List.getD_eq_getElem?_getD, List.getElem?_eq_getElem hi]; exact h _ (List.getElem_mem hi)
  · rw [List.getD_eq_getElem?_getD, List.getElem?_eq_none (by omega)]; decide
theorem val_append (a b : List Int) : val (a ++ b) = val a + 4294967296 ^ a.length * val b := by
  induction a with
  | nil => simp [val]
  | cons x xs ih => simp only [List.cons_append, val, ih, List.length_cons]; grind
theorem val_lt {l : List Int} (h : okl l) : val l < 4294967296 ^ l.length := by
  induction l with
  | nil => simp [val]
  | cons x xs ih =>
    have h1 := okl_cons.1 h
    have h2 := ih h1.2
    simp only [val, List.length_cons, Nat.pow_succ]
    have : x.toNat < 4294967296 := by omega
    omega
theorem val_replicate (n : Nat) : val (List.replicate n 0) = 0 := by
  induction n with
  | zero => rfl
  | succ n ih => rw [List.replicate_succ, val, ih]; rfl
theorem val_take_drop (l : List Int) (n : Nat) (h : n ≤ l.length) : val l = val (l.take n) + 4294967296 ^ n * val (l.drop n) := by
  have := val_append (l.take n) (l.drop n)
  rw [List.take_append_drop, List.length_take, Nat.min_eq_left h] at this
  exact this
theorem val_drop_one (l : List Int) (n : Nat) (h : n < l.length) : val (l.drop n) = (l.getD n 0).toNat + 4294967296 * val (l.drop (n + 1)) := by
  rw [List.drop_eq_getElem_cons h, val, List.getD_eq_getElem?_getD, List.getElem?_eq_getElem h]; rfl
theorem val_take_succ (l : List Int) (n : Nat) (h : n < l.length) : val (l.take (n + 1)) = val (l.take n) + 4294967296 ^ n * (l.getD n 0).toNat := by
  have h1 : l.take (n + 1) = l.take n ++ [l.getD n 0] := by
    rw [List.take_succ_eq_append_getElem h, List.getD_eq_getElem?_getD, List.getElem?_eq_getElem h]; rfl
  rw [h1, val_append, List.length_take, Nat.min_eq_left (by omega)]
  simp [val]
theorem val_tl (l : List Int) (n : Nat) (h : n ≤ l.length) : val (l.take (tl l n)) = val (l.take n) := by
  induction n with
  | zero => rfl
  | succ n ih =>
    unfold tl
    by_cases h0 : l.getD n 0 = 0
    · rw [if_pos h0, ih (by omega), val_take_succ l n (by omega), h0]; simp
    · rw [if_neg h0]
theorem limbs_zero : limbs 0 = [] := by rw [limbs]; rfl
theorem limbs_pos {n : Nat} (h : n ≠ 0) : limbs n = ((n % 4294967296 : Nat) : Int) :: limbs (n / 4294967296) := by rw [limbs, dif_neg h]
theorem okl_limbs (n : Nat) : okl (limbs n) := by
  induction n using Nat.strongRecOn with
  | _ n ih =>
    by_cases h : n = 0
    · subst h; rw [limbs_zero]; exact okl_nil
    · rw [limbs_pos h, okl_cons]; exact ⟨by omega, ih _ (by omega)⟩
theorem val_limbs (n : Nat) : val (limbs n) = n := by
  induction n using Nat.strongRecOn with
  | _ n ih =>
    by_cases h : n = 0
    · subst h; rw [limbs_zero]; rfl
    · rw [limbs_pos h, val, ih _ (by omega)]; omega
theorem limbs_val (l : List Int) (h : okl l) (hl : l ≠ [] → l.getD (l.length - 1) 0 ≠ 0) : limbs (val l) = l := by
  induction l with
  | nil => exact limbs_zero
  | cons x xs ih =>
    have h1 := okl_cons.1 h
    have hne : val (x :: xs) ≠ 0 := by
      intro h0
      simp only [val] at h0
      cases xs with
      | nil => exact hl (by simp) (by simp; omega)
      | cons y ys =>
        have h2 : limbs (val (y :: ys)) = y :: ys := ih h1.2 (fun _ => by have := hl (by simp); simpa using this)
        have h3 : val (y :: ys) = 0 := by omega
        rw [h3, limbs_zero] at h2
        cases h2
    rw [limbs_pos hne]
    simp only [val]
    have e1 : (x.toNat + 4294967296 * val xs) % 4294967296 = x.toNat := by omega
    have e2 : (x.toNat + 4294967296 * val xs) / 4294967296 = val xs := by omega
    rw [e1, e2]
    have e3 : limbs (val xs) = xs := by
      cases xs with
      | nil => exact limbs_zero
      | cons y ys => exact ih h1.2 (fun _ => by have := hl (by simp); simpa using this)
    rw [e3]
    congr 1
    omega
theorem tl_top (l : List Int) (n : Nat) (h : tl l n ≠ 0) : l.getD (tl l n - 1) 0 ≠ 0 := by
  induction n with
  | zero => exact absurd rfl h
  | succ n ih =>
    unfold tl at h ⊢
    by_cases h0 : l.getD n 0 = 0
    · rw [if_pos h0] at h ⊢; exact ih h
    · rw [if_neg h0]; exact h0
theorem limbs_tl {l : List Int} (h : okl l) : l.take (tl l l.length) = limbs (val l) := by
  have h1 := val_tl l l.length (Nat.le_refl _)
  rw [List.take_length] at h1
  rw [← h1]
  refine (limbs_val _ (okl_take h _) (fun hne => ?_)).symm
  have h2 := tl_le l l.length
  have h3 : (l.take (tl l l.length)).length = tl l l.length := by rw [List.length_take]; omega
  have h4 : tl l l.length ≠ 0 := fun h0 => hne (by rw [h0]; rfl)
  rw [h3, List.getD_eq_getElem?_getD, List.getElem?_take_of_lt (by omega), ← List.getD_eq_getElem?_getD]
  exact tl_top l _ h4
theorem limbs_len_le {n k : Nat} (h : n < 4294967296 ^ k) : (limbs n).length ≤ k := by
  induction k generalizing n with
  | zero => simp at h; subst h; rw [limbs_zero]; simp
  | succ k ih =>
    by_cases h0 : n = 0
    · subst h0; rw [limbs_zero]; simp
    · rw [limbs_pos h0, List.length_cons]
      have := ih (n := n / 4294967296) (by rw [Nat.pow_succ] at h; rw [Nat.div_lt_iff_lt_mul (by decide)]; exact h)
      omega
theorem limbs_ne_nil {n : Nat} (h : n ≠ 0) : limbs n ≠ [] := by rw [limbs_pos h]; simp
theorem limbs_top {n : Nat} (h : n ≠ 0) : (limbs n).getD ((limbs n).length - 1) 0 ≠ 0 := by
  have h1 := limbs_tl (okl_limbs n)
  rw [val_limbs] at h1
  have h2 := tl_le (limbs n) (limbs n).length
  have h3 : tl (limbs n) (limbs n).length = (limbs n).length := by
    have := congrArg List.length h1
    rw [List.length_take] at this
    omega
  have h4 := tl_top (limbs n) (limbs n).length (by rw [h3]; intro h0; exact limbs_ne_nil h (List.eq_nil_of_length_eq_zero h0))
  rwa [h3] at h4
theorem val_set (l : List Int) (n : Nat) (h : n < l.length) (x : Int) : val (l.set n x) + 4294967296 ^ n * (l.getD n 0).toNat = val l + 4294967296 ^ n * x.toNat := by
  induction l generalizing n with
  | nil => simp at h
  | cons y ys ih =>
    cases n with
    | zero => simp [val]; omega
    | succ n =>
      have := ih n (by simpa using h)
      simp only [List.set_cons_succ, val, List.getD_cons_succ]
      grind
theorem getD_okl {l : List Int} (h : okl l) (n : Nat) : 0 ≤ l.getD n 0 ∧ l.getD n 0 < 4294967296 := by
  have := okl_rd h (n : Int)
  unfold rd at this
  rwa [Int.toNat_natCast] at this
theorem mul_step {P : List Int} (hP : okl P) {n : Nat} (hn : n < P.length) {p q c t : Int} (hp0 : 0 ≤ p) (hp1 : p < 4294967296) (hq0 : 0 ≤ q) (hq1 : q < 4294967296) (hc0 : 0 ≤ c) (hc1 : c < 4294967296)
    (ht : t = c + p * q + P.getD n 0) :
    0 ≤ p * q ∧ p * q + P.getD n 0 + c < 18446744073709551616 ∧ 0 ≤ t ∧ t < 18446744073709551616 ∧ okl (P.set n (t % 4294967296)) ∧ 0 ≤ t / 4294967296 ∧ t / 4294967296 < 4294967296 ∧
      val (P.set n (t % 4294967296)) + 4294967296 ^ (n + 1) * (t / 4294967296).toNat = val P + 4294967296 ^ n * (c.toNat + p.toNat * q.toNat) := by
  obtain ⟨p, rfl⟩ := Int.eq_ofNat_of_zero_le hp0
  obtain ⟨q, rfl⟩ := Int.eq_ofNat_of_zero_le hq0
  obtain ⟨c, rfl⟩ := Int.eq_ofNat_of_zero_le hc0
  have hg := getD_okl hP n
  obtain ⟨g, hgg⟩ := Int.eq_ofNat_of_zero_le hg.1
  have hpq : p * q ≤ 4294967295 * 4294967295 := Nat.mul_le_mul (by omega) (by omega)
  have hcast : (p : Int) * (q : Int) = ((p * q : Nat) : Int) := by simp
  rw [hcast] at ht ⊢
  have hs := val_set P n hn (t % 4294967296)
  rw [hgg] at ht hs hg ⊢
  refine ⟨by omega, by omega, by omega, by omega, okl_set hP n (by omega) (by omega), by omega, by omega, ?_⟩
  have e1 : (t % 4294967296).toNat + 4294967296 * (t / 4294967296).toNat = c + p * q + g := by omega
  simp only [Int.toNat_natCast] at hs ⊢
  have e2 : 4294967296 ^ (n + 1) * (t / 4294967296).toNat = 4294967296 ^ n * (4294967296 * (t / 4294967296).toNat) := by rw [Nat.pow_succ]; grind
  have e3 : 4294967296 ^ n * (t % 4294967296).toNat + 4294967296 ^ n * (4294967296 * (t / 4294967296).toNat) = 4294967296 ^ n * (c + p * q) + 4294967296 ^ n * g := by
    rw [← Nat.mul_add, e1, Nat.mul_add]
  omega
end Go.Proofs.Ythamhjmhgcpdgaa.Th
end
section
namespace Go.Proofs.Ythamhjmhgcpdgaa.Big
open Go.RowKit Go.Proofs.YthamhjmhgcpdgaaW.PrintWords Go.Proofs.YthamhjmhgcpdgaaW.PrintLast Go.Proofs.YthamhjmhgcpdgaaW.PrintMore Go.Proofs.Ythamhjmhgcpdgaa.Q Go.Proofs.Ythamhjmhgcpdgaa.Th
set_option linter.unusedVariables false
set_option linter.unusedSimpArgs false
theorem wrap64_id {x : Int} (h0 : -9223372036854775808 ≤ x) (h1 : x < 9223372036854775808) : wrap64 x = x := by unfold wrap64; omega
theorem wrapu64 (x : Int) : IntKind.u64.wrap x = x % 18446744073709551616 := by simp [IntKind.wrap, IntKind.bits, IntKind.signed]
theorem wrapu64_id {x : Int} (h0 : 0 ≤ x) (h1 : x < 18446744073709551616) : IntKind.u64.wrap x = x := by rw [wrapu64]; omega
theorem and_low {x : Int} (h0 : 0 ≤ x) (h1 : x < 18446744073709551616) : Go.bits .and .u64 x 4294967295 = x % 4294967296 :=
  bits_mask .u64 64 (by decide) (fun n a b => wrapu64_id a b) 32 (by decide) x h0 h1
theorem or_high {x y : Int} (hx0 : 0 ≤ x) (hx1 : x < 4294967296) (hy0 : 0 ≤ y) (hy1 : y < 4294967296) : Go.bits .or .u64 (x * 4294967296) y = x * 4294967296 + y :=
  bits_join .u64 64 (by decide) (fun n a b => wrapu64_id a b) 32 _ _ (by omega) (by omega) (by omega) hy0 (by omega) (by omega)
abbrev lenok (l : List Int) : Prop := l.length ≤ 1099511627776
abbrev lenok2 (l : List Int) : Prop := l.length ≤ 17592186044416
theorem Ev.ite_pos {α : Type} {p : Prop} [Decidable p] {a b : Nat → Option α} {r : α} (h : p) (k : Ev a r) : Ev (fun n => if p then a n else b n) r := Ev.congr (fun n => if_pos h) k
theorem Ev.ite_neg {α : Type} {p : Prop} [Decidable p] {a b : Nat → Option α} {r : α} (h : ¬ p) (k : Ev b r) : Ev (fun n => if p then a n else b n) r := Ev.congr (fun n => if_neg h) k
theorem rd_nat (l : List Int) (n : Nat) : rd l (n : Int) = l.getD n 0 := by unfold rd; rw [Int.toNat_natCast]
theorem trim_loop (l : List Int) (n : Nat) (hn : n ≤ l.length) (hl : lenok2 l) : Ev (fun k => nat_trim.l0 k l n) (l.take (tl l n)) := by
  induction n with
  | zero =>
    refine Ev.step (f := fun _ => some (l.take 0)) (fun k => ?_) (Ev.now _)
    simp only [nat_trim.l0]
    rw [if_neg (by omega), if_pos (by omega), if_pos (by omega)]
    rfl
  | succ n ih =>
    have hw : wrap64 (((n + 1 : Nat) : Int) - 1) = (n : Int) := by rw [wrap64_id (by omega) (by unfold lenok2 at hl; omega)]; omega
    unfold tl
    by_cases h0 : l.getD n 0 = 0
    · rw [if_pos h0]
      refine Ev.step (fun k => ?_) (ih (by omega))
      simp only [nat_trim.l0]
      rw [if_pos (by omega), hw, if_pos (by omega), if_pos (by omega), rd_nat, if_pos h0]
    · rw [if_neg h0]
      refine Ev.step (f := fun _ => some (l.take (n + 1))) (fun k => ?_) (Ev.now _)
      simp only [nat_trim.l0]
      rw [if_pos (by omega), hw, if_pos (by omega), if_pos (by omega), rd_nat, if_neg h0, if_pos (by omega), if_pos (by omega)]
      rfl
theorem trim_ev2 {l : List Int} (h : okl l) (hl : lenok2 l) : Ev (fun k => nat_trim.f k l) (limbs (val l)) := by
  rw [← limbs_tl h]
  exact trim_loop l l.length (Nat.le_refl _) hl
theorem trim_ev {l : List Int} (h : okl l) (hl : lenok l) : Ev (fun k => nat_trim.f k l) (limbs (val l)) := trim_ev2 h (by unfold lenok at hl; unfold lenok2; omega)
theorem limbs_val_len {l : List Int} (h : okl l) : (limbs (val l)).length ≤ l.length := limbs_len_le (val_lt h)
theorem norm_ev {l : List Int} (h : okl l) (hl : lenok l) : Ev (fun k => nat_Norm.f k l) (limbs (val l)) := by
  have h1 := limbs_val_len h
  unfold lenok at hl
  refine Ev.bind (a := limbs (val l)) (f := fun k t131 => if ([] : List Int).length + t131.length < 35184372088832 then (some ([] ++ t131)) else none) (trim_ev h hl) ?_
  refine Ev.ite_pos ?_ (Ev.now _)
  simp only [List.length_nil]; omega
theorem of_two {a : Int} (h0 : 0 ≤ a) (h1 : a < 18446744073709551616) : okl [a % 4294967296, a / 4294967296 % 4294967296] ∧ val [a % 4294967296, a / 4294967296 % 4294967296] = a.toNat := by
  refine ⟨?_, ?_⟩
  · intro x hx; simp at hx; omega
  · simp only [val]; omega
theorem of_ev {a : Int} (h0 : 0 ≤ a) (h1 : a < 18446744073709551616) : Ev (fun k => nat_Of.f k a) (limbs a.toNat) := by
  obtain ⟨h2, h3⟩ := of_two h0 h1
  rw [← h3]
  refine Ev.bind (f := fun _ t => some t) ?_ (Ev.now _)
  rw [and_low h0 h1, show a % 4294967296 % 4294967296 = a % 4294967296 by omega]
  exact trim_ev h2 (by unfold lenok; simp)
def cmpI (a b : Nat) : Int := if a < b then -1 else if b < a then 1 else 0
theorem cmp_loop (a b : List Int) (ha : okl a) (hb : okl b) (hl : a.length = b.length) (hla : lenok a) (n : Nat) (hn : n ≤ a.length) (he : val (a.drop n) = val (b.drop n)) :
    Ev (fun k => nat_Cmp.l0 k a b ((n : Int) - 1)) (cmpI (val a) (val b)) := by
  induction n with
  | zero =>
    refine Ev.step (f := fun _ => some 0) (fun k => ?_) (by
      rw [List.drop_zero, List.drop_zero] at he
      rw [he, cmpI, if_neg (by omega), if_neg (by omega)]; exact Ev.now _)
    simp only [nat_Cmp.l0]
    rw [if_neg (by omega)]
  | succ n ih =>
    unfold lenok at hla
    have e1 : ((n + 1 : Nat) : Int) - 1 = n := by omega
    have e2 := val_drop_one a n (by omega)
    have e3 := val_drop_one b n (by omega)
    have v1 := val_take_drop a n (by omega)
    have v2 := val_take_drop b n (by omega)
    have b1 := val_lt (okl_take ha n)
    have b2 := val_lt (okl_take hb n)
    rw [List.length_take, Nat.min_eq_left (by omega)] at b1 b2
    have r1 := okl_rd ha n
    have r2 := okl_rd hb n
    rw [rd_nat] at r1 r2
    rw [e1]
    by_cases h1 : a.getD n 0 < b.getD n 0
    · refine Ev.step (f := fun _ => some (-1)) (fun k => ?_) ?_
      · simp only [nat_Cmp.l0]
        rw [if_pos (by omega), if_pos (by omega), if_pos (by omega), if_pos (by omega), rd_nat, rd_nat, if_pos h1]
      · have : val (a.drop n) + 1 ≤ val (b.drop n) := by omega
        have h2 : 4294967296 ^ n * (val (a.drop n) + 1) ≤ 4294967296 ^ n * val (b.drop n) := Nat.mul_le_mul_left _ this
        rw [Nat.mul_add] at h2
        rw [cmpI, if_pos (by omega)]
        exact Ev.now _
    · by_cases h2 : b.getD n 0 < a.getD n 0
      · refine Ev.step (f := fun _ => some 1) (fun k => ?_) ?_
        · simp only [nat_Cmp.l0]
          rw [if_pos (by omega), if_pos (by omega), if_pos (by omega), if_pos (by omega), rd_nat, rd_nat, if_neg h1, if_pos (by omega)]
        · have : val (b.drop n) + 1 ≤ val (a.drop n) := by omega
          have h3 : 4294967296 ^ n * (val (b.drop n) + 1) ≤ 4294967296 ^ n * val (a.drop n) := Nat.mul_le_mul_left _ this
          rw [Nat.mul_add] at h3
          rw [cmpI, if_neg (by omega), if_pos (by omega)]
          exact Ev.now _
      · refine Ev.step (fun k => ?_) (ih (by omega) (by omega))
        simp only [nat_Cmp.l0]
        rw [if_pos (by omega), if_pos (by omega), if_pos (by omega), if_pos (by omega), rd_nat, rd_nat, if_neg h1, if_neg (by omega), wrap64_id (by omega) (by omega)]
theorem limbs_len_mono {a b : Nat} (h : a ≤ b) : (limbs a).length ≤ (limbs b).length := by
  apply limbs_len_le
  have := val_lt (okl_limbs b)
  rw [val_limbs] at this
  omega
theorem cmp_ev {a b : List Int} (ha : okl a) (hb : okl b) (hla : lenok a) (hlb : lenok b) : Ev (fun k => nat_Cmp.f k a b) (cmpI (val a) (val b)) := by
  have l1 := limbs_val_len ha
  have l2 := limbs_val_len hb
  refine Ev.bind (trim_ev ha hla) (Ev.bind (trim_ev hb hlb) ?_)
  by_cases he : (limbs (val a)).length = (limbs (val b)).length
  · refine Ev.ite_pos (by omega) ?_
    have := cmp_loop (limbs (val a)) (limbs (val b)) (okl_limbs _) (okl_limbs _) he (by unfold lenok at *; omega) (limbs (val a)).length (Nat.le_refl _) (by rw [List.drop_length, he, List.drop_length])
    rw [val_limbs, val_limbs] at this
    rw [wrap64_id (by omega) (by unfold lenok at *; omega)]
    exact this
  · refine Ev.ite_neg (by omega) ?_
    by_cases h1 : (limbs (val a)).length < (limbs (val b)).length
    · refine Ev.ite_pos (by omega) ?_
      have h2 : val a < val b := by
        rcases Nat.lt_or_ge (val a) (val b) with h | h
        · exact h
        · have := limbs_len_mono h; omega
      rw [cmpI, if_pos h2]; exact Ev.now _
    · refine Ev.ite_neg (by omega) ?_
      have h2 : val b < val a := by
        rcases Nat.lt_or_ge (val b) (val a) with h | h
        · exact h
        · have := limbs_len_mono h; omega
      rw [cmpI, if_neg (by omega), if_pos h2]; exact Ev.now _
theorem divSmall_loop (a : List Int) (ha : okl a) (hla : lenok a) (d : Int) (hd0 : 0 < d) (hd1 : d < 4294967296) (n : Nat) (hn : n ≤ a.length) (q : List Int) (hq : okl q) (hql : q.length = a.length) (r : Int) (hr0 : 0 ≤ r) (hr1 : r < d)
    (hv : val (a.drop n) = val (q.drop n) * d.toNat + r.toNat) :
    ∃ q' r', okl q' ∧ q'.length = a.length ∧ 0 ≤ r' ∧ r' < d ∧ val a = val q' * d.toNat + r'.toNat ∧ Ev (fun k => nat_divSmall.l0 k a d q r ((n : Int) - 1)) (limbs (val q'), r') := by
  induction n generalizing q r with
  | zero =>
    refine ⟨q, r, hq, hql, hr0, hr1, by simpa using hv, ?_⟩
    refine Ev.step (f := fun k => (nat_trim.f k q).bind fun t => some (t, r % 4294967296)) (fun k => ?_) ?_
    · simp only [nat_divSmall.l0]
      rw [if_neg (by omega)]
    · have e : r % 4294967296 = r := by omega
      rw [e]
      exact Ev.bind (f := fun _ t => some (t, r)) (trim_ev hq (by unfold lenok at *; omega)) (Ev.now _)
  | succ n ih =>
    unfold lenok at hla
    have r1 := okl_rd ha n
    rw [rd_nat] at r1
    have e1 : ((n + 1 : Nat) : Int) - 1 = n := by omega
    obtain ⟨x, hx⟩ : ∃ x, x = r * 4294967296 + a.getD n 0 := ⟨_, rfl⟩
    have hx0 : 0 ≤ x := by omega
    have hx1 : x < d * 4294967296 := by omega
    have hdiv0 : 0 ≤ x / d := Int.ediv_nonneg hx0 (by omega)
    have hdiv1 : x / d < 4294967296 := Int.ediv_lt_of_lt_mul hd0 (by rw [Int.mul_comm]; exact hx1)
    have hm0 := Int.emod_nonneg x (show d ≠ 0 by omega)
    have hm1 := Int.emod_lt_of_pos x hd0
    have hmd := Int.mul_ediv_add_emod x d
    have e2 := val_drop_one a n (by omega)
    have e3 : val ((q.set n (x / d)).drop n) = (x / d).toNat + 4294967296 * val (q.drop (n + 1)) := by
      rw [val_drop_one _ n (by rw [List.length_set]; omega), List.getD_eq_getElem?_getD, List.getElem?_set_self (by omega), List.drop_set_of_lt (by omega)]
      rfl
    obtain ⟨q', r', h1, h2, h3, h4, h5, h6⟩ := ih (by omega) (q.set n (x / d)) (okl_set hq n hdiv0 hdiv1) (by rw [List.length_set]; exact hql) (x % d) hm0 hm1 (by
      rw [e2, hv, e3]
      have hc : (x / d).toNat * d.toNat + (x % d).toNat = r.toNat * 4294967296 + (a.getD n 0).toNat := by
        have h7 : (((x / d).toNat * d.toNat + (x % d).toNat : Nat) : Int) = ((r.toNat * 4294967296 + (a.getD n 0).toNat : Nat) : Int) := by
          rw [Int.natCast_add, Int.natCast_mul, Int.natCast_add, Int.natCast_mul, Int.toNat_of_nonneg hdiv0, Int.toNat_of_nonneg (show (0:Int) ≤ d by omega), Int.toNat_of_nonneg hm0, Int.toNat_of_nonneg hr0, Int.toNat_of_nonneg r1.1]
          rw [Int.mul_comm (x / d) d]; omega
        exact Int.ofNat.inj h7
      grind)
    refine ⟨q', r', h1, h2, h3, h4, h5, ?_⟩
    rw [e1]
    refine Ev.step (fun k => ?_) h6
    simp only [nat_divSmall.l0]
    rw [if_pos (by omega), if_pos (by omega), if_pos (by omega), wrapu64_id (x := d) (by omega) (by omega), if_neg (by omega), if_pos (by omega), rd_nat, wrapu64_id (x := a.getD n 0) (by omega) (by omega), wrapu64_id (x := r * 4294967296) (by omega) (by omega), or_high hr0 (by omega) r1.1 r1.2, ← hx, Int.tdiv_eq_ediv_of_nonneg hx0, Int.tmod_eq_emod_of_nonneg hx0, wrapu64_id (x := x / d) hdiv0 (by omega), show x / d % 4294967296 = x / d by omega, wrap64_id (by omega) (by omega), Int.toNat_natCast]
theorem divSmall_ev {a : List Int} (ha : okl a) (hla : lenok a) {d : Int} (hd0 : 0 < d) (hd1 : d < 4294967296) : Ev (fun k => nat_divSmall.f k a d) (limbs (val a / d.toNat), ((val a % d.toNat : Nat) : Int)) := by
  unfold lenok at hla
  obtain ⟨q', r', h1, h2, h3, h4, h5, h6⟩ := divSmall_loop a ha hla d hd0 hd1 a.length (Nat.le_refl _) (List.replicate a.length 0) (okl_replicate _) (by simp) 0 (by omega) hd0 (by
    rw [List.drop_length, List.drop_of_length_le (by simp)]; simp [val])
  have hq : val a / d.toNat = val q' := by
    rw [h5]
    exact Nat.div_eq_of_lt_le (by omega) (by rw [Nat.add_mul]; omega)
  have hr : val a % d.toNat = r'.toNat := by
    rw [h5, Nat.mul_comm, Nat.mul_add_mod, Nat.mod_eq_of_lt (by omega)]
  rw [hq, hr, Int.toNat_of_nonneg h3]
  refine Ev.ite_pos (by omega) (Ev.ite_pos (by omega) ?_)
  rw [Int.toNat_natCast, wrap64_id (by omega) (by omega)]
  exact h6
end Go.Proofs.Ythamhjmhgcpdgaa.Big
end
section
namespace Go.Proofs.Ythamhjmhgcpdgaa.Big
open Go.RowKit Go.Proofs.YthamhjmhgcpdgaaW.PrintWords Go.Proofs.YthamhjmhgcpdgaaW.PrintLast Go.Proofs.YthamhjmhgcpdgaaW.PrintMore Go.Proofs.Ythamhjmhgcpdgaa.Q Go.Proofs.Ythamhjmhgcpdgaa.Th
set_option linter.unusedVariables false
set_option linter.unusedSimpArgs false
theorem mul_inner (a b : List Int) (ha : okl a) (hb : okl b) (hla : lenok a) (hlb : lenok b) (i : Nat) (hi : i < a.length) {r : List Int} (V : Nat)
    (K : ∀ P : List Int, okl P → P.length = a.length + b.length → (∀ m, i + 1 + b.length ≤ m → P.getD m 0 = 0) → val P = V + 4294967296 ^ i * ((a.getD i 0).toNat * val b) → Ev (fun k => nat_Mul.l0 k b P a (a.length : Int) ((i + 1 : Nat) : Int)) r)
    (d : Nat) : ∀ (j : Nat) (P : List Int) (c : Int), j + d = b.length → okl P → P.length = a.length + b.length → (∀ m, i + b.length ≤ m → P.getD m 0 = 0) → 0 ≤ c → c < 4294967296 →
      val P + 4294967296 ^ (i + j) * c.toNat = V + 4294967296 ^ i * ((a.getD i 0).toNat * val (b.take j)) →
      Ev (fun k => nat_Mul.l1 k b P (i : Int) (a.getD i 0) c a (a.length : Int) (i : Int) b (b.length : Int) (j : Int)) r := by
  unfold lenok at hla hlb
  have hx := getD_okl ha i
  induction d with
  | zero =>
    intro j P c hj hP hPl hz hc0 hc1 hv
    obtain rfl : j = b.length := by omega
    have hs := val_set P (i + b.length) (by omega) c
    rw [hz _ (Nat.le_refl _)] at hs
    have e : b.take b.length = b := List.take_length
    rw [e] at hv
    refine Ev.step (fun k => ?_) (K (P.set (i + b.length) c) (okl_set hP _ hc0 hc1) (by rw [List.length_set]; exact hPl) ?_ (by simp at hs; omega))
    · simp only [nat_Mul.l1]
      rw [if_neg (by omega), wrap64_id (x := (i : Int) + (b.length : Int)) (by omega) (by omega), if_pos (by omega), if_pos (by omega), wrap64_id (x := (i : Int) + 1) (by omega) (by omega), show c % 4294967296 = c by omega,
        show ((i : Int) + (b.length : Int)).toNat = i + b.length by omega]
      rfl
    · intro m hm
      rw [List.getD_eq_getElem?_getD, List.getElem?_set_ne (by omega), ← List.getD_eq_getElem?_getD]
      exact hz m (by omega)
  | succ d ih =>
    intro j P c hj hP hPl hz hc0 hc1 hv
    have hq := getD_okl hb j
    obtain ⟨t, ht⟩ : ∃ t, t = c + a.getD i 0 * b.getD j 0 + P.getD (i + j) 0 := ⟨_, rfl⟩
    obtain ⟨h1, h2, h3, h4, h5, h6, h7, h8⟩ := mul_step hP (n := i + j) (by omega) hx.1 hx.2 hq.1 hq.2 hc0 hc1 ht
    have hP2 := getD_okl hP (i + j)
    have e1 : val (b.take (j + 1)) = val (b.take j) + 4294967296 ^ j * (b.getD j 0).toNat := val_take_succ b j (by omega)
    refine Ev.step (fun k => ?_) (ih (j + 1) (P.set (i + j) (t % 4294967296)) (t / 4294967296) (by omega) h5 (by rw [List.length_set]; exact hPl) ?_ h6 h7 ?_)
    · simp only [nat_Mul.l1]
      rw [if_pos (by omega), if_pos (by omega), if_pos (by omega), wrap64_id (x := (i : Int) + (j : Int)) (by omega) (by omega), if_pos (by omega), if_pos (by omega), rd_nat, show (i : Int) + (j : Int) = ((i + j : Nat) : Int) by omega, rd_nat,
        wrapu64_id (x := a.getD i 0) (by omega) (by omega), wrapu64_id (x := b.getD j 0) (by omega) (by omega), wrapu64_id (x := P.getD (i + j) 0) (by omega) (by omega),
        wrapu64_id (x := a.getD i 0 * b.getD j 0) h1 (by omega), wrapu64_id (x := a.getD i 0 * b.getD j 0 + P.getD (i + j) 0) (by omega) (by omega),
        ← Int.add_assoc, ← ht, wrapu64_id (x := t) h3 h4, and_low h3 h4, show t % 4294967296 % 4294967296 = t % 4294967296 by omega, wrap64_id (x := (j : Int) + 1) (by omega) (by omega), Int.toNat_natCast]
      rfl
    · intro m hm
      rw [List.getD_eq_getElem?_getD, List.getElem?_set_ne (by omega), ← List.getD_eq_getElem?_getD]
      exact hz m hm
    · rw [show i + (j + 1) = i + j + 1 by omega, h8, e1, Nat.mul_add (4294967296 ^ (i + j)), ← Nat.add_assoc, hv]
      have e2 : 4294967296 ^ (i + j) = 4294967296 ^ i * 4294967296 ^ j := Nat.pow_add _ _ _
      rw [e2]
      grind
theorem mul_outer (a b : List Int) (ha : okl a) (hb : okl b) (hla : lenok a) (hlb : lenok b) (d : Nat) : ∀ (i : Nat) (P : List Int), i + d = a.length → okl P → P.length = a.length + b.length →
    (∀ m, i + b.length ≤ m → P.getD m 0 = 0) → val P = val (a.take i) * val b → Ev (fun k => nat_Mul.l0 k b P a (a.length : Int) (i : Int)) (limbs (val a * val b)) := by
  induction d with
  | zero =>
    intro i P hi hP hPl hz hv
    obtain rfl : i = a.length := by omega
    rw [List.take_length] at hv
    unfold lenok at hla hlb
    rw [← hv]
    refine Ev.step (f := fun k => (nat_trim.f k P).bind fun t => some t) (fun k => ?_) (Ev.bind (f := fun _ t => some t) (trim_ev2 hP (by unfold lenok2; omega)) (Ev.now _))
    simp only [nat_Mul.l0]
    rw [if_neg (by omega)]
  | succ d ih =>
    intro i P hi hP hPl hz hv
    have hla' := hla
    unfold lenok at hla'
    refine Ev.step (fun k => ?_) (mul_inner a b ha hb hla hlb i (by omega) (val (a.take i) * val b) (fun P' h1 h2 h3 h4 => ih (i + 1) P' (by omega) h1 h2 h3 (by rw [h4, val_take_succ a i (by omega)]; grind)) b.length 0 P 0 (by omega) hP hPl hz (by omega) (by omega) (by simp [val, hv]))
    simp only [nat_Mul.l0]
    rw [if_pos (by omega), if_pos (by omega), if_pos (by omega), rd_nat]
    rfl
theorem mul_ev {a b : List Int} (ha : okl a) (hb : okl b) (hla : lenok a) (hlb : lenok b) : Ev (fun k => nat_Mul.f k a b) (limbs (val a * val b)) := by
  have l1 := limbs_val_len ha
  have l2 := limbs_val_len hb
  refine Ev.bind (trim_ev ha hla) (Ev.bind (trim_ev hb hlb) ?_)
  have hj1 : ∀ x y : List Int, Ev (fun k => nat_Mul.j0 k x y true) [] := fun x y => Ev.step (f := fun _ => some []) (fun k => by simp only [nat_Mul.j0, if_true]) (Ev.now _)
  by_cases h1 : val a = 0
  · rw [h1, Nat.zero_mul, limbs_zero]
    exact Ev.ite_pos (by simp) (hj1 _ _)
  · have h1' := List.length_pos_iff.2 (limbs_ne_nil h1)
    refine Ev.ite_neg (by omega) ?_
    by_cases h2 : val b = 0
    · rw [h2, Nat.mul_zero, limbs_zero]
      exact hj1 _ _
    · have h2' := List.length_pos_iff.2 (limbs_ne_nil h2)
      have e : (((limbs (val b)).length : Int) == 0) = false := by simp only [beq_eq_false_iff_ne]; omega
      rw [e]
      unfold lenok at hla hlb
      have w : wrap64 (((limbs (val a)).length : Int) + ((limbs (val b)).length : Int)) = ((limbs (val a)).length + (limbs (val b)).length : Nat) := by rw [wrap64_id (by omega) (by omega)]; omega
      refine Ev.step (f := fun k => nat_Mul.l0 k (limbs (val b)) (List.replicate ((limbs (val a)).length + (limbs (val b)).length) 0) (limbs (val a)) ((limbs (val a)).length : Int) 0) (fun k => ?_) ?_
      · simp only [nat_Mul.j0]
        rw [if_neg (by decide), w, if_pos (by omega), if_pos (by omega), Int.toNat_natCast]
      · have := mul_outer (limbs (val a)) (limbs (val b)) (okl_limbs _) (okl_limbs _) (by unfold lenok; omega) (by unfold lenok; omega) (limbs (val a)).length 0 (List.replicate ((limbs (val a)).length + (limbs (val b)).length) 0) (by omega) (okl_replicate _) (by simp) (fun m _ => by
            rw [List.getD_eq_getElem?_getD, List.getElem?_replicate]; split <;> rfl) (by simp [val, val_replicate])
        rw [val_limbs, val_limbs] at this
        exact this
end Go.Proofs.Ythamhjmhgcpdgaa.Big
end
section
namespace Go.Proofs.Ythamhjmhgcpdgaa.Big
open Go.RowKit Go.Proofs.YthamhjmhgcpdgaaW.PrintWords Go.Proofs.YthamhjmhgcpdgaaW.PrintLast Go.Proofs.YthamhjmhgcpdgaaW.PrintMore Go.Proofs.Ythamhjmhgcpdgaa.Q Go.Proofs.Ythamhjmhgcpdgaa.Th
set_option linter.unusedVariables false
set_option linter.unusedSimpArgs false
theorem pow_le31 {n : Nat} (h : n ≤ 31) : 2 ^ n ≤ 2147483648 ∧ 0 < 2 ^ n := ⟨Nat.pow_le_pow_right (by decide) h, Nat.two_pow_pos n⟩
theorem shl_u64 {x : Int} {n : Nat} (h0 : 0 ≤ x) (h1 : x < 4294967296) (hn : n ≤ 31) : shl .u64 x (n : Int) = x * (2 ^ n : Nat) := by
  obtain ⟨p1, p2⟩ := pow_le31 hn
  obtain ⟨x, rfl⟩ := Int.eq_ofNat_of_zero_le h0
  have h2 : x * 2 ^ n ≤ 4294967295 * 2147483648 := Nat.mul_le_mul (by omega) p1
  unfold shl
  rw [Int.toNat_natCast, Nat.min_eq_left (by simp [IntKind.bits]; omega), show (x : Int) * (2 : Int) ^ n = ((x * 2 ^ n : Nat) : Int) by simp, wrapu64_id (by omega) (by omega)]
  simp
theorem shr_u64 {x : Int} {n : Nat} (hn : n ≤ 31) : shr .u64 x (n : Int) = x / (2 ^ n : Nat) := by
  unfold shr
  rw [Int.toNat_natCast, Nat.min_eq_left (by simp [IntKind.bits]; omega)]
  simp
theorem or_low {c x : Int} {n : Nat} (hn : n ≤ 31) (hc0 : 0 ≤ c) (hc1 : c < (2 ^ n : Nat)) (h0 : 0 ≤ x) (h1 : x < 4294967296) : Go.bits .or .u64 c (x * (2 ^ n : Nat)) = c + x * (2 ^ n : Nat) := by
  obtain ⟨p1, p2⟩ := pow_le31 hn
  obtain ⟨x, rfl⟩ := Int.eq_ofNat_of_zero_le h0
  obtain ⟨c, rfl⟩ := Int.eq_ofNat_of_zero_le hc0
  have h2 : x * 2 ^ n ≤ 4294967295 * 2147483648 := Nat.mul_le_mul (by omega) p1
  have h3 : c < 2 ^ n := by exact_mod_cast hc1
  have e : (x : Int) * ((2 ^ n : Nat) : Int) = ((x * 2 ^ n : Nat) : Int) := by simp
  rw [e, (bits_nat .u64 64 (by decide) (fun n a b => wrapu64_id a b) c (x * 2 ^ n) (by omega) (by omega)).2, Nat.or_comm, Nat.mul_comm, ← Nat.two_pow_add_eq_or_of_lt h3]
  simp [Int.add_comm]
theorem shiftUp_loop (a : List Int) (ha : okl a) (hla : lenok a) (s : Nat) (hs : s ≤ 31) (d : Nat) : ∀ (i : Nat) (o : List Int) (c : Int), i + d = a.length → okl o → o.length = a.length + 1 → 0 ≤ c → c < (2 ^ s : Nat) →
    val (o.take i) + 4294967296 ^ i * c.toNat = val (a.take i) * 2 ^ s →
    ∃ r, okl r ∧ r.length = a.length + 1 ∧ val r = val a * 2 ^ s ∧ Ev (fun k => nat_shiftUp.l0 k a (s : Int) o c a (a.length : Int) (i : Int)) r := by
  unfold lenok at hla
  obtain ⟨p1, p2⟩ := pow_le31 hs
  induction d with
  | zero =>
    intro i o c hi ho hol hc0 hc1 hv
    obtain rfl : i = a.length := by omega
    rw [List.take_length] at hv
    refine ⟨o.set a.length c, okl_set ho _ hc0 (by omega), by rw [List.length_set]; exact hol, ?_, ?_⟩
    · have e1 : (o.set a.length c) = o.take a.length ++ [c] := by
        rw [List.set_eq_take_append_cons_drop, if_pos (by omega), List.drop_of_length_le (by omega)]
      rw [e1, val_append, List.length_take, Nat.min_eq_left (by omega)]
      simp only [val]
      omega
    · refine Ev.step (f := fun _ => some (o.set a.length c)) (fun k => ?_) (Ev.now _)
      simp only [nat_shiftUp.l0]
      rw [if_neg (by omega), if_pos (by omega), if_pos (by omega), Int.toNat_natCast, show c % 4294967296 = c by omega]
  | succ d ih =>
    intro i o c hi ho hol hc0 hc1 hv
    have hx := getD_okl ha i
    obtain ⟨t, ht⟩ : ∃ t, t = c + a.getD i 0 * (2 ^ s : Nat) := ⟨_, rfl⟩
    have hm : 0 ≤ a.getD i 0 * ((2 ^ s : Nat) : Int) := Int.mul_nonneg hx.1 (by omega)
    have hm2 : (a.getD i 0 + 1) * ((2 ^ s : Nat) : Int) ≤ 4294967296 * ((2 ^ s : Nat) : Int) := Int.mul_le_mul_of_nonneg_right (by omega) (by omega)
    rw [Int.add_mul, Int.one_mul] at hm2
    have ht0 : 0 ≤ t := by omega
    have ht1 : t < 4294967296 * ((2 ^ s : Nat) : Int) := by omega
    have ht2 : t / 4294967296 < (2 ^ s : Nat) := by omega
    have e1 : (o.set i (t % 4294967296)).take (i + 1) = o.take i ++ [t % 4294967296] := by
      rw [List.set_eq_take_append_cons_drop, if_pos (by omega), List.take_append, List.length_take, Nat.min_eq_left (by omega), List.take_take, Nat.min_eq_right (by omega), show i + 1 - i = 1 by omega]
      rfl
    obtain ⟨r, h1, h2, h3, h4⟩ := ih (i + 1) (o.set i (t % 4294967296)) (t / 4294967296) (by omega) (okl_set ho _ (by omega) (by omega)) (by rw [List.length_set]; exact hol) (by omega) ht2 (by
      rw [e1, val_append, List.length_take, Nat.min_eq_left (by omega), val_take_succ a i (by omega), Nat.add_mul, ← hv]
      have e2 : (t % 4294967296).toNat + 4294967296 * (t / 4294967296).toNat = c.toNat + (a.getD i 0).toNat * 2 ^ s := by
        have : ((a.getD i 0).toNat * 2 ^ s : Nat) = (a.getD i 0 * ((2 ^ s : Nat) : Int)).toNat := by
          obtain ⟨x, hxx⟩ := Int.eq_ofNat_of_zero_le hx.1
          rw [hxx]
          have : (x : Int) * ((2 ^ s : Nat) : Int) = ((x * 2 ^ s : Nat) : Int) := by simp
          rw [this]; rfl
        omega
      simp only [val]
      rw [Nat.pow_succ]
      grind)
    refine ⟨r, h1, h2, h3, Ev.step (fun k => ?_) h4⟩
    simp only [nat_shiftUp.l0]
    rw [if_pos (by omega), if_pos (by omega), if_pos (by omega), if_pos (by omega), if_pos (by omega), rd_nat, wrapu64_id (x := a.getD i 0) (by omega) (by omega), shl_u64 hx.1 hx.2 hs, or_low hs hc0 hc1 hx.1 hx.2, ← ht,
      and_low ht0 (by omega), show t % 4294967296 % 4294967296 = t % 4294967296 by omega, wrap64_id (x := (i : Int) + 1) (by omega) (by omega), Int.toNat_natCast]
    rfl
theorem shiftUp_ev {a : List Int} (ha : okl a) (hla : lenok a) {s : Nat} (hs : s ≤ 31) : ∃ r, okl r ∧ r.length = a.length + 1 ∧ val r = val a * 2 ^ s ∧ Ev (fun k => nat_shiftUp.f k a (s : Int)) r := by
  have hla' := hla
  unfold lenok at hla'
  obtain ⟨r, h1, h2, h3, h4⟩ := shiftUp_loop a ha hla s hs a.length 0 (List.replicate (a.length + 1) 0) 0 (by omega) (okl_replicate _) (by simp) (by omega) (by have := (pow_le31 hs).2; omega) (by simp [val])
  refine ⟨r, h1, h2, h3, ?_⟩
  have w : wrap64 ((a.length : Int) + 1) = ((a.length + 1 : Nat) : Int) := by rw [wrap64_id (by omega) (by omega)]; rfl
  unfold nat_shiftUp.f
  simp only [w]
  refine Ev.ite_pos (by omega) (Ev.ite_pos (by omega) ?_)
  rw [Int.toNat_natCast]
  exact h4
def dn (a : List Int) (s i : Nat) : Int := ((a.getD i 0 + 4294967296 * a.getD (i + 1) 0) / ((2 ^ s : Nat) : Int)) % 4294967296
theorem dn_val (a o : List Int) (ha : okl a) (s : Nat) (hs : s ≤ 31) (hol : o.length = a.length) (ho : ∀ i, i < a.length → o.getD i 0 = dn a s i) (d : Nat) : ∀ i, i + d = a.length → val (o.drop i) = val (a.drop i) / 2 ^ s := by
  obtain ⟨p1, p2⟩ := pow_le31 hs
  induction d with
  | zero =>
    intro i hi
    rw [List.drop_of_length_le (by omega), List.drop_of_length_le (by omega)]
    simp [val]
  | succ d ih =>
    intro i hi
    have h1 := ih (i + 1) (by omega)
    rw [val_drop_one o i (by omega), val_drop_one a i (by omega), ho i (by omega), h1]
    have hx := getD_okl ha i
    have hy := getD_okl ha (i + 1)
    obtain ⟨x, hx'⟩ := Int.eq_ofNat_of_zero_le hx.1
    obtain ⟨y, hy'⟩ := Int.eq_ofNat_of_zero_le hy.1
    obtain ⟨V, hV⟩ : ∃ V, V = val (a.drop (i + 1)) := ⟨_, rfl⟩
    have hVy : V % 4294967296 = y := by
      rw [hV]
      by_cases h2 : i + 1 < a.length
      · rw [val_drop_one a (i + 1) h2, hy', Int.toNat_natCast]; omega
      · rw [List.drop_of_length_le (by omega)]
        rw [List.getD_eq_getElem?_getD, List.getElem?_eq_none (by omega)] at hy'
        simp at hy'
        simp [val]; omega
    rw [← hV]
    unfold dn
    rw [hx', hy']
    have e1 : ((((x : Int) + 4294967296 * (y : Int)) / ((2 ^ s : Nat) : Int)) % 4294967296).toNat = (x + 4294967296 * y) / 2 ^ s % 4294967296 := by
      have : ((x : Int) + 4294967296 * (y : Int)) = ((x + 4294967296 * y : Nat) : Int) := by simp
      rw [this, ← Int.natCast_ediv]
      omega
    rw [e1, Int.toNat_natCast]
    have hx2 : x < 4294967296 := by omega
    obtain ⟨e, he⟩ : ∃ e, 4294967296 = 2 ^ s * e := ⟨2 ^ (32 - s), by rw [← Nat.pow_add, show s + (32 - s) = 32 by omega]⟩
    have hVm := Nat.div_add_mod V 4294967296
    rw [hVy] at hVm
    have e2 : x + 4294967296 * V = (x + 4294967296 * y) + 2 ^ s * (e * (4294967296 * (V / 4294967296))) := by
      have : 4294967296 * V = 4294967296 * y + 4294967296 * (4294967296 * (V / 4294967296)) := by omega
      have h9 : 2 ^ s * (e * (4294967296 * (V / 4294967296))) = 4294967296 * (4294967296 * (V / 4294967296)) := by rw [← Nat.mul_assoc (2 ^ s), ← he]
      rw [this, h9]; omega
    have e3 : (x + 4294967296 * V) / 2 ^ s = (x + 4294967296 * y) / 2 ^ s + e * (4294967296 * (V / 4294967296)) := by rw [e2, Nat.add_mul_div_left _ _ p2]
    have e4 : (x + 4294967296 * V) / 2 ^ s % 4294967296 = (x + 4294967296 * y) / 2 ^ s % 4294967296 := by
      rw [e3, show e * (4294967296 * (V / 4294967296)) = 4294967296 * (e * (V / 4294967296)) by grind, Nat.add_mul_mod_self_left]
    have hVd := Nat.div_add_mod V (2 ^ s)
    have hVr := Nat.mod_lt V p2
    have e5 : (x + 4294967296 * V) / 2 ^ s = (x + 4294967296 * (V % 2 ^ s)) / 2 ^ s + 4294967296 * (V / 2 ^ s) := by
      have : x + 4294967296 * V = (x + 4294967296 * (V % 2 ^ s)) + 2 ^ s * (4294967296 * (V / 2 ^ s)) := by
        have h7 : 4294967296 * V = 4294967296 * (2 ^ s * (V / 2 ^ s) + V % 2 ^ s) := by rw [hVd]
        rw [h7]; grind
      rw [this, Nat.add_mul_div_left _ _ p2]
    have e6 : (x + 4294967296 * (V % 2 ^ s)) / 2 ^ s < 4294967296 := by
      rw [Nat.div_lt_iff_lt_mul p2]
      have : 4294967296 * (V % 2 ^ s + 1) ≤ 4294967296 * 2 ^ s := Nat.mul_le_mul_left _ (by omega)
      omega
    rw [← e4, e5, Nat.add_mul_mod_self_left, Nat.mod_eq_of_lt e6]
theorem shiftDown_loop (a : List Int) (ha : okl a) (hla : lenok2 a) (s : Nat) (hs : s ≤ 31) (d : Nat) : ∀ (i : Nat) (o : List Int), i + d = a.length → okl o → o.length = a.length → (∀ j, j < i → o.getD j 0 = dn a s j) →
    Ev (fun k => nat_shiftDown.l0 k a (s : Int) o (a.length : Int) (i : Int)) (limbs (val a / 2 ^ s)) := by
  unfold lenok2 at hla
  obtain ⟨p1, p2⟩ := pow_le31 hs
  induction d with
  | zero =>
    intro i o hi ho hol hd
    obtain rfl : i = a.length := by omega
    have := dn_val a o ha s hs hol hd a.length 0 (by omega)
    rw [List.drop_zero, List.drop_zero] at this
    rw [← this]
    refine Ev.step (f := fun k => (nat_trim.f k o).bind fun t => some t) (fun k => ?_) (Ev.bind (f := fun _ t => some t) (trim_ev2 ho (by unfold lenok2; omega)) (Ev.now _))
    simp only [nat_shiftDown.l0]
    rw [if_neg (by omega)]
  | succ d ih =>
    intro i o hi ho hol hd
    have hx := getD_okl ha i
    have hy := getD_okl ha (i + 1)
    have hdn : 0 ≤ dn a s i ∧ dn a s i < 4294967296 := by unfold dn; omega
    refine Ev.step (fun k => ?_) (ih (i + 1) (o.set i (dn a s i)) (by omega) (okl_set ho _ hdn.1 hdn.2) (by rw [List.length_set]; exact hol) (fun j hj => ?_))
    · obtain ⟨t, ht⟩ : ∃ t, t = a.getD i 0 + 4294967296 * a.getD (i + 1) 0 := ⟨_, rfl⟩
      have hds : dn a s i = t / ((2 ^ s : Nat) : Int) % 4294967296 := by rw [ht]; rfl
      have ht0 : 0 ≤ t / ((2 ^ s : Nat) : Int) := Int.ediv_nonneg (by omega) (by omega)
      have ht1 : t / ((2 ^ s : Nat) : Int) < 18446744073709551616 := Int.ediv_lt_of_lt_mul (by omega) (by
        have : 18446744073709551616 * 1 ≤ 18446744073709551616 * ((2 ^ s : Nat) : Int) := Int.mul_le_mul_of_nonneg_left (by omega) (by omega)
        omega)
      have hor : Go.bits .or .u64 (a.getD i 0) (a.getD (i + 1) 0 * 4294967296) = t := by
        obtain ⟨x, hx'⟩ := Int.eq_ofNat_of_zero_le hx.1
        obtain ⟨y, hy'⟩ := Int.eq_ofNat_of_zero_le hy.1
        rw [ht, hx', hy']
        have e : (y : Int) * 4294967296 = ((4294967296 * y : Nat) : Int) := by omega
        rw [e, (bits_nat .u64 64 (by decide) (fun n a b => wrapu64_id a b) x (4294967296 * y) (by omega) (by omega)).2, Nat.or_comm, show (4294967296 : Nat) = 2 ^ 32 from rfl, ← Nat.two_pow_add_eq_or_of_lt (by omega)]
        omega
      simp only [nat_shiftDown.l0]
      rw [if_pos (by omega), if_pos (by omega), if_pos (by omega), wrap64_id (x := (i : Int) + 1) (by omega) (by omega)]
      by_cases h2 : i + 1 < a.length
      · rw [if_pos (by omega), if_pos (by omega), if_pos (by omega), if_pos (by omega), rd_nat, show (i : Int) + 1 = ((i + 1 : Nat) : Int) by omega, rd_nat, wrapu64_id (x := a.getD i 0) (by omega) (by omega), wrapu64_id (x := a.getD (i + 1) 0) (by omega) (by omega),
          wrapu64_id (x := a.getD (i + 1) 0 * 4294967296) (by omega) (by omega), hor, shr_u64 hs, and_low ht0 ht1, Int.toNat_natCast, hds, show t / ((2 ^ s : Nat) : Int) % 4294967296 % 4294967296 = t / ((2 ^ s : Nat) : Int) % 4294967296 by omega]
      · have hy0 : a.getD (i + 1) 0 = 0 := by rw [List.getD_eq_getElem?_getD, List.getElem?_eq_none (by omega)]; rfl
        rw [hy0] at ht
        rw [if_neg (by omega), if_pos (by omega), if_pos (by omega), rd_nat, wrapu64_id (x := a.getD i 0) (by omega) (by omega), show a.getD i 0 = t by omega, shr_u64 hs, and_low ht0 ht1, Int.toNat_natCast, hds, show t / ((2 ^ s : Nat) : Int) % 4294967296 % 4294967296 = t / ((2 ^ s : Nat) : Int) % 4294967296 by omega]
        rfl
    · by_cases hji : j = i
      · subst hji
        rw [List.getD_eq_getElem?_getD, List.getElem?_set_self (by omega)]; rfl
      · rw [List.getD_eq_getElem?_getD, List.getElem?_set_ne (by omega), ← List.getD_eq_getElem?_getD]
        exact hd j (by omega)
theorem shiftDown_ev {a : List Int} (ha : okl a) (hla : lenok2 a) {s : Nat} (hs : s ≤ 31) : Ev (fun k => nat_shiftDown.f k a (s : Int)) (limbs (val a / 2 ^ s)) := by
  have hla' := hla
  unfold lenok2 at hla'
  unfold nat_shiftDown.f
  refine Ev.ite_pos (by omega) (Ev.ite_pos (by omega) ?_)
  rw [Int.toNat_natCast]
  exact shiftDown_loop a ha hla s hs a.length 0 _ (by omega) (okl_replicate _) (by simp) (fun j hj => by omega)
end Go.Proofs.Ythamhjmhgcpdgaa.Big
end
section
namespace Go.Proofs.Ythamhjmhgcpdgaa.Big
open Go.RowKit Go.Proofs.YthamhjmhgcpdgaaW.PrintWords Go.Proofs.YthamhjmhgcpdgaaW.PrintLast Go.Proofs.YthamhjmhgcpdgaaW.PrintMore Go.Proofs.Ythamhjmhgcpdgaa.Q Go.Proofs.Ythamhjmhgcpdgaa.Th
set_option linter.unusedVariables false
set_option linter.unusedSimpArgs false
theorem tdown {t : Int} (h0 : -4294967297 ≤ t) (h1 : t < 4294967296) :
    Go.bits .and .u64 (IntKind.u64.wrap t) 4294967295 = t % 4294967296 ∧ IntKind.u64.wrap t / 9223372036854775808 = (if t < 0 then 1 else 0) := by
  have hw : 0 ≤ IntKind.u64.wrap t ∧ IntKind.u64.wrap t < 18446744073709551616 := by rw [wrapu64]; omega
  refine ⟨?_, ?_⟩
  · rw [and_low hw.1 hw.2, wrapu64]; omega
  · rw [wrapu64]; split <;> omega
theorem wrapu64_sub (x y z : Int) : IntKind.u64.wrap (IntKind.u64.wrap (x - y) - z) = IntKind.u64.wrap (x - y - z) := by
  rw [wrapu64, wrapu64, wrapu64]; omega
theorem sub_loop (v : List Int) (hv : okl v) (hlv : lenok v) (q : Int) (hq0 : 0 ≤ q) (hq1 : q < 4294967296) (U : Nat) (d : Nat) : ∀ (i : Nat) (u : List Int) (b c : Int), i + d = v.length → okl u → u.length = v.length + 1 →
    (b = 0 ∨ b = 1) → 0 ≤ c → c < 4294967296 → val u + q.toNat * val (v.take i) = U + 4294967296 ^ i * (b.toNat + c.toNat) →
    ∃ neg r, okl r ∧ r.length = v.length + 1 ∧ val r + q.toNat * val v = U + (if neg then 4294967296 ^ (v.length + 1) else 0) ∧ Ev (fun k => nat_subtract.l0 k u v q b c v (v.length : Int) (i : Int)) (neg, r) := by
  unfold lenok at hlv
  induction d with
  | zero =>
    intro i u b c hi hu hul hb hc0 hc1 hs
    obtain rfl : i = v.length := by omega
    have hx := getD_okl hu v.length
    obtain ⟨t, ht⟩ : ∃ t, t = u.getD v.length 0 - b - c := ⟨_, rfl⟩
    have td := tdown (t := t) (by omega) (by omega)
    rw [List.take_length] at hs
    refine ⟨decide (t < 0), u.set v.length (t % 4294967296), okl_set hu _ (by omega) (by omega), by rw [List.length_set]; exact hul, ?_, ?_⟩
    · have h1 := val_set u v.length (by omega) (t % 4294967296)
      have e1 : (t % 4294967296).toNat + b.toNat + c.toNat = (u.getD v.length 0).toNat + 4294967296 * (if t < 0 then 1 else 0) := by split <;> omega
      have e2 : 4294967296 ^ v.length * ((t % 4294967296).toNat + b.toNat + c.toNat) = 4294967296 ^ v.length * ((u.getD v.length 0).toNat + 4294967296 * (if t < 0 then 1 else 0)) := by rw [e1]
      have e3 : (if decide (t < 0) = true then 4294967296 ^ (v.length + 1) else 0) = 4294967296 ^ v.length * (4294967296 * (if t < 0 then 1 else 0)) := by
        by_cases h : t < 0 <;> simp [h, Nat.pow_succ]
      rw [e3]
      generalize (if t < 0 then 1 else 0) = z at e2 ⊢
      grind
    · refine Ev.step (f := fun _ => some (decide (t < 0), u.set v.length (t % 4294967296))) (fun k => ?_) (Ev.now _)
      simp only [nat_subtract.l0]
      rw [if_neg (by omega), if_pos (by omega), if_pos (by omega), rd_nat, wrapu64_id (x := u.getD v.length 0) (by omega) (by omega), wrapu64_sub, ← ht, td.1, td.2, Int.toNat_natCast, show t % 4294967296 % 4294967296 = t % 4294967296 by omega]
      by_cases h : t < 0 <;> simp [h]
  | succ d ih =>
    intro i u b c hi hu hul hb hc0 hc1 hs
    have hx := getD_okl hu i
    have hy := getD_okl hv i
    obtain ⟨x, hx'⟩ := Int.eq_ofNat_of_zero_le hy.1
    obtain ⟨qn, rfl⟩ := Int.eq_ofNat_of_zero_le hq0
    have hp : qn * x ≤ 4294967295 * 4294967295 := Nat.mul_le_mul (by omega) (by omega)
    have hcast : (qn : Int) * (v.getD i 0) = ((qn * x : Nat) : Int) := by rw [hx']; simp
    obtain ⟨m, hm⟩ : ∃ m, m = c + (qn : Int) * (v.getD i 0) := ⟨_, rfl⟩
    have hm0 : 0 ≤ m := by omega
    have hm1 : m < 18446744069414584321 := by omega
    obtain ⟨t, ht⟩ : ∃ t, t = u.getD i 0 - b - m % 4294967296 := ⟨_, rfl⟩
    have td := tdown (t := t) (by omega) (by omega)
    obtain ⟨neg, r, h1, h2, h3, h4⟩ := ih (i + 1) (u.set i (t % 4294967296)) (if t < 0 then 1 else 0) (m / 4294967296) (by omega) (okl_set hu _ (by omega) (by omega)) (by rw [List.length_set]; exact hul) (by split <;> simp) (by omega) (by omega) (by
      have h1 := val_set u i (by omega) (t % 4294967296)
      have e1 : (t % 4294967296).toNat + b.toNat + c.toNat + qn * x = (u.getD i 0).toNat + 4294967296 * ((if t < 0 then (1 : Int) else 0).toNat + (m / 4294967296).toNat) := by split <;> omega
      have e2 : 4294967296 ^ i * ((t % 4294967296).toNat + b.toNat + c.toNat + qn * x) = 4294967296 ^ i * ((u.getD i 0).toNat + 4294967296 * ((if t < 0 then (1 : Int) else 0).toNat + (m / 4294967296).toNat)) := by rw [e1]
      have e4 : val (v.take (i + 1)) = val (v.take i) + 4294967296 ^ i * x := by rw [val_take_succ v i (by omega), hx']; rfl
      rw [e4, Nat.pow_succ]
      rw [Int.toNat_natCast] at hs ⊢
      generalize ((if t < 0 then (1 : Int) else 0).toNat + (m / 4294967296).toNat) = z at e2 ⊢
      grind)
    refine ⟨neg, r, h1, h2, h3, Ev.step (fun k => ?_) h4⟩
    simp only [nat_subtract.l0]
    rw [if_pos (by omega), if_pos (by omega), if_pos (by omega), if_pos (by omega), rd_nat, rd_nat, wrapu64_id (x := u.getD i 0) (by omega) (by omega), wrapu64_id (x := v.getD i 0) (by omega) (by omega), wrapu64_id (x := (qn : Int) * v.getD i 0) (by omega) (by omega), ← hm, wrapu64_id (x := m) (by omega) (by omega),
      and_low hm0 (by omega), wrapu64_sub, ← ht, td.1, td.2, show t % 4294967296 % 4294967296 = t % 4294967296 by omega, wrap64_id (x := (i : Int) + 1) (by omega) (by omega), Int.toNat_natCast]
    rfl
theorem subtract_ev {u v : List Int} (hu : okl u) (hv : okl v) (hlv : lenok v) {q : Int} (hq0 : 0 ≤ q) (hq1 : q < 4294967296) {lo : Nat} (hl : lo + v.length + 1 ≤ u.length) :
    ∃ neg w, okl w ∧ w.length = v.length + 1 ∧ val w + q.toNat * val v = val ((u.drop lo).take (v.length + 1)) + (if neg then 4294967296 ^ (v.length + 1) else 0) ∧
      Ev (fun k => nat_subtract.f k u (lo : Int) ((lo + v.length + 1 : Nat) : Int) v q) (neg, u.take lo ++ w ++ u.drop (lo + v.length + 1)) := by
  have e : (u.take (lo + v.length + 1)).drop lo = (u.drop lo).take (v.length + 1) := by rw [List.drop_take]; congr 1; omega
  obtain ⟨neg, w, h1, h2, h3, h4⟩ := sub_loop v hv hlv q hq0 hq1 (val ((u.drop lo).take (v.length + 1))) v.length 0 ((u.drop lo).take (v.length + 1)) 0 0 (by omega) (okl_take (okl_drop hu _) _) (by rw [List.length_take, List.length_drop]; omega) (.inl rfl) (by omega) (by omega) (by simp [val])
  refine ⟨neg, w, h1, h2, h3, ?_⟩
  unfold nat_subtract.f
  refine Ev.ite_pos (by omega) (Ev.ite_pos (by omega) (Ev.ite_pos (by omega) ?_))
  simp only [Int.toNat_natCast]
  rw [e]
  exact Ev.bind (f := fun _ t => some (t.1, u.take lo ++ t.2 ++ u.drop (lo + v.length + 1))) h4 (Ev.now _)
theorem add_loop (v : List Int) (hv : okl v) (hlv : lenok v) (U : Nat) (d : Nat) : ∀ (i : Nat) (u : List Int) (c : Int), i + d = v.length → okl u → u.length = v.length + 1 →
    0 ≤ c → c < 4294967296 → val u + 4294967296 ^ i * c.toNat = U + val (v.take i) →
    ∃ r, okl r ∧ r.length = v.length + 1 ∧ (∃ z : Nat, val r + z * 4294967296 ^ (v.length + 1) = U + val v) ∧ Ev (fun k => nat_addBack.l0 k u v c v (v.length : Int) (i : Int)) r := by
  unfold lenok at hlv
  induction d with
  | zero =>
    intro i u c hi hu hul hc0 hc1 hs
    obtain rfl : i = v.length := by omega
    have hx := getD_okl hu v.length
    rw [List.take_length] at hs
    obtain ⟨t, ht⟩ : ∃ t, t = u.getD v.length 0 + c := ⟨_, rfl⟩
    refine ⟨u.set v.length (t % 4294967296), okl_set hu _ (by omega) (by omega), by rw [List.length_set]; exact hul, ⟨(t / 4294967296).toNat, ?_⟩, ?_⟩
    · have h1 := val_set u v.length (by omega) (t % 4294967296)
      have e1 : (t % 4294967296).toNat + 4294967296 * (t / 4294967296).toNat = (u.getD v.length 0).toNat + c.toNat := by omega
      have e2 : 4294967296 ^ v.length * ((t % 4294967296).toNat + 4294967296 * (t / 4294967296).toNat) = 4294967296 ^ v.length * ((u.getD v.length 0).toNat + c.toNat) := by rw [e1]
      rw [Nat.pow_succ]
      grind
    · refine Ev.step (f := fun _ => some (u.set v.length (t % 4294967296))) (fun k => ?_) (Ev.now _)
      simp only [nat_addBack.l0]
      rw [if_neg (by omega), if_pos (by omega), if_pos (by omega), rd_nat, Int.toNat_natCast, show c % 4294967296 = c by omega, ← ht]
  | succ d ih =>
    intro i u c hi hu hul hc0 hc1 hs
    have hx := getD_okl hu i
    have hy := getD_okl hv i
    obtain ⟨t, ht⟩ : ∃ t, t = c + (u.getD i 0 + v.getD i 0) := ⟨_, rfl⟩
    obtain ⟨r, h1, h2, h3, h4⟩ := ih (i + 1) (u.set i (t % 4294967296)) (t / 4294967296) (by omega) (okl_set hu _ (by omega) (by omega)) (by rw [List.length_set]; exact hul) (by omega) (by omega) (by
      have h1 := val_set u i (by omega) (t % 4294967296)
      have e1 : (t % 4294967296).toNat + 4294967296 * (t / 4294967296).toNat = c.toNat + (u.getD i 0).toNat + (v.getD i 0).toNat := by omega
      have e2 : 4294967296 ^ i * ((t % 4294967296).toNat + 4294967296 * (t / 4294967296).toNat) = 4294967296 ^ i * (c.toNat + (u.getD i 0).toNat + (v.getD i 0).toNat) := by rw [e1]
      rw [val_take_succ v i (by omega), Nat.pow_succ]
      grind)
    refine ⟨r, h1, h2, h3, Ev.step (fun k => ?_) h4⟩
    simp only [nat_addBack.l0]
    rw [if_pos (by omega), if_pos (by omega), if_pos (by omega), if_pos (by omega), rd_nat, rd_nat, wrapu64_id (x := u.getD i 0) (by omega) (by omega), wrapu64_id (x := v.getD i 0) (by omega) (by omega), wrapu64_id (x := u.getD i 0 + v.getD i 0) (by omega) (by omega), ← ht, wrapu64_id (x := t) (by omega) (by omega),
      and_low (by omega) (by omega), show t % 4294967296 % 4294967296 = t % 4294967296 by omega, wrap64_id (x := (i : Int) + 1) (by omega) (by omega), Int.toNat_natCast]
    rfl
theorem addBack_ev {u v : List Int} (hu : okl u) (hv : okl v) (hlv : lenok v) {lo : Nat} (hl : lo + v.length + 1 ≤ u.length) :
    ∃ w, okl w ∧ w.length = v.length + 1 ∧ (∃ z : Nat, val w + z * 4294967296 ^ (v.length + 1) = val ((u.drop lo).take (v.length + 1)) + val v) ∧
      Ev (fun k => nat_addBack.f k u (lo : Int) ((lo + v.length + 1 : Nat) : Int) v) (u.take lo ++ w ++ u.drop (lo + v.length + 1)) := by
  have e : (u.take (lo + v.length + 1)).drop lo = (u.drop lo).take (v.length + 1) := by rw [List.drop_take]; congr 1; omega
  obtain ⟨w, h1, h2, h3, h4⟩ := add_loop v hv hlv (val ((u.drop lo).take (v.length + 1))) v.length 0 ((u.drop lo).take (v.length + 1)) 0 (by omega) (okl_take (okl_drop hu _) _) (by rw [List.length_take, List.length_drop]; omega) (by omega) (by omega) (by simp [val])
  refine ⟨w, h1, h2, h3, ?_⟩
  unfold nat_addBack.f
  refine Ev.ite_pos (by omega) (Ev.ite_pos (by omega) (Ev.ite_pos (by omega) ?_))
  simp only [Int.toNat_natCast]
  rw [e]
  exact Ev.bind (f := fun _ t => some (u.take lo ++ t ++ u.drop (lo + v.length + 1))) h4 (Ev.now _)
end Go.Proofs.Ythamhjmhgcpdgaa.Big
end
