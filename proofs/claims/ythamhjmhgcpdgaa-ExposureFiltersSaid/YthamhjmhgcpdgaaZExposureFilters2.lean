/- Lemmas and contracts for the law ExposureFilters: words of the print, contracts of the functions that the law reaches, and what these compute, as far as the law needs them; packed by a program of this session. -/
import Derived.Test.YthamhjmhgcpdgaaZExposureFilters1
section
namespace Go.Proofs.Ythamhjmhgcpdgaa.Q
open Go.RowKit Go.Proofs.YthamhjmhgcpdgaaW.PrintWords Go.Proofs.YthamhjmhgcpdgaaW.PrintLast Go.Proofs.YthamhjmhgcpdgaaW.PrintMore Go.Proofs.Ythamhjmhgcpdgaa.MyWords
attribute [local go_sem] max2_int min2_int max_two min_two
set_option linter.unusedVariables false
set_option linter.unusedSimpArgs false
def ratio_Mul.T3 : Bool × List (List Nat × List Nat) := (true, [([], []), ([], []), ([0, 1], [0, 1]), ([], []), ([3], [3]), ([], []), ([5], [5]), ([4, 6, 2], [4, 6]), ([2, 7, 7], [2, 7]), ([8, 8, 0, 1, 2, 3, 4, 5, 6, 7, 8], [8])])
def ratio_Mul.B3 : List Nat := [0, 0, 3, 0, 8, 0, 32, 127, 255, 511]
theorem ratio_Mul.tab3 : rtab .any (opsOf Try.f27 3) = ratio_Mul.T3 := by kernel_rfl
theorem ratio_Mul.bits3 : waitsOk ratio_Mul.T3.2 ratio_Mul.B3 = true := by kernel_rfl
set_option maxHeartbeats 8000000 in
set_option maxRecDepth 100000 in
theorem ratio_Mul.calls (k : Nat) (a0_0 : Bool) (P0_1_ : Nat → Prop) (A0_1 : Option Addr) (c0_1 : Nat) (l0_1 : List Int) (A0_2 : Option Addr) (c0_2 : Nat) (l0_2 : List Int) (a1_0 : Bool) (P1_1_ : Nat → Prop) (A1_1 : Option Addr) (c1_1 : Nat) (l1_1 : List Int) (A1_2 : Option Addr) (c1_2 : Nat) (l1_2 : List Int) (r1 : Bool) (r2 : List Int) (r3 : List Int) (w : World) (hs0_1 : Kd.V (Kd.int .u32) 87 w w.heap.size (fun k_ => P0_1_ k_) (.slice A0_1 l0_1.length c0_1) l0_1) (hr0_2 : Kd.C (Kd.int .u32) w A0_2 l0_2.length l0_2) (hc0_2 : l0_2.length ≤ c0_2) (hs1_1 : Kd.V (Kd.int .u32) 87 w w.heap.size (fun k_ => P1_1_ k_) (.slice A1_1 l1_1.length c1_1) l1_1) (hr1_2 : Kd.C (Kd.int .u32) w A1_2 l1_2.length l1_2) (hc1_2 : l1_2.length ≤ c1_2) (h : ratio_Mul.f k a0_0 l0_1 l0_2 a1_0 l1_1 l1_2 = some (r1, r2, r3)) :
  Calls Try.prog 27 #[.agg #[.bool a0_0, .slice A0_1 l0_1.length c0_1, .slice A0_2 l0_2.length c0_2], .agg #[.bool a1_0, .slice A1_1 l1_1.length c1_1, .slice A1_2 l1_2.length c1_2]] w fun e w' => ∃ v1_ v2_ : Value, e = .returned (.agg #[.bool r1, v1_, v2_]) ∧ Kd.R (Kd.int .u32) 87 w' w.heap.size (fun k_ => (w.heap.size ≤ k_)) v1_ r2 ∧ Kd.V (Kd.int .u32) 87 w' w.heap.size (fun k_ => ((P0_1_ k_ ∨ P1_1_ k_) ∨ w.heap.size ≤ k_) ∧ some k_ ≠ (v1_ : Value).ownBlock) v2_ r3 ∧ Below w.heap.size w w' := by
 have hu29 := Try.underlying29
 have hu27 := Try.underlying27
 have HO0_1 := mk0 (show Kd.V (Kd.int .u32) 87 w w.heap.size (fun k_ => ((P0_1_ k_ ∨ P1_1_ k_) ∨ w.heap.size ≤ k_)) (.slice A0_1 l0_1.length c0_1) l0_1 from Vm hs0_1 (fun k_ hk => .inl (.inl hk)))
 have HR0_2 := mk0 hr0_2
 have HC0_2 := mk0 hc0_2
 clear hr0_2 hc0_2
 have HO1_1 := mk0 (show Kd.V (Kd.int .u32) 87 w w.heap.size (fun k_ => ((P0_1_ k_ ∨ P1_1_ k_) ∨ w.heap.size ≤ k_)) (.slice A1_1 l1_1.length c1_1) l1_1 from Vm hs1_1 (fun k_ hk => .inl (.inr hk)))
 have HR1_2 := mk0 hr1_2
 have HC1_2 := mk0 hc1_2
 clear hr1_2 hc1_2
 have HB := mk0 (Below.refl w.heap.size w)
 have H : ((ratio_parts.f k a0_0 l0_1 l0_2).bind fun bt371 => ((ratio_parts.f k a1_0 l1_1 l1_2).bind fun bt381 => ((integer_Mul.f k bt371.1 bt371.2.1 bt381.1 bt381.2.1).bind fun bt391 => ((nat_Mul.f k bt371.2.2.2 bt381.2.2.2).bind fun t395 => ((ratio_lowest.f k bt391.1 bt391.2 t395).bind fun bt398 => (some (bt398.1, bt398.2.1, bt398.2.2))))))) = some (r1, r2, r3) := h
 clear h
 obtain ⟨⟨t371, t372, t375, t376⟩, A3, H⟩ := bindA H
 obtain ⟨⟨t381, t382, t385, t386⟩, A4, H⟩ := bindA H
 obtain ⟨⟨t391, t392⟩, A5, H⟩ := bindA H
 obtain ⟨t395, A6, H⟩ := bindA H
 obtain ⟨⟨t398, t399, t402⟩, A7, H⟩ := bindA H
 simp only [Option.some.injEq, Prod.mk.injEq] at H
 obtain ⟨rfl, rfl, rfl⟩ := H
 go_enter Try.func27, Try.ntmps27
 try go_wp2_with (first | ((refine gate_dst (N := 2) rfl ?_); refine box_event rfl (N := 2) rfl (cs := #[.bool a0_0, .slice A0_1 l0_1.length c0_1, .slice A0_2 l0_2.length c0_2]) (t := 29) (by go_simp <;> rfl) ?_; intro gb368 hg w8 hbox hb; replace HO0_1 := vB HO0_1 hg hb; replace HO1_1 := vB HO1_1 hg hb; have BK368 := mk0 (hbox); have GE368 := geB hg HB; replace HB := hbS HB hb; clear hb hbox hg) | ((refine gate_dst (N := 3) rfl ?_); refine box_event rfl (N := 3) rfl (cs := #[.bool a1_0, .slice A1_1 l1_1.length c1_1, .slice A1_2 l1_2.length c1_2]) (t := 29) (by go_simp <;> rfl) ?_; intro gb369 hg w9 hbox hb; replace HO0_1 := vB HO0_1 hg hb; replace HO1_1 := vB HO1_1 hg hb; have BK369 := mk0 (hbox); have GE369 := geB hg HB; replace HB := hbS HB hb; have NB368_369 := nbA hg BK368; have NB369_368 := nbB hg BK368; replace BK368 := bkB BK368 hb; clear hb hbox hg) | ((refine gate_dst (N := 4) rfl ?_); refine box_event rfl (N := 4) rfl (cs := #[.bool false, .slice none 0 0, .slice none 0 0]) (t := 29) (by go_simp <;> rfl) ?_; intro gb370 hg w10 hbox hb; replace HO0_1 := vB HO0_1 hg hb; replace HO1_1 := vB HO1_1 hg hb; have BK370 := mk0 (hbox); have GE370 := geB hg HB; replace HB := hbS HB hb; have NB368_370 := nbA hg BK368; have NB370_368 := nbB hg BK368; replace BK368 := bkB BK368 hb; have NB369_370 := nbA hg BK369; have NB370_369 := nbB hg BK369; replace BK369 := bkB BK369 hb; clear hb hbox hg; have hnb11 := NB368_369.out; have hnc11 := NB369_368.out; have hnb12 := NB368_370.out; have hnc12 := NB370_368.out; obtain ⟨hcz13_0, hcz13_1, hcz13_2, hfz13_0, hfz13_1, hfz13_2⟩ := cz3 BK368) | ((refine gate_callee (f := 36) rfl ?_); refine goA 11 Try.func36 #[.agg #[.bool a0_0, .slice A0_1 l0_1.length c0_1, .slice A0_2 l0_2.length c0_2]] ?_; (with_reducible refine (ratio_parts.calls k a0_0 (fun k_ => (((((P0_1_ k_ ∨ P1_1_ k_) ∨ w.heap.size ≤ k_) ∧ k_ ≠ gb368) ∧ k_ ≠ gb369) ∧ k_ ≠ gb370)) _ _ l0_1 _ _ l0_2 t371 t372 t375 t376 _ HO0_1.out (by exact Cb HR0_2.out HB.out) HC0_2.out A3.out).mono ?_); rintro e w14 ⟨v373, v377, rfl, ho0, ho1, hb⟩; refine ⟨_, rfl, ?_⟩; replace HO0_1 := mk0 (Kd.V_elder' HO0_1.out (Rs ho1) hb); replace HO1_1 := mk0 (Kd.V_elder' HO1_1.out (Rs ho1) hb); have HO374 := mk0 (Vl (Vm (ok' := fun k_ => ((P0_1_ k_ ∨ P1_1_ k_) ∨ w.heap.size ≤ k_) ∧ some k_ ≠ (v377 : Value).ownBlock ∧ k_ ≠ gb368 ∧ k_ ≠ gb369 ∧ k_ ≠ gb370) ho0 (fun k_ hk_ => ⟨Or.elim hk_.1 (fun hs_ => hs_.1.1.1) (fun hn_ => (.inr (Nat.le_trans (bZ HB.out) hn_))), hk_.2, Or.elim hk_.1 (fun hs_ => hs_.1.1.2) (fun hn_ => (Kd.freshB BK368.out k_ hn_)), Or.elim hk_.1 (fun hs_ => hs_.1.2) (fun hn_ => (Kd.freshB BK369.out k_ hn_)), Or.elim hk_.1 (fun hs_ => hs_.2) (fun hn_ => (Kd.freshB BK370.out k_ hn_))⟩)) (bZ HB.out)); have HO378 := mk0 (Rl (Kd.R_newM (M := fun k_ => (w.heap.size ≤ k_)) (Rm (ok' := fun k_ => True) ho1 tv) (bZ HB.out) (fun k_ h_ => h_)) (bZ HB.out)); replace BK368 := bkB BK368 hb; replace BK369 := bkB BK369 hb; replace BK370 := bkB BK370 hb; replace HB := hbS HB hb) | ((refine gate_dst (N := 5) rfl ?_); refine box_event rfl (N := 5) rfl (cs := #[.bool false, .slice none 0 0]) (t := 27) (by go_simp <;> rfl) ?_; intro gb379 hg w15 hbox hb; replace HO0_1 := vB HO0_1 hg hb; replace HO1_1 := vB HO1_1 hg hb; replace HO374 := vB HO374 hg hb; replace HO378 := rB HO378 hb; have BK379 := mk0 (hbox); have GE379 := geB hg HB; replace HB := hbS HB hb; have NB368_379 := nbA hg BK368; have NB379_368 := nbB hg BK368; replace BK368 := bkB BK368 hb; have NB369_379 := nbA hg BK369; have NB379_369 := nbB hg BK369; replace BK369 := bkB BK369 hb; have NB370_379 := nbA hg BK370; have NB379_370 := nbB hg BK370; replace BK370 := bkB BK370 hb; clear hb hbox hg) | ((refine gate_dst (N := 6) rfl ?_); refine box_event rfl (N := 6) rfl (cs := #[.bool false, .slice none 0 0]) (t := 27) (by go_simp <;> rfl) ?_; intro gb380 hg w16 hbox hb; replace HO0_1 := vB HO0_1 hg hb; replace HO1_1 := vB HO1_1 hg hb; replace HO374 := vB HO374 hg hb; replace HO378 := rB HO378 hb; have BK380 := mk0 (hbox); have GE380 := geB hg HB; replace HB := hbS HB hb; have NB368_380 := nbA hg BK368; have NB380_368 := nbB hg BK368; replace BK368 := bkB BK368 hb; have NB369_380 := nbA hg BK369; have NB380_369 := nbB hg BK369; replace BK369 := bkB BK369 hb; have NB370_380 := nbA hg BK370; have NB380_370 := nbB hg BK370; replace BK370 := bkB BK370 hb; have NB379_380 := nbA hg BK379; have NB380_379 := nbB hg BK379; replace BK379 := bkB BK379 hb; clear hb hbox hg; have hnb17 := NB379_368.out; have hnc17 := NB368_379.out; have hnb18 := NB379_369.out; have hnc18 := NB369_379.out; have hnb19 := NB379_370.out; have hnc19 := NB370_379.out; have hnb20 := NB379_380.out; have hnc20 := NB380_379.out; obtain ⟨hcz21_0, hcz21_1, hfz21_0, hfz21_1⟩ := cz2 BK379; obtain ⟨Ao22, co22, eo22⟩ := Kd.V_slice HO374.out; subst eo22) | ((refine gate_store (t := 27) (p := 5) rfl ?_); refine store_event (t := 27) (p := 5) (v := ?vo_w23) (w1 := ((w16.setCell ⟨gb379, 0, none⟩ (.bool t371)).setCell ⟨gb379, 1, none⟩ (.slice Ao22 t372.length co22))) ?hg ?ho ?hn ?hr ?_; (case ho => rfl); (case hg => rfl); (case hn => rfl); (case hr => go_simp <;> rfl); intro w23 hw; replace HO0_1 : Aside0 (Kd.V (Kd.int .u32) 87 w23 w.heap.size (fun k_ => ((P0_1_ k_ ∨ P1_1_ k_) ∨ w.heap.size ≤ k_) ∧ some k_ ≠ (v377 : Value).ownBlock ∧ k_ ≠ gb368 ∧ k_ ≠ gb369 ∧ k_ ≠ gb370 ∧ k_ ≠ gb379 ∧ k_ ≠ gb380) (.slice A0_1 l0_1.length c0_1) l0_1) := ⟨(by rw [hw]; exact (Vm (Vf (p := ⟨gb379, 1, none⟩) (Vf (p := ⟨gb379, 0, none⟩) (Vm HO0_1.out (fun k_ hk => (⟨hk, hk.1.2⟩ : _ ∧ k_ ≠ gb379))) (fun _ hk => hk.2) (.bool t371)) (fun _ hk => hk.2) (.slice Ao22 t372.length co22)) (fun _ hk => ⟨hk.1.1.1.1.1.1.1, ⟨hk.1.1.1.2, ⟨hk.1.1.1.1.1.1.2, ⟨hk.1.1.1.1.1.2, ⟨hk.1.1.1.1.2, ⟨hk.1.1.2, hk.1.2⟩⟩⟩⟩⟩⟩)))⟩; replace HO1_1 : Aside0 (Kd.V (Kd.int .u32) 87 w23 w.heap.size (fun k_ => ((P0_1_ k_ ∨ P1_1_ k_) ∨ w.heap.size ≤ k_) ∧ some k_ ≠ (v377 : Value).ownBlock ∧ k_ ≠ gb368 ∧ k_ ≠ gb369 ∧ k_ ≠ gb370 ∧ k_ ≠ gb379 ∧ k_ ≠ gb380) (.slice A1_1 l1_1.length c1_1) l1_1) := ⟨(by rw [hw]; exact (Vm (Vf (p := ⟨gb379, 1, none⟩) (Vf (p := ⟨gb379, 0, none⟩) (Vm HO1_1.out (fun k_ hk => (⟨hk, hk.1.2⟩ : _ ∧ k_ ≠ gb379))) (fun _ hk => hk.2) (.bool t371)) (fun _ hk => hk.2) (.slice Ao22 t372.length co22)) (fun _ hk => ⟨hk.1.1.1.1.1.1.1, ⟨hk.1.1.1.2, ⟨hk.1.1.1.1.1.1.2, ⟨hk.1.1.1.1.1.2, ⟨hk.1.1.1.1.2, ⟨hk.1.1.2, hk.1.2⟩⟩⟩⟩⟩⟩)))⟩; replace HO374 : Aside0 (Kd.V (Kd.int .u32) 87 w23 w.heap.size (fun k_ => ((P0_1_ k_ ∨ P1_1_ k_) ∨ w.heap.size ≤ k_) ∧ some k_ ≠ (v377 : Value).ownBlock ∧ k_ ≠ gb368 ∧ k_ ≠ gb369 ∧ k_ ≠ gb370 ∧ k_ ≠ gb379 ∧ k_ ≠ gb380) (.slice Ao22 t372.length co22) t372) := ⟨(by rw [hw]; exact (Vm (Vf (p := ⟨gb379, 1, none⟩) (Vf (p := ⟨gb379, 0, none⟩) (Vm HO374.out (fun k_ hk => (⟨hk, hk.1.2⟩ : _ ∧ k_ ≠ gb379))) (fun _ hk => hk.2) (.bool t371)) (fun _ hk => hk.2) (.slice Ao22 t372.length co22)) (fun _ hk => ⟨hk.1.1.1.1, ⟨hk.1.1.1.2.1, ⟨hk.1.1.1.2.2.1, ⟨hk.1.1.1.2.2.2.1, ⟨hk.1.1.1.2.2.2.2, ⟨hk.1.1.2, hk.1.2⟩⟩⟩⟩⟩⟩)))⟩; replace HO378 : Aside0 (Kd.R (Kd.int .u32) 87 w23 w.heap.size (fun k_ => (w.heap.size ≤ k_)) v377 t376) := ⟨(by rw [hw]; exact (Rm (Rg 1 (Rg 0 (Rd HO378.out BK379) (.bool t371)) (.slice Ao22 t372.length co22)) (fun _ hk => hk.1.1)))⟩; replace BK368 : Aside0 (w23.heap[gb368]? = some (.cells #[.bool a0_0, .slice A0_1 l0_1.length c0_1, .slice A0_2 l0_2.length c0_2] 29 (0, 0))) := ⟨(by rw [hw]; exact (by refine blk_far ?_ NB368_379.out _; refine blk_far ?_ NB368_379.out _; exact BK368.out))⟩; replace BK369 : Aside0 (w23.heap[gb369]? = some (.cells #[.bool a1_0, .slice A1_1 l1_1.length c1_1, .slice A1_2 l1_2.length c1_2] 29 (0, 0))) := ⟨(by rw [hw]; exact (by refine blk_far ?_ NB369_379.out _; refine blk_far ?_ NB369_379.out _; exact BK369.out))⟩; replace BK370 : Aside0 (w23.heap[gb370]? = some (.cells #[.bool false, .slice none 0 0, .slice none 0 0] 29 (0, 0))) := ⟨(by rw [hw]; exact (by refine blk_far ?_ NB370_379.out _; refine blk_far ?_ NB370_379.out _; exact BK370.out))⟩; replace BK379 : Aside0 (w23.heap[gb379]? = some (.cells #[.bool t371, .slice Ao22 t372.length co22] 27 (0, 0))) := ⟨(by rw [hw]; exact (by refine blk_put (cs := #[.bool t371, .slice none 0 0]) ?_ 1 _ rfl; refine blk_put (cs := #[.bool false, .slice none 0 0]) ?_ 0 _ rfl; exact BK379.out))⟩; replace BK380 : Aside0 (w23.heap[gb380]? = some (.cells #[.bool false, .slice none 0 0] 27 (0, 0))) := ⟨(by rw [hw]; exact (by refine blk_far ?_ NB380_379.out _; refine blk_far ?_ NB380_379.out _; exact BK380.out))⟩; replace HB : Aside0 (Below w.heap.size w w23) := ⟨(by rw [hw]; exact (by repeat (first | exact HB.out | refine bS ?_ GE370.out | refine bS ?_ GE379.out | refine bS ?_ GE380.out)))⟩; clear hw; have hnb24 := NB380_368.out; have hnc24 := NB368_380.out; have hnb25 := NB380_369.out; have hnc25 := NB369_380.out; have hnb26 := NB380_370.out; have hnc26 := NB370_380.out; obtain ⟨hcz27_0, hcz27_1, hfz27_0, hfz27_1⟩ := cz2 BK380; obtain ⟨Ao28, co28, eo28⟩ := Kd.R_slice HO378.out; subst eo28) | ((refine gate_store (t := 27) (p := 6) rfl ?_); refine store_event (t := 27) (p := 6) (v := ?vo_w29) (w1 := ((w23.setCell ⟨gb380, 0, none⟩ (.bool t375)).setCell ⟨gb380, 1, none⟩ (.slice Ao28 t376.length co28))) ?hg ?ho ?hn ?hr ?_; (case ho => rfl); (case hg => rfl); (case hn => rfl); (case hr => go_simp <;> rfl); intro w29 hw; replace HO0_1 : Aside0 (Kd.V (Kd.int .u32) 87 w29 w.heap.size (fun k_ => ((P0_1_ k_ ∨ P1_1_ k_) ∨ w.heap.size ≤ k_) ∧ some k_ ≠ (.slice Ao28 t376.length co28 : Value).ownBlock ∧ k_ ≠ gb368 ∧ k_ ≠ gb369 ∧ k_ ≠ gb370 ∧ k_ ≠ gb379 ∧ k_ ≠ gb380) (.slice A0_1 l0_1.length c0_1) l0_1) := ⟨(by rw [hw]; exact (Vm (Vf (p := ⟨gb380, 1, none⟩) (Vf (p := ⟨gb380, 0, none⟩) (Vm HO0_1.out (fun k_ hk => (⟨hk, hk.2.2.2.2.2.2⟩ : _ ∧ k_ ≠ gb380))) (fun _ hk => hk.2) (.bool t375)) (fun _ hk => hk.2) (.slice Ao28 t376.length co28)) (fun _ hk => ⟨hk.1.1, ⟨hk.1.2.1, ⟨hk.1.2.2.1, ⟨hk.1.2.2.2.1, ⟨hk.1.2.2.2.2.1, ⟨hk.1.2.2.2.2.2.1, hk.1.2.2.2.2.2.2⟩⟩⟩⟩⟩⟩)))⟩; replace HO1_1 : Aside0 (Kd.V (Kd.int .u32) 87 w29 w.heap.size (fun k_ => ((P0_1_ k_ ∨ P1_1_ k_) ∨ w.heap.size ≤ k_) ∧ some k_ ≠ (.slice Ao28 t376.length co28 : Value).ownBlock ∧ k_ ≠ gb368 ∧ k_ ≠ gb369 ∧ k_ ≠ gb370 ∧ k_ ≠ gb379 ∧ k_ ≠ gb380) (.slice A1_1 l1_1.length c1_1) l1_1) := ⟨(by rw [hw]; exact (Vm (Vf (p := ⟨gb380, 1, none⟩) (Vf (p := ⟨gb380, 0, none⟩) (Vm HO1_1.out (fun k_ hk => (⟨hk, hk.2.2.2.2.2.2⟩ : _ ∧ k_ ≠ gb380))) (fun _ hk => hk.2) (.bool t375)) (fun _ hk => hk.2) (.slice Ao28 t376.length co28)) (fun _ hk => ⟨hk.1.1, ⟨hk.1.2.1, ⟨hk.1.2.2.1, ⟨hk.1.2.2.2.1, ⟨hk.1.2.2.2.2.1, ⟨hk.1.2.2.2.2.2.1, hk.1.2.2.2.2.2.2⟩⟩⟩⟩⟩⟩)))⟩; replace HO374 : Aside0 (Kd.V (Kd.int .u32) 87 w29 w.heap.size (fun k_ => ((P0_1_ k_ ∨ P1_1_ k_) ∨ w.heap.size ≤ k_) ∧ some k_ ≠ (.slice Ao28 t376.length co28 : Value).ownBlock ∧ k_ ≠ gb368 ∧ k_ ≠ gb369 ∧ k_ ≠ gb370 ∧ k_ ≠ gb379 ∧ k_ ≠ gb380) (.slice Ao22 t372.length co22) t372) := ⟨(by rw [hw]; exact (Vm (Vf (p := ⟨gb380, 1, none⟩) (Vf (p := ⟨gb380, 0, none⟩) (Vm HO374.out (fun k_ hk => (⟨hk, hk.2.2.2.2.2.2⟩ : _ ∧ k_ ≠ gb380))) (fun _ hk => hk.2) (.bool t375)) (fun _ hk => hk.2) (.slice Ao28 t376.length co28)) (fun _ hk => ⟨hk.1.1, ⟨hk.1.2.1, ⟨hk.1.2.2.1, ⟨hk.1.2.2.2.1, ⟨hk.1.2.2.2.2.1, ⟨hk.1.2.2.2.2.2.1, hk.1.2.2.2.2.2.2⟩⟩⟩⟩⟩⟩)))⟩; replace HO378 : Aside0 (Kd.R (Kd.int .u32) 87 w29 w.heap.size (fun k_ => (w.heap.size ≤ k_)) (.slice Ao28 t376.length co28) t376) := ⟨(by rw [hw]; exact (Rm (Rg 1 (Rg 0 (Rd HO378.out BK380) (.bool t375)) (.slice Ao28 t376.length co28)) (fun _ hk => hk.1)))⟩; replace BK368 : Aside0 (w29.heap[gb368]? = some (.cells #[.bool a0_0, .slice A0_1 l0_1.length c0_1, .slice A0_2 l0_2.length c0_2] 29 (0, 0))) := ⟨(by rw [hw]; exact (by refine blk_far ?_ NB368_380.out _; refine blk_far ?_ NB368_380.out _; exact BK368.out))⟩; replace BK369 : Aside0 (w29.heap[gb369]? = some (.cells #[.bool a1_0, .slice A1_1 l1_1.length c1_1, .slice A1_2 l1_2.length c1_2] 29 (0, 0))) := ⟨(by rw [hw]; exact (by refine blk_far ?_ NB369_380.out _; refine blk_far ?_ NB369_380.out _; exact BK369.out))⟩; replace BK370 : Aside0 (w29.heap[gb370]? = some (.cells #[.bool false, .slice none 0 0, .slice none 0 0] 29 (0, 0))) := ⟨(by rw [hw]; exact (by refine blk_far ?_ NB370_380.out _; refine blk_far ?_ NB370_380.out _; exact BK370.out))⟩; replace BK379 : Aside0 (w29.heap[gb379]? = some (.cells #[.bool t371, .slice Ao22 t372.length co22] 27 (0, 0))) := ⟨(by rw [hw]; exact (by refine blk_far ?_ NB379_380.out _; refine blk_far ?_ NB379_380.out _; exact BK379.out))⟩; replace BK380 : Aside0 (w29.heap[gb380]? = some (.cells #[.bool t375, .slice Ao28 t376.length co28] 27 (0, 0))) := ⟨(by rw [hw]; exact (by refine blk_put (cs := #[.bool t375, .slice none 0 0]) ?_ 1 _ rfl; refine blk_put (cs := #[.bool false, .slice none 0 0]) ?_ 0 _ rfl; exact BK380.out))⟩; replace HB : Aside0 (Below w.heap.size w w29) := ⟨(by rw [hw]; exact (by repeat (first | exact HB.out | refine bS ?_ GE370.out | refine bS ?_ GE379.out | refine bS ?_ GE380.out)))⟩; clear hw; have hnb30 := NB369_370.out; have hnc30 := NB370_369.out; obtain ⟨hcz31_0, hcz31_1, hcz31_2, hfz31_0, hfz31_1, hfz31_2⟩ := cz3 BK369) | ((refine gate_callee (f := 36) rfl ?_); refine goA 16 Try.func36 #[.agg #[.bool a1_0, .slice A1_1 l1_1.length c1_1, .slice A1_2 l1_2.length c1_2]] ?_; (with_reducible refine (ratio_parts.calls k a1_0 (fun k_ => (((P0_1_ k_ ∨ P1_1_ k_) ∨ w.heap.size ≤ k_) ∧ (some k_ ≠ (.slice Ao28 t376.length co28 : Value).ownBlock ∧ (k_ ≠ gb368 ∧ (k_ ≠ gb369 ∧ (k_ ≠ gb370 ∧ (k_ ≠ gb379 ∧ k_ ≠ gb380))))))) _ _ l1_1 _ _ l1_2 t381 t382 t385 t386 _ HO1_1.out (by exact Cb HR1_2.out HB.out) HC1_2.out A4.out).mono ?_); rintro e w32 ⟨v383, v387, rfl, ho0, ho1, hb⟩; refine ⟨_, rfl, ?_⟩; replace HO0_1 := mk0 (Kd.V_elder' HO0_1.out (Rs ho1) hb); replace HO1_1 := mk0 (Kd.V_elder' HO1_1.out (Rs ho1) hb); replace HO374 := mk0 (Kd.V_elder' HO374.out (Rs ho1) hb); have HO384 := mk0 (Vl (Vm (ok' := fun k_ => ((P0_1_ k_ ∨ P1_1_ k_) ∨ w.heap.size ≤ k_) ∧ some k_ ≠ (v387 : Value).ownBlock ∧ some k_ ≠ (.slice Ao28 t376.length co28 : Value).ownBlock ∧ k_ ≠ gb368 ∧ k_ ≠ gb369 ∧ k_ ≠ gb370 ∧ k_ ≠ gb379 ∧ k_ ≠ gb380) ho0 (fun k_ hk_ => ⟨Or.elim hk_.1 (fun hs_ => hs_.1) (fun hn_ => (.inr (Nat.le_trans (bZ HB.out) hn_))), hk_.2, Or.elim hk_.1 (fun hs_ => hs_.2.1) (fun hn_ => (Kd.fresh' (Rq HO378.out) k_ hn_)), Or.elim hk_.1 (fun hs_ => hs_.2.2.1) (fun hn_ => (Kd.freshB BK368.out k_ hn_)), Or.elim hk_.1 (fun hs_ => hs_.2.2.2.1) (fun hn_ => (Kd.freshB BK369.out k_ hn_)), Or.elim hk_.1 (fun hs_ => hs_.2.2.2.2.1) (fun hn_ => (Kd.freshB BK370.out k_ hn_)), Or.elim hk_.1 (fun hs_ => hs_.2.2.2.2.2.1) (fun hn_ => (Kd.freshB BK379.out k_ hn_)), Or.elim hk_.1 (fun hs_ => hs_.2.2.2.2.2.2) (fun hn_ => (Kd.freshB BK380.out k_ hn_))⟩)) (bZ HB.out)); have HO388 := mk0 (Rl (Rn (Kd.R_newM (M := fun k_ => (w.heap.size ≤ k_)) (Rm (ok' := fun k_ => True) ho1 tv) (bZ HB.out) (fun k_ h_ => h_)) (Rq HO378.out)) (bZ HB.out)); replace HO378 := mk0 (Re HO378.out (Rs ho1) hb); replace BK368 := bkB BK368 hb; replace BK369 := bkB BK369 hb; replace BK370 := bkB BK370 hb; replace BK379 := bkB BK379 hb; replace BK380 := bkB BK380 hb; replace HB := hbS HB hb) | ((refine gate_dst (N := 7) rfl ?_); refine box_event rfl (N := 7) rfl (cs := #[.bool false, .slice none 0 0]) (t := 27) (by go_simp <;> rfl) ?_; intro gb389 hg w33 hbox hb; replace HO0_1 := vB HO0_1 hg hb; replace HO1_1 := vB HO1_1 hg hb; replace HO374 := vB HO374 hg hb; replace HO378 := rB HO378 hb; replace HO384 := vB HO384 hg hb; replace HO388 := rB HO388 hb; have BK389 := mk0 (hbox); have GE389 := geB hg HB; replace HB := hbS HB hb; have NB368_389 := nbA hg BK368; have NB389_368 := nbB hg BK368; replace BK368 := bkB BK368 hb; have NB369_389 := nbA hg BK369; have NB389_369 := nbB hg BK369; replace BK369 := bkB BK369 hb; have NB370_389 := nbA hg BK370; have NB389_370 := nbB hg BK370; replace BK370 := bkB BK370 hb; have NB379_389 := nbA hg BK379; have NB389_379 := nbB hg BK379; replace BK379 := bkB BK379 hb; have NB380_389 := nbA hg BK380; have NB389_380 := nbB hg BK380; replace BK380 := bkB BK380 hb; clear hb hbox hg) | ((refine gate_dst (N := 8) rfl ?_); refine box_event rfl (N := 8) rfl (cs := #[.bool false, .slice none 0 0]) (t := 27) (by go_simp <;> rfl) ?_; intro gb390 hg w34 hbox hb; replace HO0_1 := vB HO0_1 hg hb; replace HO1_1 := vB HO1_1 hg hb; replace HO374 := vB HO374 hg hb; replace HO378 := rB HO378 hb; replace HO384 := vB HO384 hg hb; replace HO388 := rB HO388 hb; have BK390 := mk0 (hbox); have GE390 := geB hg HB; replace HB := hbS HB hb; have NB368_390 := nbA hg BK368; have NB390_368 := nbB hg BK368; replace BK368 := bkB BK368 hb; have NB369_390 := nbA hg BK369; have NB390_369 := nbB hg BK369; replace BK369 := bkB BK369 hb; have NB370_390 := nbA hg BK370; have NB390_370 := nbB hg BK370; replace BK370 := bkB BK370 hb; have NB379_390 := nbA hg BK379; have NB390_379 := nbB hg BK379; replace BK379 := bkB BK379 hb; have NB380_390 := nbA hg BK380; have NB390_380 := nbB hg BK380; replace BK380 := bkB BK380 hb; have NB389_390 := nbA hg BK389; have NB390_389 := nbB hg BK389; replace BK389 := bkB BK389 hb; clear hb hbox hg; have hnb35 := NB389_368.out; have hnc35 := NB368_389.out; have hnb36 := NB389_369.out; have hnc36 := NB369_389.out; have hnb37 := NB389_370.out; have hnc37 := NB370_389.out; have hnb38 := NB389_379.out; have hnc38 := NB379_389.out; have hnb39 := NB389_380.out; have hnc39 := NB380_389.out; have hnb40 := NB389_390.out; have hnc40 := NB390_389.out; obtain ⟨hcz41_0, hcz41_1, hfz41_0, hfz41_1⟩ := cz2 BK389; obtain ⟨Ao42, co42, eo42⟩ := Kd.V_slice HO384.out; subst eo42; have hnb43 := NB390_368.out; have hnc43 := NB368_390.out; have hnb44 := NB390_369.out; have hnc44 := NB369_390.out; have hnb45 := NB390_370.out; have hnc45 := NB370_390.out; have hnb46 := NB390_379.out; have hnc46 := NB379_390.out; have hnb47 := NB390_380.out; have hnc47 := NB380_390.out; obtain ⟨hcz48_0, hcz48_1, hfz48_0, hfz48_1⟩ := cz2 BK390; obtain ⟨Ao49, co49, eo49⟩ := Kd.R_slice HO388.out; subst eo49))
 have n0_ : Aside0 (Kd.V (Kd.int .u32) 87 ((((w34.setCell ⟨gb389, 0, none⟩ (.bool t381)).setCell ⟨gb389, 1, none⟩ (.slice Ao42 t382.length co42)).setCell ⟨gb390, 0, none⟩ (.bool t385)).setCell ⟨gb390, 1, none⟩ (.slice Ao49 t386.length co49)) w.heap.size (fun k_ => ((P0_1_ k_ ∨ P1_1_ k_) ∨ w.heap.size ≤ k_) ∧ some k_ ≠ (.slice Ao28 t376.length co28 : Value).ownBlock ∧ some k_ ≠ (.slice Ao49 t386.length co49 : Value).ownBlock ∧ k_ ≠ gb368 ∧ k_ ≠ gb369 ∧ k_ ≠ gb370 ∧ k_ ≠ gb379 ∧ k_ ≠ gb380 ∧ k_ ≠ gb389 ∧ k_ ≠ gb390) (.slice A0_1 l0_1.length c0_1) l0_1) := ⟨Vm (Vf (p := ⟨gb390, 1, none⟩) (Vf (p := ⟨gb390, 0, none⟩) (Vf (p := ⟨gb389, 1, none⟩) (Vf (p := ⟨gb389, 0, none⟩) (Vm (Vm HO0_1.out (fun k_ hk => (⟨hk, hk.1.2⟩ : _ ∧ k_ ≠ gb389))) (fun k_ hk => (⟨hk, hk.1.2⟩ : _ ∧ k_ ≠ gb390))) (fun _ hk => hk.1.2) (.bool t381)) (fun _ hk => hk.1.2) (.slice Ao42 t382.length co42)) (fun _ hk => hk.2) (.bool t385)) (fun _ hk => hk.2) (.slice Ao49 t386.length co49)) (fun _ hk => ⟨hk.1.1.1.1.1.1, ⟨hk.1.1.1.1.1.2.1, ⟨hk.1.1.1.1.2, ⟨hk.1.1.1.1.1.2.2.1, ⟨hk.1.1.1.1.1.2.2.2.1, ⟨hk.1.1.1.1.1.2.2.2.2.1, ⟨hk.1.1.1.1.1.2.2.2.2.2.1, ⟨hk.1.1.1.1.1.2.2.2.2.2.2, ⟨hk.1.1.1.2, hk.1.1.2⟩⟩⟩⟩⟩⟩⟩⟩⟩)⟩
 have n1_ : Aside0 (Kd.V (Kd.int .u32) 87 ((((w34.setCell ⟨gb389, 0, none⟩ (.bool t381)).setCell ⟨gb389, 1, none⟩ (.slice Ao42 t382.length co42)).setCell ⟨gb390, 0, none⟩ (.bool t385)).setCell ⟨gb390, 1, none⟩ (.slice Ao49 t386.length co49)) w.heap.size (fun k_ => ((P0_1_ k_ ∨ P1_1_ k_) ∨ w.heap.size ≤ k_) ∧ some k_ ≠ (.slice Ao28 t376.length co28 : Value).ownBlock ∧ some k_ ≠ (.slice Ao49 t386.length co49 : Value).ownBlock ∧ k_ ≠ gb368 ∧ k_ ≠ gb369 ∧ k_ ≠ gb370 ∧ k_ ≠ gb379 ∧ k_ ≠ gb380 ∧ k_ ≠ gb389 ∧ k_ ≠ gb390) (.slice A1_1 l1_1.length c1_1) l1_1) := ⟨Vm (Vf (p := ⟨gb390, 1, none⟩) (Vf (p := ⟨gb390, 0, none⟩) (Vf (p := ⟨gb389, 1, none⟩) (Vf (p := ⟨gb389, 0, none⟩) (Vm (Vm HO1_1.out (fun k_ hk => (⟨hk, hk.1.2⟩ : _ ∧ k_ ≠ gb389))) (fun k_ hk => (⟨hk, hk.1.2⟩ : _ ∧ k_ ≠ gb390))) (fun _ hk => hk.1.2) (.bool t381)) (fun _ hk => hk.1.2) (.slice Ao42 t382.length co42)) (fun _ hk => hk.2) (.bool t385)) (fun _ hk => hk.2) (.slice Ao49 t386.length co49)) (fun _ hk => ⟨hk.1.1.1.1.1.1, ⟨hk.1.1.1.1.1.2.1, ⟨hk.1.1.1.1.2, ⟨hk.1.1.1.1.1.2.2.1, ⟨hk.1.1.1.1.1.2.2.2.1, ⟨hk.1.1.1.1.1.2.2.2.2.1, ⟨hk.1.1.1.1.1.2.2.2.2.2.1, ⟨hk.1.1.1.1.1.2.2.2.2.2.2, ⟨hk.1.1.1.2, hk.1.1.2⟩⟩⟩⟩⟩⟩⟩⟩⟩)⟩
 have n2_ : Aside0 (Kd.V (Kd.int .u32) 87 ((((w34.setCell ⟨gb389, 0, none⟩ (.bool t381)).setCell ⟨gb389, 1, none⟩ (.slice Ao42 t382.length co42)).setCell ⟨gb390, 0, none⟩ (.bool t385)).setCell ⟨gb390, 1, none⟩ (.slice Ao49 t386.length co49)) w.heap.size (fun k_ => ((P0_1_ k_ ∨ P1_1_ k_) ∨ w.heap.size ≤ k_) ∧ some k_ ≠ (.slice Ao28 t376.length co28 : Value).ownBlock ∧ some k_ ≠ (.slice Ao49 t386.length co49 : Value).ownBlock ∧ k_ ≠ gb368 ∧ k_ ≠ gb369 ∧ k_ ≠ gb370 ∧ k_ ≠ gb379 ∧ k_ ≠ gb380 ∧ k_ ≠ gb389 ∧ k_ ≠ gb390) (.slice Ao22 t372.length co22) t372) := ⟨Vm (Vf (p := ⟨gb390, 1, none⟩) (Vf (p := ⟨gb390, 0, none⟩) (Vf (p := ⟨gb389, 1, none⟩) (Vf (p := ⟨gb389, 0, none⟩) (Vm (Vm HO374.out (fun k_ hk => (⟨hk, hk.1.2⟩ : _ ∧ k_ ≠ gb389))) (fun k_ hk => (⟨hk, hk.1.2⟩ : _ ∧ k_ ≠ gb390))) (fun _ hk => hk.1.2) (.bool t381)) (fun _ hk => hk.1.2) (.slice Ao42 t382.length co42)) (fun _ hk => hk.2) (.bool t385)) (fun _ hk => hk.2) (.slice Ao49 t386.length co49)) (fun _ hk => ⟨hk.1.1.1.1.1.1, ⟨hk.1.1.1.1.1.2.1, ⟨hk.1.1.1.1.2, ⟨hk.1.1.1.1.1.2.2.1, ⟨hk.1.1.1.1.1.2.2.2.1, ⟨hk.1.1.1.1.1.2.2.2.2.1, ⟨hk.1.1.1.1.1.2.2.2.2.2.1, ⟨hk.1.1.1.1.1.2.2.2.2.2.2, ⟨hk.1.1.1.2, hk.1.1.2⟩⟩⟩⟩⟩⟩⟩⟩⟩)⟩
 have n3_ : Aside0 (Kd.R (Kd.int .u32) 87 ((((w34.setCell ⟨gb389, 0, none⟩ (.bool t381)).setCell ⟨gb389, 1, none⟩ (.slice Ao42 t382.length co42)).setCell ⟨gb390, 0, none⟩ (.bool t385)).setCell ⟨gb390, 1, none⟩ (.slice Ao49 t386.length co49)) w.heap.size (fun k_ => (w.heap.size ≤ k_) ∧ some k_ ≠ (.slice Ao49 t386.length co49 : Value).ownBlock) (.slice Ao28 t376.length co28) t376) := ⟨Rm (Rg 1 (Rg 0 (Rf (p := ⟨gb389, 1, none⟩) (Rf (p := ⟨gb389, 0, none⟩) (Rd (Rd HO378.out BK389) BK390) (fun _ hk => hk.1.2) (.bool t381)) (fun _ hk => hk.1.2) (.slice Ao42 t382.length co42)) (.bool t385)) (.slice Ao49 t386.length co49)) (fun _ hk => ⟨hk.1.1.1, hk.1.1.2⟩)⟩
 have n4_ : Aside0 (Kd.V (Kd.int .u32) 87 ((((w34.setCell ⟨gb389, 0, none⟩ (.bool t381)).setCell ⟨gb389, 1, none⟩ (.slice Ao42 t382.length co42)).setCell ⟨gb390, 0, none⟩ (.bool t385)).setCell ⟨gb390, 1, none⟩ (.slice Ao49 t386.length co49)) w.heap.size (fun k_ => ((P0_1_ k_ ∨ P1_1_ k_) ∨ w.heap.size ≤ k_) ∧ some k_ ≠ (.slice Ao28 t376.length co28 : Value).ownBlock ∧ some k_ ≠ (.slice Ao49 t386.length co49 : Value).ownBlock ∧ k_ ≠ gb368 ∧ k_ ≠ gb369 ∧ k_ ≠ gb370 ∧ k_ ≠ gb379 ∧ k_ ≠ gb380 ∧ k_ ≠ gb389 ∧ k_ ≠ gb390) (.slice Ao42 t382.length co42) t382) := ⟨Vm (Vf (p := ⟨gb390, 1, none⟩) (Vf (p := ⟨gb390, 0, none⟩) (Vf (p := ⟨gb389, 1, none⟩) (Vf (p := ⟨gb389, 0, none⟩) (Vm (Vm HO384.out (fun k_ hk => (⟨hk, hk.1.2⟩ : _ ∧ k_ ≠ gb389))) (fun k_ hk => (⟨hk, hk.1.2⟩ : _ ∧ k_ ≠ gb390))) (fun _ hk => hk.1.2) (.bool t381)) (fun _ hk => hk.1.2) (.slice Ao42 t382.length co42)) (fun _ hk => hk.2) (.bool t385)) (fun _ hk => hk.2) (.slice Ao49 t386.length co49)) (fun _ hk => ⟨hk.1.1.1.1.1, ⟨hk.1.1.1.1.2.2.1, ⟨hk.1.1.1.1.2.1, ⟨hk.1.1.1.1.2.2.2.1, ⟨hk.1.1.1.1.2.2.2.2.1, ⟨hk.1.1.1.1.2.2.2.2.2.1, ⟨hk.1.1.1.1.2.2.2.2.2.2.1, ⟨hk.1.1.1.1.2.2.2.2.2.2.2, ⟨hk.1.1.1.2, hk.1.1.2⟩⟩⟩⟩⟩⟩⟩⟩⟩)⟩
 have n5_ : Aside0 (Kd.R (Kd.int .u32) 87 ((((w34.setCell ⟨gb389, 0, none⟩ (.bool t381)).setCell ⟨gb389, 1, none⟩ (.slice Ao42 t382.length co42)).setCell ⟨gb390, 0, none⟩ (.bool t385)).setCell ⟨gb390, 1, none⟩ (.slice Ao49 t386.length co49)) w.heap.size (fun k_ => (w.heap.size ≤ k_) ∧ some k_ ≠ (.slice Ao28 t376.length co28 : Value).ownBlock) (.slice Ao49 t386.length co49) t386) := ⟨Rm (Rg 1 (Rg 0 (Rf (p := ⟨gb389, 1, none⟩) (Rf (p := ⟨gb389, 0, none⟩) (Rd (Rd HO388.out BK389) BK390) (fun _ hk => hk.1.2) (.bool t381)) (fun _ hk => hk.1.2) (.slice Ao42 t382.length co42)) (.bool t385)) (.slice Ao49 t386.length co49)) (fun _ hk => ⟨hk.1.1.1.1, hk.1.1.2⟩)⟩
 have n6_ : Aside0 (((((w34.setCell ⟨gb389, 0, none⟩ (.bool t381)).setCell ⟨gb389, 1, none⟩ (.slice Ao42 t382.length co42)).setCell ⟨gb390, 0, none⟩ (.bool t385)).setCell ⟨gb390, 1, none⟩ (.slice Ao49 t386.length co49)).heap[gb368]? = some (.cells #[.bool a0_0, .slice A0_1 l0_1.length c0_1, .slice A0_2 l0_2.length c0_2] 29 (0, 0))) := ⟨by refine blk_far ?_ NB368_390.out _; refine blk_far ?_ NB368_390.out _; refine blk_far ?_ NB368_389.out _; refine blk_far ?_ NB368_389.out _; exact BK368.out⟩
 have n7_ : Aside0 (((((w34.setCell ⟨gb389, 0, none⟩ (.bool t381)).setCell ⟨gb389, 1, none⟩ (.slice Ao42 t382.length co42)).setCell ⟨gb390, 0, none⟩ (.bool t385)).setCell ⟨gb390, 1, none⟩ (.slice Ao49 t386.length co49)).heap[gb369]? = some (.cells #[.bool a1_0, .slice A1_1 l1_1.length c1_1, .slice A1_2 l1_2.length c1_2] 29 (0, 0))) := ⟨by refine blk_far ?_ NB369_390.out _; refine blk_far ?_ NB369_390.out _; refine blk_far ?_ NB369_389.out _; refine blk_far ?_ NB369_389.out _; exact BK369.out⟩
 have n8_ : Aside0 (((((w34.setCell ⟨gb389, 0, none⟩ (.bool t381)).setCell ⟨gb389, 1, none⟩ (.slice Ao42 t382.length co42)).setCell ⟨gb390, 0, none⟩ (.bool t385)).setCell ⟨gb390, 1, none⟩ (.slice Ao49 t386.length co49)).heap[gb370]? = some (.cells #[.bool false, .slice none 0 0, .slice none 0 0] 29 (0, 0))) := ⟨by refine blk_far ?_ NB370_390.out _; refine blk_far ?_ NB370_390.out _; refine blk_far ?_ NB370_389.out _; refine blk_far ?_ NB370_389.out _; exact BK370.out⟩
 have n9_ : Aside0 (((((w34.setCell ⟨gb389, 0, none⟩ (.bool t381)).setCell ⟨gb389, 1, none⟩ (.slice Ao42 t382.length co42)).setCell ⟨gb390, 0, none⟩ (.bool t385)).setCell ⟨gb390, 1, none⟩ (.slice Ao49 t386.length co49)).heap[gb379]? = some (.cells #[.bool t371, .slice Ao22 t372.length co22] 27 (0, 0))) := ⟨by refine blk_far ?_ NB379_390.out _; refine blk_far ?_ NB379_390.out _; refine blk_far ?_ NB379_389.out _; refine blk_far ?_ NB379_389.out _; exact BK379.out⟩
 have n10_ : Aside0 (((((w34.setCell ⟨gb389, 0, none⟩ (.bool t381)).setCell ⟨gb389, 1, none⟩ (.slice Ao42 t382.length co42)).setCell ⟨gb390, 0, none⟩ (.bool t385)).setCell ⟨gb390, 1, none⟩ (.slice Ao49 t386.length co49)).heap[gb380]? = some (.cells #[.bool t375, .slice Ao28 t376.length co28] 27 (0, 0))) := ⟨by refine blk_far ?_ NB380_390.out _; refine blk_far ?_ NB380_390.out _; refine blk_far ?_ NB380_389.out _; refine blk_far ?_ NB380_389.out _; exact BK380.out⟩
 have n11_ : Aside0 (((((w34.setCell ⟨gb389, 0, none⟩ (.bool t381)).setCell ⟨gb389, 1, none⟩ (.slice Ao42 t382.length co42)).setCell ⟨gb390, 0, none⟩ (.bool t385)).setCell ⟨gb390, 1, none⟩ (.slice Ao49 t386.length co49)).heap[gb389]? = some (.cells #[.bool t381, .slice Ao42 t382.length co42] 27 (0, 0))) := ⟨by refine blk_far ?_ NB389_390.out _; refine blk_far ?_ NB389_390.out _; refine blk_put (cs := #[.bool t381, .slice none 0 0]) ?_ 1 _ rfl; refine blk_put (cs := #[.bool false, .slice none 0 0]) ?_ 0 _ rfl; exact BK389.out⟩
 have n12_ : Aside0 (((((w34.setCell ⟨gb389, 0, none⟩ (.bool t381)).setCell ⟨gb389, 1, none⟩ (.slice Ao42 t382.length co42)).setCell ⟨gb390, 0, none⟩ (.bool t385)).setCell ⟨gb390, 1, none⟩ (.slice Ao49 t386.length co49)).heap[gb390]? = some (.cells #[.bool t385, .slice Ao49 t386.length co49] 27 (0, 0))) := ⟨by refine blk_put (cs := #[.bool t385, .slice none 0 0]) ?_ 1 _ rfl; refine blk_put (cs := #[.bool false, .slice none 0 0]) ?_ 0 _ rfl; refine blk_far ?_ NB390_389.out _; refine blk_far ?_ NB390_389.out _; exact BK390.out⟩
 have n13_ : Aside0 (Below w.heap.size w ((((w34.setCell ⟨gb389, 0, none⟩ (.bool t381)).setCell ⟨gb389, 1, none⟩ (.slice Ao42 t382.length co42)).setCell ⟨gb390, 0, none⟩ (.bool t385)).setCell ⟨gb390, 1, none⟩ (.slice Ao49 t386.length co49))) := ⟨by repeat (first | exact HB.out | apply bN | apply b1 | apply bA | refine bS ?_ GE368.out | refine bS ?_ GE369.out | refine bS ?_ GE370.out | refine bS ?_ GE379.out | refine bS ?_ GE380.out | refine bS ?_ GE389.out | refine bS ?_ GE390.out)⟩
 (try clear HO0_1)
 (try clear HO1_1)
 (try clear HO374)
 (try clear HO378)
 (try clear HO384)
 (try clear HO388)
 (try clear BK368)
 (try clear BK369)
 (try clear BK370)
 (try clear BK379)
 (try clear BK380)
 (try clear BK389)
 (try clear BK390)
 (try clear HB)
 generalize ((((w34.setCell ⟨gb389, 0, none⟩ (.bool t381)).setCell ⟨gb389, 1, none⟩ (.slice Ao42 t382.length co42)).setCell ⟨gb390, 0, none⟩ (.bool t385)).setCell ⟨gb390, 1, none⟩ (.slice Ao49 t386.length co49)) = w50 at n0_ n1_ n2_ n3_ n4_ n5_ n6_ n7_ n8_ n9_ n10_ n11_ n12_ n13_ ⊢
 have HO0_1 := n0_
 have HO1_1 := n1_
 have HO374 := n2_
 have HO378 := n3_
 have HO384 := n4_
 have HO388 := n5_
 have BK368 := n6_
 have BK369 := n7_
 have BK370 := n8_
 have BK379 := n9_
 have BK380 := n10_
 have BK389 := n11_
 have BK390 := n12_
 have HB := n13_
 clear n0_ n1_ n2_ n3_ n4_ n5_ n6_ n7_ n8_ n9_ n10_ n11_ n12_ n13_
 replace HO0_1 := mk0 (Kd.V_drew HO0_1.out)
 replace HO1_1 := mk0 (Kd.V_drew HO1_1.out)
 replace HO374 := mk0 (Kd.V_drew HO374.out)
 replace HO378 := mk0 (Kd.R_drew HO378.out)
 replace HO384 := mk0 (Kd.V_drew HO384.out)
 replace HO388 := mk0 (Kd.R_drew HO388.out)
 replace BK368 := mk0 (blk_drew BK368.out)
 replace BK369 := mk0 (blk_drew BK369.out)
 replace BK370 := mk0 (blk_drew BK370.out)
 replace BK379 := mk0 (blk_drew BK379.out)
 replace BK380 := mk0 (blk_drew BK380.out)
 replace BK389 := mk0 (blk_drew BK389.out)
 replace BK390 := mk0 (blk_drew BK390.out)
 replace HB := mk0 (b1 HB.out)
 refine start_ (n := 10) (S := fun w' => w'.cell? ⟨gb379, 0, none⟩ = some (.bool t371) ∧ w'.cell? ⟨gb379, 1, none⟩ = some (.slice Ao22 t372.length co22) ∧ w'.cell? ⟨gb389, 0, none⟩ = some (.bool t381) ∧ w'.cell? ⟨gb389, 1, none⟩ = some (.slice Ao42 t382.length co42) ∧ w'.cell? ⟨gb380, 0, none⟩ = some (.bool t375) ∧ w'.cell? ⟨gb380, 1, none⟩ = some (.slice Ao28 t376.length co28) ∧ w'.cell? ⟨gb390, 0, none⟩ = some (.bool t385) ∧ w'.cell? ⟨gb390, 1, none⟩ = some (.slice Ao49 t386.length co49)) (ds := []) (bv 10 0) (by kernel_rfl) rfl rfl ⟨(blk_cell BK379.out 0).trans rfl, (blk_cell BK379.out 1).trans rfl, (blk_cell BK389.out 0).trans rfl, (blk_cell BK389.out 1).trans rfl, (blk_cell BK380.out 0).trans rfl, (blk_cell BK380.out 1).trans rfl, (blk_cell BK390.out 0).trans rfl, (blk_cell BK390.out 1).trans rfl⟩ (fun hHeld => ?_); refine with_tabW ratio_Mul.tab3 ratio_Mul.bits3 (fun HT_ HW_ => ?_)
 generalize w50.drew = w51 at HO0_1 HO1_1 HO374 HO378 HO384 HO388 BK368 BK369 BK370 BK379 BK380 BK389 BK390 HB hHeld ⊢
 refine puA (i := 3) (N := 22) (v := ?_) (a' := ?_) (bv 10 8) HT_ ?_ ?_ ?_; rotate_left; (intro w'; go_simp; with_reducible rfl); rotate_left; (simp only [Act.put, sA, sZ, sS, i64_w, i32_w]; rfl)
 refine puA (i := 5) (N := 24) (v := ?_) (a' := ?_) (bv 10 40) HT_ ?_ ?_ ?_; rotate_left; (intro w'; go_simp; with_reducible rfl); rotate_left; (simp only [Act.put, sA, sZ, sS, i64_w, i32_w]; rfl)
 refine take_ (i := 0) (N := some 19) (v := ?_) (a' := ?_) (bv 10 41) rfl rfl (take_ofW HT_.out HW_.out (by kernel_rfl)) (fun _ _ _ h => h) (Or.inl ⟨by rfl, ?_⟩) hHeld ?_ ?_; rotate_left; (rintro w' ⟨s0, s1, s2, s3, s4, s5, s6, s7⟩; go_simp; with_reducible rfl); rotate_left; (simp only [Act.put, sA, sZ, sS, i64_w, i32_w]; rfl)
 refine take_ (i := 1) (N := some 20) (v := ?_) (a' := ?_) (bv 10 43) rfl rfl (take_ofW HT_.out HW_.out (by kernel_rfl)) (fun _ _ _ h => h) (Or.inl ⟨by rfl, ?_⟩) hHeld ?_ ?_; rotate_left; (rintro w' ⟨s0, s1, s2, s3, s4, s5, s6, s7⟩; go_simp; with_reducible rfl); rotate_left; (simp only [Act.put, sA, sZ, sS, i64_w, i32_w]; rfl)
 refine take_ (i := 4) (N := some 23) (v := ?_) (a' := ?_) (bv 10 59) rfl rfl (take_ofW HT_.out HW_.out (by kernel_rfl)) (fun _ _ _ h => h) (Or.inl ⟨by rfl, ?_⟩) hHeld ?_ ?_; rotate_left; (rintro w' ⟨s0, s1, s2, s3, s4, s5, s6, s7⟩; go_simp; with_reducible rfl); rotate_left; (simp only [Act.put, sA, sZ, sS, i64_w, i32_w]; rfl)
 refine take_ (i := 6) (N := some 25) (v := ?_) (a' := ?_) (bv 10 123) rfl rfl (take_ofW HT_.out HW_.out (by kernel_rfl)) (fun _ _ _ h => h) (Or.inl ⟨by rfl, ?_⟩) hHeld ?_ ?_; rotate_left; (rintro w' ⟨s0, s1, s2, s3, s4, s5, s6, s7⟩; go_simp; with_reducible rfl); rotate_left; (simp only [Act.put, sA, sZ, sS, i64_w, i32_w]; rfl)
 refine one_ (i := 2) (N := some 21) (bv 10 127) rfl rfl (one_of HT_.out (by kernel_rfl)) (by decide) (fun K hK => ?_)
 refine goes_ Try.func52 (by kernel_rfl) rfl #[.agg #[.bool t371, .slice Ao22 t372.length co22], .agg #[.bool t381, .slice Ao42 t382.length co42]] (by rfl) rfl rfl (by go_simp <;> rfl) ?_
 with_reducible refine (integer_Mul.calls k t371 _ _ t372 t381 _ _ t382 t391 t392 _ ?side1 ?side2 ?side3 ?side4 A5.out).mono ?_
 (case side1 => exact (Kd.V_reads' HO374.out).2.2)
 (case side2 => exact (Kd.V_reads' HO374.out).2.1)
 (case side3 => exact (Kd.V_reads' HO384.out).2.2)
 (case side4 => exact (Kd.V_reads' HO384.out).2.1)
 rintro e w52 ⟨v393, rfl, ho0, hb⟩
 refine ⟨_, rfl, ?_⟩
 replace HO0_1 := mk0 (Kd.V_elder' HO0_1.out (Rs ho0) hb)
 replace HO1_1 := mk0 (Kd.V_elder' HO1_1.out (Rs ho0) hb)
 replace HO374 := mk0 (Kd.V_elder' HO374.out (Rs ho0) hb)
 replace HO384 := mk0 (Kd.V_elder' HO384.out (Rs ho0) hb)
 have HO394 := mk0 (Rl (Rn (Rn (Kd.R_newM (M := fun k_ => (w.heap.size ≤ k_)) ho0 (bZ HB.out) (fun k_ h_ => h_)) (Rq HO378.out)) (Rq HO388.out)) (bZ HB.out))
 replace HO378 := mk0 (Re HO378.out (Rs ho0) hb)
 replace HO388 := mk0 (Re HO388.out (Rs ho0) hb)
 replace BK368 := bkB BK368 hb
 replace BK369 := bkB BK369 hb
 replace BK370 := bkB BK370 hb
 replace BK379 := bkB BK379 hb
 replace BK380 := bkB BK380 hb
 replace BK389 := bkB BK389 hb
 replace BK390 := bkB BK390 hb
 replace HB := mk0 (below_step HB.out hb)
 refine hK.out _ _ ⟨(blk_cell BK379.out 0).trans rfl, (blk_cell BK379.out 1).trans rfl, (blk_cell BK389.out 0).trans rfl, (blk_cell BK389.out 1).trans rfl, (blk_cell BK380.out 0).trans rfl, (blk_cell BK380.out 1).trans rfl, (blk_cell BK390.out 0).trans rfl, (blk_cell BK390.out 1).trans rfl⟩ (fun hHeld => ?_)
 clear hK K
 refine norm_ (a' := ?_) ?_ ?_
 rotate_left
 ·show Act.put _ (some 21) _ = _
  simp only [Act.put, sA, sZ, sS, i64_w, i32_w]
  rfl
 refine one_ (i := 7) (N := some 26) (bv 10 255) rfl rfl (one_of HT_.out (by kernel_rfl)) (by decide) (fun K hK => ?_)
 refine goes_ Try.func54 (by kernel_rfl) rfl #[.slice Ao28 t376.length co28, .slice Ao49 t386.length co49] (by rfl) rfl rfl (by go_simp <;> rfl) ?_
 with_reducible refine (nat_Mul.calls k (fun k_ => some k_ = (.slice Ao28 t376.length co28 : Value).ownBlock) _ _ t376 (fun k_ => some k_ = (.slice Ao49 t386.length co49 : Value).ownBlock) _ _ t386 t395 _ ?side1 ?side2 A6.out).mono ?_
 (case side1 => exact Kd.R_V (Kd.R_tight rfl (Rt (Rt (Rd (Rd (Rd (Rd (Rd (HO378.out) BK368) BK369) BK370) BK379) BK380) BK389.out (by decide)) BK390.out (by decide))))
 (case side2 => exact Kd.R_V (Kd.R_tight rfl (Rt (Rt (Rd (Rd (Rd (Rd (Rd (HO388.out) BK368) BK369) BK370) BK379) BK380) BK389.out (by decide)) BK390.out (by decide))))
 rintro e w53 ⟨v396, rfl, ho0, hb⟩
 refine ⟨_, rfl, ?_⟩
 replace HO0_1 := mk0 (Kd.V_below HO0_1.out hb)
 replace HO1_1 := mk0 (Kd.V_below HO1_1.out hb)
 replace HO374 := mk0 (Kd.V_below HO374.out hb)
 replace HO384 := mk0 (Kd.V_below HO384.out hb)
 have HO397 := mk0 (Vl (Vm (ok' := fun k_ => ((P0_1_ k_ ∨ P1_1_ k_) ∨ w.heap.size ≤ k_) ∧ some k_ ≠ (v393 : Value).ownBlock ∧ k_ ≠ gb368 ∧ k_ ≠ gb369 ∧ k_ ≠ gb370 ∧ k_ ≠ gb379 ∧ k_ ≠ gb380 ∧ k_ ≠ gb389 ∧ k_ ≠ gb390) ho0 (fun k_ hk_ => ⟨Or.elim hk_ (fun hs_ => Or.elim hs_ (fun hs_ => (.inr (((Rt (Rt (Rd (Rd (Rd (Rd (Rd (HO378.out) BK368) BK369) BK370) BK379) BK380) BK389.out (by decide)) BK390.out (by decide)).1 k_ hs_.symm).1.1.1.1.1.1.1.1.1))) (fun hs_ => (.inr (((Rt (Rt (Rd (Rd (Rd (Rd (Rd (HO388.out) BK368) BK369) BK370) BK379) BK380) BK389.out (by decide)) BK390.out (by decide)).1 k_ hs_.symm).1.1.1.1.1.1.1.1.1)))) (fun hn_ => (.inr (Nat.le_trans (bZ HB.out) hn_))), Or.elim hk_ (fun hs_ => Or.elim hs_ (fun hs_ => ((Rt (Rt (Rd (Rd (Rd (Rd (Rd (HO378.out) BK368) BK369) BK370) BK379) BK380) BK389.out (by decide)) BK390.out (by decide)).1 k_ hs_.symm).1.1.1.1.1.1.1.2) (fun hs_ => ((Rt (Rt (Rd (Rd (Rd (Rd (Rd (HO388.out) BK368) BK369) BK370) BK379) BK380) BK389.out (by decide)) BK390.out (by decide)).1 k_ hs_.symm).1.1.1.1.1.1.1.2)) (fun hn_ => (Kd.fresh' (Rq HO394.out) k_ hn_)), Or.elim hk_ (fun hs_ => Or.elim hs_ (fun hs_ => ((Rt (Rt (Rd (Rd (Rd (Rd (Rd (HO378.out) BK368) BK369) BK370) BK379) BK380) BK389.out (by decide)) BK390.out (by decide)).1 k_ hs_.symm).1.1.1.1.1.1.2) (fun hs_ => ((Rt (Rt (Rd (Rd (Rd (Rd (Rd (HO388.out) BK368) BK369) BK370) BK379) BK380) BK389.out (by decide)) BK390.out (by decide)).1 k_ hs_.symm).1.1.1.1.1.1.2)) (fun hn_ => (Kd.freshB BK368.out k_ hn_)), Or.elim hk_ (fun hs_ => Or.elim hs_ (fun hs_ => ((Rt (Rt (Rd (Rd (Rd (Rd (Rd (HO378.out) BK368) BK369) BK370) BK379) BK380) BK389.out (by decide)) BK390.out (by decide)).1 k_ hs_.symm).1.1.1.1.1.2) (fun hs_ => ((Rt (Rt (Rd (Rd (Rd (Rd (Rd (HO388.out) BK368) BK369) BK370) BK379) BK380) BK389.out (by decide)) BK390.out (by decide)).1 k_ hs_.symm).1.1.1.1.1.2)) (fun hn_ => (Kd.freshB BK369.out k_ hn_)), Or.elim hk_ (fun hs_ => Or.elim hs_ (fun hs_ => ((Rt (Rt (Rd (Rd (Rd (Rd (Rd (HO378.out) BK368) BK369) BK370) BK379) BK380) BK389.out (by decide)) BK390.out (by decide)).1 k_ hs_.symm).1.1.1.1.2) (fun hs_ => ((Rt (Rt (Rd (Rd (Rd (Rd (Rd (HO388.out) BK368) BK369) BK370) BK379) BK380) BK389.out (by decide)) BK390.out (by decide)).1 k_ hs_.symm).1.1.1.1.2)) (fun hn_ => (Kd.freshB BK370.out k_ hn_)), Or.elim hk_ (fun hs_ => Or.elim hs_ (fun hs_ => ((Rt (Rt (Rd (Rd (Rd (Rd (Rd (HO378.out) BK368) BK369) BK370) BK379) BK380) BK389.out (by decide)) BK390.out (by decide)).1 k_ hs_.symm).1.1.1.2) (fun hs_ => ((Rt (Rt (Rd (Rd (Rd (Rd (Rd (HO388.out) BK368) BK369) BK370) BK379) BK380) BK389.out (by decide)) BK390.out (by decide)).1 k_ hs_.symm).1.1.1.2)) (fun hn_ => (Kd.freshB BK379.out k_ hn_)), Or.elim hk_ (fun hs_ => Or.elim hs_ (fun hs_ => ((Rt (Rt (Rd (Rd (Rd (Rd (Rd (HO378.out) BK368) BK369) BK370) BK379) BK380) BK389.out (by decide)) BK390.out (by decide)).1 k_ hs_.symm).1.1.2) (fun hs_ => ((Rt (Rt (Rd (Rd (Rd (Rd (Rd (HO388.out) BK368) BK369) BK370) BK379) BK380) BK389.out (by decide)) BK390.out (by decide)).1 k_ hs_.symm).1.1.2)) (fun hn_ => (Kd.freshB BK380.out k_ hn_)), Or.elim hk_ (fun hs_ => Or.elim hs_ (fun hs_ => ((Rt (Rt (Rd (Rd (Rd (Rd (Rd (HO378.out) BK368) BK369) BK370) BK379) BK380) BK389.out (by decide)) BK390.out (by decide)).1 k_ hs_.symm).1.2) (fun hs_ => ((Rt (Rt (Rd (Rd (Rd (Rd (Rd (HO388.out) BK368) BK369) BK370) BK379) BK380) BK389.out (by decide)) BK390.out (by decide)).1 k_ hs_.symm).1.2)) (fun hn_ => (Kd.freshB BK389.out k_ hn_)), Or.elim hk_ (fun hs_ => Or.elim hs_ (fun hs_ => ((Rt (Rt (Rd (Rd (Rd (Rd (Rd (HO378.out) BK368) BK369) BK370) BK379) BK380) BK389.out (by decide)) BK390.out (by decide)).1 k_ hs_.symm).2) (fun hs_ => ((Rt (Rt (Rd (Rd (Rd (Rd (Rd (HO388.out) BK368) BK369) BK370) BK379) BK380) BK389.out (by decide)) BK390.out (by decide)).1 k_ hs_.symm).2)) (fun hn_ => (Kd.freshB BK390.out k_ hn_))⟩)) (bZ HB.out))
 replace HO378 := rB HO378 hb
 replace HO388 := rB HO388 hb
 replace HO394 := rB HO394 hb
 replace BK368 := bkB BK368 hb
 replace BK369 := bkB BK369 hb
 replace BK370 := bkB BK370 hb
 replace BK379 := bkB BK379 hb
 replace BK380 := bkB BK380 hb
 replace BK389 := bkB BK389 hb
 replace BK390 := bkB BK390 hb
 replace HB := mk0 (below_step HB.out hb)
 obtain ⟨Ao54, co54, eo54⟩ := Kd.R_slice HO394.out
 (first | subst eo54 | (injection eo54 with f1_ f2_ f3_; have f4_ := f1_.symm; have f5_ := f3_.symm; clear f1_ f2_ f3_; subst f4_; subst f5_))
 obtain ⟨Ao55, co55, eo55⟩ := Kd.V_slice HO397.out
 (first | subst eo55 | (injection eo55 with f1_ f2_ f3_; have f4_ := f1_.symm; have f5_ := f3_.symm; clear f1_ f2_ f3_; subst f4_; subst f5_))
 refine hK.out _ _ ⟨(blk_cell BK379.out 0).trans rfl, (blk_cell BK379.out 1).trans rfl, (blk_cell BK389.out 0).trans rfl, (blk_cell BK389.out 1).trans rfl, (blk_cell BK380.out 0).trans rfl, (blk_cell BK380.out 1).trans rfl, (blk_cell BK390.out 0).trans rfl, (blk_cell BK390.out 1).trans rfl⟩ (fun hHeld => ?_)
 clear hK K
 refine norm_ (a' := ?_) ?_ ?_
 rotate_left
 ·show Act.put _ (some 26) _ = _
  simp only [Act.put, sA, sZ, sS, i64_w, i32_w]
  rfl
 refine one_ (i := 8) (N := some 27) (bv 10 511) rfl rfl (one_of HT_.out (by kernel_rfl)) (by decide) (fun K hK => ?_)
 refine goes_ Try.func53 (by kernel_rfl) rfl #[.agg #[.bool t391, .slice Ao54 t392.length co54], .slice Ao55 t395.length co55] (by rfl) rfl rfl (by go_simp <;> rfl) ?_
 with_reducible refine (ratio_lowest.calls k t391 (fun k_ => some k_ = (.slice Ao54 t392.length co54 : Value).ownBlock) _ _ t392 (fun k_ => (((P0_1_ k_ ∨ P1_1_ k_) ∨ w.heap.size ≤ k_) ∧ (some k_ ≠ (.slice Ao54 t392.length co54 : Value).ownBlock ∧ (k_ ≠ gb368 ∧ (k_ ≠ gb369 ∧ (k_ ≠ gb370 ∧ (k_ ≠ gb379 ∧ (k_ ≠ gb380 ∧ (k_ ≠ gb389 ∧ k_ ≠ gb390))))))))) _ _ t395 t398 t399 t402 _ ?side1 ?side2 A7.out).mono ?_
 (case side1 => exact Kd.R_V (Kd.R_tight rfl (Rt (Rt (Rd (Rd (Rd (Rd (Rd (HO394.out) BK368) BK369) BK370) BK379) BK380) BK389.out (by decide)) BK390.out (by decide))))
 (case side2 => exact HO397.out)
 rintro e w56 ⟨v400, v403, rfl, ho0, ho1, hb⟩
 refine ⟨_, rfl, ?_⟩
 replace HO0_1 := mk0 (Kd.V_elder' HO0_1.out (Rs ho0) hb)
 replace HO1_1 := mk0 (Kd.V_elder' HO1_1.out (Rs ho0) hb)
 replace HO374 := mk0 (Kd.V_elder' HO374.out (Rs ho0) hb)
 replace HO384 := mk0 (Kd.V_elder' HO384.out (Rs ho0) hb)
 replace HO397 := mk0 (Kd.V_elder' HO397.out (Rs ho0) hb)
 have HO401 := mk0 (Rl (Rn (Rn (Rn (Kd.R_newM (M := fun k_ => (w.heap.size ≤ k_)) (Rm (ok' := fun k_ => True) ho0 tv) (bZ HB.out) (fun k_ h_ => h_)) (Rq HO378.out)) (Rq HO388.out)) (Rq HO394.out)) (bZ HB.out))
 replace HO378 := mk0 (Re HO378.out (Rs ho0) hb)
 replace HO388 := mk0 (Re HO388.out (Rs ho0) hb)
 have HO404 := mk0 (Vl (Vm (ok' := fun k_ => ((P0_1_ k_ ∨ P1_1_ k_) ∨ w.heap.size ≤ k_) ∧ some k_ ≠ (v400 : Value).ownBlock ∧ k_ ≠ gb368 ∧ k_ ≠ gb369 ∧ k_ ≠ gb370 ∧ k_ ≠ gb379 ∧ k_ ≠ gb380 ∧ k_ ≠ gb389 ∧ k_ ≠ gb390) ho1 (fun k_ hk_ => ⟨Or.elim hk_.1 (fun hs_ => Or.elim hs_ (fun hs_ => (.inr (((Rt (Rt (Rd (Rd (Rd (Rd (Rd (HO394.out) BK368) BK369) BK370) BK379) BK380) BK389.out (by decide)) BK390.out (by decide)).1 k_ hs_.symm).1.1.1.1.1.1.1.1.1.1))) (fun hs_ => hs_.1)) (fun hn_ => (.inr (Nat.le_trans (bZ HB.out) hn_))), hk_.2, Or.elim hk_.1 (fun hs_ => Or.elim hs_ (fun hs_ => ((Rt (Rt (Rd (Rd (Rd (Rd (Rd (HO394.out) BK368) BK369) BK370) BK379) BK380) BK389.out (by decide)) BK390.out (by decide)).1 k_ hs_.symm).1.1.1.1.1.1.2) (fun hs_ => hs_.2.2.1)) (fun hn_ => (Kd.freshB BK368.out k_ hn_)), Or.elim hk_.1 (fun hs_ => Or.elim hs_ (fun hs_ => ((Rt (Rt (Rd (Rd (Rd (Rd (Rd (HO394.out) BK368) BK369) BK370) BK379) BK380) BK389.out (by decide)) BK390.out (by decide)).1 k_ hs_.symm).1.1.1.1.1.2) (fun hs_ => hs_.2.2.2.1)) (fun hn_ => (Kd.freshB BK369.out k_ hn_)), Or.elim hk_.1 (fun hs_ => Or.elim hs_ (fun hs_ => ((Rt (Rt (Rd (Rd (Rd (Rd (Rd (HO394.out) BK368) BK369) BK370) BK379) BK380) BK389.out (by decide)) BK390.out (by decide)).1 k_ hs_.symm).1.1.1.1.2) (fun hs_ => hs_.2.2.2.2.1)) (fun hn_ => (Kd.freshB BK370.out k_ hn_)), Or.elim hk_.1 (fun hs_ => Or.elim hs_ (fun hs_ => ((Rt (Rt (Rd (Rd (Rd (Rd (Rd (HO394.out) BK368) BK369) BK370) BK379) BK380) BK389.out (by decide)) BK390.out (by decide)).1 k_ hs_.symm).1.1.1.2) (fun hs_ => hs_.2.2.2.2.2.1)) (fun hn_ => (Kd.freshB BK379.out k_ hn_)), Or.elim hk_.1 (fun hs_ => Or.elim hs_ (fun hs_ => ((Rt (Rt (Rd (Rd (Rd (Rd (Rd (HO394.out) BK368) BK369) BK370) BK379) BK380) BK389.out (by decide)) BK390.out (by decide)).1 k_ hs_.symm).1.1.2) (fun hs_ => hs_.2.2.2.2.2.2.1)) (fun hn_ => (Kd.freshB BK380.out k_ hn_)), Or.elim hk_.1 (fun hs_ => Or.elim hs_ (fun hs_ => ((Rt (Rt (Rd (Rd (Rd (Rd (Rd (HO394.out) BK368) BK369) BK370) BK379) BK380) BK389.out (by decide)) BK390.out (by decide)).1 k_ hs_.symm).1.2) (fun hs_ => hs_.2.2.2.2.2.2.2.1)) (fun hn_ => (Kd.freshB BK389.out k_ hn_)), Or.elim hk_.1 (fun hs_ => Or.elim hs_ (fun hs_ => ((Rt (Rt (Rd (Rd (Rd (Rd (Rd (HO394.out) BK368) BK369) BK370) BK379) BK380) BK389.out (by decide)) BK390.out (by decide)).1 k_ hs_.symm).2) (fun hs_ => hs_.2.2.2.2.2.2.2.2)) (fun hn_ => (Kd.freshB BK390.out k_ hn_))⟩)) (bZ HB.out))
 replace HO394 := mk0 (Re HO394.out (Rs ho0) hb)
 replace BK368 := bkB BK368 hb
 replace BK369 := bkB BK369 hb
 replace BK370 := bkB BK370 hb
 replace BK379 := bkB BK379 hb
 replace BK380 := bkB BK380 hb
 replace BK389 := bkB BK389 hb
 replace BK390 := bkB BK390 hb
 replace HB := mk0 (below_step HB.out hb)
 obtain ⟨Ao58, co58, eo58⟩ := Kd.R_slice HO401.out
 (first | subst eo58 | (injection eo58 with f1_ f2_ f3_; have f4_ := f1_.symm; have f5_ := f3_.symm; clear f1_ f2_ f3_; subst f4_; subst f5_))
 obtain ⟨Ao60, co60, eo60⟩ := Kd.V_slice HO404.out
 (first | subst eo60 | (injection eo60 with f1_ f2_ f3_; have f4_ := f1_.symm; have f5_ := f3_.symm; clear f1_ f2_ f3_; subst f4_; subst f5_))
 refine hK.out _ _ ⟨(blk_cell BK379.out 0).trans rfl, (blk_cell BK379.out 1).trans rfl, (blk_cell BK389.out 0).trans rfl, (blk_cell BK389.out 1).trans rfl, (blk_cell BK380.out 0).trans rfl, (blk_cell BK380.out 1).trans rfl, (blk_cell BK390.out 0).trans rfl, (blk_cell BK390.out 1).trans rfl⟩ (fun hHeld => ?_)
 clear hK K
 refine norm_ (a' := ?_) ?_ ?_
 rotate_left
 ·show Act.put _ (some 27) _ = _
  simp only [Act.put, sA, sZ, sS, i64_w, i32_w]
  rfl
 refine one_ (i := 9) (N := none) (bv 10 1023) rfl rfl (one_of HT_.out (by kernel_rfl)) (by decide) (fun K hK => ?_)
 have hs57 : w56.cell? ⟨gb370, 0, none⟩ = some (.bool false) := (blk_cell BK370.out 0).trans rfl
 have hfs57 := blk_frozen BK370.out 0
 have hns57_0 := NB368_370.out
 have hns57_1 := NB369_370.out
 have hns57_3 := NB379_370.out
 have hns57_4 := NB380_370.out
 have hns57_5 := NB389_370.out
 have hns57_6 := NB390_370.out
 have hms57_0 := NB370_368.out
 have hms57_1 := NB370_369.out
 have hms57_3 := NB370_379.out
 have hms57_4 := NB370_380.out
 have hms57_5 := NB370_389.out
 have hms57_6 := NB370_390.out
 have hs59 : w56.cell? ⟨gb370, 1, none⟩ = some (.slice none 0 0) := (blk_cell BK370.out 1).trans rfl
 have hfs59 := blk_frozen BK370.out 1
 have hns59_0 := NB368_370.out
 have hns59_1 := NB369_370.out
 have hns59_3 := NB379_370.out
 have hns59_4 := NB380_370.out
 have hns59_5 := NB389_370.out
 have hns59_6 := NB390_370.out
 have hms59_0 := NB370_368.out
 have hms59_1 := NB370_369.out
 have hms59_3 := NB370_379.out
 have hms59_4 := NB370_380.out
 have hms59_5 := NB370_389.out
 have hms59_6 := NB370_390.out
 have hs61 : w56.cell? ⟨gb370, 2, none⟩ = some (.slice none 0 0) := (blk_cell BK370.out 2).trans rfl
 have hfs61 := blk_frozen BK370.out 2
 have hns61_0 := NB368_370.out
 have hns61_1 := NB369_370.out
 have hns61_3 := NB379_370.out
 have hns61_4 := NB380_370.out
 have hns61_5 := NB389_370.out
 have hns61_6 := NB390_370.out
 have hms61_0 := NB370_368.out
 have hms61_1 := NB370_369.out
 have hms61_3 := NB370_379.out
 have hms61_4 := NB370_380.out
 have hms61_5 := NB370_389.out
 have hms61_6 := NB370_390.out
 refine skip_ (w1 := ?_) (by rfl) rfl ?_ ?_
 rotate_left
 ·go_simp
  rfl
 refine hK.out _ _ ⟨((cell_far (p := ⟨gb370, _, none⟩) NB379_370.out _).trans (((cell_far (p := ⟨gb370, _, none⟩) NB379_370.out _).trans (((cell_far (p := ⟨gb370, _, none⟩) NB379_370.out _).trans (hHeld.1)))))), ((cell_far (p := ⟨gb370, _, none⟩) NB379_370.out _).trans (((cell_far (p := ⟨gb370, _, none⟩) NB379_370.out _).trans (((cell_far (p := ⟨gb370, _, none⟩) NB379_370.out _).trans (hHeld.2.1)))))), ((cell_far (p := ⟨gb370, _, none⟩) NB389_370.out _).trans (((cell_far (p := ⟨gb370, _, none⟩) NB389_370.out _).trans (((cell_far (p := ⟨gb370, _, none⟩) NB389_370.out _).trans (hHeld.2.2.1)))))), ((cell_far (p := ⟨gb370, _, none⟩) NB389_370.out _).trans (((cell_far (p := ⟨gb370, _, none⟩) NB389_370.out _).trans (((cell_far (p := ⟨gb370, _, none⟩) NB389_370.out _).trans (hHeld.2.2.2.1)))))), ((cell_far (p := ⟨gb370, _, none⟩) NB380_370.out _).trans (((cell_far (p := ⟨gb370, _, none⟩) NB380_370.out _).trans (((cell_far (p := ⟨gb370, _, none⟩) NB380_370.out _).trans (hHeld.2.2.2.2.1)))))), ((cell_far (p := ⟨gb370, _, none⟩) NB380_370.out _).trans (((cell_far (p := ⟨gb370, _, none⟩) NB380_370.out _).trans (((cell_far (p := ⟨gb370, _, none⟩) NB380_370.out _).trans (hHeld.2.2.2.2.2.1)))))), ((cell_far (p := ⟨gb370, _, none⟩) NB390_370.out _).trans (((cell_far (p := ⟨gb370, _, none⟩) NB390_370.out _).trans (((cell_far (p := ⟨gb370, _, none⟩) NB390_370.out _).trans (hHeld.2.2.2.2.2.2.1)))))), ((cell_far (p := ⟨gb370, _, none⟩) NB390_370.out _).trans (((cell_far (p := ⟨gb370, _, none⟩) NB390_370.out _).trans (((cell_far (p := ⟨gb370, _, none⟩) NB390_370.out _).trans (hHeld.2.2.2.2.2.2.2))))))⟩ (fun hHeld => ?_)
 clear hK K
 refine done_ (done_of HT_.out (by kernel_rfl)) ?_
 try go_wp2
 refine bodyPost_ret (results_cell_row rfl _ _ gb370 29 #[.bool t398, .slice Ao58 t399.length co58, .slice Ao60 t402.length co60] (0, 0) _ rfl (by refine blk_put (cs := #[.bool t398, .slice Ao58 t399.length co58, .slice none 0 0]) ?_ 2 _ rfl; refine blk_put (cs := #[.bool t398, .slice none 0 0, .slice none 0 0]) ?_ 1 _ rfl; refine blk_put (cs := #[.bool false, .slice none 0 0, .slice none 0 0]) ?_ 0 _ rfl; exact BK370.out) Try.underlying29 rfl (by kernel_rfl)) rfl ?_
 exact ⟨_, _, by first | rfl | (simp [errW_none, errW_some] <;> rfl) | (simp [*, errW_none, errW_some] <;> rfl), Rm (Rg 2 (Rg 1 (Rg 0 (Rd HO401.out BK370) (.bool t398)) (.slice Ao58 t399.length co58)) (.slice Ao60 t402.length co60)) (fun _ hk => hk.1.1.1.1.1), Vm (Vf (p := ⟨gb370, 2, none⟩) (Vf (p := ⟨gb370, 1, none⟩) (Vf (p := ⟨gb370, 0, none⟩) (Vm HO404.out (fun k_ hk => (⟨hk, hk.2.2.2.2.1⟩ : _ ∧ k_ ≠ gb370))) (fun _ hk => hk.2) (.bool t398)) (fun _ hk => hk.2) (.slice Ao58 t399.length co58)) (fun _ hk => hk.2) (.slice Ao60 t402.length co60)) (fun _ hk => ⟨hk.1.1, hk.1.2.1⟩), by repeat (first | exact HB.out | apply bN | apply b1 | apply bA | refine bS ?_ GE368.out | refine bS ?_ GE369.out | refine bS ?_ GE370.out | refine bS ?_ GE379.out | refine bS ?_ GE380.out | refine bS ?_ GE389.out | refine bS ?_ GE390.out)⟩
set_option maxHeartbeats 8000000 in
set_option maxRecDepth 100000 in
theorem ratio_Make.calls (k : Nat) (a0_0 : Bool) (P0_1_ : Nat → Prop) (A0_1 : Option Addr) (c0_1 : Nat) (l0_1 : List Int) (a1_0 : Bool) (P1_1_ : Nat → Prop) (A1_1 : Option Addr) (c1_1 : Nat) (l1_1 : List Int) (r1 : Bool) (r2 : List Int) (r3 : List Int) (r4 : Bool) (w : World) (hs0_1 : Kd.V (Kd.int .u32) 87 w w.heap.size (fun k_ => P0_1_ k_) (.slice A0_1 l0_1.length c0_1) l0_1) (hs1_1 : Kd.V (Kd.int .u32) 87 w w.heap.size (fun k_ => P1_1_ k_) (.slice A1_1 l1_1.length c1_1) l1_1) (h : ratio_Make.f k a0_0 l0_1 a1_0 l1_1 = some (r1, r2, r3, r4)) :
  Calls Try.prog 38 #[.agg #[.bool a0_0, .slice A0_1 l0_1.length c0_1], .agg #[.bool a1_0, .slice A1_1 l1_1.length c1_1]] w fun e w' => ∃ v1_ v2_ : Value, e = .returned (.tuple #[.agg #[.bool r1, v1_, v2_], .bool r4]) ∧ Kd.R (Kd.int .u32) 87 w' w.heap.size (fun k_ => (w.heap.size ≤ k_)) v1_ r2 ∧ Kd.V (Kd.int .u32) 87 w' w.heap.size (fun k_ => ((P0_1_ k_ ∨ P1_1_ k_) ∨ w.heap.size ≤ k_) ∧ some k_ ≠ (v1_ : Value).ownBlock) v2_ r3 ∧ Below w.heap.size w w' := by
 have hu27 := Try.underlying27
 have hu29 := Try.underlying29
 have HO0_1 := mk0 (show Kd.V (Kd.int .u32) 87 w w.heap.size (fun k_ => ((P0_1_ k_ ∨ P1_1_ k_) ∨ w.heap.size ≤ k_)) (.slice A0_1 l0_1.length c0_1) l0_1 from Vm hs0_1 (fun k_ hk => .inl (.inl hk)))
 have HO1_1 := mk0 (show Kd.V (Kd.int .u32) 87 w w.heap.size (fun k_ => ((P0_1_ k_ ∨ P1_1_ k_) ∨ w.heap.size ≤ k_)) (.slice A1_1 l1_1.length c1_1) l1_1 from Vm hs1_1 (fun k_ hk => .inl (.inr hk)))
 have HB := mk0 (Below.refl w.heap.size w)
 have H : ((nat_Bits.f k l1_1).bind fun t408 => (if t408 = 0 then ((ratio_zero.f k).bind fun bt409 => (some (bt409.1, bt409.2.1, bt409.2.2, false))) else ((ratio_lowest.f k (a0_0 != a1_0) l0_1 l1_1).bind fun bt416 => (some (bt416.1, bt416.2.1, bt416.2.2, true))))) = some (r1, r2, r3, r4) := h
 clear h
 obtain ⟨t408, A3, H⟩ := bindA H
 by_cases c4 : t408 = 0
 ·rw [if_pos c4] at H
  have c4b0 : (t408 == 0) = true := beq_iff_eq.mpr c4
  have c4b1 : (t408 != 0) = false := bne_eq_false_iff_eq.mpr c4
  clear c4
  obtain ⟨⟨t409, t410, t413⟩, A5, H⟩ := bindA H
  simp only [Option.some.injEq, Prod.mk.injEq] at H
  obtain ⟨rfl, rfl, rfl, rfl⟩ := H
  go_enter Try.func38, Try.ntmps38
  go_wp2_with (first | ((with_reducible refine gate_dst (N := 2) rfl ?_); refine box_event rfl (N := 2) rfl (cs := #[.bool a0_0, .slice A0_1 l0_1.length c0_1]) (t := 27) (by go_simp <;> rfl) ?_; intro gb405 hg w6 hbox hb; replace HO0_1 := vB HO0_1 hg hb; replace HO1_1 := vB HO1_1 hg hb; have BK405 := mk0 (hbox); have GE405 := geB hg HB; replace HB := hbS HB hb; clear hb hbox hg) | ((with_reducible refine gate_dst (N := 3) rfl ?_); refine box_event rfl (N := 3) rfl (cs := #[.bool a1_0, .slice A1_1 l1_1.length c1_1]) (t := 27) (by go_simp <;> rfl) ?_; intro gb406 hg w7 hbox hb; replace HO0_1 := vB HO0_1 hg hb; replace HO1_1 := vB HO1_1 hg hb; have BK406 := mk0 (hbox); have GE406 := geB hg HB; replace HB := hbS HB hb; have NB405_406 := nbA hg BK405; have NB406_405 := nbB hg BK405; replace BK405 := bkB BK405 hb; clear hb hbox hg) | ((with_reducible refine gate_dst (N := 4) rfl ?_); refine box_event rfl (N := 4) rfl (cs := #[.bool false, .slice none 0 0, .slice none 0 0]) (t := 29) (by go_simp <;> rfl) ?_; intro gb407 hg w8 hbox hb; replace HO0_1 := vB HO0_1 hg hb; replace HO1_1 := vB HO1_1 hg hb; have BK407 := mk0 (hbox); have GE407 := geB hg HB; replace HB := hbS HB hb; have NB405_407 := nbA hg BK405; have NB407_405 := nbB hg BK405; replace BK405 := bkB BK405 hb; have NB406_407 := nbA hg BK406; have NB407_406 := nbB hg BK406; replace BK406 := bkB BK406 hb; clear hb hbox hg; have hnb9 := NB406_405.out; have hnc9 := NB405_406.out; have hnb10 := NB406_407.out; have hnc10 := NB407_406.out; obtain ⟨hcz11_0, hcz11_1, hfz11_0, hfz11_1⟩ := cz2 BK406) | ((with_reducible refine gate_callee (f := 64) rfl ?_); refine goesL_ (some 8) rfl rfl Try.func64 (by kernel_rfl) rfl #[.slice A1_1 l1_1.length c1_1] rfl (by (try simp only [mA, mC, mN]); first | done | rfl | (simp only [lD, lT]; rfl)) ?_; (with_reducible refine (nat_Bits.calls k _ _ l1_1 t408 _ (by exact (Kd.V_reads' HO1_1.out).2.2) (by exact (Kd.V_reads' HO1_1.out).2.1) A3.out).mono ?_); rintro e w12 ⟨rfl, hb⟩; refine ⟨_, rfl, ?_⟩; replace HO0_1 := mk0 (Kd.V_below HO0_1.out hb); replace HO1_1 := mk0 (Kd.V_below HO1_1.out hb); replace BK405 := bkB BK405 hb; replace BK406 := bkB BK406 hb; replace BK407 := bkB BK407 hb; replace HB := hbS HB hb) | ((with_reducible refine gate_callee (f := 67) rfl ?_); refine goesL_ (some 10) rfl rfl Try.func67 (by kernel_rfl) rfl #[] rfl (by (try simp only [mA, mC, mN]); first | done | rfl | (simp only [lD, lT]; rfl)) ?_; (with_reducible refine (ratio_zero.calls k  t409 t410 t413 _ A5.out).mono ?_); rintro e w13 ⟨v411, v414, rfl, ho0, ho1, hb⟩; refine ⟨_, rfl, ?_⟩; replace HO0_1 := mk0 (Kd.V_elder' HO0_1.out (Rs ho0) hb); replace HO1_1 := mk0 (Kd.V_elder' HO1_1.out (Rs ho0) hb); have HO412 := mk0 (Rl (Kd.R_newM (M := fun k_ => (w.heap.size ≤ k_)) (Rm (ok' := fun k_ => True) ho0 tv) (bZ HB.out) (fun k_ h_ => h_)) (bZ HB.out)); have HO415 := mk0 (Vl (Vm (ok' := fun k_ => ((P0_1_ k_ ∨ P1_1_ k_) ∨ w.heap.size ≤ k_) ∧ some k_ ≠ (v411 : Value).ownBlock ∧ k_ ≠ gb405 ∧ k_ ≠ gb406 ∧ k_ ≠ gb407) ho1 (fun k_ hk_ => ⟨(.inr (Nat.le_trans (bZ HB.out) hk_.1)), hk_.2, (Kd.freshB BK405.out k_ hk_.1), (Kd.freshB BK406.out k_ hk_.1), (Kd.freshB BK407.out k_ hk_.1)⟩)) (bZ HB.out)); replace BK405 := bkB BK405 hb; replace BK406 := bkB BK406 hb; replace BK407 := bkB BK407 hb; replace HB := hbS HB hb; have hnb14 := NB407_405.out; have hnc14 := NB405_407.out; obtain ⟨hcz15_0, hcz15_1, hcz15_2, hfz15_0, hfz15_1, hfz15_2⟩ := cz3 BK407; obtain ⟨Ao16, co16, eo16⟩ := Kd.R_slice HO412.out; subst eo16; obtain ⟨Ao17, co17, eo17⟩ := Kd.V_slice HO415.out; subst eo17))
  refine bodyPost_ret (results_ct rfl _ _ gb407 29 #[.bool t409, .slice Ao16 t410.length co16, .slice Ao17 t413.length co17] (0, 0) _ rfl (by refine blk_put (cs := #[.bool t409, .slice Ao16 t410.length co16, .slice none 0 0]) ?_ 2 _ rfl; refine blk_put (cs := #[.bool t409, .slice none 0 0, .slice none 0 0]) ?_ 1 _ rfl; refine blk_put (cs := #[.bool false, .slice none 0 0, .slice none 0 0]) ?_ 0 _ rfl; exact BK407.out) Try.underlying29 rfl (by kernel_rfl)) rfl ?_
  exact ⟨_, _, rfl, Rm (Rg 2 (Rg 1 (Rg 0 (Rt HO412.out BK407.out (by decide)) (.bool t409)) (.slice Ao16 t410.length co16)) (.slice Ao17 t413.length co17)) (fun _ hk => hk.1.1), Vm (Vf (p := ⟨gb407, 2, none⟩) (Vf (p := ⟨gb407, 1, none⟩) (Vf (p := ⟨gb407, 0, none⟩) (Vm HO415.out (fun k_ hk => (⟨hk, hk.2.2.2.2⟩ : _ ∧ k_ ≠ gb407))) (fun _ hk => hk.2) (.bool t409)) (fun _ hk => hk.2) (.slice Ao16 t410.length co16)) (fun _ hk => hk.2) (.slice Ao17 t413.length co17)) (fun _ hk => ⟨hk.1.1, hk.1.2.1⟩), by repeat (first | exact HB.out | apply bN | apply b1 | apply bA | refine bS ?_ GE405.out | refine bS ?_ GE406.out | refine bS ?_ GE407.out)⟩
 ·rw [if_neg c4] at H
  have c4b0 : (t408 == 0) = false := beq_eq_false_iff_ne.mpr c4
  have c4b1 : (t408 != 0) = true := bne_iff_ne.mpr c4
  obtain ⟨⟨t416, t417, t420⟩, A18, H⟩ := bindA H
  simp only [Option.some.injEq, Prod.mk.injEq] at H
  obtain ⟨rfl, rfl, rfl, rfl⟩ := H
  go_enter Try.func38, Try.ntmps38
  go_wp2_with (first | ((with_reducible refine gate_dst (N := 2) rfl ?_); refine box_event rfl (N := 2) rfl (cs := #[.bool a0_0, .slice A0_1 l0_1.length c0_1]) (t := 27) (by go_simp <;> rfl) ?_; intro gb405 hg w19 hbox hb; replace HO0_1 := vB HO0_1 hg hb; replace HO1_1 := vB HO1_1 hg hb; have BK405 := mk0 (hbox); have GE405 := geB hg HB; replace HB := hbS HB hb; clear hb hbox hg) | ((with_reducible refine gate_dst (N := 3) rfl ?_); refine box_event rfl (N := 3) rfl (cs := #[.bool a1_0, .slice A1_1 l1_1.length c1_1]) (t := 27) (by go_simp <;> rfl) ?_; intro gb406 hg w20 hbox hb; replace HO0_1 := vB HO0_1 hg hb; replace HO1_1 := vB HO1_1 hg hb; have BK406 := mk0 (hbox); have GE406 := geB hg HB; replace HB := hbS HB hb; have NB405_406 := nbA hg BK405; have NB406_405 := nbB hg BK405; replace BK405 := bkB BK405 hb; clear hb hbox hg) | ((with_reducible refine gate_dst (N := 4) rfl ?_); refine box_event rfl (N := 4) rfl (cs := #[.bool false, .slice none 0 0, .slice none 0 0]) (t := 29) (by go_simp <;> rfl) ?_; intro gb407 hg w21 hbox hb; replace HO0_1 := vB HO0_1 hg hb; replace HO1_1 := vB HO1_1 hg hb; have BK407 := mk0 (hbox); have GE407 := geB hg HB; replace HB := hbS HB hb; have NB405_407 := nbA hg BK405; have NB407_405 := nbB hg BK405; replace BK405 := bkB BK405 hb; have NB406_407 := nbA hg BK406; have NB407_406 := nbB hg BK406; replace BK406 := bkB BK406 hb; clear hb hbox hg; have hnb22 := NB406_405.out; have hnc22 := NB405_406.out; have hnb23 := NB406_407.out; have hnc23 := NB407_406.out; obtain ⟨hcz24_0, hcz24_1, hfz24_0, hfz24_1⟩ := cz2 BK406) | ((with_reducible refine gate_callee (f := 64) rfl ?_); refine goesL_ (some 8) rfl rfl Try.func64 (by kernel_rfl) rfl #[.slice A1_1 l1_1.length c1_1] rfl (by (try simp only [mA, mC, mN]); first | done | rfl | (simp only [lD, lT]; rfl)) ?_; (with_reducible refine (nat_Bits.calls k _ _ l1_1 t408 _ (by exact (Kd.V_reads' HO1_1.out).2.2) (by exact (Kd.V_reads' HO1_1.out).2.1) A3.out).mono ?_); rintro e w25 ⟨rfl, hb⟩; refine ⟨_, rfl, ?_⟩; replace HO0_1 := mk0 (Kd.V_below HO0_1.out hb); replace HO1_1 := mk0 (Kd.V_below HO1_1.out hb); replace BK405 := bkB BK405 hb; replace BK406 := bkB BK406 hb; replace BK407 := bkB BK407 hb; replace HB := hbS HB hb; have hnb26 := NB405_407.out; have hnc26 := NB407_405.out; obtain ⟨hcz27_0, hcz27_1, hfz27_0, hfz27_1⟩ := cz2 BK405; obtain ⟨hcz28_0, hcz28_1, hfz28_0, hfz28_1⟩ := cz2 BK406) | ((with_reducible refine gate_callee (f := 53) rfl ?_); refine goesL_ (some 21) rfl rfl Try.func53 (by kernel_rfl) rfl #[.agg #[.bool (a0_0 != a1_0), .slice A0_1 l0_1.length c0_1], .slice A1_1 l1_1.length c1_1] rfl (by (try simp only [mA, mC, mN]); first | done | rfl | (simp only [lD, lT]; rfl)) ?_; (with_reducible refine (ratio_lowest.calls k (a0_0 != a1_0) (fun k_ => (((((P0_1_ k_ ∨ P1_1_ k_) ∨ w.heap.size ≤ k_) ∧ k_ ≠ gb405) ∧ k_ ≠ gb406) ∧ k_ ≠ gb407)) _ _ l0_1 (fun k_ => (((((P0_1_ k_ ∨ P1_1_ k_) ∨ w.heap.size ≤ k_) ∧ k_ ≠ gb405) ∧ k_ ≠ gb406) ∧ k_ ≠ gb407)) _ _ l1_1 t416 t417 t420 _ HO0_1.out HO1_1.out A18.out).mono ?_); rintro e w29 ⟨v418, v421, rfl, ho0, ho1, hb⟩; refine ⟨_, rfl, ?_⟩; replace HO0_1 := mk0 (Kd.V_elder' HO0_1.out (Rs ho0) hb); replace HO1_1 := mk0 (Kd.V_elder' HO1_1.out (Rs ho0) hb); have HO419 := mk0 (Rl (Kd.R_newM (M := fun k_ => (w.heap.size ≤ k_)) (Rm (ok' := fun k_ => True) ho0 tv) (bZ HB.out) (fun k_ h_ => h_)) (bZ HB.out)); have HO422 := mk0 (Vl (Vm (ok' := fun k_ => ((P0_1_ k_ ∨ P1_1_ k_) ∨ w.heap.size ≤ k_) ∧ some k_ ≠ (v418 : Value).ownBlock ∧ k_ ≠ gb405 ∧ k_ ≠ gb406 ∧ k_ ≠ gb407) ho1 (fun k_ hk_ => ⟨Or.elim hk_.1 (fun hs_ => Or.elim hs_ (fun hs_ => hs_.1.1.1) (fun hs_ => hs_.1.1.1)) (fun hn_ => (.inr (Nat.le_trans (bZ HB.out) hn_))), hk_.2, Or.elim hk_.1 (fun hs_ => Or.elim hs_ (fun hs_ => hs_.1.1.2) (fun hs_ => hs_.1.1.2)) (fun hn_ => (Kd.freshB BK405.out k_ hn_)), Or.elim hk_.1 (fun hs_ => Or.elim hs_ (fun hs_ => hs_.1.2) (fun hs_ => hs_.1.2)) (fun hn_ => (Kd.freshB BK406.out k_ hn_)), Or.elim hk_.1 (fun hs_ => Or.elim hs_ (fun hs_ => hs_.2) (fun hs_ => hs_.2)) (fun hn_ => (Kd.freshB BK407.out k_ hn_))⟩)) (bZ HB.out)); replace BK405 := bkB BK405 hb; replace BK406 := bkB BK406 hb; replace BK407 := bkB BK407 hb; replace HB := hbS HB hb; obtain ⟨hcz30_0, hcz30_1, hcz30_2, hfz30_0, hfz30_1, hfz30_2⟩ := cz3 BK407; obtain ⟨Ao31, co31, eo31⟩ := Kd.R_slice HO419.out; subst eo31; obtain ⟨Ao32, co32, eo32⟩ := Kd.V_slice HO422.out; subst eo32))
  refine bodyPost_ret (results_ct rfl _ _ gb407 29 #[.bool t416, .slice Ao31 t417.length co31, .slice Ao32 t420.length co32] (0, 0) _ rfl (by refine blk_put (cs := #[.bool t416, .slice Ao31 t417.length co31, .slice none 0 0]) ?_ 2 _ rfl; refine blk_put (cs := #[.bool t416, .slice none 0 0, .slice none 0 0]) ?_ 1 _ rfl; refine blk_put (cs := #[.bool false, .slice none 0 0, .slice none 0 0]) ?_ 0 _ rfl; exact BK407.out) Try.underlying29 rfl (by kernel_rfl)) rfl ?_
  exact ⟨_, _, rfl, Rm (Rg 2 (Rg 1 (Rg 0 (Rt HO419.out BK407.out (by decide)) (.bool t416)) (.slice Ao31 t417.length co31)) (.slice Ao32 t420.length co32)) (fun _ hk => hk.1.1), Vm (Vf (p := ⟨gb407, 2, none⟩) (Vf (p := ⟨gb407, 1, none⟩) (Vf (p := ⟨gb407, 0, none⟩) (Vm HO422.out (fun k_ hk => (⟨hk, hk.2.2.2.2⟩ : _ ∧ k_ ≠ gb407))) (fun _ hk => hk.2) (.bool t416)) (fun _ hk => hk.2) (.slice Ao31 t417.length co31)) (fun _ hk => hk.2) (.slice Ao32 t420.length co32)) (fun _ hk => ⟨hk.1.1, hk.1.2.1⟩), by repeat (first | exact HB.out | apply bN | apply b1 | apply bA | refine bS ?_ GE405.out | refine bS ?_ GE406.out | refine bS ?_ GE407.out)⟩
set_option maxHeartbeats 8000000 in
set_option maxRecDepth 100000 in
theorem integer_Of.calls (k : Nat) (a0 : Int) (r1 : Bool) (r2 : List Int) (w : World) (h : integer_Of.f k a0 = some (r1, r2)) :
  Calls Try.prog 39 #[.int .i64 a0] w fun e w' => ∃ v1_ : Value, e = .returned (.agg #[.bool r1, v1_]) ∧ Kd.V (Kd.int .u32) 87 w' w.heap.size (fun k_ => (w.heap.size ≤ k_)) v1_ r2 ∧ Below w.heap.size w w' := by
 have hu27 := Try.underlying27
 have HB := mk0 (Below.refl w.heap.size w)
 have H : (if a0 < 0 then ((nat_Of.f k (IntKind.u64.wrap ((IntKind.u64.wrap (wrap64 (-(wrap64 (a0 + 1))))) + 1))).bind fun t424 => (some (true, t424))) else ((nat_Of.f k (IntKind.u64.wrap (a0))).bind fun t427 => (some (false, t427)))) = some (r1, r2) := h
 clear h
 by_cases c2 : a0 < 0
 ·rw [if_pos c2] at H
  have c2b0 : decide (a0 < 0) = true := decide_eq_true c2
  clear c2
  obtain ⟨t424, A3, H⟩ := bindA H
  simp only [Option.some.injEq, Prod.mk.injEq] at H
  obtain ⟨rfl, rfl⟩ := H
  go_enter Try.func39, Try.ntmps39
  go_wp2_with (first | ((with_reducible refine gate_dst (N := 2) rfl ?_); refine box_event rfl (N := 2) rfl (cs := #[.bool false, .slice none 0 0]) (t := 27) (by go_simp <;> rfl) ?_; intro gb423 hg w4 hbox hb; have BK423 := mk0 (hbox); have GE423 := geB hg HB; replace HB := hbS HB hb; clear hb hbox hg) | ((with_reducible refine gate_callee (f := 66) rfl ?_); refine goA 10 Try.func66 #[.int .u64 (IntKind.u64.wrap ((IntKind.u64.wrap (wrap64 (-(wrap64 (a0 + 1))))) + 1))] ?_; (with_reducible refine (nat_Of.calls k (IntKind.u64.wrap ((IntKind.u64.wrap (wrap64 (-(wrap64 (a0 + 1))))) + 1)) t424 _ A3.out).mono ?_); rintro e w5 ⟨v425, rfl, ho0, hb⟩; refine ⟨_, rfl, ?_⟩; have HO426 := mk0 (Vl (Vm (ok' := fun k_ => (w.heap.size ≤ k_) ∧ k_ ≠ gb423) ho0 (fun k_ hk_ => ⟨(Nat.le_trans (bZ HB.out) hk_), (Kd.freshB BK423.out k_ hk_)⟩)) (bZ HB.out)); replace BK423 := bkB BK423 hb; replace HB := hbS HB hb; obtain ⟨Ao6, co6, eo6⟩ := Kd.V_slice HO426.out; subst eo6; obtain ⟨hcz7_0, hcz7_1, hfz7_0, hfz7_1⟩ := cz2 BK423))
  refine bodyPost_ret (results_cell_row rfl _ _ gb423 27 #[.bool true, .slice Ao6 t424.length co6] (0, 0) _ rfl (by refine blk_put (cs := #[.bool true, .slice none 0 0]) ?_ 1 _ rfl; refine blk_put (cs := #[.bool false, .slice none 0 0]) ?_ 0 _ rfl; exact BK423.out) Try.underlying27 rfl (by kernel_rfl)) rfl ?_
  exact ⟨_, rfl, Vm (Vf (p := ⟨gb423, 1, none⟩) (Vf (p := ⟨gb423, 0, none⟩) (Vm HO426.out (fun k_ hk => (⟨hk, hk.2⟩ : _ ∧ k_ ≠ gb423))) (fun _ hk => hk.2) (.bool true)) (fun _ hk => hk.2) (.slice Ao6 t424.length co6)) (fun _ hk => hk.1.1), by repeat (first | exact HB.out | apply bN | apply b1 | apply bA | refine bS ?_ GE423.out)⟩
 ·rw [if_neg c2] at H
  have c2b0 : decide (a0 < 0) = false := decide_eq_false c2
  clear c2
  obtain ⟨t427, A8, H⟩ := bindA H
  simp only [Option.some.injEq, Prod.mk.injEq] at H
  obtain ⟨rfl, rfl⟩ := H
  go_enter Try.func39, Try.ntmps39
  go_wp2_with (first | ((with_reducible refine gate_dst (N := 2) rfl ?_); refine box_event rfl (N := 2) rfl (cs := #[.bool false, .slice none 0 0]) (t := 27) (by go_simp <;> rfl) ?_; intro gb423 hg w9 hbox hb; have BK423 := mk0 (hbox); have GE423 := geB hg HB; replace HB := hbS HB hb; clear hb hbox hg) | ((with_reducible refine gate_callee (f := 66) rfl ?_); refine goA 14 Try.func66 #[.int .u64 (IntKind.u64.wrap (a0))] ?_; (with_reducible refine (nat_Of.calls k (IntKind.u64.wrap (a0)) t427 _ A8.out).mono ?_); rintro e w10 ⟨v428, rfl, ho0, hb⟩; refine ⟨_, rfl, ?_⟩; have HO429 := mk0 (Vl (Vm (ok' := fun k_ => (w.heap.size ≤ k_) ∧ k_ ≠ gb423) ho0 (fun k_ hk_ => ⟨(Nat.le_trans (bZ HB.out) hk_), (Kd.freshB BK423.out k_ hk_)⟩)) (bZ HB.out)); replace BK423 := bkB BK423 hb; replace HB := hbS HB hb; obtain ⟨Ao11, co11, eo11⟩ := Kd.V_slice HO429.out; subst eo11; obtain ⟨hcz12_0, hcz12_1, hfz12_0, hfz12_1⟩ := cz2 BK423))
  refine bodyPost_ret (results_cell_row rfl _ _ gb423 27 #[.bool false, .slice Ao11 t427.length co11] (0, 0) _ rfl (by refine blk_put (cs := #[.bool false, .slice none 0 0]) ?_ 1 _ rfl; refine blk_put (cs := #[.bool false, .slice none 0 0]) ?_ 0 _ rfl; exact BK423.out) Try.underlying27 rfl (by kernel_rfl)) rfl ?_
  exact ⟨_, rfl, Vm (Vf (p := ⟨gb423, 1, none⟩) (Vf (p := ⟨gb423, 0, none⟩) (Vm HO429.out (fun k_ hk => (⟨hk, hk.2⟩ : _ ∧ k_ ≠ gb423))) (fun _ hk => hk.2) (.bool false)) (fun _ hk => hk.2) (.slice Ao11 t427.length co11)) (fun _ hk => hk.1.1), by repeat (first | exact HB.out | apply bN | apply b1 | apply bA | refine bS ?_ GE423.out)⟩
set_option maxHeartbeats 8000000 in
set_option maxRecDepth 100000 in
theorem ratio_Of.calls (k : Nat) (a0 : Int) (a1 : Int) (r1 : Bool) (r2 : List Int) (r3 : List Int) (r4 : Bool) (w : World) (h : ratio_Of.f k a0 a1 = some (r1, r2, r3, r4)) :
  Calls Try.prog 16 #[.int .i64 a0, .int .i64 a1] w fun e w' => ∃ v1_ v2_ : Value, e = .returned (.tuple #[.agg #[.bool r1, v1_, v2_], .bool r4]) ∧ Kd.R (Kd.int .u32) 87 w' w.heap.size (fun k_ => (w.heap.size ≤ k_)) v1_ r2 ∧ Kd.V (Kd.int .u32) 87 w' w.heap.size (fun k_ => (w.heap.size ≤ k_) ∧ some k_ ≠ (v1_ : Value).ownBlock) v2_ r3 ∧ Below w.heap.size w w' := by
 have hu29 := Try.underlying29
 have HB := mk0 (Below.refl w.heap.size w)
 have H : ((integer_Of.f k a0).bind fun bt431 => ((integer_Of.f k a1).bind fun bt435 => ((ratio_Make.f k bt431.1 bt431.2 bt435.1 bt435.2).bind fun bt439 => (some (bt439.1, bt439.2.1, bt439.2.2.1, bt439.2.2.2))))) = some (r1, r2, r3, r4) := h
 clear h
 obtain ⟨⟨t431, t432⟩, A3, H⟩ := bindA H
 obtain ⟨⟨t435, t436⟩, A4, H⟩ := bindA H
 obtain ⟨⟨t439, t440, t443, t446⟩, A5, H⟩ := bindA H
 simp only [Option.some.injEq, Prod.mk.injEq] at H
 obtain ⟨rfl, rfl, rfl, rfl⟩ := H
 go_enter Try.func16, Try.ntmps16
 go_wp2_with (first | ((with_reducible refine gate_dst (N := 4) rfl ?_); refine box_event rfl (N := 4) rfl (cs := #[.bool false, .slice none 0 0, .slice none 0 0]) (t := 29) (by go_simp <;> rfl) ?_; intro gb430 hg w6 hbox hb; have BK430 := mk0 (hbox); have GE430 := geB hg HB; replace HB := hbS HB hb; clear hb hbox hg) | ((with_reducible refine gate_callee (f := 39) rfl ?_); refine goA 7 Try.func39 #[.int .i64 a0] ?_; (with_reducible refine (integer_Of.calls k a0 t431 t432 _ A3.out).mono ?_); rintro e w7 ⟨v433, rfl, ho0, hb⟩; refine ⟨_, rfl, ?_⟩; have HO434 := mk0 (Vl (Vm (ok' := fun k_ => (w.heap.size ≤ k_) ∧ k_ ≠ gb430) ho0 (fun k_ hk_ => ⟨(Nat.le_trans (bZ HB.out) hk_), (Kd.freshB BK430.out k_ hk_)⟩)) (bZ HB.out)); replace BK430 := bkB BK430 hb; replace HB := hbS HB hb) | ((with_reducible refine gate_callee (f := 39) rfl ?_); refine goA 9 Try.func39 #[.int .i64 a1] ?_; (with_reducible refine (integer_Of.calls k a1 t435 t436 _ A4.out).mono ?_); rintro e w8 ⟨v437, rfl, ho0, hb⟩; refine ⟨_, rfl, ?_⟩; replace HO434 := mk0 (Kd.V_below HO434.out hb); have HO438 := mk0 (Vl (Vm (ok' := fun k_ => (w.heap.size ≤ k_) ∧ k_ ≠ gb430) ho0 (fun k_ hk_ => ⟨(Nat.le_trans (bZ HB.out) hk_), (Kd.freshB BK430.out k_ hk_)⟩)) (bZ HB.out)); replace BK430 := bkB BK430 hb; replace HB := hbS HB hb; obtain ⟨Ao9, co9, eo9⟩ := Kd.V_slice HO434.out; subst eo9; obtain ⟨Ao10, co10, eo10⟩ := Kd.V_slice HO438.out; subst eo10) | ((with_reducible refine gate_callee (f := 38) rfl ?_); refine goA 10 Try.func38 #[.agg #[.bool t431, .slice Ao9 t432.length co9], .agg #[.bool t435, .slice Ao10 t436.length co10]] ?_; (with_reducible refine (ratio_Make.calls k t431 (fun k_ => ((w.heap.size ≤ k_) ∧ k_ ≠ gb430)) _ _ t432 t435 (fun k_ => ((w.heap.size ≤ k_) ∧ k_ ≠ gb430)) _ _ t436 t439 t440 t443 t446 _ HO434.out HO438.out A5.out).mono ?_); rintro e w11 ⟨v441, v444, rfl, ho0, ho1, hb⟩; refine ⟨_, rfl, ?_⟩; replace HO434 := mk0 (Kd.V_elder' HO434.out (Rs ho0) hb); replace HO438 := mk0 (Kd.V_elder' HO438.out (Rs ho0) hb); have HO442 := mk0 (Rl (Kd.R_newM (M := fun k_ => (w.heap.size ≤ k_)) (Rm (ok' := fun k_ => True) ho0 tv) (bZ HB.out) (fun k_ h_ => h_)) (bZ HB.out)); have HO445 := mk0 (Vl (Vm (ok' := fun k_ => (w.heap.size ≤ k_) ∧ some k_ ≠ (v441 : Value).ownBlock ∧ k_ ≠ gb430) ho1 (fun k_ hk_ => ⟨Or.elim hk_.1 (fun hs_ => Or.elim hs_ (fun hs_ => hs_.1) (fun hs_ => hs_.1)) (fun hn_ => (Nat.le_trans (bZ HB.out) hn_)), hk_.2, Or.elim hk_.1 (fun hs_ => Or.elim hs_ (fun hs_ => hs_.2) (fun hs_ => hs_.2)) (fun hn_ => (Kd.freshB BK430.out k_ hn_))⟩)) (bZ HB.out)); replace BK430 := bkB BK430 hb; replace HB := hbS HB hb; obtain ⟨hcz12_0, hcz12_1, hcz12_2, hfz12_0, hfz12_1, hfz12_2⟩ := cz3 BK430; obtain ⟨Ao13, co13, eo13⟩ := Kd.R_slice HO442.out; subst eo13; obtain ⟨Ao14, co14, eo14⟩ := Kd.V_slice HO445.out; subst eo14))
 refine bodyPost_ret (results_ct rfl _ _ gb430 29 #[.bool t439, .slice Ao13 t440.length co13, .slice Ao14 t443.length co14] (0, 0) _ rfl (by refine blk_put (cs := #[.bool t439, .slice Ao13 t440.length co13, .slice none 0 0]) ?_ 2 _ rfl; refine blk_put (cs := #[.bool t439, .slice none 0 0, .slice none 0 0]) ?_ 1 _ rfl; refine blk_put (cs := #[.bool false, .slice none 0 0, .slice none 0 0]) ?_ 0 _ rfl; exact BK430.out) Try.underlying29 rfl (by kernel_rfl)) rfl ?_
 exact ⟨_, _, by first | rfl | (simp [errW_none, errW_some] <;> rfl) | (simp [*, errW_none, errW_some] <;> rfl), Rm (Rg 2 (Rg 1 (Rg 0 (Rt HO442.out BK430.out (by decide)) (.bool t439)) (.slice Ao13 t440.length co13)) (.slice Ao14 t443.length co14)) (fun _ hk => hk.1.1), Vm (Vf (p := ⟨gb430, 2, none⟩) (Vf (p := ⟨gb430, 1, none⟩) (Vf (p := ⟨gb430, 0, none⟩) (Vm HO445.out (fun k_ hk => (⟨hk, hk.2.2⟩ : _ ∧ k_ ≠ gb430))) (fun _ hk => hk.2) (.bool t439)) (fun _ hk => hk.2) (.slice Ao13 t440.length co13)) (fun _ hk => hk.2) (.slice Ao14 t443.length co14)) (fun _ hk => ⟨hk.1.1, hk.1.2.1⟩), by repeat (first | exact HB.out | apply bN | apply b1 | apply bA | refine bS ?_ GE430.out)⟩
set_option maxHeartbeats 8000000 in
set_option maxRecDepth 100000 in
theorem exposure_fraction.calls (k : Nat) (a0 : Int) (a1 : Int) (r1 : Bool) (r2 : List Int) (r3 : List Int) (w : World) (h : exposure_fraction.f k a0 a1 = some (r1, r2, r3)) :
  Calls Try.prog 30 #[.int .i64 a0, .int .i64 a1] w fun e w' => ∃ v1_ v2_ : Value, e = .returned (.agg #[.bool r1, v1_, v2_]) ∧ Kd.R (Kd.int .u32) 87 w' w.heap.size (fun k_ => (w.heap.size ≤ k_)) v1_ r2 ∧ Kd.V (Kd.int .u32) 87 w' w.heap.size (fun k_ => (w.heap.size ≤ k_) ∧ some k_ ≠ (v1_ : Value).ownBlock) v2_ r3 ∧ Below w.heap.size w w' := by
 have hu29 := Try.underlying29
 have HB := mk0 (Below.refl w.heap.size w)
 have H : ((ratio_Of.f k a0 a1).bind fun bt448 => (some (bt448.1, bt448.2.1, bt448.2.2.1))) = some (r1, r2, r3) := h
 clear h
 obtain ⟨⟨t448, t449, t452, t455⟩, A3, H⟩ := bindA H
 simp only [Option.some.injEq, Prod.mk.injEq] at H
 obtain ⟨rfl, rfl, rfl⟩ := H
 go_enter Try.func30, Try.ntmps30
 go_wp2_with (first | ((with_reducible refine gate_dst (N := 4) rfl ?_); refine box_event rfl (N := 4) rfl (cs := #[.bool false, .slice none 0 0, .slice none 0 0]) (t := 29) (by go_simp <;> rfl) ?_; intro gb447 hg w4 hbox hb; have BK447 := mk0 (hbox); have GE447 := mk0 ((by rw [hg]; exact (bZ (by repeat (first | (with_reducible first | exact HB.out | apply bA | apply bN | apply b1) | exact HB.out))) : w.heap.size ≤ gb447)); replace HB := mk0 (below_step (by repeat (first | (with_reducible first | exact HB.out | apply bA | apply bN | apply b1) | exact HB.out)) hb); clear hb hbox hg) | ((with_reducible refine gate_callee (f := 16) rfl ?_); refine goesL_ (some 10) rfl rfl Try.func16 (by kernel_rfl) rfl #[.int .i64 a0, .int .i64 a1] rfl (by (try simp only [mA, mC, mN]); first | done | rfl | (simp only [lD, lT]; rfl)) ?_; (with_reducible refine (ratio_Of.calls k a0 a1 t448 t449 t452 t455 _ A3.out).mono ?_); rintro e w5 ⟨v450, v453, rfl, ho0, ho1, hb⟩; refine ⟨_, rfl, ?_⟩; have HO451 := mk0 (Rl (Kd.R_newM (M := fun k_ => (w.heap.size ≤ k_)) (Rm (ok' := fun k_ => True) ho0 tv) (bZ (by repeat (first | (with_reducible first | exact HB.out | apply bA | apply bN | apply b1 | refine bS ?_ GE447.out) | exact HB.out))) (fun k_ h_ => h_)) (bZ (by repeat (first | (with_reducible first | exact HB.out | apply bA | apply bN | apply b1 | refine bS ?_ GE447.out) | exact HB.out)))); have HO454 := mk0 (Vl (Vm (ok' := fun k_ => (w.heap.size ≤ k_) ∧ some k_ ≠ (v450 : Value).ownBlock ∧ k_ ≠ gb447) ho1 (fun k_ hk_ => ⟨(Nat.le_trans (bZ (by repeat (first | (with_reducible first | exact HB.out | apply bA | apply bN | apply b1 | refine bS ?_ GE447.out) | exact HB.out))) hk_.1), hk_.2, (Kd.freshB (g := gb447) BK447.out k_ hk_.1)⟩)) (bZ (by repeat (first | (with_reducible first | exact HB.out | apply bA | apply bN | apply b1 | refine bS ?_ GE447.out) | exact HB.out)))); replace BK447 := mk0 (blk_below (g := gb447) BK447.out hb); replace HB := mk0 (below_step (by repeat (first | (with_reducible first | exact HB.out | apply bA | apply bN | apply b1 | refine bS ?_ GE447.out) | exact HB.out)) hb)) | ((with_reducible refine gate_dst (N := 5) rfl ?_); refine box_event rfl (N := 5) rfl (cs := #[.bool false, .slice none 0 0, .slice none 0 0]) (t := 29) (by go_simp <;> rfl) ?_; intro gb456 hg w6 hbox hb; replace HO451 := mk0 (Rb HO451.out hb); replace HO454 := mk0 (Kd.V_below (Kd.V_elderB HO454.out gb456 (Nat.le_of_eq hg.symm)) hb); have BK456 := mk0 (hbox); have GE456 := mk0 ((by rw [hg]; exact (bZ (by repeat (first | (with_reducible first | exact HB.out | apply bA | apply bN | apply b1 | refine bS ?_ GE447.out) | exact HB.out))) : w.heap.size ≤ gb456)); replace HB := mk0 (below_step (by repeat (first | (with_reducible first | exact HB.out | apply bA | apply bN | apply b1 | refine bS ?_ GE447.out) | exact HB.out)) hb); have NB447_456 := mk0 ((by rw [hg]; exact Nat.ne_of_lt (blk_lt (g := gb447) BK447.out) : gb447 ≠ gb456)); have NB456_447 := mk0 ((by rw [hg]; exact Nat.ne_of_gt (blk_lt (g := gb447) BK447.out) : gb456 ≠ gb447)); replace BK447 := mk0 (blk_below (g := gb447) BK447.out hb); clear hb hbox hg; have hnb7 := NB456_447.out; have hnc7 := NB447_456.out; obtain ⟨hcz8_0, hcz8_1, hcz8_2, hfz8_0, hfz8_1, hfz8_2⟩ := cz3 BK456; obtain ⟨Ao9, co9, eo9⟩ := Kd.R_slice HO451.out; subst eo9; obtain ⟨Ao10, co10, eo10⟩ := Kd.V_slice HO454.out; subst eo10; obtain ⟨hcz11_0, hcz11_1, hcz11_2, hfz11_0, hfz11_1, hfz11_2⟩ := cz3 BK447))
 refine bodyPost_ret (results_cell_row rfl _ _ gb447 29 #[.bool t448, .slice Ao9 t449.length co9, .slice Ao10 t452.length co10] (0, 0) _ rfl (by (with_reducible repeat (first | refine blk_drewN ?_ _ | refine blk_drew ?_ | refine blk_alloc ?_ _)); refine blk_put (cs := #[.bool t448, .slice Ao9 t449.length co9, .slice none 0 0]) ?_ 2 _ rfl; (with_reducible repeat (first | refine blk_drewN ?_ _ | refine blk_drew ?_ | refine blk_alloc ?_ _)); refine blk_put (cs := #[.bool t448, .slice none 0 0, .slice none 0 0]) ?_ 1 _ rfl; (with_reducible repeat (first | refine blk_drewN ?_ _ | refine blk_drew ?_ | refine blk_alloc ?_ _)); refine blk_put (cs := #[.bool false, .slice none 0 0, .slice none 0 0]) ?_ 0 _ rfl; (with_reducible repeat (first | refine blk_drewN ?_ _ | refine blk_drew ?_ | refine blk_alloc ?_ _)); refine blk_far ?_ NB447_456.out _; (with_reducible repeat (first | refine blk_drewN ?_ _ | refine blk_drew ?_ | refine blk_alloc ?_ _)); refine blk_far ?_ NB447_456.out _; (with_reducible repeat (first | refine blk_drewN ?_ _ | refine blk_drew ?_ | refine blk_alloc ?_ _)); refine blk_far ?_ NB447_456.out _; (with_reducible repeat (first | refine blk_drewN ?_ _ | refine blk_drew ?_ | refine blk_alloc ?_ _)); exact BK447.out) Try.underlying29 rfl (by kernel_rfl)) rfl ?_
 exact ⟨_, _, by first | rfl | (simp [errW_none, errW_some] <;> rfl) | (simp [*, errW_none, errW_some] <;> rfl), by (with_reducible repeat (first | apply Kd.R_alloc | apply Kd.R_drewN | apply Kd.R_drew)); exact Rm (Rf (p := ⟨gb447, 2, none⟩) (Rf (p := ⟨gb447, 1, none⟩) (Rf (p := ⟨gb447, 0, none⟩) (Rf (p := ⟨gb456, 2, none⟩) (Rf (p := ⟨gb456, 1, none⟩) (Rf (p := ⟨gb456, 0, none⟩) (Rt (Rt HO451.out BK456.out (by decide)) BK447.out (by decide)) (fun _ hk => hk.1.2) (.bool t448)) (fun _ hk => hk.1.2) (.slice Ao9 t449.length co9)) (fun _ hk => hk.1.2) (.slice Ao10 t452.length co10)) (fun _ hk => hk.2) (.bool t448)) (fun _ hk => hk.2) (.slice Ao9 t449.length co9)) (fun _ hk => hk.2) (.slice Ao10 t452.length co10)) (fun _ hk => hk.1.1.1), by (with_reducible repeat (first | apply Kd.V_alloc | apply Kd.V_drewN | apply Kd.V_drew)); exact Vm (Vf (p := ⟨gb447, 2, none⟩) (Vf (p := ⟨gb447, 1, none⟩) (Vf (p := ⟨gb447, 0, none⟩) (Vf (p := ⟨gb456, 2, none⟩) (Vf (p := ⟨gb456, 1, none⟩) (Vf (p := ⟨gb456, 0, none⟩) (Vm (Vm HO454.out (fun k_ hk => (⟨hk, hk.2⟩ : _ ∧ k_ ≠ gb456))) (fun k_ hk => (⟨hk, hk.1.1.2.2⟩ : _ ∧ k_ ≠ gb447))) (fun _ hk => hk.1.2) (.bool t448)) (fun _ hk => hk.1.2) (.slice Ao9 t449.length co9)) (fun _ hk => hk.1.2) (.slice Ao10 t452.length co10)) (fun _ hk => hk.2) (.bool t448)) (fun _ hk => hk.2) (.slice Ao9 t449.length co9)) (fun _ hk => hk.2) (.slice Ao10 t452.length co10)) (fun _ hk => ⟨hk.1.1.1.1, hk.1.1.1.2.1⟩), by repeat (first | (with_reducible first | exact HB.out | apply bA | apply bN | apply b1 | refine bS ?_ GE447.out | refine bS ?_ GE456.out) | exact HB.out)⟩
set_option maxHeartbeats 8000000 in
set_option maxRecDepth 100000 in
theorem exposure_bounded.calls (a0 : Int) (r : Int) (w : World) (h : exposure_bounded.f a0 = some r) :
  Calls Try.prog 31 #[.int .i64 a0] w fun e w' => e = .returned (.int .i64 r) ∧ Below w.heap.size w w' := by
 have HB := mk0 (Below.refl w.heap.size w)
 have H : (some (mn (mx a0 0) 1000000)) = some r := h
 clear h
 obtain ⟨ji2, hji2⟩ : ∃ j_ : Int, (mx a0 0) = j_ := ⟨_, rfl⟩
 replace H : (some (mn (ji2) 1000000)) = some r := by first | (rw [hji2] at H; exact H) | (simp only [hji2] at H ⊢; exact H)
 (try (have hji2l : 0 ≤ ji2 := by (rw [← hji2]; unfold mx; (repeat' split) <;> omega)))
 (try (have hji2m : 0 ≤ ji2 := by omega))
 have hji2_ : (if a0 < 0 then 0 else a0) = ji2 := hji2
 obtain ⟨ji3, hji3⟩ : ∃ j_ : Int, (mn (ji2) 1000000) = j_ := ⟨_, rfl⟩
 replace H : (some ji3) = some r := by first | (rw [hji3] at H; exact H) | (simp only [hji3] at H ⊢; exact H)
 have hji3_ : (if 1000000 < (ji2) then 1000000 else (ji2)) = ji3 := hji3
 obtain rfl := Option.some.inj H
 go_enter Try.func31, Try.ntmps31
 go_wp2
 go_ret
 exact ⟨by first | rfl | (simp [errW_none, errW_some] <;> rfl) | (simp only [← hji2, ← hji3]; first | rfl | (simp [errW_none, errW_some] <;> rfl)) | (simp [*, errW_none, errW_some] <;> rfl), by repeat (first | exact HB.out | apply bN | apply b1 | apply bA)⟩
def exposure_Eligible.T2 : Bool × List (List Nat × List Nat) := (true, [([], []), ([0], [0]), ([1], [1]), ([2, 1], [2]), ([], []), ([], []), ([4, 5, 3], [4, 5]), ([3, 6, 6], [3, 6]), ([7], [7]), ([8, 7, 0, 1, 2, 3, 4, 5, 6, 7, 8], [8])])
def exposure_Eligible.B2 : List Nat := [0, 1, 3, 7, 0, 0, 63, 127, 255, 511]
theorem exposure_Eligible.tab2 : rtab .any (opsOf Try.f13 2) = exposure_Eligible.T2 := by kernel_rfl
theorem exposure_Eligible.bits2 : waitsOk exposure_Eligible.T2.2 exposure_Eligible.B2 = true := by kernel_rfl
set_option maxHeartbeats 8000000 in
set_option maxRecDepth 100000 in
theorem exposure_Eligible.calls (k : Nat) (a0 : Int) (a1 : Int) (a2_0 : Bool) (A2_1 : Option Addr) (c2_1 : Nat) (l2_1 : List Int) (A2_2 : Option Addr) (c2_2 : Nat) (l2_2 : List Int) (a3 : Int) (r : Bool) (w : World) (hr2_1 : Kd.C (Kd.int .u32) w A2_1 l2_1.length l2_1) (hc2_1 : l2_1.length ≤ c2_1) (hr2_2 : Kd.C (Kd.int .u32) w A2_2 l2_2.length l2_2) (hc2_2 : l2_2.length ≤ c2_2) (h : exposure_Eligible.f k a0 a1 a2_0 l2_1 l2_2 a3 = some r) :
  Calls Try.prog 13 #[.int .i64 a0, .int .i64 a1, .agg #[.bool a2_0, .slice A2_1 l2_1.length c2_1, .slice A2_2 l2_2.length c2_2], .int .i64 a3] w fun e w' => e = .returned (.bool r) ∧ Below w.heap.size w w' := by
 have hu29 := Try.underlying29
 have HR2_1 := mk0 hr2_1
 have HC2_1 := mk0 hc2_1
 clear hr2_1 hc2_1
 have HR2_2 := mk0 hr2_2
 have HC2_2 := mk0 hc2_2
 clear hr2_2 hc2_2
 have HB := mk0 (Below.refl w.heap.size w)
 have H : ((exposure_bounded.f a1).bind fun t458 => ((exposure_bounded.f a3).bind fun t459 => ((exposure_fraction.f k (wrap64 ((wrap64 (t458 + 1)) + t459)) 1).bind fun bt460 => ((exposure_bounded.f a0).bind fun t468 => ((exposure_fraction.f k (wrap64 (t468 + 1)) 1).bind fun bt469 => ((ratio_Mul.f k a2_0 l2_1 l2_2 bt460.1 bt460.2.1 bt460.2.2).bind fun bt476 => ((ratio_Cmp.f k bt469.1 bt469.2.1 bt469.2.2 bt476.1 bt476.2.1 bt476.2.2).bind fun t483 => (some (decide (t483 ≤ 0)))))))))) = some r := h
 clear h
 obtain ⟨t458, A5, H⟩ := bindA H
 obtain ⟨t459, A6, H⟩ := bindA H
 obtain ⟨⟨t460, t461, t464⟩, A7, H⟩ := bindA H
 obtain ⟨t468, A8, H⟩ := bindA H
 obtain ⟨⟨t469, t470, t473⟩, A9, H⟩ := bindA H
 obtain ⟨⟨t476, t477, t480⟩, A10, H⟩ := bindA H
 obtain ⟨t483, A11, H⟩ := bindA H
 obtain rfl := Option.some.inj H
 go_enter Try.func13, Try.ntmps13
 try go_wp2_with (first | ((with_reducible refine gate_dst (N := 6) rfl ?_); refine box_event rfl (N := 6) rfl (cs := #[.bool a2_0, .slice A2_1 l2_1.length c2_1, .slice A2_2 l2_2.length c2_2]) (t := 29) (by go_simp <;> rfl) ?_; intro gb457 hg w12 hbox hb; have BK457 := mk0 (hbox); have GE457 := geB hg HB; replace HB := hbS HB hb; clear hb hbox hg) | ((with_reducible refine gate_callee (f := 31) rfl ?_); refine goA 11 Try.func31 #[.int .i64 a1] ?_; (with_reducible refine (exposure_bounded.calls a1 t458 _ A5.out).mono ?_); rintro e w13 ⟨rfl, hb⟩; refine ⟨_, rfl, ?_⟩; replace BK457 := bkB BK457 hb; replace HB := hbS HB hb) | ((with_reducible refine gate_callee (f := 31) rfl ?_); refine goA 14 Try.func31 #[.int .i64 a3] ?_; (with_reducible refine (exposure_bounded.calls a3 t459 _ A6.out).mono ?_); rintro e w14 ⟨rfl, hb⟩; refine ⟨_, rfl, ?_⟩; replace BK457 := bkB BK457 hb; replace HB := hbS HB hb) | ((with_reducible refine gate_callee (f := 30) rfl ?_); refine goA 16 Try.func30 #[.int .i64 (wrap64 ((wrap64 (t458 + 1)) + t459)), .int .i64 1] ?_; (with_reducible refine (exposure_fraction.calls k (wrap64 ((wrap64 (t458 + 1)) + t459)) 1 t460 t461 t464 _ A7.out).mono ?_); rintro e w15 ⟨v462, v465, rfl, ho0, ho1, hb⟩; refine ⟨_, rfl, ?_⟩; have HO463 := mk0 (Rl (Rm (ok' := fun k_ => True) ho0 tv) (bZ HB.out)); have HO466 := mk0 (Vl (Vm (ok' := fun k_ => some k_ ≠ (v462 : Value).ownBlock ∧ k_ ≠ gb457) ho1 (fun k_ hk_ => ⟨hk_.2, (Kd.freshB BK457.out k_ hk_.1)⟩)) (bZ HB.out)); replace BK457 := bkB BK457 hb; replace HB := hbS HB hb) | ((with_reducible refine gate_dst (N := 9) rfl ?_); refine box_event rfl (N := 9) rfl (cs := #[.bool false, .slice none 0 0, .slice none 0 0]) (t := 29) (by go_simp <;> rfl) ?_; intro gb467 hg w16 hbox hb; replace HO463 := rB HO463 hb; replace HO466 := vB HO466 hg hb; have BK467 := mk0 (hbox); have GE467 := geB hg HB; replace HB := hbS HB hb; have NB457_467 := nbA hg BK457; have NB467_457 := nbB hg BK457; replace BK457 := bkB BK457 hb; clear hb hbox hg; have hnb17 := NB467_457.out; have hnc17 := NB457_467.out; obtain ⟨hcz18_0, hcz18_1, hcz18_2, hfz18_0, hfz18_1, hfz18_2⟩ := cz3 BK467; obtain ⟨Ao19, co19, eo19⟩ := Kd.R_slice HO463.out; subst eo19; obtain ⟨Ao20, co20, eo20⟩ := Kd.V_slice HO466.out; subst eo20))
 have n0_ : Aside0 (Kd.R (Kd.int .u32) 87 (((w16.setCell ⟨gb467, 0, none⟩ (.bool t460)).setCell ⟨gb467, 1, none⟩ (.slice Ao19 t461.length co19)).setCell ⟨gb467, 2, none⟩ (.slice Ao20 t464.length co20)) w.heap.size (fun _ => True) (.slice Ao19 t461.length co19) t461) := ⟨Rm (Rg 2 (Rg 1 (Rg 0 (Rd HO463.out BK467) (.bool t460)) (.slice Ao19 t461.length co19)) (.slice Ao20 t464.length co20)) tv⟩
 have n1_ : Aside0 (Kd.V (Kd.int .u32) 87 (((w16.setCell ⟨gb467, 0, none⟩ (.bool t460)).setCell ⟨gb467, 1, none⟩ (.slice Ao19 t461.length co19)).setCell ⟨gb467, 2, none⟩ (.slice Ao20 t464.length co20)) w.heap.size (fun k_ => some k_ ≠ (.slice Ao19 t461.length co19 : Value).ownBlock ∧ k_ ≠ gb457 ∧ k_ ≠ gb467) (.slice Ao20 t464.length co20) t464) := ⟨Vm (Vf (p := ⟨gb467, 2, none⟩) (Vf (p := ⟨gb467, 1, none⟩) (Vf (p := ⟨gb467, 0, none⟩) (Vm HO466.out (fun k_ hk => (⟨hk, hk.2⟩ : _ ∧ k_ ≠ gb467))) (fun _ hk => hk.2) (.bool t460)) (fun _ hk => hk.2) (.slice Ao19 t461.length co19)) (fun _ hk => hk.2) (.slice Ao20 t464.length co20)) (fun _ hk => ⟨hk.1.1.1, ⟨hk.1.1.2, hk.1.2⟩⟩)⟩
 have n2_ : Aside0 ((((w16.setCell ⟨gb467, 0, none⟩ (.bool t460)).setCell ⟨gb467, 1, none⟩ (.slice Ao19 t461.length co19)).setCell ⟨gb467, 2, none⟩ (.slice Ao20 t464.length co20)).heap[gb457]? = some (.cells #[.bool a2_0, .slice A2_1 l2_1.length c2_1, .slice A2_2 l2_2.length c2_2] 29 (0, 0))) := ⟨by refine blk_far ?_ NB457_467.out _; refine blk_far ?_ NB457_467.out _; refine blk_far ?_ NB457_467.out _; exact BK457.out⟩
 have n3_ : Aside0 ((((w16.setCell ⟨gb467, 0, none⟩ (.bool t460)).setCell ⟨gb467, 1, none⟩ (.slice Ao19 t461.length co19)).setCell ⟨gb467, 2, none⟩ (.slice Ao20 t464.length co20)).heap[gb467]? = some (.cells #[.bool t460, .slice Ao19 t461.length co19, .slice Ao20 t464.length co20] 29 (0, 0))) := ⟨by refine blk_put (cs := #[.bool t460, .slice Ao19 t461.length co19, .slice none 0 0]) ?_ 2 _ rfl; refine blk_put (cs := #[.bool t460, .slice none 0 0, .slice none 0 0]) ?_ 1 _ rfl; refine blk_put (cs := #[.bool false, .slice none 0 0, .slice none 0 0]) ?_ 0 _ rfl; exact BK467.out⟩
 have n4_ : Aside0 (Below w.heap.size w (((w16.setCell ⟨gb467, 0, none⟩ (.bool t460)).setCell ⟨gb467, 1, none⟩ (.slice Ao19 t461.length co19)).setCell ⟨gb467, 2, none⟩ (.slice Ao20 t464.length co20))) := ⟨by repeat (first | exact HB.out | apply bN | apply b1 | apply bA | refine bS ?_ GE457.out | refine bS ?_ GE467.out)⟩
 (try clear HO463)
 (try clear HO466)
 (try clear BK457)
 (try clear BK467)
 (try clear HB)
 generalize (((w16.setCell ⟨gb467, 0, none⟩ (.bool t460)).setCell ⟨gb467, 1, none⟩ (.slice Ao19 t461.length co19)).setCell ⟨gb467, 2, none⟩ (.slice Ao20 t464.length co20)) = w21 at n0_ n1_ n2_ n3_ n4_ ⊢
 have HO463 := n0_
 have HO466 := n1_
 have BK457 := n2_
 have BK467 := n3_
 have HB := n4_
 clear n0_ n1_ n2_ n3_ n4_
 replace HO463 := mk0 (Kd.R_drew HO463.out)
 replace HO466 := mk0 (Kd.V_drew HO466.out)
 replace BK457 := mk0 (blk_drew BK457.out)
 replace BK467 := mk0 (blk_drew BK467.out)
 replace HB := mk0 (b1 HB.out)
 refine start_ (n := 10) (S := fun w' => w'.cell? ⟨gb457, 0, none⟩ = some (.bool a2_0) ∧ w'.cell? ⟨gb457, 1, none⟩ = some (.slice A2_1 l2_1.length c2_1) ∧ w'.cell? ⟨gb457, 2, none⟩ = some (.slice A2_2 l2_2.length c2_2) ∧ w'.cell? ⟨gb467, 0, none⟩ = some (.bool t460) ∧ w'.cell? ⟨gb467, 1, none⟩ = some (.slice Ao19 t461.length co19) ∧ w'.cell? ⟨gb467, 2, none⟩ = some (.slice Ao20 t464.length co20)) (ds := []) (bv 10 0) (by kernel_rfl) rfl rfl ⟨(blk_cell BK457.out 0).trans rfl, (blk_cell BK457.out 1).trans rfl, (blk_cell BK457.out 2).trans rfl, (blk_cell BK467.out 0).trans rfl, (blk_cell BK467.out 1).trans rfl, (blk_cell BK467.out 2).trans rfl⟩ (fun hHeld => ?_); refine with_tabW exposure_Eligible.tab2 exposure_Eligible.bits2 (fun HT_ HW_ => ?_)
 generalize w21.drew = w22 at HO463 HO466 BK457 BK467 HB hHeld ⊢
 refine puA (i := 0) (N := 17) (v := ?_) (a' := ?_) (bv 10 1) HT_ ?_ ?_ ?_; rotate_left; (intro w'; go_simp; with_reducible rfl); rotate_left; (simp only [Act.put, sA, sZ, sS, i64_w, i32_w]; rfl)
 refine take_ (i := 4) (N := some 21) (v := ?_) (a' := ?_) (bv 10 17) rfl rfl (take_ofW HT_.out HW_.out (by kernel_rfl)) (fun _ _ _ h => h) (Or.inl ⟨by rfl, ?_⟩) hHeld ?_ ?_; rotate_left; (rintro w' ⟨s0, s1, s2, s3, s4, s5⟩; go_simp; with_reducible rfl); rotate_left; (simp only [Act.put, sA, sZ, sS, i64_w, i32_w]; rfl)
 refine take_ (i := 5) (N := some 22) (v := ?_) (a' := ?_) (bv 10 49) rfl rfl (take_ofW HT_.out HW_.out (by kernel_rfl)) (fun _ _ _ h => h) (Or.inl ⟨by rfl, ?_⟩) hHeld ?_ ?_; rotate_left; (rintro w' ⟨s0, s1, s2, s3, s4, s5⟩; go_simp; with_reducible rfl); rotate_left; (simp only [Act.put, sA, sZ, sS, i64_w, i32_w]; rfl)
 refine one_ (i := 1) (N := some 18) (bv 10 51) rfl rfl (one_of HT_.out (by kernel_rfl)) (by decide) (fun K hK => ?_)
 refine goes_ Try.func31 (by kernel_rfl) rfl #[.int .i64 a0] (by rfl) rfl rfl (by go_simp <;> rfl) ?_
 with_reducible refine (exposure_bounded.calls a0 t468 _ A8.out).mono ?_
 rintro e w23 ⟨rfl, hb⟩
 refine ⟨_, rfl, ?_⟩
 replace HO463 := rB HO463 hb
 replace HO466 := mk0 (Kd.V_below HO466.out hb)
 replace BK457 := bkB BK457 hb
 replace BK467 := bkB BK467 hb
 replace HB := mk0 (below_step HB.out hb)
 refine hK.out _ _ ⟨(blk_cell BK457.out 0).trans rfl, (blk_cell BK457.out 1).trans rfl, (blk_cell BK457.out 2).trans rfl, (blk_cell BK467.out 0).trans rfl, (blk_cell BK467.out 1).trans rfl, (blk_cell BK467.out 2).trans rfl⟩ (fun hHeld => ?_)
 clear hK K
 refine norm_ (a' := ?_) ?_ ?_
 rotate_left
 ·show Act.put _ (some 18) _ = _
  simp only [Act.put, sA, sZ, sS, i64_w, i32_w]
  rfl
 refine puA (i := 2) (N := 19) (v := ?_) (a' := ?_) (bv 10 55) HT_ ?_ ?_ ?_; rotate_left; (intro w'; go_simp; with_reducible rfl); rotate_left; (simp only [Act.put, sA, sZ, sS, i64_w, i32_w]; rfl)
 refine one_ (i := 3) (N := some 20) (bv 10 63) rfl rfl (one_of HT_.out (by kernel_rfl)) (by decide) (fun K hK => ?_)
 refine goes_ Try.func30 (by kernel_rfl) rfl #[.int .i64 (wrap64 (t468 + 1)), .int .i64 1] (by rfl) rfl rfl (by go_simp <;> rfl) ?_
 with_reducible refine (exposure_fraction.calls k (wrap64 (t468 + 1)) 1 t469 t470 t473 _ A9.out).mono ?_
 rintro e w24 ⟨v471, v474, rfl, ho0, ho1, hb⟩
 refine ⟨_, rfl, ?_⟩
 replace HO466 := mk0 (Kd.V_elder' HO466.out (Rs ho0) hb)
 have HO472 := mk0 (Rl (Rn (Rm (ok' := fun k_ => True) ho0 tv) (Rq HO463.out)) (bZ HB.out))
 have HO475 := mk0 (Vl (Vm (ok' := fun k_ => some k_ ≠ (v471 : Value).ownBlock ∧ some k_ ≠ (.slice Ao19 t461.length co19 : Value).ownBlock ∧ k_ ≠ gb457 ∧ k_ ≠ gb467) ho1 (fun k_ hk_ => ⟨hk_.2, (Kd.fresh' (Rq HO463.out) k_ hk_.1), (Kd.freshB BK457.out k_ hk_.1), (Kd.freshB BK467.out k_ hk_.1)⟩)) (bZ HB.out))
 replace HO463 := mk0 (Re HO463.out (Rs ho0) hb)
 replace BK457 := bkB BK457 hb
 replace BK467 := bkB BK467 hb
 replace HB := mk0 (below_step HB.out hb)
 refine hK.out _ _ ⟨(blk_cell BK457.out 0).trans rfl, (blk_cell BK457.out 1).trans rfl, (blk_cell BK457.out 2).trans rfl, (blk_cell BK467.out 0).trans rfl, (blk_cell BK467.out 1).trans rfl, (blk_cell BK467.out 2).trans rfl⟩ (fun hHeld => ?_)
 clear hK K
 refine norm_ (a' := ?_) ?_ ?_
 rotate_left
 ·show Act.put _ (some 20) _ = _
  simp only [Act.put, sA, sZ, sS, i64_w, i32_w]
  rfl
 refine one_ (i := 6) (N := some 23) (bv 10 127) rfl rfl (one_of HT_.out (by kernel_rfl)) (by decide) (fun K hK => ?_)
 refine goes_ Try.func27 (by kernel_rfl) rfl #[.agg #[.bool a2_0, .slice A2_1 l2_1.length c2_1, .slice A2_2 l2_2.length c2_2], .agg #[.bool t460, .slice Ao19 t461.length co19, .slice Ao20 t464.length co20]] (by rfl) rfl rfl (by go_simp <;> rfl) ?_
 with_reducible refine (ratio_Mul.calls k a2_0 (fun k_ => k_ < w.heap.size) _ _ l2_1 _ _ l2_2 t460 (fun k_ => some k_ = (.slice Ao19 t461.length co19 : Value).ownBlock) _ _ t461 _ _ t464 t476 t477 t480 _ ?side1 ?side2 ?side3 ?side4 ?side5 ?side6 A10.out).mono ?_
 (case side1 => exact Kd.V_mk HC2_1.out (Kd.F_below (Kd.C_F (Kd.heap_int .u32) HR2_1.out) HB.out))
 (case side2 => exact (Cb HR2_2.out HB.out))
 (case side3 => exact HC2_2.out)
 (case side4 => exact Kd.R_V (Kd.R_tight rfl (Rd (Rd (HO463.out) BK457) BK467)))
 (case side5 => exact (Kd.V_reads' HO466.out).2.2)
 (case side6 => exact (Kd.V_reads' HO466.out).2.1)
 rintro e w25 ⟨v478, v481, rfl, ho0, ho1, hb⟩
 refine ⟨_, rfl, ?_⟩
 replace HO466 := mk0 (Kd.V_elder' HO466.out (Rs ho0) hb)
 replace HO475 := mk0 (Kd.V_elder' HO475.out (Rs ho0) hb)
 have HO479 := mk0 (Rl (Rn (Rn (Rm (ok' := fun k_ => True) ho0 tv) (Rq HO463.out)) (Rq HO472.out)) (bZ HB.out))
 have HO482 := mk0 (Vl (Vm (ok' := fun k_ => some k_ ≠ (v478 : Value).ownBlock ∧ some k_ ≠ (v471 : Value).ownBlock ∧ k_ ≠ gb457 ∧ k_ ≠ gb467) ho1 (fun k_ hk_ => ⟨hk_.2, Or.elim hk_.1 (fun hs_ => Or.elim hs_ (fun hs_ => fun e_ => Nat.not_le.2 hs_ (Rs HO472.out k_ e_.symm)) (fun hs_ => ((Rd (Rd (HO463.out) BK457) BK467).1 k_ hs_.symm).1.1.2)) (fun hn_ => (Kd.fresh' (Rq HO472.out) k_ hn_)), Or.elim hk_.1 (fun hs_ => Or.elim hs_ (fun hs_ => fun e_ => Nat.not_le.2 hs_ (by rw [e_]; exact GE457.out)) (fun hs_ => ((Rd (Rd (HO463.out) BK457) BK467).1 k_ hs_.symm).1.2)) (fun hn_ => (Kd.freshB BK457.out k_ hn_)), Or.elim hk_.1 (fun hs_ => Or.elim hs_ (fun hs_ => fun e_ => Nat.not_le.2 hs_ (by rw [e_]; exact GE467.out)) (fun hs_ => ((Rd (Rd (HO463.out) BK457) BK467).1 k_ hs_.symm).2)) (fun hn_ => (Kd.freshB BK467.out k_ hn_))⟩)) (bZ HB.out))
 replace HO463 := mk0 (Re HO463.out (Rs ho0) hb)
 replace HO472 := mk0 (Re HO472.out (Rs ho0) hb)
 replace BK457 := bkB BK457 hb
 replace BK467 := bkB BK467 hb
 replace HB := mk0 (below_step HB.out hb)
 obtain ⟨Ao26, co26, eo26⟩ := Kd.R_slice HO472.out
 (first | subst eo26 | (injection eo26 with f1_ f2_ f3_; have f4_ := f1_.symm; have f5_ := f3_.symm; clear f1_ f2_ f3_; subst f4_; subst f5_))
 obtain ⟨Ao27, co27, eo27⟩ := Kd.V_slice HO475.out
 (first | subst eo27 | (injection eo27 with f1_ f2_ f3_; have f4_ := f1_.symm; have f5_ := f3_.symm; clear f1_ f2_ f3_; subst f4_; subst f5_))
 obtain ⟨Ao28, co28, eo28⟩ := Kd.R_slice HO479.out
 (first | subst eo28 | (injection eo28 with f1_ f2_ f3_; have f4_ := f1_.symm; have f5_ := f3_.symm; clear f1_ f2_ f3_; subst f4_; subst f5_))
 obtain ⟨Ao29, co29, eo29⟩ := Kd.V_slice HO482.out
 (first | subst eo29 | (injection eo29 with f1_ f2_ f3_; have f4_ := f1_.symm; have f5_ := f3_.symm; clear f1_ f2_ f3_; subst f4_; subst f5_))
 refine hK.out _ _ ⟨(blk_cell BK457.out 0).trans rfl, (blk_cell BK457.out 1).trans rfl, (blk_cell BK457.out 2).trans rfl, (blk_cell BK467.out 0).trans rfl, (blk_cell BK467.out 1).trans rfl, (blk_cell BK467.out 2).trans rfl⟩ (fun hHeld => ?_)
 clear hK K
 refine norm_ (a' := ?_) ?_ ?_
 rotate_left
 ·show Act.put _ (some 23) _ = _
  simp only [Act.put, sA, sZ, sS, i64_w, i32_w]
  rfl
 refine one_ (i := 7) (N := some 24) (bv 10 255) rfl rfl (one_of HT_.out (by kernel_rfl)) (by decide) (fun K hK => ?_)
 refine goes_ Try.func26 (by kernel_rfl) rfl #[.agg #[.bool t469, .slice Ao26 t470.length co26, .slice Ao27 t473.length co27], .agg #[.bool t476, .slice Ao28 t477.length co28, .slice Ao29 t480.length co29]] (by rfl) rfl rfl (by go_simp <;> rfl) ?_
 with_reducible refine (ratio_Cmp.calls k t469 _ _ t470 _ _ t473 t476 _ _ t477 _ _ t480 t483 _ ?side1 ?side2 ?side3 ?side4 ?side5 ?side6 ?side7 ?side8 A11.out).mono ?_
 (case side1 => exact (Kd.R_reads' HO472.out).2.2)
 (case side2 => exact (Kd.R_reads' HO472.out).2.1)
 (case side3 => exact (Kd.V_reads' HO475.out).2.2)
 (case side4 => exact (Kd.V_reads' HO475.out).2.1)
 (case side5 => exact (Kd.R_reads' HO479.out).2.2)
 (case side6 => exact (Kd.R_reads' HO479.out).2.1)
 (case side7 => exact (Kd.V_reads' HO482.out).2.2)
 (case side8 => exact (Kd.V_reads' HO482.out).2.1)
 rintro e w30 ⟨rfl, hb⟩
 refine ⟨_, rfl, ?_⟩
 replace HO463 := rB HO463 hb
 replace HO466 := mk0 (Kd.V_below HO466.out hb)
 replace HO472 := rB HO472 hb
 replace HO475 := mk0 (Kd.V_below HO475.out hb)
 replace HO479 := rB HO479 hb
 replace HO482 := mk0 (Kd.V_below HO482.out hb)
 replace BK457 := bkB BK457 hb
 replace BK467 := bkB BK467 hb
 replace HB := mk0 (below_step HB.out hb)
 refine hK.out _ _ ⟨(blk_cell BK457.out 0).trans rfl, (blk_cell BK457.out 1).trans rfl, (blk_cell BK457.out 2).trans rfl, (blk_cell BK467.out 0).trans rfl, (blk_cell BK467.out 1).trans rfl, (blk_cell BK467.out 2).trans rfl⟩ (fun hHeld => ?_)
 clear hK K
 refine norm_ (a' := ?_) ?_ ?_
 rotate_left
 ·show Act.put _ (some 24) _ = _
  simp only [Act.put, sA, sZ, sS, i64_w, i32_w]
  rfl
 refine puA (i := 8) (N := 25) (v := ?_) (a' := ?_) (bv 10 511) HT_ ?_ ?_ ?_; rotate_left; (intro w'; go_simp; with_reducible rfl); rotate_left; (simp only [Act.put, sA, sZ, sS, i64_w, i32_w]; rfl)
 refine puA (i := 9) (N := 8) (v := ?_) (a' := ?_) (bv 10 1023) HT_ ?_ ?_ ?_; rotate_left; (intro w'; go_simp; with_reducible rfl); rotate_left; (simp only [Act.put, sA, sZ, sS, i64_w, i32_w]; rfl)
 refine done_ (done_of HT_.out (by kernel_rfl)) ?_
 try go_wp2
 go_ret
 exact ⟨by first | rfl | (simp [errW_none, errW_some] <;> rfl) | (simp [*, errW_none, errW_some] <;> rfl), by repeat (first | exact HB.out | apply bN | apply b1 | apply bA | refine bS ?_ GE457.out | refine bS ?_ GE467.out)⟩
set_option maxHeartbeats 8000000 in
set_option maxRecDepth 100000 in
theorem exposure_Count.calls (k : Nat) (A0 : Option Addr) (c0 : Nat) (l0 : List (S50)) (a1 : Int) (r : Int) (w : World) (hr0 : Kd.C k50 w A0 l0.length l0) (hc0 : l0.length ≤ c0) (h : exposure_Count.f k l0 a1 = some r) :
  Calls Try.prog 17 #[.slice A0 l0.length c0, .int .i64 a1] w fun e w' => e = .returned (.int .i64 r) ∧ Below w.heap.size w w' := by
 have hu50 := Try.underlying50
 have HR0 := mk0 hr0
 have HC0 := mk0 hc0
 clear hr0 hc0
 have HB := mk0 (Below.refl w.heap.size w)
 have H : (exposure_Count.l0 k a1 0 l0 (l0.length : Int) 0) = some r := h
 clear h
 have H' := mk0 H
 clear H
 go_enter Try.func17, Try.ntmps17
 go_wp2
 go_loopg [5, 10] k (fun kq v5 v10 w' => ∃ (x5_1 : Int) (x10_1 : Int), v5 = .int .i64 x5_1 ∧ v10 = .int .i64 x10_1 ∧ Aside0 (exposure_Count.l0 kq a1 x5_1 l0 (l0.length : Int) x10_1 = some r) ∧ Aside0 (kq ≤ k) ∧ Aside0 (Below w.heap.size w w'))
 case atStart => exact ⟨(0), (0), rfl, rfl, H', ⟨Nat.le_refl _⟩, ⟨by repeat (first | exact HB.out | apply bN | apply b1 | apply bA)⟩⟩
 case round =>
  clear H'
  try clear c1
  try clear p2
  obtain ⟨x5_1, x10_1, rfl, rfl, HA, HK1, HB⟩ := hrel
  cases gk with
  | zero => exact absurd HA.out (by simp [exposure_Count.l0])
  | succ k1 =>
   have H := HA.out
   clear HA
   simp only [exposure_Count.l0] at H
   by_cases c3 : x10_1 < (l0.length : Int)
   ·rw [if_pos c3] at H
    have c3b0 := decide_eq_true c3
    clear c3
    by_cases c4 : 0 ≤ x10_1
    ·rw [if_pos c4] at H
     have c4b0 := decide_eq_true c4
     clear c4
     by_cases c5 : x10_1 < (l0.length : Int)
     ·rw [if_pos c5] at H
      have c5b0 := decide_eq_true c5
      clear c5
      by_cases c6 : ((rd_T50 l0 x10_1).f0) = a1
      ·rw [if_pos c6] at H
       have c6b0 : (((rd_T50 l0 x10_1).f0) == a1) = true := beq_iff_eq.mpr c6
       have c6b1 : (((rd_T50 l0 x10_1).f0) != a1) = false := bne_eq_false_iff_eq.mpr c6
       clear c6
       obtain ⟨t486, A7, H⟩ := bindA H
       obtain ⟨t487, A8, H⟩ := bindA H
       have H' := mk0 H
       clear H
       have p484 : 0 ≤ (x10_1 : Int) := of_decide_eq_true (by assumption)
       have q484 : x10_1 < (l0.length : Int) := of_decide_eq_true (by assumption)
       obtain ⟨ad484, e484, hx484_0, hx484_1⟩ := at_T50 HR0.out x10_1 p484 q484
       cases e484
       replace hx484_0 := (HB.out.cell (World.block_lt_of_cell? w _ hx484_0)).trans hx484_0
       replace hx484_1 := (HB.out.cell (World.block_lt_of_cell? w _ hx484_1)).trans hx484_1
       replace p484 := eq_true p484
       replace q484 := eq_true q484
       go_wp2_with (first | ((with_reducible refine gate_dst (N := 7) rfl ?_); refine box_event rfl (N := 7) rfl (cs := #[.int .i64 0, .int .i64 0]) (t := 50) (by go_simp <;> rfl) ?_; intro gb485 hg w9 hbox hb; have BK485 := mk0 (hbox); have GE485 := geB hg HB; replace HB := hbS HB hb; clear hb hbox hg; obtain ⟨hcz10_0, hcz10_1, hfz10_0, hfz10_1⟩ := cz2 BK485) | ((with_reducible refine gate_callee (f := 31) rfl ?_); refine goA 21 Try.func31 #[.int .i64 ((rd_T50 l0 x10_1).f1)] ?_; (with_reducible refine (exposure_bounded.calls ((rd_T50 l0 x10_1).f1) t486 _ A7.out).mono ?_); rintro e w11 ⟨rfl, hb⟩; refine ⟨_, rfl, ?_⟩; replace BK485 := mk0 (blk_below (g := gb485) (o := .cells #[.int .i64 ((rd_T50 l0 x10_1).f0), .int .i64 ((rd_T50 l0 x10_1).f1)] 50 (0, 0)) (by refine blk_put (cs := #[.int .i64 ((rd_T50 l0 x10_1).f0), .int .i64 0]) ?_ 1 _ rfl; refine blk_put (cs := #[.int .i64 0, .int .i64 0]) ?_ 0 _ rfl; exact BK485.out) hb); replace HB := mk0 (below_step (by repeat (first | exact HB.out | refine bS ?_ GE485.out)) hb)) | ((with_reducible refine gate_callee (f := 31) rfl ?_); refine goA 23 Try.func31 #[.int .i64 (wrap64 (x5_1 + t486))] ?_; (with_reducible refine (exposure_bounded.calls (wrap64 (x5_1 + t486)) t487 _ A8.out).mono ?_); rintro e w12 ⟨rfl, hb⟩; refine ⟨_, rfl, ?_⟩; replace BK485 := bkB BK485 hb; replace HB := hbS HB hb))
       go_roundg k1
       case measure => have := HK1.out; omega
       case rel => exact ⟨(t487), (wrap64 (x10_1 + 1)), rfl, rfl, H', ⟨by have := HK1.out; omega⟩, ⟨by repeat (first | exact HB.out | apply bN | apply b1 | apply bA | refine bS ?_ GE485.out)⟩⟩
      ·rw [if_neg c6] at H
       have c6b0 : (((rd_T50 l0 x10_1).f0) == a1) = false := beq_eq_false_iff_ne.mpr c6
       have c6b1 : (((rd_T50 l0 x10_1).f0) != a1) = true := bne_iff_ne.mpr c6
       have H' := mk0 H
       clear H
       have p484 : 0 ≤ (x10_1 : Int) := of_decide_eq_true (by assumption)
       have q484 : x10_1 < (l0.length : Int) := of_decide_eq_true (by assumption)
       obtain ⟨ad484, e484, hx484_0, hx484_1⟩ := at_T50 HR0.out x10_1 p484 q484
       cases e484
       replace hx484_0 := (HB.out.cell (World.block_lt_of_cell? w _ hx484_0)).trans hx484_0
       replace hx484_1 := (HB.out.cell (World.block_lt_of_cell? w _ hx484_1)).trans hx484_1
       replace p484 := eq_true p484
       replace q484 := eq_true q484
       go_wp2_with (first | ((with_reducible refine gate_dst (N := 7) rfl ?_); refine box_event rfl (N := 7) rfl (cs := #[.int .i64 0, .int .i64 0]) (t := 50) (by go_simp <;> rfl) ?_; intro gb485 hg w13 hbox hb; have BK485 := mk0 (hbox); have GE485 := geB hg HB; replace HB := hbS HB hb; clear hb hbox hg; obtain ⟨hcz14_0, hcz14_1, hfz14_0, hfz14_1⟩ := cz2 BK485))
       go_roundg k1
       case measure => have := HK1.out; omega
       case rel => exact ⟨(x5_1), (wrap64 (x10_1 + 1)), rfl, rfl, H', ⟨by have := HK1.out; omega⟩, ⟨by repeat (first | exact HB.out | apply bN | apply b1 | apply bA | refine bS ?_ GE485.out)⟩⟩
     ·rw [if_neg c5] at H
      exact absurd H (by simp)
    ·rw [if_neg c4] at H
     exact absurd H (by simp)
   ·rw [if_neg c3] at H
    have c3b0 := decide_eq_false c3
    clear c3
    obtain rfl := Option.some.inj H
    go_wp2
    go_ret
    exact ⟨by first | rfl | (simp [errW_none, errW_some] <;> rfl) | (simp [*, errW_none, errW_some] <;> rfl), by repeat (first | exact HB.out | apply bN | apply b1 | apply bA)⟩
def exposure_Filter.l0 : Nat → List (S50) → Int → Int → List Int → List (S80) → Int → Int → Bool → List Int → List Int → Option (List Int)
 | 0, _, _, _, _, _, _, _, _, _, _ => none
 | k + 1, x1, x2, x4, x11, x14, x15, x16, x608000, x608001, x608002 => if x16 < x15 then (if 0 ≤ x16 then (if x16 < (x14.length : Int) then ((exposure_Count.f k x1 ((rd_T80 x14 x16).f0)).bind fun t614 => ((exposure_Eligible.f k t614 x2 x608000 x608001 x608002 x4).bind fun t615 => (if t615 = true then (if x11.length < 17592186044416 then (exposure_Filter.l0 k x1 x2 x4 (x11 ++ [(rd_T80 x14 x16).f0]) x14 x15 (wrap64 (x16 + 1)) x608000 x608001 x608002) else (none)) else (exposure_Filter.l0 k x1 x2 x4 x11 x14 x15 (wrap64 (x16 + 1)) x608000 x608001 x608002)))) else (none)) else (none)) else ((slices_Sort_int_int.f x11).bind fun t608 => ((slices_Compact_int_int.f t608).bind fun t609 => (some t609)))
def exposure_Filter.f (k : Nat) (l0 : List (S80)) (l1 : List (S50)) (a2 : Int) (a3_0 : Bool) (l3_1 : List Int) (l3_2 : List Int) (a4 : Int) : Option (List Int) := exposure_Filter.l0 k l1 a2 a4 ([] : List Int) l0 (l0.length : Int) 0 a3_0 l3_1 l3_2
def examboardref01_Norm.l0 : Nat → List Int → Int → Option (List Int)
 | 0, _, _ => none
 | k + 1, x0, x3 => if x3 > 0 then (if 0 ≤ (wrap64 (x3 - 1)) then (if (wrap64 (x3 - 1)) < (x0.length : Int) then (if (rd x0 (wrap64 (x3 - 1))) = 0 then (examboardref01_Norm.l0 k x0 (wrap64 (x3 - 1))) else (if 0 ≤ x3 then (if (x3 : Int).toNat ≤ 70368744177664 then (if (x3 : Int).toNat ≤ x0.length then (some (x0.take (x3 : Int).toNat)) else (none)) else (none)) else (none))) else (none)) else (none)) else (if 0 ≤ x3 then (if (x3 : Int).toNat ≤ 70368744177664 then (if (x3 : Int).toNat ≤ x0.length then (some (x0.take (x3 : Int).toNat)) else (none)) else (none)) else (none))
def examboardref01_Norm.f (k : Nat) (l0 : List Int) : Option (List Int) := examboardref01_Norm.l0 k l0 (l0.length : Int)
def examboardref02_Norm.f (k : Nat) (a0_0 : Bool) (l0_1 : List Int) : Option (Bool × List Int) := (examboardref01_Norm.f k l0_1).bind fun t621 => (if a0_0 = true then (some (decide (0 < t621.length), t621)) else (some (false, t621)))
def examboardref02_Make.f (k : Nat) (a0 : Bool) (l1 : List Int) : Option (Bool × List Int) := (examboardref02_Norm.f k a0 l1).bind fun bt625 => (some (bt625.1, bt625.2))
def examboardref01_Bits.l0 : Nat → Int → Int → Option (Int)
 | 0, _, _ => none
 | k + 1, x3, x4 => if x4 > 0 then (examboardref01_Bits.l0 k (wrap64 (x3 + 1)) ((Int.tdiv x4 2) % 4294967296)) else (some x3)
def examboardref01_Bits.f (k : Nat) (l0 : List Int) : Option (Int) := (examboardref01_Norm.f k l0).bind fun t629 => (if (t629.length : Int) = 0 then (some 0) else (if 0 ≤ (wrap64 ((t629.length : Int) - 1)) then (if (wrap64 ((t629.length : Int) - 1)) < (t629.length : Int) then (examboardref01_Bits.l0 k (wrap64 (32 * (wrap64 ((t629.length : Int) - 1)))) (rd t629 (wrap64 ((t629.length : Int) - 1)))) else (none)) else (none)))
def examboardref01_Of.f (k : Nat) (a0 : Int) : Option (List Int) := (examboardref01_Norm.f k (([(a0) % 4294967296, (a0 / 4294967296) % 4294967296] : List Int))).bind fun t636 => (some t636)
def examboardref03_zero.f (k : Nat)  : Option (Bool × List Int × List Int) := (examboardref01_Of.f k 1).bind fun t640 => (some (false, ([] : List Int), t640))
def examboardref01_limb.f (l0 : List Int) (a1 : Int) : Option (Int) := if a1 < (l0.length : Int) then (if 0 ≤ a1 then (some (IntKind.u64.wrap (rd l0 a1))) else (none)) else (some 0)
def examboardref01_Cmp.l0 : Nat → List Int → List Int → Int → Option (Int)
 | 0, _, _, _ => none
 | k + 1, x0, x1, x5 => if x5 ≥ 0 then ((examboardref01_limb.f x0 x5).bind fun t644 => ((examboardref01_limb.f x1 x5).bind fun t645 => (if t644 < t645 then (some (-1)) else (if t644 > t645 then (some 1) else (examboardref01_Cmp.l0 k x0 x1 (wrap64 (x5 - 1))))))) else (some 0)
def examboardref01_Cmp.f (k : Nat) (l0 : List Int) (l1 : List Int) : Option (Int) := examboardref01_Cmp.l0 k l0 l1 (wrap64 ((mx (l0.length : Int) (l1.length : Int)) - 1))
def examboardref01_short.l0 : Nat → List Int → Int → List Int → Int → Int → Option (List Int × Int)
 | 0, _, _, _, _, _ => none
 | k + 1, x0, x1, x6, x7, x8 => if x8 ≥ 0 then (if 0 ≤ x8 then (if x8 < (x0.length : Int) then (if x1 = 0 then (none) else (if x8 < (x6.length : Int) then (examboardref01_short.l0 k x0 x1 (x6.set (x8 : Int).toNat ((IntKind.u64.wrap (Int.tdiv (IntKind.u64.wrap ((IntKind.u64.wrap (x7 * 4294967296)) + (IntKind.u64.wrap (rd x0 x8)))) x1)) % 4294967296)) (Int.tmod (IntKind.u64.wrap ((IntKind.u64.wrap (x7 * 4294967296)) + (IntKind.u64.wrap (rd x0 x8)))) x1) (wrap64 (x8 - 1))) else (none))) else (none)) else (none)) else ((examboardref01_Norm.f k x6).bind fun t651 => (some (t651, x7)))
def examboardref01_short.f (k : Nat) (l0 : List Int) (a1 : Int) : Option (List Int × Int) := if 0 ≤ (l0.length : Int) then (if ((l0.length : Int) : Int).toNat ≤ 70368744177664 then (examboardref01_short.l0 k l0 a1 (List.replicate ((l0.length : Int) : Int).toNat 0) 0 (wrap64 ((l0.length : Int) - 1))) else (none)) else (none)
def examboardref01_Shift.l0 : Nat → List Int → Int → List Int → Int → Option (List Int)
 | 0, _, _, _, _ => none
 | k + 1, x0, x1, x5, x6 => if x6 < (x0.length : Int) then (if 0 ≤ x6 then (if 0 ≤ (IntKind.u64.wrap (Int.tmod x1 32)) then (if 0 ≤ (wrap64 (x6 + (wrap64 (Int.tdiv x1 32)))) then (if (wrap64 (x6 + (wrap64 (Int.tdiv x1 32)))) < (x5.length : Int) then (if 0 ≤ (wrap64 ((wrap64 (x6 + (wrap64 (Int.tdiv x1 32)))) + 1)) then (if (wrap64 ((wrap64 (x6 + (wrap64 (Int.tdiv x1 32)))) + 1)) < (x5.length : Int) then (examboardref01_Shift.l0 k x0 x1 ((x5.set ((wrap64 (x6 + (wrap64 (Int.tdiv x1 32)))) : Int).toNat (Go.bits .or .u32 (rd x5 (wrap64 (x6 + (wrap64 (Int.tdiv x1 32))))) ((shl .u64 (IntKind.u64.wrap (rd x0 x6)) (IntKind.u64.wrap (Int.tmod x1 32))) % 4294967296))).set ((wrap64 ((wrap64 (x6 + (wrap64 (Int.tdiv x1 32)))) + 1)) : Int).toNat (((shl .u64 (IntKind.u64.wrap (rd x0 x6)) (IntKind.u64.wrap (Int.tmod x1 32))) / 4294967296) % 4294967296)) (wrap64 (x6 + 1))) else (none)) else (none)) else (none)) else (none)) else (none)) else (none)) else ((examboardref01_Norm.f k x5).bind fun t661 => (some t661))
def examboardref01_Shift.f (k : Nat) (l0 : List Int) (a1 : Int) : Option (List Int) := if 0 ≤ (wrap64 ((wrap64 ((l0.length : Int) + (wrap64 (Int.tdiv a1 32)))) + 1)) then (if (wrap64 ((wrap64 ((l0.length : Int) + (wrap64 (Int.tdiv a1 32)))) + 1) : Int).toNat ≤ 70368744177664 then (examboardref01_Shift.l0 k l0 a1 (List.replicate (wrap64 ((wrap64 ((l0.length : Int) + (wrap64 (Int.tdiv a1 32)))) + 1) : Int).toNat 0) 0) else (none)) else (none)
def examboardref01_Sub.l0 : Nat → List Int → List Int → List Int → Int → Int → Option (List Int × Bool)
 | 0, _, _, _, _, _ => none
 | k + 1, x0, x1, x6, x7, x8 => if x8 < (x0.length : Int) then ((examboardref01_limb.f x0 x8).bind fun t671 => ((examboardref01_limb.f x1 x8).bind fun t672 => (if t671 < (IntKind.u64.wrap (t672 + x7)) then (if 0 ≤ x8 then (if x8 < (x6.length : Int) then (examboardref01_Sub.l0 k x0 x1 (x6.set (x8 : Int).toNat ((IntKind.u64.wrap ((IntKind.u64.wrap (t671 + 4294967296)) - (IntKind.u64.wrap (t672 + x7)))) % 4294967296)) 1 (wrap64 (x8 + 1))) else (none)) else (none)) else (if 0 ≤ x8 then (if x8 < (x6.length : Int) then (examboardref01_Sub.l0 k x0 x1 (x6.set (x8 : Int).toNat ((IntKind.u64.wrap (t671 - (IntKind.u64.wrap (t672 + x7)))) % 4294967296)) 0 (wrap64 (x8 + 1))) else (none)) else (none))))) else ((examboardref01_Norm.f k x6).bind fun t668 => (some (t668, true)))
def examboardref01_Sub.f (k : Nat) (l0 : List Int) (l1 : List Int) : Option (List Int × Bool) := (examboardref01_Cmp.f k l0 l1).bind fun t664 => (if t664 < 0 then (some (([] : List Int), false)) else (if 0 ≤ (l0.length : Int) then (if ((l0.length : Int) : Int).toNat ≤ 70368744177664 then (examboardref01_Sub.l0 k l0 l1 (List.replicate ((l0.length : Int) : Int).toNat 0) 0 0) else (none)) else (none)))
def examboardref01_half.l0 : Nat → List Int → List Int → Int → Option (List Int)
 | 0, _, _, _ => none
 | k + 1, x0, x3, x4 => if x4 < (x0.length : Int) then ((examboardref01_limb.f x0 (wrap64 (x4 + 1))).bind fun t678 => (if 0 ≤ x4 then (if x4 < (x3.length : Int) then (examboardref01_half.l0 k x0 (x3.set (x4 : Int).toNat (((IntKind.u64.wrap ((IntKind.u64.wrap (t678 * 4294967296)) + (IntKind.u64.wrap (rd x0 x4)))) / 2) % 4294967296)) (wrap64 (x4 + 1))) else (none)) else (none))) else ((examboardref01_Norm.f k x3).bind fun t681 => (some t681))
def examboardref01_half.f (k : Nat) (l0 : List Int) : Option (List Int) := if 0 ≤ (l0.length : Int) then (if ((l0.length : Int) : Int).toNat ≤ 70368744177664 then (examboardref01_half.l0 k l0 (List.replicate ((l0.length : Int) : Int).toNat 0) 0) else (none)) else (none)
def examboardref01_DivMod.l0 : Nat → List Int → List Int → List Int → Int → Option (List Int × List Int × Bool)
 | 0, _, _, _, _ => none
 | k + 1, x0, x10, x11, x12 => if x12 ≥ 0 then ((examboardref01_Cmp.f k x0 x11).bind fun t709 => (if t709 ≥ 0 then ((examboardref01_Sub.f k x0 x11).bind fun bt710 => (if 0 ≤ (wrap64 (Int.tdiv x12 32)) then (if (wrap64 (Int.tdiv x12 32)) < (x10.length : Int) then (if 0 ≤ (IntKind.u64.wrap (Int.tmod x12 32)) then ((examboardref01_half.f k x11).bind fun t716 => (examboardref01_DivMod.l0 k bt710.1 (x10.set ((wrap64 (Int.tdiv x12 32)) : Int).toNat (Go.bits .or .u32 (rd x10 (wrap64 (Int.tdiv x12 32))) (shl .u32 1 (IntKind.u64.wrap (Int.tmod x12 32))))) t716 (wrap64 (x12 - 1)))) else (none)) else (none)) else (none))) else ((examboardref01_half.f k x11).bind fun t719 => (examboardref01_DivMod.l0 k x0 x10 t719 (wrap64 (x12 - 1)))))) else ((examboardref01_Norm.f k x10).bind fun t706 => (some (t706, x0, true)))
def examboardref01_DivMod.f (k : Nat) (l0 : List Int) (l1 : List Int) : Option (List Int × List Int × Bool) := (examboardref01_Norm.f k l0).bind fun t684 => ((examboardref01_Norm.f k l1).bind fun t687 => (if (t687.length : Int) = 0 then (some (([] : List Int), ([] : List Int), false)) else (if (t687.length : Int) = 1 then (if 0 < (t687.length : Int) then ((examboardref01_short.f k t684 (IntKind.u64.wrap (rd t687 0))).bind fun bt691 => ((examboardref01_Of.f k bt691.2).bind fun t695 => (some (bt691.1, t695, true)))) else (none)) else ((examboardref01_Bits.f k t684).bind fun t698 => ((examboardref01_Bits.f k t687).bind fun t699 => (if (wrap64 (t698 - t699)) < 0 then (some (([] : List Int), t684, true)) else (if 0 ≤ (wrap64 ((wrap64 (Int.tdiv (wrap64 (t698 - t699)) 32)) + 1)) then (if (wrap64 ((wrap64 (Int.tdiv (wrap64 (t698 - t699)) 32)) + 1) : Int).toNat ≤ 70368744177664 then ((examboardref01_Shift.f k t687 (wrap64 (t698 - t699))).bind fun t703 => (examboardref01_DivMod.l0 k t684 (List.replicate (wrap64 ((wrap64 (Int.tdiv (wrap64 (t698 - t699)) 32)) + 1) : Int).toNat 0) t703 (wrap64 (t698 - t699)))) else (none)) else (none))))))))
def examboardref01_Gcd.l0 : Nat → List Int → List Int → Option (List Int)
 | 0, _, _ => none
 | k + 1, x0, x1 => if (x1.length : Int) > 0 then ((examboardref01_DivMod.f k x0 x1).bind fun bt728 => (examboardref01_Gcd.l0 k x1 bt728.2.1)) else (some x0)
def examboardref01_Gcd.f (k : Nat) (l0 : List Int) (l1 : List Int) : Option (List Int) := (examboardref01_Norm.f k l0).bind fun t722 => ((examboardref01_Norm.f k l1).bind fun t725 => (examboardref01_Gcd.l0 k t722 t725))
def examboardref03_reduce.f (k : Nat) (a0_0 : Bool) (l0_1 : List Int) (l1 : List Int) : Option (Bool × List Int × List Int) := (examboardref02_Norm.f k a0_0 l0_1).bind fun bt737 => ((examboardref01_Bits.f k bt737.2).bind fun t742 => (if t742 = 0 then ((examboardref03_zero.f k).bind fun bt743 => (some (bt743.1, bt743.2.1, bt743.2.2))) else ((examboardref01_Gcd.f k bt737.2 l1).bind fun t750 => ((examboardref01_DivMod.f k bt737.2 t750).bind fun bt753 => ((examboardref01_DivMod.f k l1 t750).bind fun bt760 => ((examboardref02_Make.f k bt737.1 bt753.1).bind fun bt767 => (some (bt767.1, bt767.2, bt760.1))))))))
mutual
def examboardref01_Mul.l0 : Nat → List Int → List Int → List Int → Int → Option (List Int)
 | 0, _, _, _, _ => none
 | k + 1, x0, x1, x5, x6 => if x6 < (x0.length : Int) then (examboardref01_Mul.l1 k x0 x1 x5 x6 0 0) else ((examboardref01_Norm.f k x5).bind fun t774 => (some t774))
def examboardref01_Mul.l1 : Nat → List Int → List Int → List Int → Int → Int → Int → Option (List Int)
 | 0, _, _, _, _, _, _ => none
 | k + 1, x0, x1, x5, x6, x7, x8 => if x8 < (x1.length : Int) then (if 0 ≤ (wrap64 (x6 + x8)) then (if (wrap64 (x6 + x8)) < (x5.length : Int) then (if 0 ≤ x6 then (if x6 < (x0.length : Int) then (if 0 ≤ x8 then (examboardref01_Mul.l1 k x0 x1 (x5.set ((wrap64 (x6 + x8)) : Int).toNat ((IntKind.u64.wrap ((IntKind.u64.wrap ((IntKind.u64.wrap (rd x5 (wrap64 (x6 + x8)))) + (IntKind.u64.wrap ((IntKind.u64.wrap (rd x0 x6)) * (IntKind.u64.wrap (rd x1 x8)))))) + x7)) % 4294967296)) x6 ((IntKind.u64.wrap ((IntKind.u64.wrap ((IntKind.u64.wrap (rd x5 (wrap64 (x6 + x8)))) + (IntKind.u64.wrap ((IntKind.u64.wrap (rd x0 x6)) * (IntKind.u64.wrap (rd x1 x8)))))) + x7)) / 4294967296) (wrap64 (x8 + 1))) else (none)) else (none)) else (none)) else (none)) else (none)) else (if 0 ≤ (wrap64 (x6 + (x1.length : Int))) then (if (wrap64 (x6 + (x1.length : Int))) < (x5.length : Int) then (examboardref01_Mul.l0 k x0 x1 (x5.set ((wrap64 (x6 + (x1.length : Int))) : Int).toNat ((x7) % 4294967296)) (wrap64 (x6 + 1))) else (none)) else (none))
end
def examboardref01_Mul.f (k : Nat) (l0 : List Int) (l1 : List Int) : Option (List Int) := if 0 ≤ (wrap64 ((l0.length : Int) + (l1.length : Int))) then (if (wrap64 ((l0.length : Int) + (l1.length : Int)) : Int).toNat ≤ 70368744177664 then (examboardref01_Mul.l0 k l0 l1 (List.replicate (wrap64 ((l0.length : Int) + (l1.length : Int)) : Int).toNat 0) 0) else (none)) else (none)
def examboardref02_Mul.f (k : Nat) (a0_0 : Bool) (l0_1 : List Int) (a1_0 : Bool) (l1_1 : List Int) : Option (Bool × List Int) := (examboardref01_Mul.f k l0_1 l1_1).bind fun t785 => ((examboardref02_Make.f k (a0_0 != a1_0) t785).bind fun bt788 => (some (bt788.1, bt788.2)))
def examboardref02_Of.f (k : Nat) (a0 : Int) : Option (Bool × List Int) := if a0 < 0 then ((examboardref01_Of.f k (IntKind.u64.wrap ((IntKind.u64.wrap (wrap64 (-(wrap64 (a0 + 1))))) + 1))).bind fun t793 => ((examboardref02_Make.f k true t793).bind fun bt796 => (some (bt796.1, bt796.2)))) else ((examboardref01_Of.f k (IntKind.u64.wrap (a0))).bind fun t800 => ((examboardref02_Make.f k false t800).bind fun bt803 => (some (bt803.1, bt803.2))))
def examboardref03_top.f (k : Nat) (a0_0 : Bool) (l0_1 : List Int) (l0_2 : List Int) : Option (Bool × List Int) := (examboardref01_Bits.f k l0_2).bind fun t809 => (if t809 = 0 then ((examboardref02_Of.f k 0).bind fun bt810 => (some (bt810.1, bt810.2))) else ((examboardref02_Norm.f k a0_0 l0_1).bind fun bt814 => (some (bt814.1, bt814.2))))
def examboardref03_low.f (k : Nat) (a0_0 : Bool) (l0_1 : List Int) (l0_2 : List Int) : Option (List Int) := (examboardref01_Bits.f k l0_2).bind fun t819 => (if t819 = 0 then ((examboardref01_Of.f k 1).bind fun t820 => (some t820)) else ((examboardref01_Norm.f k l0_2).bind fun t823 => (some t823)))
def examboardref03_Mul.f (k : Nat) (a0_0 : Bool) (l0_1 : List Int) (l0_2 : List Int) (a1_0 : Bool) (l1_1 : List Int) (l1_2 : List Int) : Option (Bool × List Int × List Int) := (examboardref03_top.f k a0_0 l0_1 l0_2).bind fun bt829 => ((examboardref03_top.f k a1_0 l1_1 l1_2).bind fun bt833 => ((examboardref02_Mul.f k bt829.1 bt829.2 bt833.1 bt833.2).bind fun bt837 => ((examboardref03_low.f k a0_0 l0_1 l0_2).bind fun t841 => ((examboardref03_low.f k a1_0 l1_1 l1_2).bind fun t844 => ((examboardref01_Mul.f k t841 t844).bind fun t847 => ((examboardref03_reduce.f k bt837.1 bt837.2 t847).bind fun bt850 => (some (bt850.1, bt850.2.1, bt850.2.2))))))))
def examboardref02_Neg.f (k : Nat) (a0_0 : Bool) (l0_1 : List Int) : Option (Bool × List Int) := (examboardref02_Make.f k (!a0_0) l0_1).bind fun bt859 => (some (bt859.1, bt859.2))
def examboardref03_Make.f (k : Nat) (a0_0 : Bool) (l0_1 : List Int) (a1_0 : Bool) (l1_1 : List Int) : Option (Bool × List Int × List Int × Bool) := (examboardref02_Norm.f k a1_0 l1_1).bind fun bt866 => ((examboardref01_Bits.f k bt866.2).bind fun t871 => (if t871 = 0 then ((examboardref03_zero.f k).bind fun bt872 => (some (bt872.1, bt872.2.1, bt872.2.2, false))) else ((examboardref02_Norm.f k a0_0 l0_1).bind fun bt879 => (if bt866.1 = true then ((examboardref02_Neg.f k bt879.1 bt879.2).bind fun bt884 => ((examboardref03_reduce.f k bt884.1 bt884.2 bt866.2).bind fun bt888 => (some (bt888.1, bt888.2.1, bt888.2.2, true)))) else ((examboardref03_reduce.f k bt879.1 bt879.2 bt866.2).bind fun bt895 => (some (bt895.1, bt895.2.1, bt895.2.2, true)))))))
def examboardref03_Of.f (k : Nat) (a0 : Int) (a1 : Int) : Option (Bool × List Int × List Int × Bool) := (examboardref02_Of.f k a0).bind fun bt903 => ((examboardref02_Of.f k a1).bind fun bt907 => ((examboardref03_Make.f k bt903.1 bt903.2 bt907.1 bt907.2).bind fun bt911 => (some (bt911.1, bt911.2.1, bt911.2.2.1, bt911.2.2.2))))
def examboardref37_whole.f (k : Nat) (a0 : Int) : Option (Bool × List Int × List Int) := (examboardref03_Of.f k a0 1).bind fun bt920 => (some (bt920.1, bt920.2.1, bt920.2.2.1))
def examboardref37_limited.f (a0 : Int) : Option (Int) := if a0 < 0 then (some 0) else (if a0 > 1000000 then (some 1000000) else (some a0))
def examboardref02_Sign.f (k : Nat) (a0_0 : Bool) (l0_1 : List Int) : Option (Int) := (examboardref02_Norm.f k a0_0 l0_1).bind fun bt930 => (if (bt930.2.length : Int) = 0 then (some 0) else (if bt930.1 = true then (some (-1)) else (some 1)))
def examboardref02_Cmp.f (k : Nat) (a0_0 : Bool) (l0_1 : List Int) (a1_0 : Bool) (l1_1 : List Int) : Option (Int) := (examboardref02_Sign.f k a0_0 l0_1).bind fun t937 => ((examboardref02_Sign.f k a1_0 l1_1).bind fun t938 => (if t937 < t938 then (some (-1)) else (if t937 > t938 then (some 1) else (if t937 < 0 then ((examboardref01_Cmp.f k l1_1 l0_1).bind fun t939 => (some t939)) else ((examboardref01_Cmp.f k l0_1 l1_1).bind fun t940 => (some t940))))))
def examboardref03_Cmp.f (k : Nat) (a0_0 : Bool) (l0_1 : List Int) (l0_2 : List Int) (a1_0 : Bool) (l1_1 : List Int) (l1_2 : List Int) : Option (Int) := (examboardref03_top.f k a0_0 l0_1 l0_2).bind fun bt943 => ((examboardref03_low.f k a1_0 l1_1 l1_2).bind fun t947 => ((examboardref02_Make.f k false t947).bind fun bt950 => ((examboardref02_Mul.f k bt943.1 bt943.2 bt950.1 bt950.2).bind fun bt954 => ((examboardref03_top.f k a1_0 l1_1 l1_2).bind fun bt959 => ((examboardref03_low.f k a0_0 l0_1 l0_2).bind fun t963 => ((examboardref02_Make.f k false t963).bind fun bt966 => ((examboardref02_Mul.f k bt959.1 bt959.2 bt966.1 bt966.2).bind fun bt970 => ((examboardref02_Cmp.f k bt954.1 bt954.2 bt970.1 bt970.2).bind fun t975 => (some t975)))))))))
def examboardref37_Eligible.f (k : Nat) (a0 : Int) (a1 : Int) (a2_0 : Bool) (l2_1 : List Int) (l2_2 : List Int) (a3 : Int) : Option (Bool) := (examboardref37_limited.f a1).bind fun t977 => ((examboardref37_limited.f a3).bind fun t978 => ((examboardref37_whole.f k (wrap64 ((wrap64 (t977 + 1)) + t978))).bind fun bt979 => ((examboardref03_Mul.f k a2_0 l2_1 l2_2 bt979.1 bt979.2.1 bt979.2.2).bind fun bt986 => ((examboardref37_limited.f a0).bind fun t994 => ((examboardref37_whole.f k (wrap64 (t994 + 1))).bind fun bt995 => ((examboardref03_Cmp.f k bt995.1 bt995.2.1 bt995.2.2 bt986.1 bt986.2.1 bt986.2.2).bind fun t1002 => (some (decide (t1002 ≤ 0)))))))))
def examboardref37_Count.l0 : Nat → List (S50) → Int → Int → Int → Option (Int)
 | 0, _, _, _, _ => none
 | k + 1, x0, x1, x5, x6 => if x6 < (x0.length : Int) then (if 0 ≤ x6 then (if ((rd_T50 x0 x6).f0) = x1 then ((examboardref37_limited.f ((rd_T50 x0 x6).f1)).bind fun t1005 => ((examboardref37_limited.f (wrap64 (x5 + t1005))).bind fun t1006 => (examboardref37_Count.l0 k x0 x1 t1006 (wrap64 (x6 + 1))))) else (examboardref37_Count.l0 k x0 x1 x5 (wrap64 (x6 + 1)))) else (none)) else (some x5)
def examboardref37_Count.f (k : Nat) (l0 : List (S50)) (a1 : Int) : Option (Int) := examboardref37_Count.l0 k l0 a1 0 0
def examboardref37_least.l0 : Nat → List Int → Bool → Int → Int → Bool → Int → Option (Int × Bool)
 | 0, _, _, _, _, _, _ => none
 | k + 1, x0, x1, x2, x8, x9, x10 => if x10 < (x0.length : Int) then (if x1 = true then (if 0 ≤ x10 then (if (rd x0 x10) > x2 then (if x9 = true then (if (rd x0 x10) < x8 then (examboardref37_least.l0 k x0 x1 x2 (rd x0 x10) true (wrap64 (x10 + 1))) else (examboardref37_least.l0 k x0 x1 x2 x8 x9 (wrap64 (x10 + 1)))) else (examboardref37_least.l0 k x0 x1 x2 (rd x0 x10) true (wrap64 (x10 + 1)))) else (examboardref37_least.l0 k x0 x1 x2 x8 x9 (wrap64 (x10 + 1)))) else (none)) else (if x9 = true then (if 0 ≤ x10 then (if (rd x0 x10) < x8 then (examboardref37_least.l0 k x0 x1 x2 (rd x0 x10) true (wrap64 (x10 + 1))) else (examboardref37_least.l0 k x0 x1 x2 x8 x9 (wrap64 (x10 + 1)))) else (none)) else (if 0 ≤ x10 then (examboardref37_least.l0 k x0 x1 x2 (rd x0 x10) true (wrap64 (x10 + 1))) else (none)))) else (some (x8, x9))
def examboardref37_least.f (k : Nat) (l0 : List Int) (a1 : Bool) (a2 : Int) : Option (Int × Bool) := examboardref37_least.l0 k l0 a1 a2 0 false 0
def examboardref37_rising.l0 : Nat → List Int → List Int → Int → Bool → Option (List Int)
 | 0, _, _, _, _ => none
 | k + 1, x0, x3, x4, x5 => if x5 = true then (if x3.length < 17592186044416 then ((examboardref37_least.f k x0 true x4).bind fun bt1019 => (examboardref37_rising.l0 k x0 (x3 ++ [x4]) bt1019.1 bt1019.2)) else (none)) else (some x3)
def examboardref37_rising.f (k : Nat) (l0 : List Int) : Option (List Int) := (examboardref37_least.f k l0 false 0).bind fun bt1014 => (examboardref37_rising.l0 k l0 ([] : List Int) bt1014.1 bt1014.2)
def examboardref37_Filter.l0 : Nat → List (S80) → List (S50) → Int → Int → List Int → Int → Bool → List Int → List Int → Option (List Int)
 | 0, _, _, _, _, _, _, _, _, _ => none
 | k + 1, x0, x1, x2, x4, x11, x12, x1022000, x1022001, x1022002 => if x12 < (x0.length : Int) then (if 0 ≤ x12 then ((examboardref37_Count.f k x1 ((rd_T80 x0 x12).f0)).bind fun t1026 => ((examboardref37_Eligible.f k t1026 x2 x1022000 x1022001 x1022002 x4).bind fun t1027 => (if t1027 = true then (if x11.length < 17592186044416 then (examboardref37_Filter.l0 k x0 x1 x2 x4 (x11 ++ [(rd_T80 x0 x12).f0]) (wrap64 (x12 + 1)) x1022000 x1022001 x1022002) else (none)) else (examboardref37_Filter.l0 k x0 x1 x2 x4 x11 (wrap64 (x12 + 1)) x1022000 x1022001 x1022002)))) else (none)) else ((examboardref37_rising.f k x11).bind fun t1022 => (some t1022))
def examboardref37_Filter.f (k : Nat) (l0 : List (S80)) (l1 : List (S50)) (a2 : Int) (a3_0 : Bool) (l3_1 : List Int) (l3_2 : List Int) (a4 : Int) : Option (List Int) := examboardref37_Filter.l0 k l0 l1 a2 a4 ([] : List Int) 0 a3_0 l3_1 l3_2
mutual
def examboardlaw37_ExposureFilters.j0 : Nat → List (S80) → List (S50) → Int → Int → Bool → Bool → List Int → List Int → Option (Bool)
 | 0, _, _, _, _, _, _, _, _ => none
 | k + 1, x0, x1, x2, x4, x25, x1033000, x1033001, x1033002 => if x25 = true then (some true) else ((exposure_Filter.f k x0 x1 x2 x1033000 x1033001 x1033002 x4).bind fun t1034 => ((examboardref37_Filter.f k x0 x1 x2 x1033000 x1033001 x1033002 x4).bind fun t1037 => (if (t1034.length : Int) = (t1037.length : Int) then (examboardlaw37_ExposureFilters.l0 k t1034 t1037 0) else (some false))))
def examboardlaw37_ExposureFilters.l0 : Nat → List Int → List Int → Int → Option (Bool)
 | 0, _, _, _ => none
 | k + 1, x11, x12, x13 => if x13 < (x11.length : Int) then (if 0 ≤ x13 then (if x13 < (x12.length : Int) then (if (rd x11 x13) = (rd x12 x13) then (examboardlaw37_ExposureFilters.l0 k x11 x12 (wrap64 (x13 + 1))) else (some false)) else (none)) else (none)) else (some true)
end
def examboardlaw37_ExposureFilters.f (k : Nat) (l0 : List (S80)) (l1 : List (S50)) (a2 : Int) (a3_0 : Bool) (l3_1 : List Int) (l3_2 : List Int) (a4 : Int) : Option (Bool) := if (l0.length : Int) > 40 then (examboardlaw37_ExposureFilters.j0 k l0 l1 a2 a4 true a3_0 l3_1 l3_2) else (if (l1.length : Int) > 200 then (examboardlaw37_ExposureFilters.j0 k l0 l1 a2 a4 true a3_0 l3_1 l3_2) else ((examboardlaw37_large.f a3_0 l3_1 l3_2).bind fun t1033 => (examboardlaw37_ExposureFilters.j0 k l0 l1 a2 a4 t1033 a3_0 l3_1 l3_2)))
set_option maxHeartbeats 8000000 in
set_option maxRecDepth 100000 in
theorem examboardref01_Norm.calls (k : Nat) (A0 : Option Addr) (c0 : Nat) (l0 : List Int) (r : List Int) (w : World) (hr0 : Kd.C (Kd.int .u32) w A0 l0.length l0) (hc0 : l0.length ≤ c0) (h : examboardref01_Norm.f k l0 = some r) :
  Calls Try.prog 89 #[.slice A0 l0.length c0] w fun e w' => ∃ v0_ : Value, e = .returned (v0_) ∧ Kd.R (Kd.int .u32) 87 w' w.heap.size (fun _ => True) v0_ r ∧ Below w.heap.size w w' := by
 have HR0 := mk0 hr0
 have HC0 := mk0 hc0
 clear hr0 hc0
 have HB := mk0 (Below.refl w.heap.size w)
 have H : (examboardref01_Norm.l0 k l0 (l0.length : Int)) = some r := h
 clear h
 have H' := mk0 H
 clear H
 go_enter Try.func89, Try.ntmps89
 go_wp2
 go_loopg [3] k (fun kq v3 w' => ∃ (x3_1 : Int), v3 = .int .i64 x3_1 ∧ Aside0 (examboardref01_Norm.l0 kq l0 x3_1 = some r) ∧ Aside0 (kq ≤ k) ∧ Aside0 (Below w.heap.size w w'))
 case atStart => exact ⟨((l0.length : Int)), (by first | rfl | (simp; done) | (simp [*]; done)), H', ⟨Nat.le_refl _⟩, ⟨by repeat (first | exact HB.out | apply bN | apply b1 | apply bA)⟩⟩
 case round =>
  clear H'
  obtain ⟨x3_1, rfl, HA, HK1, HB⟩ := hrel
  cases gk with
  | zero => exact absurd HA.out (by simp [examboardref01_Norm.l0])
  | succ k1 =>
   have H := HA.out
   clear HA
   simp only [examboardref01_Norm.l0] at H
   by_cases c2 : x3_1 > 0
   ·rw [if_pos c2] at H
    have c2b0 := decide_eq_true c2
    clear c2
    obtain ⟨ji3, hji3⟩ : ∃ j_ : Int, (wrap64 (x3_1 - 1)) = j_ := ⟨_, rfl⟩
    rw [hji3] at H
    have hji3w : (IntKind.i64.wrap (x3_1 - 1)) = ji3 := (i64_w _).trans hji3
    by_cases c4 : 0 ≤ (ji3)
    ·rw [if_pos c4] at H
     have c4b0 := decide_eq_true c4
     clear c4
     by_cases c5 : (ji3) < (l0.length : Int)
     ·rw [if_pos c5] at H
      have c5b0 := decide_eq_true c5
      clear c5
      by_cases c6 : (rd l0 (ji3)) = 0
      ·rw [if_pos c6] at H
       have c6b0 : ((rd l0 (ji3)) == 0) = true := beq_iff_eq.mpr c6
       have c6b1 : ((rd l0 (ji3)) != 0) = false := bne_eq_false_iff_eq.mpr c6
       clear c6
       have H' := mk0 H
       clear H
       have p101 : 0 ≤ ((ji3) : Int) := of_decide_eq_true (by assumption)
       have q101 : (ji3) < (l0.length : Int) := of_decide_eq_true (by assumption)
       obtain ⟨ad101, e101, hx101_0⟩ := Kd.at_int HR0.out (ji3) p101 q101
       cases e101
       replace hx101_0 := (HB.out.cell (World.block_lt_of_cell? w _ hx101_0)).trans hx101_0
       replace p101 := eq_true p101
       replace q101 := eq_true q101
       go_wp2
       go_roundg k1
       case measure => have := HK1.out; omega
       case rel => exact ⟨(ji3), (by first | rfl | (simp; done) | (simp only [← hji3] <;> (first | rfl | simp)) | (simp [*]; done)), H', ⟨by have := HK1.out; omega⟩, ⟨by repeat (first | exact HB.out | apply bN | apply b1 | apply bA)⟩⟩
      ·rw [if_neg c6] at H
       have c6b0 : ((rd l0 (ji3)) == 0) = false := beq_eq_false_iff_ne.mpr c6
       have c6b1 : ((rd l0 (ji3)) != 0) = true := bne_iff_ne.mpr c6
       by_cases c7 : 0 ≤ x3_1
       ·rw [if_pos c7] at H
        have c7b0 := eq_true c7
        have c7b1 := decide_eq_true c7
        clear c7
        by_cases c8 : (x3_1 : Int).toNat ≤ 70368744177664
        ·rw [if_pos c8] at H
         have c8b0 := eq_true c8
         have c8b1 := decide_eq_true c8
         clear c8
         by_cases cL : (x3_1 : Int).toNat ≤ l0.length
         case neg => rw [if_neg cL] at H; exact absurd H (by simp)
         rw [if_pos cL] at H
         have HCL := mk0 cL
         clear cL
         obtain ⟨y102, hy102⟩ : ∃ y_ : List Int, y_ = (List.replicate (x3_1 : Int).toNat 0) := ⟨_, rfl⟩
         have Ny102 := mk0 hy102
         clear hy102
         obtain rfl := Option.some.inj H
         have p101 : 0 ≤ ((ji3) : Int) := of_decide_eq_true (by assumption)
         have q101 : (ji3) < (l0.length : Int) := of_decide_eq_true (by assumption)
         obtain ⟨ad101, e101, hx101_0⟩ := Kd.at_int HR0.out (ji3) p101 q101
         cases e101
         replace hx101_0 := (HB.out.cell (World.block_lt_of_cell? w _ hx101_0)).trans hx101_0
         replace p101 := eq_true p101
         replace q101 := eq_true q101
         go_wp2_with (first | ((with_reducible refine gate_dst (N := 20) rfl ?_); refine Kd.R_make (Kd.int .u32) _ 87 rfl (N := 20) rfl 25 _ _ rfl x3_1 rfl rfl Try.underlying25 (.int .u32 0) 4 info87 rfl (by decide) (by omega) 0 (ok := fun _ => True) (okp := fun _ => True) rfl (fun _ hk => hk) trivial (of_decide_eq_true (by assumption)) (Nat.le_trans (Nat.mul_le_mul_right _ (of_decide_eq_true (by assumption) : x3_1.toNat ≤ 70368744177664)) (by omega)) (Below.refl _ _) (Nat.le_refl _) ?_; intro v103 w9 ho10 hb hg_ hnew_; clear hg_ hnew_; (first | rw [← Ny102.out] at ho10 | (simp only [Int.reduceToNat] at ho10; rw [← Ny102.out] at ho10)); have HO104 := mk0 (Rl ho10 (bZ HB.out)); replace HB := hbS HB hb; clear hb ho10) | (with_reducible refine gate_builtin (b := .copy) (xs := #[.tmp 21, .tmp 22]) rfl ?_; refine copy_event (p := 21) (q := 22) (dT := 25) (e := 87) rfl rfl Try.underlying25 info87 rfl rfl HO104.out (Cb HR0.out HB.out) (by rw [Ny102.out, List.length_replicate]; exact HCL.out) HB.out ?_; intro n_ w_ hc_ hb_; have HO104c := mk0 hc_; replace HB := mk0 hb_))
         go_ret
         exact ⟨_, by first | rfl | (simp [errW_none, errW_some] <;> rfl) | (simp only [← hji3]; first | rfl | (simp [errW_none, errW_some] <;> rfl)) | (simp [*, errW_none, errW_some] <;> rfl), by (with_reducible repeat (first | apply Kd.R_alloc | apply Kd.R_drewN | apply Kd.R_drew)); have z_ := HO104c.out; rw [Ny102.out, List.length_replicate] at z_; exact z_, by repeat (first | exact HB.out | apply bN | apply b1 | apply bA)⟩
        ·rw [if_neg c8] at H
         exact absurd H (by simp)
       ·rw [if_neg c7] at H
        exact absurd H (by simp)
     ·rw [if_neg c5] at H
      exact absurd H (by simp)
    ·rw [if_neg c4] at H
     exact absurd H (by simp)
   ·rw [if_neg c2] at H
    have c2b0 := decide_eq_false c2
    clear c2
    by_cases c11 : 0 ≤ x3_1
    ·rw [if_pos c11] at H
     have c11b0 := eq_true c11
     have c11b1 := decide_eq_true c11
     clear c11
     by_cases c12 : (x3_1 : Int).toNat ≤ 70368744177664
     ·rw [if_pos c12] at H
      have c12b0 := eq_true c12
      have c12b1 := decide_eq_true c12
      clear c12
      by_cases cL : (x3_1 : Int).toNat ≤ l0.length
      case neg => rw [if_neg cL] at H; exact absurd H (by simp)
      rw [if_pos cL] at H
      have HCL := mk0 cL
      clear cL
      obtain ⟨y105, hy105⟩ : ∃ y_ : List Int, y_ = (List.replicate (x3_1 : Int).toNat 0) := ⟨_, rfl⟩
      have Ny105 := mk0 hy105
      clear hy105
      obtain rfl := Option.some.inj H
      go_wp2_with (first | ((with_reducible refine gate_dst (N := 20) rfl ?_); refine Kd.R_make (Kd.int .u32) _ 87 rfl (N := 20) rfl 25 _ _ rfl x3_1 rfl rfl Try.underlying25 (.int .u32 0) 4 info87 rfl (by decide) (by omega) 0 (ok := fun _ => True) (okp := fun _ => True) rfl (fun _ hk => hk) trivial (of_decide_eq_true (by assumption)) (Nat.le_trans (Nat.mul_le_mul_right _ (of_decide_eq_true (by assumption) : x3_1.toNat ≤ 70368744177664)) (by omega)) (Below.refl _ _) (Nat.le_refl _) ?_; intro v106 w13 ho14 hb hg_ hnew_; clear hg_ hnew_; (first | rw [← Ny105.out] at ho14 | (simp only [Int.reduceToNat] at ho14; rw [← Ny105.out] at ho14)); have HO107 := mk0 (Rl ho14 (bZ HB.out)); replace HB := hbS HB hb; clear hb ho14) | (with_reducible refine gate_builtin (b := .copy) (xs := #[.tmp 21, .tmp 22]) rfl ?_; refine copy_event (p := 21) (q := 22) (dT := 25) (e := 87) rfl rfl Try.underlying25 info87 rfl rfl HO107.out (Cb HR0.out HB.out) (by rw [Ny105.out, List.length_replicate]; exact HCL.out) HB.out ?_; intro n_ w_ hc_ hb_; have HO107c := mk0 hc_; replace HB := mk0 hb_))
      go_ret
      exact ⟨_, by first | rfl | (simp [errW_none, errW_some] <;> rfl) | (simp [*, errW_none, errW_some] <;> rfl), by (with_reducible repeat (first | apply Kd.R_alloc | apply Kd.R_drewN | apply Kd.R_drew)); have z_ := HO107c.out; rw [Ny105.out, List.length_replicate] at z_; exact z_, by repeat (first | exact HB.out | apply bN | apply b1 | apply bA)⟩
     ·rw [if_neg c12] at H
      exact absurd H (by simp)
    ·rw [if_neg c11] at H
     exact absurd H (by simp)
set_option maxHeartbeats 8000000 in
set_option maxRecDepth 100000 in
theorem examboardref02_Norm.calls (k : Nat) (a0_0 : Bool) (A0_1 : Option Addr) (c0_1 : Nat) (l0_1 : List Int) (r1 : Bool) (r2 : List Int) (w : World) (hr0_1 : Kd.C (Kd.int .u32) w A0_1 l0_1.length l0_1) (hc0_1 : l0_1.length ≤ c0_1) (h : examboardref02_Norm.f k a0_0 l0_1 = some (r1, r2)) :
  Calls Try.prog 84 #[.agg #[.bool a0_0, .slice A0_1 l0_1.length c0_1]] w fun e w' => ∃ v1_ : Value, e = .returned (.agg #[.bool r1, v1_]) ∧ Kd.R (Kd.int .u32) 87 w' w.heap.size (fun _ => True) v1_ r2 ∧ Below w.heap.size w w' := by
 have hu27 := Try.underlying27
 have HR0_1 := mk0 hr0_1
 have HC0_1 := mk0 hc0_1
 clear hr0_1 hc0_1
 have HB := mk0 (Below.refl w.heap.size w)
 have H : ((examboardref01_Norm.f k l0_1).bind fun t621 => (if a0_0 = true then (some (decide (0 < t621.length), t621)) else (some (false, t621)))) = some (r1, r2) := h
 clear h
 obtain ⟨t621, A2, H⟩ := bindA H
 by_cases c3 : a0_0 = true
 ·subst c3
  have H1 : (some (decide (0 < t621.length), t621)) = some (r1, r2) := by rw [if_pos rfl] at H; exact H
  clear H
  have H := H1
  clear H1
  simp only [Option.some.injEq, Prod.mk.injEq] at H
  obtain ⟨rfl, rfl⟩ := H
  go_enter Try.func84, Try.ntmps84
  go_wp2_with (first | ((with_reducible refine gate_dst (N := 1) rfl ?_); (try (refine gate_guard (by rfl) ?_; dsimp only)); refine box_event rfl (N := 1) rfl (cs := #[.bool true, .slice A0_1 l0_1.length c0_1]) (t := 27) (by go_simp <;> rfl) ?_; intro gb619 hg w4 hbox hb; have BK619 := mk0 (hbox); have GE619 := geB hg HB; replace HB := hbS HB hb; clear hb hbox hg) | ((with_reducible refine gate_dst (N := 2) rfl ?_); (try (refine gate_guard (by rfl) ?_; dsimp only)); refine box_event rfl (N := 2) rfl (cs := #[.bool false, .slice none 0 0]) (t := 27) (by go_simp <;> rfl) ?_; intro gb620 hg w5 hbox hb; have BK620 := mk0 (hbox); have GE620 := geB hg HB; replace HB := hbS HB hb; have NB619_620 := nbA hg BK619; have NB620_619 := nbB hg BK619; replace BK619 := bkB BK619 hb; clear hb hbox hg; have hnb6 := NB619_620.out; have hnc6 := NB620_619.out; obtain ⟨hcz7_0, hcz7_1, hfz7_0, hfz7_1⟩ := cz2 BK619) | ((with_reducible refine gate_callee (f := 89) rfl ?_); refine goA 6 Try.func89 #[.slice A0_1 l0_1.length c0_1] ?_; (with_reducible refine (examboardref01_Norm.calls k _ _ l0_1 t621 _ (by exact Cb HR0_1.out HB.out) HC0_1.out A2.out).mono ?_); rintro e w8 ⟨v622, rfl, ho0, hb⟩; refine ⟨_, rfl, ?_⟩; have HO623 := mk0 (Rl ho0 (bZ HB.out)); replace BK619 := bkB BK619 hb; replace BK620 := bkB BK620 hb; replace HB := hbS HB hb; obtain ⟨hcz9_0, hcz9_1, hfz9_0, hfz9_1⟩ := cz2 BK619; obtain ⟨Ao10, co10, eo10⟩ := Kd.R_slice HO623.out; subst eo10; obtain ⟨hcz11_0, hcz11_1, hfz11_0, hfz11_1⟩ := cz2 BK620))
  refine bodyPost_ret (results_cell_row rfl _ _ gb620 27 #[.bool (decide (0 < t621.length)), .slice Ao10 t621.length co10] (0, 0) _ rfl (by refine blk_put (cs := #[.bool (decide (0 < t621.length)), .slice none 0 0]) ?_ 1 _ rfl; refine blk_put (cs := #[.bool false, .slice none 0 0]) ?_ 0 _ rfl; exact BK620.out) Try.underlying27 rfl (by kernel_rfl)) rfl ?_
  exact ⟨_, rfl, Rm (Rg 1 (Rg 0 (Rt HO623.out BK620.out (by decide)) (.bool (decide (0 < t621.length)))) (.slice Ao10 t621.length co10)) tv, by repeat (first | exact HB.out | apply bN | apply b1 | apply bA | refine bS ?_ GE619.out | refine bS ?_ GE620.out)⟩
 ·replace c3 := Bool.eq_false_iff.mpr c3
  subst c3
  have H1 : (some (false, t621)) = some (r1, r2) := by rw [if_neg (show ¬ (false = true) by decide)] at H; exact H
  clear H
  have H := H1
  clear H1
  simp only [Option.some.injEq, Prod.mk.injEq] at H
  obtain ⟨rfl, rfl⟩ := H
  go_enter Try.func84, Try.ntmps84
  go_wp2_with (first | ((with_reducible refine gate_dst (N := 1) rfl ?_); (try (refine gate_guard (by rfl) ?_; dsimp only)); refine box_event rfl (N := 1) rfl (cs := #[.bool false, .slice A0_1 l0_1.length c0_1]) (t := 27) (by go_simp <;> rfl) ?_; intro gb619 hg w12 hbox hb; have BK619 := mk0 (hbox); have GE619 := geB hg HB; replace HB := hbS HB hb; clear hb hbox hg) | ((with_reducible refine gate_dst (N := 2) rfl ?_); (try (refine gate_guard (by rfl) ?_; dsimp only)); refine box_event rfl (N := 2) rfl (cs := #[.bool false, .slice none 0 0]) (t := 27) (by go_simp <;> rfl) ?_; intro gb620 hg w13 hbox hb; have BK620 := mk0 (hbox); have GE620 := geB hg HB; replace HB := hbS HB hb; have NB619_620 := nbA hg BK619; have NB620_619 := nbB hg BK619; replace BK619 := bkB BK619 hb; clear hb hbox hg; have hnb14 := NB619_620.out; have hnc14 := NB620_619.out; obtain ⟨hcz15_0, hcz15_1, hfz15_0, hfz15_1⟩ := cz2 BK619) | ((with_reducible refine gate_callee (f := 89) rfl ?_); refine goA 6 Try.func89 #[.slice A0_1 l0_1.length c0_1] ?_; (with_reducible refine (examboardref01_Norm.calls k _ _ l0_1 t621 _ (by exact Cb HR0_1.out HB.out) HC0_1.out A2.out).mono ?_); rintro e w16 ⟨v622, rfl, ho0, hb⟩; refine ⟨_, rfl, ?_⟩; have HO623 := mk0 (Rl ho0 (bZ HB.out)); replace BK619 := bkB BK619 hb; replace BK620 := bkB BK620 hb; replace HB := hbS HB hb; obtain ⟨hcz17_0, hcz17_1, hfz17_0, hfz17_1⟩ := cz2 BK619; obtain ⟨Ao18, co18, eo18⟩ := Kd.R_slice HO623.out; subst eo18; obtain ⟨hcz19_0, hcz19_1, hfz19_0, hfz19_1⟩ := cz2 BK620))
  refine bodyPost_ret (results_cell_row rfl _ _ gb620 27 #[.bool false, .slice Ao18 t621.length co18] (0, 0) _ rfl (by refine blk_put (cs := #[.bool false, .slice none 0 0]) ?_ 1 _ rfl; refine blk_put (cs := #[.bool false, .slice none 0 0]) ?_ 0 _ rfl; exact BK620.out) Try.underlying27 rfl (by kernel_rfl)) rfl ?_
  exact ⟨_, rfl, Rm (Rg 1 (Rg 0 (Rt HO623.out BK620.out (by decide)) (.bool false)) (.slice Ao18 t621.length co18)) tv, by repeat (first | exact HB.out | apply bN | apply b1 | apply bA | refine bS ?_ GE619.out | refine bS ?_ GE620.out)⟩
set_option maxHeartbeats 8000000 in
set_option maxRecDepth 100000 in
theorem examboardref02_Make.calls (k : Nat) (a0 : Bool) (A1 : Option Addr) (c1 : Nat) (l1 : List Int) (r1 : Bool) (r2 : List Int) (w : World) (hr1 : Kd.C (Kd.int .u32) w A1 l1.length l1) (hc1 : l1.length ≤ c1) (h : examboardref02_Make.f k a0 l1 = some (r1, r2)) :
  Calls Try.prog 62 #[.bool a0, .slice A1 l1.length c1] w fun e w' => ∃ v1_ : Value, e = .returned (.agg #[.bool r1, v1_]) ∧ Kd.R (Kd.int .u32) 87 w' w.heap.size (fun _ => True) v1_ r2 ∧ Below w.heap.size w w' := by
 have hu27 := Try.underlying27
 have HR1 := mk0 hr1
 have HC1 := mk0 hc1
 clear hr1 hc1
 have HB := mk0 (Below.refl w.heap.size w)
 have H : ((examboardref02_Norm.f k a0 l1).bind fun bt625 => (some (bt625.1, bt625.2))) = some (r1, r2) := h
 clear h
 obtain ⟨⟨t625, t626⟩, A3, H⟩ := bindA H
 simp only [Option.some.injEq, Prod.mk.injEq] at H
 obtain ⟨rfl, rfl⟩ := H
 go_enter Try.func62, Try.ntmps62
 go_wp2_with (first | ((with_reducible refine gate_dst (N := 4) rfl ?_); refine box_event rfl (N := 4) rfl (cs := #[.bool false, .slice none 0 0]) (t := 27) (by go_simp <;> rfl) ?_; intro gb624 hg w4 hbox hb; have BK624 := mk0 (hbox); have GE624 := geB hg HB; replace HB := hbS HB hb; clear hb hbox hg) | ((with_reducible refine gate_callee (f := 84) rfl ?_); refine goA 8 Try.func84 #[.agg #[.bool a0, .slice A1 l1.length c1]] ?_; (with_reducible refine (examboardref02_Norm.calls k a0 _ _ l1 t625 t626 _ (by exact Cb HR1.out HB.out) HC1.out A3.out).mono ?_); rintro e w5 ⟨v627, rfl, ho0, hb⟩; refine ⟨_, rfl, ?_⟩; have HO628 := mk0 (Rl ho0 (bZ HB.out)); replace BK624 := bkB BK624 hb; replace HB := hbS HB hb; obtain ⟨hcz6_0, hcz6_1, hfz6_0, hfz6_1⟩ := cz2 BK624; obtain ⟨Ao7, co7, eo7⟩ := Kd.R_slice HO628.out; subst eo7))
 refine bodyPost_ret (results_cell_row rfl _ _ gb624 27 #[.bool t625, .slice Ao7 t626.length co7] (0, 0) _ rfl (by refine blk_put (cs := #[.bool t625, .slice none 0 0]) ?_ 1 _ rfl; refine blk_put (cs := #[.bool false, .slice none 0 0]) ?_ 0 _ rfl; exact BK624.out) Try.underlying27 rfl (by kernel_rfl)) rfl ?_
 exact ⟨_, by first | rfl | (simp [errW_none, errW_some] <;> rfl) | (simp [*, errW_none, errW_some] <;> rfl), Rm (Rf (p := ⟨gb624, 1, none⟩) (Rf (p := ⟨gb624, 0, none⟩) (Rt HO628.out BK624.out (by decide)) (fun _ hk => hk.2) (.bool t625)) (fun _ hk => hk.2) (.slice Ao7 t626.length co7)) tv, by repeat (first | exact HB.out | apply bN | apply b1 | apply bA | refine bS ?_ GE624.out)⟩
set_option maxHeartbeats 8000000 in
set_option maxRecDepth 100000 in
theorem examboardref01_Bits.calls (k : Nat) (A0 : Option Addr) (c0 : Nat) (l0 : List Int) (r : Int) (w : World) (hr0 : Kd.C (Kd.int .u32) w A0 l0.length l0) (hc0 : l0.length ≤ c0) (h : examboardref01_Bits.f k l0 = some r) :
  Calls Try.prog 85 #[.slice A0 l0.length c0] w fun e w' => e = .returned (.int .i64 r) ∧ Below w.heap.size w w' := by
 have HR0 := mk0 hr0
 have HC0 := mk0 hc0
 clear hr0 hc0
 have HB := mk0 (Below.refl w.heap.size w)
 have H : ((examboardref01_Norm.f k l0).bind fun t629 => (if (t629.length : Int) = 0 then (some 0) else (if 0 ≤ (wrap64 ((t629.length : Int) - 1)) then (if (wrap64 ((t629.length : Int) - 1)) < (t629.length : Int) then (examboardref01_Bits.l0 k (wrap64 (32 * (wrap64 ((t629.length : Int) - 1)))) (rd t629 (wrap64 ((t629.length : Int) - 1)))) else (none)) else (none)))) = some r := h
 clear h
 obtain ⟨t629, A2, H⟩ := bindA H
 by_cases c3 : (t629.length : Int) = 0
 ·rw [if_pos c3] at H
  have c3b0 : ((t629.length : Int) == 0) = true := beq_iff_eq.mpr c3
  have c3b1 : ((t629.length : Int) != 0) = false := bne_eq_false_iff_eq.mpr c3
  clear c3
  obtain rfl := Option.some.inj H
  go_enter Try.func85, Try.ntmps85
  go_wp2_with (first | ((with_reducible refine gate_callee (f := 89) rfl ?_); refine goA 6 Try.func89 #[.slice A0 l0.length c0] ?_; (with_reducible refine (examboardref01_Norm.calls k _ _ l0 t629 _ HR0.out HC0.out A2.out).mono ?_); rintro e w4 ⟨v630, rfl, ho0, hb⟩; refine ⟨_, rfl, ?_⟩; have HO631 := mk0 (Rl ho0 (bZ HB.out)); replace HB := hbS HB hb; obtain ⟨Ao5, co5, eo5⟩ := Kd.R_slice HO631.out; subst eo5))
  go_ret
  exact ⟨by first | rfl | (simp [errW_none, errW_some] <;> rfl) | (simp [*, errW_none, errW_some] <;> rfl), by repeat (first | exact HB.out | apply bN | apply b1 | apply bA)⟩
 ·rw [if_neg c3] at H
  have c3b0 : ((t629.length : Int) == 0) = false := beq_eq_false_iff_ne.mpr c3
  have c3b1 : ((t629.length : Int) != 0) = true := bne_iff_ne.mpr c3
  have c3b2 : ¬ (t629 = []) := fun h_ => c3 (by rw [h_]; rfl)
  obtain ⟨ji6, hji6⟩ : ∃ j_ : Int, (wrap64 ((t629.length : Int) - 1)) = j_ := ⟨_, rfl⟩
  rw [hji6] at H
  (try rw [hji6] at A2)
  have hji6w : (IntKind.i64.wrap ((t629.length : Int) - 1)) = ji6 := (i64_w _).trans hji6
  by_cases c7 : 0 ≤ (ji6)
  ·rw [if_pos c7] at H
   have c7b0 : decide (0 ≤ (ji6)) = true := decide_eq_true c7
   clear c7
   by_cases c8 : (ji6) < (t629.length : Int)
   ·rw [if_pos c8] at H
    have c8b0 : decide ((ji6) < (t629.length : Int)) = true := decide_eq_true c8
    clear c8
    have H' := mk0 H
    clear H
    go_enter Try.func85, Try.ntmps85
    go_wp2_with (first | ((with_reducible refine gate_callee (f := 89) rfl ?_); refine goA 6 Try.func89 #[.slice A0 l0.length c0] ?_; (with_reducible refine (examboardref01_Norm.calls k _ _ l0 t629 _ HR0.out HC0.out A2.out).mono ?_); rintro e w9 ⟨v630, rfl, ho0, hb⟩; refine ⟨_, rfl, ?_⟩; have HO631 := mk0 (Rl ho0 (bZ HB.out)); replace HB := hbS HB hb; obtain ⟨Ao10, co10, eo10⟩ := Kd.R_slice HO631.out; subst eo10; have p632 : 0 ≤ ((ji6) : Int) := of_decide_eq_true (by assumption); have q632 : (ji6) < (t629.length : Int) := of_decide_eq_true (by assumption); obtain ⟨ad632, e632, hx632_0⟩ := Kd.at_int (Kd.R_reads' HO631.out).2.2 (ji6) p632 q632; cases e632; replace p632 := eq_true p632; replace q632 := eq_true q632))
    go_loopg [3, 4] k (fun kq v3 v4 w' => ∃ (x3_1 : Int) (x4_1 : Int), v3 = .int .i64 x3_1 ∧ v4 = .int .u32 x4_1 ∧ Aside0 (examboardref01_Bits.l0 kq x3_1 x4_1 = some r) ∧ Aside0 (kq ≤ k) ∧ Aside0 (Below w.heap.size w w'))
    case atStart => exact ⟨(wrap64 (32 * (ji6))), (rd t629 (ji6)), (by first | rfl | (simp; done) | (simp only [← hji6] <;> (first | rfl | simp)) | (simp [*]; done)), (by first | rfl | (simp; done) | (simp only [← hji6] <;> (first | rfl | simp)) | (simp [*]; done)), H', ⟨Nat.le_refl _⟩, ⟨by repeat (first | exact HB.out | apply bN | apply b1 | apply bA)⟩⟩
    case round =>
     clear H'
     obtain ⟨x3_1, x4_1, rfl, rfl, HA, HK1, HB⟩ := hrel
     cases gk with
     | zero => exact absurd HA.out (by simp [examboardref01_Bits.l0])
     | succ k1 =>
      have H := HA.out
      clear HA
      simp only [examboardref01_Bits.l0] at H
      by_cases c11 : x4_1 > 0
      ·rw [if_pos c11] at H
       have c11b0 : decide (0 < x4_1) = true := decide_eq_true c11
       clear c11
       have H' := mk0 H
       clear H
       go_wp2
       go_roundg k1
       case measure => have := HK1.out; omega
       case rel => exact ⟨(wrap64 (x3_1 + 1)), ((Int.tdiv x4_1 2) % 4294967296), (by first | rfl | (simp; done) | (simp [*]; done)), (by first | rfl | (simp; done) | (simp [*]; done)), H', ⟨by have := HK1.out; omega⟩, ⟨by repeat (first | exact HB.out | apply bN | apply b1 | apply bA)⟩⟩
      ·rw [if_neg c11] at H
       have c11b0 : decide (0 < x4_1) = false := decide_eq_false c11
       clear c11
       obtain rfl := Option.some.inj H
       go_wp2
       go_ret
       exact ⟨by first | rfl | (simp [errW_none, errW_some] <;> rfl) | (simp only [← hji6]; first | rfl | (simp [errW_none, errW_some] <;> rfl)) | (simp [*, errW_none, errW_some] <;> rfl), by repeat (first | exact HB.out | apply bN | apply b1 | apply bA)⟩
   ·rw [if_neg c8] at H
    exact absurd H (by simp)
  ·rw [if_neg c7] at H
   exact absurd H (by simp)
set_option maxHeartbeats 8000000 in
set_option maxRecDepth 100000 in
theorem examboardref01_Of.calls (k : Nat) (a0 : Int) (r : List Int) (w : World) (h : examboardref01_Of.f k a0 = some r) :
  Calls Try.prog 90 #[.int .u64 a0] w fun e w' => ∃ v0_ : Value, e = .returned (v0_) ∧ Kd.R (Kd.int .u32) 87 w' w.heap.size (fun _ => True) v0_ r ∧ Below w.heap.size w w' := by
 have HB := mk0 (Below.refl w.heap.size w)
 have H : ((examboardref01_Norm.f k (([(a0) % 4294967296, (a0 / 4294967296) % 4294967296] : List Int))).bind fun t636 => (some t636)) = some r := h
 clear h
 obtain ⟨y633, hy633⟩ : ∃ y_ : List Int, y_ = (([(a0) % 4294967296, (a0 / 4294967296) % 4294967296] : List Int)) := ⟨_, rfl⟩
 replace H : ((examboardref01_Norm.f k y633).bind fun t636 => (some t636)) = some r := by first | (rw [hy633]; with_reducible exact H) | (have H2_ := (Option.bind_some _ _).symm.trans H; rw [hy633]; with_reducible exact H2_) | (have H2_ := (Option.bind_some _ _).symm.trans H; with_reducible exact H2_) | with_reducible exact H | (rw [hy633]; exact H) | exact H
 have Ny633 := mk0 hy633
 clear hy633
 obtain ⟨t636, A2, H⟩ := bindA H
 obtain rfl := Option.some.inj H
 go_enter Try.func90, Try.ntmps90
 go_wp2_with (first | ((with_reducible refine gate_dst (N := 8) rfl ?_); refine Kd.R_lit (Kd.int .u32) _ 87 ?hg (N := 8) ?hd (xs := ([(a0) % 4294967296, (a0 / 4294967296) % 4294967296] : List Int)) (inner := [.int .u32 ((a0) % 4294967296), .int .u32 ((a0 / 4294967296) % 4294967296)]) (ok := fun _ => True) (okp := fun _ => True) ?hr ?hp (fun _ hk => hk) trivial (Below.refl _ _) (Nat.le_refl _) (by simp) ?_; (case hd => rfl); (case hg => rfl); (case hr => go_simp <;> rfl); (case hp => exact (Reps.one (show Kd.M (Kd.int .u32) _ _ _ ((a0) % 4294967296) [.int .u32 ((a0) % 4294967296)] from rfl) (Reps.one (show Kd.M (Kd.int .u32) _ _ _ ((a0 / 4294967296) % 4294967296) [.int .u32 ((a0 / 4294967296) % 4294967296)] from rfl) (Reps.none _ _)))); intro v634 w3 ho4 hb hg_ hnew_; clear hg_ hnew_; (first | rw [← Ny633.out] at ho4 | (simp only [Int.reduceToNat] at ho4; rw [← Ny633.out] at ho4)); have HO635 := mk0 (Rl ho4 (bZ HB.out)); replace HB := hbS HB hb; clear hb ho4; obtain ⟨Ao5, co5, eo5⟩ := Kd.R_slice HO635.out; subst eo5) | ((with_reducible refine gate_callee (f := 89) rfl ?_); refine goA 9 Try.func89 #[.slice Ao5 y633.length co5] ?_; (with_reducible refine (examboardref01_Norm.calls k _ _ y633 t636 _ (by exact (Kd.R_reads' HO635.out).2.2) (by exact (Kd.R_reads' HO635.out).2.1) A2.out).mono ?_); rintro e w6 ⟨v637, rfl, ho0, hb⟩; refine ⟨_, rfl, ?_⟩; have HO638 := mk0 (Rl (Rn ho0 (Rq HO635.out)) (bZ HB.out)); replace HO635 := mk0 (Re HO635.out (Rs ho0) hb); replace HB := hbS HB hb))
 go_ret
 exact ⟨_, by first | rfl | (simp [errW_none, errW_some] <;> rfl) | (simp [*, errW_none, errW_some] <;> rfl), Rm HO638.out tv, by repeat (first | exact HB.out | apply bN | apply b1 | apply bA)⟩
set_option maxHeartbeats 8000000 in
set_option maxRecDepth 100000 in
theorem examboardref03_zero.calls (k : Nat)  (r1 : Bool) (r2 : List Int) (r3 : List Int) (w : World) (h : examboardref03_zero.f k  = some (r1, r2, r3)) :
  Calls Try.prog 86 #[] w fun e w' => ∃ v1_ v2_ : Value, e = .returned (.agg #[.bool r1, v1_, v2_]) ∧ Kd.R (Kd.int .u32) 87 w' w.heap.size (fun k_ => some k_ ≠ (v2_ : Value).ownBlock) v1_ r2 ∧ Kd.R (Kd.int .u32) 87 w' w.heap.size (fun k_ => some k_ ≠ (v1_ : Value).ownBlock) v2_ r3 ∧ Below w.heap.size w w' := by
 have hu29 := Try.underlying29
 have HB := mk0 (Below.refl w.heap.size w)
 have H : ((examboardref01_Of.f k 1).bind fun t640 => (some (false, ([] : List Int), t640))) = some (r1, r2, r3) := h
 clear h
 obtain ⟨t640, A1, H⟩ := bindA H
 simp only [Option.some.injEq, Prod.mk.injEq] at H
 obtain ⟨rfl, rfl, rfl⟩ := H
 go_enter Try.func86, Try.ntmps86
 go_wp2_with (first | ((with_reducible refine gate_dst (N := 0) rfl ?_); refine box_event rfl (N := 0) rfl (cs := #[.bool false, .slice none 0 0, .slice none 0 0]) (t := 29) (by go_simp <;> rfl) ?_; intro gb639 hg w2 hbox hb; have BK639 := mk0 (hbox); have GE639 := geB hg HB; replace HB := hbS HB hb; clear hb hbox hg) | ((with_reducible refine gate_callee (f := 90) rfl ?_); refine goA 1 Try.func90 #[.int .u64 1] ?_; (with_reducible refine (examboardref01_Of.calls k 1 t640 _ A1.out).mono ?_); rintro e w3 ⟨v641, rfl, ho0, hb⟩; refine ⟨_, rfl, ?_⟩; have HO642 := mk0 (Rl ho0 (bZ HB.out)); replace BK639 := bkB BK639 hb; replace HB := hbS HB hb; obtain ⟨Ao4, co4, eo4⟩ := Kd.R_slice HO642.out; subst eo4; obtain ⟨hcz5_0, hcz5_1, hcz5_2, hfz5_0, hfz5_1, hfz5_2⟩ := cz3 BK639))
 refine bodyPost_ret (results_cell_row rfl _ _ gb639 29 #[.bool false, .slice none 0 0, .slice Ao4 t640.length co4] (0, 0) _ rfl (by refine blk_put (cs := #[.bool false, .slice none 0 0, .slice none 0 0]) ?_ 2 _ rfl; refine blk_put (cs := #[.bool false, .slice none 0 0, .slice none 0 0]) ?_ 1 _ rfl; refine blk_put (cs := #[.bool false, .slice none 0 0, .slice none 0 0]) ?_ 0 _ rfl; exact BK639.out) Try.underlying29 rfl (by kernel_rfl)) rfl ?_
 exact ⟨_, _, by first | rfl | (simp [errW_none, errW_some] <;> rfl) | (simp [*, errW_none, errW_some] <;> rfl), by first | exact Kd.R_nil _ _ _ _ _ | exact Kd.N_nil _ _ _ _ _ | exact Kd.V_nil _ _ _ _ _ | exact Kd.Q_nil _ _ _ _ _ | exact Kd.S_nil _ _ _ _ _, Rm (Rf (p := ⟨gb639, 2, none⟩) (Rf (p := ⟨gb639, 1, none⟩) (Rf (p := ⟨gb639, 0, none⟩) (Rt HO642.out BK639.out (by decide)) (fun _ hk => hk.2) (.bool false)) (fun _ hk => hk.2) (.slice none 0 0)) (fun _ hk => hk.2) (.slice Ao4 t640.length co4)) (fun _ hk => (by simp [Value.ownBlock])), by repeat (first | exact HB.out | apply bN | apply b1 | apply bA | refine bS ?_ GE639.out)⟩
set_option maxHeartbeats 8000000 in
set_option maxRecDepth 100000 in
theorem examboardref01_short.calls (k : Nat) (A0 : Option Addr) (c0 : Nat) (l0 : List Int) (a1 : Int) (r1 : List Int) (r2 : Int) (w : World) (hr0 : Kd.C (Kd.int .u32) w A0 l0.length l0) (hc0 : l0.length ≤ c0) (h : examboardref01_short.f k l0 a1 = some (r1, r2)) :
  Calls Try.prog 114 #[.slice A0 l0.length c0, .int .u64 a1] w fun e w' => ∃ v0_ : Value, e = .returned (.tuple #[v0_, .int .u64 r2]) ∧ Kd.R (Kd.int .u32) 87 w' w.heap.size (fun _ => True) v0_ r1 ∧ Below w.heap.size w w' := by
 have HR0 := mk0 hr0
 have HC0 := mk0 hc0
 clear hr0 hc0
 have HB := mk0 (Below.refl w.heap.size w)
 have H : (if 0 ≤ (l0.length : Int) then (if ((l0.length : Int) : Int).toNat ≤ 70368744177664 then (examboardref01_short.l0 k l0 a1 (List.replicate ((l0.length : Int) : Int).toNat 0) 0 (wrap64 ((l0.length : Int) - 1))) else (none)) else (none)) = some (r1, r2) := h
 clear h
 by_cases c3 : 0 ≤ (l0.length : Int)
 ·rw [if_pos c3] at H
  have c3b0 := eq_true c3
  have c3b1 := decide_eq_true c3
  clear c3
  by_cases c4 : ((l0.length : Int) : Int).toNat ≤ 70368744177664
  ·rw [if_pos c4] at H
   have c4b0 := eq_true c4
   have c4b1 := decide_eq_true c4
   clear c4
   obtain ⟨y646, hy646⟩ : ∃ y_ : List Int, y_ = (List.replicate ((l0.length : Int) : Int).toNat 0) := ⟨_, rfl⟩
   rw [← hy646] at H
   have Ny646 := mk0 hy646
   clear hy646
   have H' := mk0 H
   clear H
   go_enter Try.func114, Try.ntmps114
   go_wp2_with (first | ((with_reducible refine gate_dst (N := 12) rfl ?_); refine Kd.R_make (Kd.int .u32) _ 87 rfl (N := 12) rfl 25 _ _ rfl (l0.length : Int) rfl rfl Try.underlying25 (.int .u32 0) 4 info87 rfl (by decide) (by omega) 0 (ok := fun _ => True) (okp := fun _ => True) rfl (fun _ hk => hk) trivial (of_decide_eq_true (by assumption)) (Nat.le_trans (Nat.mul_le_mul_right _ (of_decide_eq_true (by assumption) : (l0.length : Int).toNat ≤ 70368744177664)) (by omega)) (Below.refl _ _) (Nat.le_refl _) ?_; intro v647 w5 ho6 hb hg_ hnew_; clear hg_ hnew_; (first | rw [← Ny646.out] at ho6 | (simp only [Int.reduceToNat] at ho6; rw [← Ny646.out] at ho6)); have HO648 := mk0 (Rl ho6 (bZ HB.out)); replace HB := hbS HB hb; clear hb ho6))
   go_loopg [7, 8] k (fun kq v7 v8 w' => ∃ (x6_1 : List Int) (x7_1 : Int) (x8_1 : Int), v7 = .int .u64 x7_1 ∧ v8 = .int .i64 x8_1 ∧ Aside0 (examboardref01_short.l0 kq l0 a1 x6_1 x7_1 x8_1 = some (r1, r2)) ∧ Aside0 (kq ≤ k) ∧ Aside0 (Kd.R (Kd.int .u32) 87 w' w.heap.size (fun _ => True) v647 x6_1) ∧ Aside0 (Below w.heap.size w w'))
   case atStart => exact ⟨(y646), (0), (wrap64 ((l0.length : Int) - 1)), rfl, rfl, H', ⟨Nat.le_refl _⟩, ⟨HO648.out⟩, ⟨by repeat (first | exact HB.out | apply bN | apply b1 | apply bA)⟩⟩
   case round =>
    clear H'
    obtain ⟨x6_1, x7_1, x8_1, rfl, rfl, HA, HK1, HO_6, HB⟩ := hrel
    cases gk with
    | zero => exact absurd HA.out (by simp [examboardref01_short.l0])
    | succ k1 =>
     have H := HA.out
     clear HA
     simp only [examboardref01_short.l0] at H
     by_cases c7 : x8_1 ≥ 0
     ·rw [if_pos c7] at H
      have c7b0 := decide_eq_true c7
      clear c7
      by_cases c8 : 0 ≤ x8_1
      ·rw [if_pos c8] at H
       have c8b0 := decide_eq_true c8
       clear c8
       by_cases c9 : x8_1 < (l0.length : Int)
       ·rw [if_pos c9] at H
        have c9b0 := decide_eq_true c9
        clear c9
        by_cases c10 : a1 = 0
        ·rw [if_pos c10] at H
         exact absurd H (by simp)
        ·rw [if_neg c10] at H
         have c10b0 : (a1 == 0) = false := beq_eq_false_iff_ne.mpr c10
         have c10b1 : (a1 != 0) = true := bne_iff_ne.mpr c10
         by_cases c11 : x8_1 < (x6_1.length : Int)
         ·rw [if_pos c11] at H
          have c11b0 := decide_eq_true c11
          clear c11
          obtain ⟨y650, hy650⟩ : ∃ y_ : List Int, y_ = (x6_1.set (x8_1 : Int).toNat ((IntKind.u64.wrap (Int.tdiv (IntKind.u64.wrap ((IntKind.u64.wrap (x7_1 * 4294967296)) + (IntKind.u64.wrap (rd l0 x8_1)))) a1)) % 4294967296)) := ⟨_, rfl⟩
          rw [← hy650] at H
          have Ny650 := mk0 hy650
          clear hy650
          have H' := mk0 H
          clear H
          have p649 : 0 ≤ (x8_1 : Int) := of_decide_eq_true (by assumption)
          have q649 : x8_1 < (l0.length : Int) := of_decide_eq_true (by assumption)
          obtain ⟨ad649, e649, hx649_0⟩ := Kd.at_int HR0.out x8_1 p649 q649
          cases e649
          replace hx649_0 := (HB.out.cell (World.block_lt_of_cell? w _ hx649_0)).trans hx649_0
          replace p649 := eq_true p649
          replace q649 := eq_true q649
          have p12 : 0 ≤ (x8_1 : Int) := of_decide_eq_true (by assumption)
          have q12 : (x8_1 : Int) < ((x6_1.length : Int) : Int) := of_decide_eq_true (by assumption)
          obtain ⟨go12, co12, eo12, gb12, gl12, cl12, HG12⟩ := Kd.R_form HO_6.out (by omega)
          (first | cases eo12 | (injection eo12 with ea_ en_ ec_; (first | subst ea_ | (injection ea_ with ea_; subst ea_)); subst ec_; clear en_))
          have GB12 := mk0 gb12
          have GG12 := mk0 HG12
          clear gb12 gl12 HG12
          obtain ⟨hx12_0, hf12_0⟩ := Kd.R_celln 0 HO_6.out (x8_1 : Int) p12 q12
          replace p12 := eq_true p12
          replace q12 := eq_true q12
          have HP13 := Kd.R_putg HO_6.out (x8_1 : Int) ((IntKind.u64.wrap (Int.tdiv (IntKind.u64.wrap ((IntKind.u64.wrap (x7_1 * 4294967296)) + (IntKind.u64.wrap (rd l0 x8_1)))) a1)) % 4294967296)
          go_wp2_with (first | ((with_reducible refine gate_store (t := 87) (p := 34) rfl ?_); refine store_event (t := 87) (p := 34) (v := ?vo_w14) (w1 := (wr.setCell ⟨go12, (x8_1 : Int).toNat, none⟩ (.int .u32 ((IntKind.u64.wrap (Int.tdiv (IntKind.u64.wrap ((IntKind.u64.wrap (x7_1 * 4294967296)) + (IntKind.u64.wrap (rd l0 x8_1)))) a1)) % 4294967296)))) ?hg ?ho ?hn ?hr ?_; (case ho => rfl); (case hg => rfl); (case hn => rfl); (case hr => go_simp <;> rfl); intro w14 hw; have hg : wr.grownBy w14 (some go12) := (by rw [hw]; exact HP13.2); have hp_ : Kd.R (Kd.int .u32) 87 w14 w.heap.size (fun _ => True) (.slice (some ⟨go12, 0, none⟩) x6_1.length co12) y650 := (by rw [hw, Ny650.out]; exact HP13.1); clear HP13; replace HO_6 := mk0 (hp_); replace HB := mk0 ((by rw [hw]; exact bS (HB.out) GB12.out : Below w.heap.size w w14)); clear hg hw hp_))
          go_roundg k1
          case measure => have := HK1.out; omega
          case rel => exact ⟨(y650), (Int.tmod (IntKind.u64.wrap ((IntKind.u64.wrap (x7_1 * 4294967296)) + (IntKind.u64.wrap (rd l0 x8_1)))) a1), (wrap64 (x8_1 - 1)), rfl, rfl, H', ⟨by have := HK1.out; omega⟩, ⟨HO_6.out⟩, ⟨by repeat (first | exact HB.out | apply bN | apply b1 | apply bA)⟩⟩
         ·rw [if_neg c11] at H
          exact absurd H (by simp)
       ·rw [if_neg c9] at H
        exact absurd H (by simp)
      ·rw [if_neg c8] at H
       exact absurd H (by simp)
     ·rw [if_neg c7] at H
      have c7b0 := decide_eq_false c7
      clear c7
      obtain ⟨t651, A15, H⟩ := bindA H
      simp only [Option.some.injEq, Prod.mk.injEq] at H
      obtain ⟨rfl, rfl⟩ := H
      obtain ⟨Ao16, co16, eo16⟩ := Kd.R_slice HO_6.out
      subst eo16
      go_wp2_with (first | ((with_reducible refine gate_callee (f := 89) rfl ?_); refine goA 39 Try.func89 #[.slice Ao16 x6_1.length co16] ?_; (with_reducible refine (examboardref01_Norm.calls k1 _ _ x6_1 t651 _ (by exact (Kd.R_reads' HO_6.out).2.2) (by exact (Kd.R_reads' HO_6.out).2.1) A15.out).mono ?_); rintro e w17 ⟨v652, rfl, ho0, hb⟩; refine ⟨_, rfl, ?_⟩; have HO653 := mk0 (Rl (Rn ho0 (Rq HO_6.out)) (bZ HB.out)); replace HO_6 := mk0 (Re HO_6.out (Rs ho0) hb); replace HB := hbS HB hb))
      go_ret2
      exact ⟨_, by first | rfl | (simp [errW_none, errW_some] <;> rfl) | (simp [*, errW_none, errW_some] <;> rfl), Rm HO653.out tv, by repeat (first | exact HB.out | apply bN | apply b1 | apply bA)⟩
  ·rw [if_neg c4] at H
   exact absurd H (by simp)
 ·rw [if_neg c3] at H
  exact absurd H (by simp)
set_option maxHeartbeats 8000000 in
set_option maxRecDepth 100000 in
theorem examboardref01_Shift.calls (k : Nat) (A0 : Option Addr) (c0 : Nat) (l0 : List Int) (a1 : Int) (r : List Int) (w : World) (hr0 : Kd.C (Kd.int .u32) w A0 l0.length l0) (hc0 : l0.length ≤ c0) (h : examboardref01_Shift.f k l0 a1 = some r) :
  Calls Try.prog 115 #[.slice A0 l0.length c0, .int .i64 a1] w fun e w' => ∃ v0_ : Value, e = .returned (v0_) ∧ Kd.R (Kd.int .u32) 87 w' w.heap.size (fun _ => True) v0_ r ∧ Below w.heap.size w w' := by
 have HR0 := mk0 hr0
 have HC0 := mk0 hc0
 clear hr0 hc0
 have HB := mk0 (Below.refl w.heap.size w)
 have H : (if 0 ≤ (wrap64 ((wrap64 ((l0.length : Int) + (wrap64 (Int.tdiv a1 32)))) + 1)) then (if (wrap64 ((wrap64 ((l0.length : Int) + (wrap64 (Int.tdiv a1 32)))) + 1) : Int).toNat ≤ 70368744177664 then (examboardref01_Shift.l0 k l0 a1 (List.replicate (wrap64 ((wrap64 ((l0.length : Int) + (wrap64 (Int.tdiv a1 32)))) + 1) : Int).toNat 0) 0) else (none)) else (none)) = some r := h
 clear h
 obtain ⟨ji3, hji3⟩ : ∃ j_ : Int, (wrap64 ((wrap64 ((l0.length : Int) + (wrap64 (Int.tdiv a1 32)))) + 1)) = j_ := ⟨_, rfl⟩
 rw [hji3] at H
 have hji3w : (IntKind.i64.wrap ((wrap64 ((l0.length : Int) + (wrap64 (Int.tdiv a1 32)))) + 1)) = ji3 := (i64_w _).trans hji3
 by_cases c4 : 0 ≤ (ji3)
 ·rw [if_pos c4] at H
  have c4b0 := eq_true c4
  have c4b1 := decide_eq_true c4
  clear c4
  by_cases c5 : (ji3 : Int).toNat ≤ 70368744177664
  ·rw [if_pos c5] at H
   have c5b0 := eq_true c5
   have c5b1 := decide_eq_true c5
   clear c5
   obtain ⟨y654, hy654⟩ : ∃ y_ : List Int, y_ = (List.replicate (ji3 : Int).toNat 0) := ⟨_, rfl⟩
   rw [← hy654] at H
   have Ny654 := mk0 hy654
   clear hy654
   have H' := mk0 H
   clear H
   go_enter Try.func115, Try.ntmps115
   go_wp2_with (first | ((with_reducible refine gate_dst (N := 14) rfl ?_); refine Kd.R_make (Kd.int .u32) _ 87 rfl (N := 14) rfl 25 _ _ rfl ji3 rfl rfl Try.underlying25 (.int .u32 0) 4 info87 rfl (by decide) (by omega) 0 (ok := fun _ => True) (okp := fun _ => True) rfl (fun _ hk => hk) trivial (of_decide_eq_true (by assumption)) (Nat.le_trans (Nat.mul_le_mul_right _ (of_decide_eq_true (by assumption) : ji3.toNat ≤ 70368744177664)) (by omega)) (Below.refl _ _) (Nat.le_refl _) ?_; intro v655 w6 ho7 hb hg_ hnew_; clear hg_ hnew_; (first | rw [← Ny654.out] at ho7 | (simp only [Int.reduceToNat] at ho7; rw [← Ny654.out] at ho7)); have HO656 := mk0 (Rl ho7 (bZ HB.out)); replace HB := hbS HB hb; clear hb ho7))
   go_loopg [6] k (fun kq v6 w' => ∃ (x5_1 : List Int) (x6_1 : Int), v6 = .int .i64 x6_1 ∧ Aside0 (examboardref01_Shift.l0 kq l0 a1 x5_1 x6_1 = some r) ∧ Aside0 (kq ≤ k) ∧ Aside0 (Kd.R (Kd.int .u32) 87 w' w.heap.size (fun _ => True) v655 x5_1) ∧ Aside0 (Below w.heap.size w w'))
   case atStart => exact ⟨(y654), (0), (by first | rfl | (simp; done) | (simp [*]; done)), H', ⟨Nat.le_refl _⟩, ⟨HO656.out⟩, ⟨by repeat (first | exact HB.out | apply bN | apply b1 | apply bA)⟩⟩
   case round =>
    clear H'
    obtain ⟨x5_1, x6_1, rfl, HA, HK1, HO_5, HB⟩ := hrel
    cases gk with
    | zero => exact absurd HA.out (by simp [examboardref01_Shift.l0])
    | succ k1 =>
     have H := HA.out
     clear HA
     simp only [examboardref01_Shift.l0] at H
     by_cases c8 : x6_1 < (l0.length : Int)
     ·rw [if_pos c8] at H
      have c8b0 := decide_eq_true c8
      clear c8
      by_cases c9 : 0 ≤ x6_1
      ·rw [if_pos c9] at H
       have c9b0 := decide_eq_true c9
       clear c9
       obtain ⟨ji10, hji10⟩ : ∃ j_ : Int, (IntKind.u64.wrap (Int.tmod a1 32)) = j_ := ⟨_, rfl⟩
       rw [hji10] at H
       by_cases c11 : 0 ≤ (ji10)
       ·rw [if_pos c11] at H
        have c11b0 := eq_true c11
        have c11b1 := decide_eq_true c11
        clear c11
        obtain ⟨ji12, hji12⟩ : ∃ j_ : Int, (shl .u64 (IntKind.u64.wrap (rd l0 x6_1)) (ji10)) = j_ := ⟨_, rfl⟩
        rw [hji12] at H
        have hji12_ : (IntKind.u64.wrap ((IntKind.u64.wrap (rd l0 x6_1)) * 2 ^ min (ji10).toNat 64)) = ji12 := hji12
        have hji12z : (ji10) ≤ 64 → (IntKind.u64.wrap ((IntKind.u64.wrap (rd l0 x6_1)) * 2 ^ (ji10).toNat)) = ji12 := shl_small hji12
        obtain ⟨ji13, hji13⟩ : ∃ j_ : Int, (wrap64 (x6_1 + (wrap64 (Int.tdiv a1 32)))) = j_ := ⟨_, rfl⟩
        rw [hji13] at H
        have hji13w : (IntKind.i64.wrap (x6_1 + (wrap64 (Int.tdiv a1 32)))) = ji13 := (i64_w _).trans hji13
        by_cases c14 : 0 ≤ (ji13)
        ·rw [if_pos c14] at H
         have c14b0 := decide_eq_true c14
         clear c14
         by_cases c15 : (ji13) < (x5_1.length : Int)
         ·rw [if_pos c15] at H
          have c15b0 := decide_eq_true c15
          clear c15
          obtain ⟨y659, hy659⟩ : ∃ y_ : List Int, y_ = (x5_1.set ((ji13) : Int).toNat (Go.bits .or .u32 (rd x5_1 (ji13)) ((ji12) % 4294967296))) := ⟨_, rfl⟩
          rw [← hy659] at H
          have Ny659 := mk0 hy659
          clear hy659
          obtain ⟨ji17, hji17⟩ : ∃ j_ : Int, (wrap64 ((ji13) + 1)) = j_ := ⟨_, rfl⟩
          rw [hji17] at H
          have hji17w : (IntKind.i64.wrap ((ji13) + 1)) = ji17 := (i64_w _).trans hji17
          by_cases c18 : 0 ≤ (ji17)
          ·rw [if_pos c18] at H
           have c18b0 := decide_eq_true c18
           clear c18
           by_cases c19 : (ji17) < (x5_1.length : Int)
           ·rw [if_pos c19] at H
            have c19b0 := decide_eq_true c19
            clear c19
            obtain ⟨y660, hy660⟩ : ∃ y_ : List Int, y_ = (y659.set ((ji17) : Int).toNat (((ji12) / 4294967296) % 4294967296)) := ⟨_, rfl⟩
            rw [← hy660] at H
            have Ny660 := mk0 hy660
            clear hy660
            have H' := mk0 H
            clear H
            have p657 : 0 ≤ (x6_1 : Int) := of_decide_eq_true (by assumption)
            have q657 : x6_1 < (l0.length : Int) := of_decide_eq_true (by assumption)
            obtain ⟨ad657, e657, hx657_0⟩ := Kd.at_int HR0.out x6_1 p657 q657
            cases e657
            replace hx657_0 := (HB.out.cell (World.block_lt_of_cell? w _ hx657_0)).trans hx657_0
            replace p657 := eq_true p657
            replace q657 := eq_true q657
            obtain ⟨Ao21, co21, eo21⟩ := Kd.R_slice HO_5.out
            subst eo21
            have p658 : 0 ≤ ((ji13) : Int) := of_decide_eq_true (by assumption)
            have q658 : (ji13) < (x5_1.length : Int) := of_decide_eq_true (by assumption)
            obtain ⟨ad658, e658, hx658_0⟩ := Kd.at_int (Kd.R_reads' HO_5.out).2.2 (ji13) p658 q658
            cases e658
            replace p658 := eq_true p658
            replace q658 := eq_true q658
            have p16 : 0 ≤ ((ji13) : Int) := of_decide_eq_true (by assumption)
            have q16 : ((ji13) : Int) < ((x5_1.length : Int) : Int) := of_decide_eq_true (by assumption)
            obtain ⟨go16, co16, eo16, gb16, gl16, cl16, HG16⟩ := Kd.R_form HO_5.out (by omega)
            (first | cases eo16 | (injection eo16 with ea_ en_ ec_; (first | subst ea_ | (injection ea_ with ea_; subst ea_)); subst ec_; clear en_))
            have GB16 := mk0 gb16
            have GG16 := mk0 HG16
            clear gb16 gl16 HG16
            (first | simp only [add_plain] at hx658_0 | skip)
            obtain ⟨hx16_0, hf16_0⟩ := Kd.R_celln 0 HO_5.out ((ji13) : Int) p16 q16
            replace p16 := eq_true p16
            replace q16 := eq_true q16
            have HP22 := Kd.R_putg HO_5.out ((ji13) : Int) (Go.bits .or .u32 (rd x5_1 (ji13)) ((ji12) % 4294967296))
            go_wp2_with (first | ((with_reducible refine gate_store (t := 87) (p := 45) rfl ?_); refine store_event (t := 87) (p := 45) (v := ?vo_w23) (w1 := (wr.setCell ⟨go16, ((ji13) : Int).toNat, none⟩ (.int .u32 (Go.bits .or .u32 (rd x5_1 (ji13)) ((ji12) % 4294967296))))) ?hg ?ho ?hn ?hr ?_; (case ho => rfl); (case hg => rfl); (case hn => rfl); (case hr => go_simp <;> rfl); intro w23 hw; have hg : wr.grownBy w23 (some go16) := (by rw [hw]; exact HP22.2); have hp_ : Kd.R (Kd.int .u32) 87 w23 w.heap.size (fun _ => True) (.slice (some ⟨go16, 0, none⟩) x5_1.length co21) y659 := (by rw [hw, Ny659.out]; exact HP22.1); clear HP22; replace HO_5 := mk0 (hp_); replace HB := mk0 ((by rw [hw]; exact bS (HB.out) GB16.out : Below w.heap.size w w23)); clear hg hw hp_; have p20 : 0 ≤ ((ji17) : Int) := of_decide_eq_true (by assumption); have q20 : ((ji17) : Int) < ((x5_1.length : Int) : Int) := of_decide_eq_true (by assumption); obtain ⟨hx20_0, hf20_0⟩ := Kd.R_celln 0 HO_5.out ((ji17) : Int) p20 q20; replace p20 := eq_true p20; replace q20 := eq_true q20; obtain ⟨hy24_, hz24_⟩ := Kd.R_celln 0 HO_5.out ((ji17) : Int) (of_decide_eq_true (by assumption)) (of_decide_eq_true (by assumption)); have HP24 := Kd.R_putg HO_5.out ((ji17) : Int) (((ji12) / 4294967296) % 4294967296)) | ((with_reducible refine gate_store (t := 87) (p := 55) rfl ?_); refine store_event (t := 87) (p := 55) (v := ?vo_w25) (w1 := (w23.setCell ⟨go16, ((ji17) : Int).toNat, none⟩ (.int .u32 (((ji12) / 4294967296) % 4294967296)))) ?hg ?ho ?hn ?hr ?_; (case ho => rfl); (case hg => rfl); (case hn => rfl); (case hr => go_simp <;> rfl); intro w25 hw; have hg : w23.grownBy w25 (some go16) := (by rw [hw]; exact HP24.2); have hp_ : Kd.R (Kd.int .u32) 87 w25 w.heap.size (fun _ => True) (.slice (some ⟨go16, 0, none⟩) x5_1.length co21) y660 := (by rw [hw, Ny660.out]; exact HP24.1); clear HP24; replace HO_5 := mk0 (hp_); replace HB := mk0 ((by rw [hw]; exact bS (HB.out) GB16.out : Below w.heap.size w w25)); clear hg hw hp_))
            go_roundg k1
            case measure => have := HK1.out; omega
            case rel => exact ⟨(y660), (wrap64 (x6_1 + 1)), (by first | rfl | (simp; done) | (simp [*]; done)), H', ⟨by have := HK1.out; omega⟩, ⟨HO_5.out⟩, ⟨by repeat (first | exact HB.out | apply bN | apply b1 | apply bA)⟩⟩
           ·rw [if_neg c19] at H
            exact absurd H (by simp)
          ·rw [if_neg c18] at H
           exact absurd H (by simp)
         ·rw [if_neg c15] at H
          exact absurd H (by simp)
        ·rw [if_neg c14] at H
         exact absurd H (by simp)
       ·rw [if_neg c11] at H
        exact absurd H (by simp)
      ·rw [if_neg c9] at H
       exact absurd H (by simp)
     ·rw [if_neg c8] at H
      have c8b0 := decide_eq_false c8
      clear c8
      obtain ⟨t661, A26, H⟩ := bindA H
      obtain rfl := Option.some.inj H
      obtain ⟨Ao27, co27, eo27⟩ := Kd.R_slice HO_5.out
      subst eo27
      go_wp2_with (first | ((with_reducible refine gate_callee (f := 89) rfl ?_); refine goA 57 Try.func89 #[.slice Ao27 x5_1.length co27] ?_; (with_reducible refine (examboardref01_Norm.calls k1 _ _ x5_1 t661 _ (by exact (Kd.R_reads' HO_5.out).2.2) (by exact (Kd.R_reads' HO_5.out).2.1) A26.out).mono ?_); rintro e w28 ⟨v662, rfl, ho0, hb⟩; refine ⟨_, rfl, ?_⟩; have HO663 := mk0 (Rl (Rn ho0 (Rq HO_5.out)) (bZ HB.out)); replace HO_5 := mk0 (Re HO_5.out (Rs ho0) hb); replace HB := hbS HB hb))
      go_ret
      exact ⟨_, by first | rfl | (simp [errW_none, errW_some] <;> rfl) | (simp only [← hji3]; first | rfl | (simp [errW_none, errW_some] <;> rfl)) | (simp [*, errW_none, errW_some] <;> rfl), Rm HO663.out tv, by repeat (first | exact HB.out | apply bN | apply b1 | apply bA)⟩
  ·rw [if_neg c5] at H
   exact absurd H (by simp)
 ·rw [if_neg c4] at H
  exact absurd H (by simp)
set_option maxHeartbeats 8000000 in
set_option maxRecDepth 100000 in
theorem examboardref01_limb.calls (A0 : Option Addr) (c0 : Nat) (l0 : List Int) (a1 : Int) (r : Int) (w : World) (hr0 : Kd.C (Kd.int .u32) w A0 l0.length l0) (hc0 : l0.length ≤ c0) (h : examboardref01_limb.f l0 a1 = some r) :
  Calls Try.prog 118 #[.slice A0 l0.length c0, .int .i64 a1] w fun e w' => e = .returned (.int .u64 r) ∧ Drawn0 w w' := by
 have HR0 := mk0 hr0
 have HC0 := mk0 hc0
 clear hr0 hc0
 have H : (if a1 < (l0.length : Int) then (if 0 ≤ a1 then (some (IntKind.u64.wrap (rd l0 a1))) else (none)) else (some 0)) = some r := h
 clear h
 by_cases c3 : a1 < (l0.length : Int)
 ·rw [if_pos c3] at H
  have c3b0 : decide (a1 < (l0.length : Int)) = true := decide_eq_true c3
  clear c3
  by_cases c4 : 0 ≤ a1
  ·rw [if_pos c4] at H
   have c4b0 : decide (0 ≤ a1) = true := decide_eq_true c4
   clear c4
   obtain rfl := Option.some.inj H
   have p643 : 0 ≤ (a1 : Int) := of_decide_eq_true (by assumption)
   have q643 : a1 < (l0.length : Int) := of_decide_eq_true (by assumption)
   obtain ⟨ad643, e643, hx643_0⟩ := Kd.at_int HR0.out a1 p643 q643
   cases e643
   replace p643 := eq_true p643
   replace q643 := eq_true q643
   go_enter Try.func118, Try.ntmps118
   go_wp2
   go_ret
   exact ⟨by first | rfl | (simp; done) | (simp [*]; done), by repeat (first | exact Drawn0.refl _ | apply Drawn0.step)⟩
  ·rw [if_neg c4] at H
   exact absurd H (by simp)
 ·rw [if_neg c3] at H
  have c3b0 : decide (a1 < (l0.length : Int)) = false := decide_eq_false c3
  clear c3
  obtain rfl := Option.some.inj H
  go_enter Try.func118, Try.ntmps118
  go_wp2
  go_ret
  exact ⟨by first | rfl | (simp; done) | (simp [*]; done), by repeat (first | exact Drawn0.refl _ | apply Drawn0.step)⟩
set_option maxHeartbeats 8000000 in
set_option maxRecDepth 100000 in
theorem examboardref01_Cmp.calls (k : Nat) (A0 : Option Addr) (c0 : Nat) (l0 : List Int) (A1 : Option Addr) (c1 : Nat) (l1 : List Int) (r : Int) (w : World) (hr0 : Kd.C (Kd.int .u32) w A0 l0.length l0) (hc0 : l0.length ≤ c0) (hr1 : Kd.C (Kd.int .u32) w A1 l1.length l1) (hc1 : l1.length ≤ c1) (h : examboardref01_Cmp.f k l0 l1 = some r) :
  Calls Try.prog 92 #[.slice A0 l0.length c0, .slice A1 l1.length c1] w fun e w' => e = .returned (.int .i64 r) ∧ Below w.heap.size w w' := by
 have HR0 := mk0 hr0
 have HC0 := mk0 hc0
 clear hr0 hc0
 have HR1 := mk0 hr1
 have HC1 := mk0 hc1
 clear hr1 hc1
 have HB := mk0 (Below.refl w.heap.size w)
 have H : (examboardref01_Cmp.l0 k l0 l1 (wrap64 ((mx (l0.length : Int) (l1.length : Int)) - 1))) = some r := h
 clear h
 obtain ⟨ji3, hji3⟩ : ∃ j_ : Int, (mx (l0.length : Int) (l1.length : Int)) = j_ := ⟨_, rfl⟩
 replace H : (examboardref01_Cmp.l0 k l0 l1 (wrap64 ((ji3) - 1))) = some r := by first | (rw [hji3] at H; exact H) | (simp only [hji3] at H ⊢; exact H)
 (try (have hji3l : 0 ≤ ji3 := by (rw [← hji3]; unfold mx; (repeat' split) <;> omega)))
 (try (have hji3m : 0 ≤ ji3 := by omega))
 have hji3_ : (if (l0.length : Int) < (l1.length : Int) then (l1.length : Int) else (l0.length : Int)) = ji3 := hji3
 have hji3_n : (if l0.length < l1.length then (l1.length : Int) else (l0.length : Int)) = ji3 := (by rw [← hji3_]; simp only [Int.ofNat_lt])
 have H' := mk0 H
 clear H
 go_enter Try.func92, Try.ntmps92
 go_wp2
 go_loopg [5] k (fun kq v5 w' => ∃ (x5_1 : Int), v5 = .int .i64 x5_1 ∧ Aside0 (examboardref01_Cmp.l0 kq l0 l1 x5_1 = some r) ∧ Aside0 (kq ≤ k) ∧ Aside0 (Below w.heap.size w w'))
 case atStart => exact ⟨(wrap64 ((ji3) - 1)), (by first | rfl | (simp; done) | (simp only [← hji3] <;> (first | rfl | simp)) | (simp [*]; done)), H', ⟨Nat.le_refl _⟩, ⟨by repeat (first | exact HB.out | apply bN | apply b1 | apply bA)⟩⟩
 case round =>
  clear H'
  try clear c1
  try clear p2
  obtain ⟨x5_1, rfl, HA, HK1, HB⟩ := hrel
  cases gk with
  | zero => exact absurd HA.out (by simp [examboardref01_Cmp.l0])
  | succ k1 =>
   have H := HA.out
   clear HA
   simp only [examboardref01_Cmp.l0] at H
   by_cases c4 : x5_1 ≥ 0
   ·rw [if_pos c4] at H
    have c4b0 := decide_eq_true c4
    clear c4
    obtain ⟨t644, A5, H⟩ := bindA H
    obtain ⟨t645, A6, H⟩ := bindA H
    by_cases c7 : t644 < t645
    ·rw [if_pos c7] at H
     have c7b0 := decide_eq_true c7
     clear c7
     obtain rfl := Option.some.inj H
     go_wp2_with (first | ((with_reducible refine gate_callee (f := 118) rfl ?_); refine goA 20 Try.func118 #[.slice A0 l0.length c0, .int .i64 x5_1] ?_; (with_reducible refine (examboardref01_limb.calls _ _ l0 x5_1 t644 _ (by exact Cb HR0.out HB.out) HC0.out A5.out).mono ?_); rintro e w' ⟨rfl, ⟨nd, rfl⟩⟩; refine ⟨_, rfl, ?_⟩) | ((with_reducible refine gate_callee (f := 118) rfl ?_); refine goA 23 Try.func118 #[.slice A1 l1.length c1, .int .i64 x5_1] ?_; (with_reducible refine (examboardref01_limb.calls _ _ l1 x5_1 t645 _ (by repeat (first | exact (Cb HR1.out HB.out) | (with_reducible refine Kd.C_alloc ?_ _) | (with_reducible refine Kd.C_drewN ?_ _) | (with_reducible refine Kd.C_drew ?_))) HC1.out A6.out).mono ?_); rintro e w' ⟨rfl, ⟨nd, rfl⟩⟩; refine ⟨_, rfl, ?_⟩))
     go_ret
     exact ⟨by first | rfl | (simp [errW_none, errW_some] <;> rfl) | (simp only [← hji3]; first | rfl | (simp [errW_none, errW_some] <;> rfl)) | (simp [*, errW_none, errW_some] <;> rfl), by repeat (first | exact HB.out | apply bN | apply b1 | apply bA)⟩
    ·rw [if_neg c7] at H
     have c7b0 := decide_eq_false c7
     clear c7
     by_cases c8 : t644 > t645
     ·rw [if_pos c8] at H
      have c8b0 := decide_eq_true c8
      clear c8
      obtain rfl := Option.some.inj H
      go_wp2_with (first | ((with_reducible refine gate_callee (f := 118) rfl ?_); refine goA 20 Try.func118 #[.slice A0 l0.length c0, .int .i64 x5_1] ?_; (with_reducible refine (examboardref01_limb.calls _ _ l0 x5_1 t644 _ (by exact Cb HR0.out HB.out) HC0.out A5.out).mono ?_); rintro e w' ⟨rfl, ⟨nd, rfl⟩⟩; refine ⟨_, rfl, ?_⟩) | ((with_reducible refine gate_callee (f := 118) rfl ?_); refine goA 23 Try.func118 #[.slice A1 l1.length c1, .int .i64 x5_1] ?_; (with_reducible refine (examboardref01_limb.calls _ _ l1 x5_1 t645 _ (by repeat (first | exact (Cb HR1.out HB.out) | (with_reducible refine Kd.C_alloc ?_ _) | (with_reducible refine Kd.C_drewN ?_ _) | (with_reducible refine Kd.C_drew ?_))) HC1.out A6.out).mono ?_); rintro e w' ⟨rfl, ⟨nd, rfl⟩⟩; refine ⟨_, rfl, ?_⟩))
      go_ret
      exact ⟨by first | rfl | (simp [errW_none, errW_some] <;> rfl) | (simp only [← hji3]; first | rfl | (simp [errW_none, errW_some] <;> rfl)) | (simp [*, errW_none, errW_some] <;> rfl), by repeat (first | exact HB.out | apply bN | apply b1 | apply bA)⟩
     ·rw [if_neg c8] at H
      have c8b0 := decide_eq_false c8
      clear c8
      have H' := mk0 H
      clear H
      go_wp2_with (first | ((with_reducible refine gate_callee (f := 118) rfl ?_); refine goA 20 Try.func118 #[.slice A0 l0.length c0, .int .i64 x5_1] ?_; (with_reducible refine (examboardref01_limb.calls _ _ l0 x5_1 t644 _ (by exact Cb HR0.out HB.out) HC0.out A5.out).mono ?_); rintro e w' ⟨rfl, ⟨nd, rfl⟩⟩; refine ⟨_, rfl, ?_⟩) | ((with_reducible refine gate_callee (f := 118) rfl ?_); refine goA 23 Try.func118 #[.slice A1 l1.length c1, .int .i64 x5_1] ?_; (with_reducible refine (examboardref01_limb.calls _ _ l1 x5_1 t645 _ (by repeat (first | exact (Cb HR1.out HB.out) | (with_reducible refine Kd.C_alloc ?_ _) | (with_reducible refine Kd.C_drewN ?_ _) | (with_reducible refine Kd.C_drew ?_))) HC1.out A6.out).mono ?_); rintro e w' ⟨rfl, ⟨nd, rfl⟩⟩; refine ⟨_, rfl, ?_⟩))
      go_roundg k1
      case measure => have := HK1.out; omega
      case rel => exact ⟨(wrap64 (x5_1 - 1)), (by first | rfl | (simp; done) | (simp [*]; done)), H', ⟨by have := HK1.out; omega⟩, ⟨by repeat (first | exact HB.out | apply bN | apply b1 | apply bA)⟩⟩
   ·rw [if_neg c4] at H
    have c4b0 := decide_eq_false c4
    clear c4
    obtain rfl := Option.some.inj H
    go_wp2
    go_ret
    exact ⟨by first | rfl | (simp [errW_none, errW_some] <;> rfl) | (simp only [← hji3]; first | rfl | (simp [errW_none, errW_some] <;> rfl)) | (simp [*, errW_none, errW_some] <;> rfl), by repeat (first | exact HB.out | apply bN | apply b1 | apply bA)⟩
set_option maxHeartbeats 8000000 in
set_option maxRecDepth 100000 in
theorem examboardref01_Sub.calls (k : Nat) (A0 : Option Addr) (c0 : Nat) (l0 : List Int) (A1 : Option Addr) (c1 : Nat) (l1 : List Int) (r1 : List Int) (r2 : Bool) (w : World) (hr0 : Kd.C (Kd.int .u32) w A0 l0.length l0) (hc0 : l0.length ≤ c0) (hr1 : Kd.C (Kd.int .u32) w A1 l1.length l1) (hc1 : l1.length ≤ c1) (h : examboardref01_Sub.f k l0 l1 = some (r1, r2)) :
  Calls Try.prog 116 #[.slice A0 l0.length c0, .slice A1 l1.length c1] w fun e w' => ∃ v0_ : Value, e = .returned (.tuple #[v0_, .bool r2]) ∧ Kd.R (Kd.int .u32) 87 w' w.heap.size (fun _ => True) v0_ r1 ∧ Below w.heap.size w w' := by
 have HR0 := mk0 hr0
 have HC0 := mk0 hc0
 clear hr0 hc0
 have HR1 := mk0 hr1
 have HC1 := mk0 hc1
 clear hr1 hc1
 have HB := mk0 (Below.refl w.heap.size w)
 have H : ((examboardref01_Cmp.f k l0 l1).bind fun t664 => (if t664 < 0 then (some (([] : List Int), false)) else (if 0 ≤ (l0.length : Int) then (if ((l0.length : Int) : Int).toNat ≤ 70368744177664 then (examboardref01_Sub.l0 k l0 l1 (List.replicate ((l0.length : Int) : Int).toNat 0) 0 0) else (none)) else (none)))) = some (r1, r2) := h
 clear h
 obtain ⟨t664, A3, H⟩ := bindA H
 by_cases c4 : t664 < 0
 ·rw [if_pos c4] at H
  have c4b0 := decide_eq_true c4
  clear c4
  simp only [Option.some.injEq, Prod.mk.injEq] at H
  obtain ⟨rfl, rfl⟩ := H
  go_enter Try.func116, Try.ntmps116
  go_wp2_with (first | ((with_reducible refine gate_callee (f := 92) rfl ?_); refine goA 13 Try.func92 #[.slice A0 l0.length c0, .slice A1 l1.length c1] ?_; (with_reducible refine (examboardref01_Cmp.calls k _ _ l0 _ _ l1 t664 _ HR0.out HC0.out HR1.out HC1.out A3.out).mono ?_); rintro e w5 ⟨rfl, hb⟩; refine ⟨_, rfl, ?_⟩; replace HB := (by first | exact hbS HB hb | exact hbD HB hb)))
  go_ret2
  exact ⟨_, rfl, by first | exact Kd.R_nil _ _ _ _ _ | exact Kd.N_nil _ _ _ _ _ | exact Kd.V_nil _ _ _ _ _ | exact Kd.Q_nil _ _ _ _ _ | exact Kd.S_nil _ _ _ _ _, by repeat (first | exact HB.out | apply bN | apply b1 | apply bA)⟩
 ·rw [if_neg c4] at H
  have c4b0 := decide_eq_false c4
  clear c4
  by_cases c6 : 0 ≤ (l0.length : Int)
  ·rw [if_pos c6] at H
   have c6b0 := eq_true c6
   have c6b1 := decide_eq_true c6
   clear c6
   by_cases c7 : ((l0.length : Int) : Int).toNat ≤ 70368744177664
   ·rw [if_pos c7] at H
    have c7b0 := eq_true c7
    have c7b1 := decide_eq_true c7
    clear c7
    obtain ⟨y665, hy665⟩ : ∃ y_ : List Int, y_ = (List.replicate ((l0.length : Int) : Int).toNat 0) := ⟨_, rfl⟩
    rw [← hy665] at H
    have Ny665 := mk0 hy665
    clear hy665
    have H' := mk0 H
    clear H
    go_enter Try.func116, Try.ntmps116
    go_wp2_with (first | ((with_reducible refine gate_callee (f := 92) rfl ?_); refine goA 13 Try.func92 #[.slice A0 l0.length c0, .slice A1 l1.length c1] ?_; (with_reducible refine (examboardref01_Cmp.calls k _ _ l0 _ _ l1 t664 _ HR0.out HC0.out HR1.out HC1.out A3.out).mono ?_); rintro e w8 ⟨rfl, hb⟩; refine ⟨_, rfl, ?_⟩; replace HB := (by first | exact hbS HB hb | exact hbD HB hb)) | ((with_reducible refine gate_dst (N := 17) rfl ?_); refine Kd.R_make (Kd.int .u32) _ 87 rfl (N := 17) rfl 25 _ _ rfl (l0.length : Int) rfl rfl Try.underlying25 (.int .u32 0) 4 info87 rfl (by decide) (by omega) 0 (ok := fun _ => True) (okp := fun _ => True) rfl (fun _ hk => hk) trivial (of_decide_eq_true (by assumption)) (Nat.le_trans (Nat.mul_le_mul_right _ (of_decide_eq_true (by assumption) : (l0.length : Int).toNat ≤ 70368744177664)) (by omega)) (Below.refl _ _) (Nat.le_refl _) ?_; intro v666 w9 ho10 hb hg_ hnew_; clear hg_ hnew_; (first | rw [← Ny665.out] at ho10 | (simp only [Int.reduceToNat] at ho10; rw [← Ny665.out] at ho10)); have HO667 := mk0 (Rl ho10 (bZ HB.out)); replace HB := (by first | exact hbS HB hb | exact hbD HB hb); clear hb ho10))
    go_loopg [7, 8] k (fun kq v7 v8 w' => ∃ (x6_1 : List Int) (x7_1 : Int) (x8_1 : Int), v7 = .int .u64 x7_1 ∧ v8 = .int .i64 x8_1 ∧ Aside0 (examboardref01_Sub.l0 kq l0 l1 x6_1 x7_1 x8_1 = some (r1, r2)) ∧ Aside0 (kq ≤ k) ∧ Aside0 (Kd.R (Kd.int .u32) 87 w' w.heap.size (fun _ => True) v666 x6_1) ∧ Aside0 (Below w.heap.size w w'))
    case atStart => exact ⟨(y665), (0), (0), rfl, rfl, H', ⟨Nat.le_refl _⟩, ⟨by (with_reducible repeat apply Kd.R_drewN); exact HO667.out⟩, ⟨by repeat (first | exact HB.out | apply bN | apply b1 | apply bA)⟩⟩
    case round =>
     clear H'
     obtain ⟨x6_1, x7_1, x8_1, rfl, rfl, HA, HK1, HO_6, HB⟩ := hrel
     cases gk with
     | zero => exact absurd HA.out (by simp [examboardref01_Sub.l0])
     | succ k1 =>
      have H := HA.out
      clear HA
      simp only [examboardref01_Sub.l0] at H
      by_cases c11 : x8_1 < (l0.length : Int)
      ·rw [if_pos c11] at H
       have c11b0 := decide_eq_true c11
       clear c11
       obtain ⟨t671, A12, H⟩ := bindA H
       obtain ⟨t672, A13, H⟩ := bindA H
       by_cases c14 : t671 < (IntKind.u64.wrap (t672 + x7_1))
       ·rw [if_pos c14] at H
        have c14b0 := decide_eq_true c14
        clear c14
        by_cases c15 : 0 ≤ x8_1
        ·rw [if_pos c15] at H
         have c15b0 := decide_eq_true c15
         clear c15
         by_cases c16 : x8_1 < (x6_1.length : Int)
         ·rw [if_pos c16] at H
          have c16b0 := decide_eq_true c16
          clear c16
          obtain ⟨y673, hy673⟩ : ∃ y_ : List Int, y_ = (x6_1.set (x8_1 : Int).toNat ((IntKind.u64.wrap ((IntKind.u64.wrap (t671 + 4294967296)) - (IntKind.u64.wrap (t672 + x7_1)))) % 4294967296)) := ⟨_, rfl⟩
          rw [← hy673] at H
          have Ny673 := mk0 hy673
          clear hy673
          have H' := mk0 H
          clear H
          go_wp2_with (first | ((with_reducible refine gate_callee (f := 118) rfl ?_); refine goA 26 Try.func118 #[.slice A0 l0.length c0, .int .i64 x8_1] ?_; (with_reducible refine (examboardref01_limb.calls _ _ l0 x8_1 t671 _ (by exact Cb HR0.out HB.out) HC0.out A12.out).mono ?_); rintro e w' ⟨rfl, ⟨nd, rfl⟩⟩; refine ⟨_, rfl, ?_⟩; (try (rw [drewN_self wr]; generalize hq_ : World.drewN wr _ = wr; replace HO_6 : Aside0 (Kd.R (Kd.int .u32) 87 wr w.heap.size (fun _ => True) v666 x6_1) := ⟨by rw [← hq_]; exact (by (with_reducible repeat apply Kd.R_drewN); exact HO_6.out)⟩; replace HB : Aside0 (Below w.heap.size w wr) := ⟨by rw [← hq_]; exact (by repeat (first | exact HB.out | apply bN | apply b1 | apply bA))⟩; clear hq_))) | ((with_reducible refine gate_callee (f := 118) rfl ?_); refine goA 29 Try.func118 #[.slice A1 l1.length c1, .int .i64 x8_1] ?_; (with_reducible refine (examboardref01_limb.calls _ _ l1 x8_1 t672 _ (by exact Cb HR1.out HB.out) HC1.out A13.out).mono ?_); rintro e w' ⟨rfl, ⟨nd, rfl⟩⟩; refine ⟨_, rfl, ?_⟩; (try (rw [drewN_self wr]; generalize hq_ : World.drewN wr _ = wr; replace HO_6 : Aside0 (Kd.R (Kd.int .u32) 87 wr w.heap.size (fun _ => True) v666 x6_1) := ⟨by rw [← hq_]; exact (by (with_reducible repeat apply Kd.R_drewN); exact HO_6.out)⟩; replace HB : Aside0 (Below w.heap.size w wr) := ⟨by rw [← hq_]; exact (by repeat (first | exact HB.out | apply bN | apply b1 | apply bA))⟩; clear hq_)); have p17 : 0 ≤ (x8_1 : Int) := of_decide_eq_true (by assumption); have q17 : (x8_1 : Int) < ((x6_1.length : Int) : Int) := of_decide_eq_true (by assumption); obtain ⟨go17, co17, eo17, gb17, gl17, cl17, HG17⟩ := Kd.R_form HO_6.out (by omega); (first | cases eo17 | (injection eo17 with ea_ en_ ec_; (first | subst ea_ | (injection ea_ with ea_; subst ea_)); subst ec_; clear en_)); have GB17 := mk0 gb17; have GG17 := mk0 HG17; clear gb17 gl17 HG17; obtain ⟨hx17_0, hf17_0⟩ := Kd.R_celln 0 HO_6.out (x8_1 : Int) p17 q17; replace p17 := eq_true p17; replace q17 := eq_true q17; obtain ⟨hy18_, hz18_⟩ := Kd.R_celln 0 HO_6.out (x8_1 : Int) (of_decide_eq_true (by assumption)) (of_decide_eq_true (by assumption)); have HP18 := Kd.R_putg HO_6.out (x8_1 : Int) ((IntKind.u64.wrap ((IntKind.u64.wrap (t671 + 4294967296)) - (IntKind.u64.wrap (t672 + x7_1)))) % 4294967296)) | ((with_reducible refine gate_store (t := 87) (p := 43) rfl ?_); refine store_event (t := 87) (p := 43) (v := ?vo_w19) (w1 := (wr.setCell ⟨go17, (x8_1 : Int).toNat, none⟩ (.int .u32 ((IntKind.u64.wrap ((IntKind.u64.wrap (t671 + 4294967296)) - (IntKind.u64.wrap (t672 + x7_1)))) % 4294967296)))) ?hg ?ho ?hn ?hr ?_; (case ho => rfl); (case hg => rfl); (case hn => rfl); (case hr => go_simp <;> rfl); intro w19 hw; have hg : wr.grownBy w19 (some go17) := (by rw [hw]; exact HP18.2); have hp_ : Kd.R (Kd.int .u32) 87 w19 w.heap.size (fun _ => True) (.slice (some ⟨go17, 0, none⟩) x6_1.length co17) y673 := (by rw [hw, Ny673.out]; exact HP18.1); clear HP18; replace HO_6 := mk0 (hp_); replace HB := mk0 ((by rw [hw]; exact bS (HB.out) GB17.out : Below w.heap.size w w19)); clear hg hw hp_))
          go_roundg k1
          case measure => have := HK1.out; omega
          case rel => exact ⟨(y673), (1), (wrap64 (x8_1 + 1)), rfl, rfl, H', ⟨by have := HK1.out; omega⟩, ⟨by (with_reducible repeat apply Kd.R_drewN); exact HO_6.out⟩, ⟨by repeat (first | exact HB.out | apply bN | apply b1 | apply bA)⟩⟩
         ·rw [if_neg c16] at H
          exact absurd H (by simp)
        ·rw [if_neg c15] at H
         exact absurd H (by simp)
       ·rw [if_neg c14] at H
        have c14b0 := decide_eq_false c14
        clear c14
        by_cases c20 : 0 ≤ x8_1
        ·rw [if_pos c20] at H
         have c20b0 := decide_eq_true c20
         clear c20
         by_cases c21 : x8_1 < (x6_1.length : Int)
         ·rw [if_pos c21] at H
          have c21b0 := decide_eq_true c21
          clear c21
          obtain ⟨y674, hy674⟩ : ∃ y_ : List Int, y_ = (x6_1.set (x8_1 : Int).toNat ((IntKind.u64.wrap (t671 - (IntKind.u64.wrap (t672 + x7_1)))) % 4294967296)) := ⟨_, rfl⟩
          rw [← hy674] at H
          have Ny674 := mk0 hy674
          clear hy674
          have H' := mk0 H
          clear H
          go_wp2_with (first | ((with_reducible refine gate_callee (f := 118) rfl ?_); refine goA 26 Try.func118 #[.slice A0 l0.length c0, .int .i64 x8_1] ?_; (with_reducible refine (examboardref01_limb.calls _ _ l0 x8_1 t671 _ (by exact Cb HR0.out HB.out) HC0.out A12.out).mono ?_); rintro e w' ⟨rfl, ⟨nd, rfl⟩⟩; refine ⟨_, rfl, ?_⟩; (try (rw [drewN_self wr]; generalize hq_ : World.drewN wr _ = wr; replace HO_6 : Aside0 (Kd.R (Kd.int .u32) 87 wr w.heap.size (fun _ => True) v666 x6_1) := ⟨by rw [← hq_]; exact (by (with_reducible repeat apply Kd.R_drewN); exact HO_6.out)⟩; replace HB : Aside0 (Below w.heap.size w wr) := ⟨by rw [← hq_]; exact (by repeat (first | exact HB.out | apply bN | apply b1 | apply bA))⟩; clear hq_))) | ((with_reducible refine gate_callee (f := 118) rfl ?_); refine goA 29 Try.func118 #[.slice A1 l1.length c1, .int .i64 x8_1] ?_; (with_reducible refine (examboardref01_limb.calls _ _ l1 x8_1 t672 _ (by exact Cb HR1.out HB.out) HC1.out A13.out).mono ?_); rintro e w' ⟨rfl, ⟨nd, rfl⟩⟩; refine ⟨_, rfl, ?_⟩; (try (rw [drewN_self wr]; generalize hq_ : World.drewN wr _ = wr; replace HO_6 : Aside0 (Kd.R (Kd.int .u32) 87 wr w.heap.size (fun _ => True) v666 x6_1) := ⟨by rw [← hq_]; exact (by (with_reducible repeat apply Kd.R_drewN); exact HO_6.out)⟩; replace HB : Aside0 (Below w.heap.size w wr) := ⟨by rw [← hq_]; exact (by repeat (first | exact HB.out | apply bN | apply b1 | apply bA))⟩; clear hq_)); have p22 : 0 ≤ (x8_1 : Int) := of_decide_eq_true (by assumption); have q22 : (x8_1 : Int) < ((x6_1.length : Int) : Int) := of_decide_eq_true (by assumption); obtain ⟨go22, co22, eo22, gb22, gl22, cl22, HG22⟩ := Kd.R_form HO_6.out (by omega); (first | cases eo22 | (injection eo22 with ea_ en_ ec_; (first | subst ea_ | (injection ea_ with ea_; subst ea_)); subst ec_; clear en_)); have GB22 := mk0 gb22; have GG22 := mk0 HG22; clear gb22 gl22 HG22; obtain ⟨hx22_0, hf22_0⟩ := Kd.R_celln 0 HO_6.out (x8_1 : Int) p22 q22; replace p22 := eq_true p22; replace q22 := eq_true q22; obtain ⟨hy23_, hz23_⟩ := Kd.R_celln 0 HO_6.out (x8_1 : Int) (of_decide_eq_true (by assumption)) (of_decide_eq_true (by assumption)); have HP23 := Kd.R_putg HO_6.out (x8_1 : Int) ((IntKind.u64.wrap (t671 - (IntKind.u64.wrap (t672 + x7_1)))) % 4294967296)) | ((with_reducible refine gate_store (t := 87) (p := 43) rfl ?_); refine store_event (t := 87) (p := 43) (v := ?vo_w24) (w1 := (wr.setCell ⟨go22, (x8_1 : Int).toNat, none⟩ (.int .u32 ((IntKind.u64.wrap (t671 - (IntKind.u64.wrap (t672 + x7_1)))) % 4294967296)))) ?hg ?ho ?hn ?hr ?_; (case ho => rfl); (case hg => rfl); (case hn => rfl); (case hr => go_simp <;> rfl); intro w24 hw; have hg : wr.grownBy w24 (some go22) := (by rw [hw]; exact HP23.2); have hp_ : Kd.R (Kd.int .u32) 87 w24 w.heap.size (fun _ => True) (.slice (some ⟨go22, 0, none⟩) x6_1.length co22) y674 := (by rw [hw, Ny674.out]; exact HP23.1); clear HP23; replace HO_6 := mk0 (hp_); replace HB := mk0 ((by rw [hw]; exact bS (HB.out) GB22.out : Below w.heap.size w w24)); clear hg hw hp_))
          go_roundg k1
          case measure => have := HK1.out; omega
          case rel => exact ⟨(y674), (0), (wrap64 (x8_1 + 1)), rfl, rfl, H', ⟨by have := HK1.out; omega⟩, ⟨by (with_reducible repeat apply Kd.R_drewN); exact HO_6.out⟩, ⟨by repeat (first | exact HB.out | apply bN | apply b1 | apply bA)⟩⟩
         ·rw [if_neg c21] at H
          exact absurd H (by simp)
        ·rw [if_neg c20] at H
         exact absurd H (by simp)
      ·rw [if_neg c11] at H
       have c11b0 := decide_eq_false c11
       clear c11
       obtain ⟨t668, A25, H⟩ := bindA H
       simp only [Option.some.injEq, Prod.mk.injEq] at H
       obtain ⟨rfl, rfl⟩ := H
       obtain ⟨Ao26, co26, eo26⟩ := Kd.R_slice HO_6.out
       subst eo26
       go_wp2_with (first | ((with_reducible refine gate_callee (f := 89) rfl ?_); refine goA 45 Try.func89 #[.slice Ao26 x6_1.length co26] ?_; (with_reducible refine (examboardref01_Norm.calls k1 _ _ x6_1 t668 _ (by exact (Kd.R_reads' HO_6.out).2.2) (by exact (Kd.R_reads' HO_6.out).2.1) A25.out).mono ?_); rintro e w27 ⟨v669, rfl, ho0, hb⟩; refine ⟨_, rfl, ?_⟩; have HO670 := mk0 (Rl (Rn ho0 (Rq (by (with_reducible repeat apply Kd.R_drewN); exact HO_6.out))) (bZ HB.out)); replace HO_6 := mk0 (Re (by (with_reducible repeat apply Kd.R_drewN); exact HO_6.out) (Rs ho0) hb); replace HB := (by first | exact hbS HB hb | exact hbD HB hb)))
       go_ret2
       exact ⟨_, rfl, by (with_reducible repeat apply Kd.R_drewN); exact Rm HO670.out tv, by repeat (first | exact HB.out | apply bN | apply b1 | apply bA)⟩
   ·rw [if_neg c7] at H
    exact absurd H (by simp)
  ·rw [if_neg c6] at H
   exact absurd H (by simp)
def examboardref01_half.T5 : Bool × List (List Nat × List Nat) := (true, [([], []), ([], []), ([], []), ([], []), ([3], [3]), ([2, 4], [2, 4]), ([5], [5]), ([], []), ([], []), ([7, 8], [7, 8]), ([9], [9]), ([10], [10]), ([6, 11], [6, 11]), ([12], [12]), ([13], [13]), ([0, 1, 0, 1, 2, 3, 4, 5, 6, 7, 8, 9, 10, 11, 12, 13, 14], [0, 1]), ([15, 14, 5, 0, 1, 2, 3, 4, 5, 6, 7, 8, 9, 10, 11, 12, 13, 14], [14, 15])])
def examboardref01_half.B5 : List Nat := [0, 0, 0, 0, 8, 28, 60, 0, 0, 384, 896, 1920, 4092, 8188, 16380, 32767, 65535]
theorem examboardref01_half.tab5 : rtab .any (opsOf Try.f117 5) = examboardref01_half.T5 := by kernel_rfl
theorem examboardref01_half.bits5 : waitsOk examboardref01_half.T5.2 examboardref01_half.B5 = true := by kernel_rfl
set_option maxHeartbeats 8000000 in
set_option maxRecDepth 100000 in
theorem examboardref01_half.calls (k : Nat) (A0 : Option Addr) (c0 : Nat) (l0 : List Int) (r : List Int) (w : World) (hr0 : Kd.C (Kd.int .u32) w A0 l0.length l0) (hc0 : l0.length ≤ c0) (h : examboardref01_half.f k l0 = some r) :
  Calls Try.prog 117 #[.slice A0 l0.length c0] w fun e w' => ∃ v0_ : Value, e = .returned (v0_) ∧ Kd.R (Kd.int .u32) 87 w' w.heap.size (fun _ => True) v0_ r ∧ Below w.heap.size w w' := by
 have HR0 := mk0 hr0
 have HC0 := mk0 hc0
 clear hr0 hc0
 have HB := mk0 (Below.refl w.heap.size w)
 have H : (if 0 ≤ (l0.length : Int) then (if ((l0.length : Int) : Int).toNat ≤ 70368744177664 then (examboardref01_half.l0 k l0 (List.replicate ((l0.length : Int) : Int).toNat 0) 0) else (none)) else (none)) = some r := h
 clear h
 by_cases c2 : 0 ≤ (l0.length : Int)
 ·rw [if_pos c2] at H
  have c2b0 := eq_true c2
  have c2b1 := decide_eq_true c2
  clear c2
  by_cases c3 : ((l0.length : Int) : Int).toNat ≤ 70368744177664
  ·rw [if_pos c3] at H
   have c3b0 := eq_true c3
   have c3b1 := decide_eq_true c3
   clear c3
   obtain ⟨y675, hy675⟩ : ∃ y_ : List Int, y_ = (List.replicate ((l0.length : Int) : Int).toNat 0) := ⟨_, rfl⟩
   rw [← hy675] at H
   have Ny675 := mk0 hy675
   clear hy675
   have H' := mk0 H
   clear H
   go_enter Try.func117, Try.ntmps117
   go_wp2_with (first | ((with_reducible refine gate_dst (N := 7) rfl ?_); refine Kd.R_make (Kd.int .u32) _ 87 rfl (N := 7) rfl 25 _ _ rfl (l0.length : Int) rfl rfl Try.underlying25 (.int .u32 0) 4 info87 rfl (by decide) (by omega) 0 (ok := fun _ => True) (okp := fun _ => True) rfl (fun _ hk => hk) trivial (of_decide_eq_true (by assumption)) (Nat.le_trans (Nat.mul_le_mul_right _ (of_decide_eq_true (by assumption) : (l0.length : Int).toNat ≤ 70368744177664)) (by omega)) (Below.refl _ _) (Nat.le_refl _) ?_; intro v676 w4 ho5 hb hg_ hnew_; clear hg_ hnew_; (first | rw [← Ny675.out] at ho5 | (simp only [Int.reduceToNat] at ho5; rw [← Ny675.out] at ho5)); have HO677 := mk0 (Rl ho5 (bZ (by repeat (first | exact HB.out | apply bN | apply b1 | apply bA)))); replace HB := (by first | exact hbS HB hb | exact hbD HB hb); clear hb ho5))
   go_loopg [4] k (fun kq v4 w' => ∃ (x3_1 : List Int) (x4_1 : Int), v4 = .int .i64 x4_1 ∧ Aside0 (examboardref01_half.l0 kq l0 x3_1 x4_1 = some r) ∧ Aside0 (kq ≤ k) ∧ Aside0 (Kd.R (Kd.int .u32) 87 w' w.heap.size (fun _ => True) v676 x3_1) ∧ Aside0 (Below w.heap.size w w'))
   case atStart => exact ⟨(y675), (0), (by first | rfl | (simp; done) | (simp [*]; done)), H', ⟨Nat.le_refl _⟩, ⟨by (with_reducible repeat apply Kd.R_drewN); exact HO677.out⟩, ⟨by repeat (first | exact HB.out | apply bN | apply b1 | apply bA)⟩⟩
   case round =>
    clear H'
    try clear c1
    try clear c2
    try clear c2b0
    try clear c2b1
    try clear p2
    try clear c3
    try clear c3b0
    try clear c3b1
    obtain ⟨x3_1, x4_1, rfl, HA, HK1, HO_3, HB⟩ := hrel
    cases gk with
    | zero => exact absurd HA.out (by simp [examboardref01_half.l0])
    | succ k1 =>
     have H := HA.out
     clear HA
     simp only [examboardref01_half.l0] at H
     by_cases c6 : x4_1 < (l0.length : Int)
     ·rw [if_pos c6] at H
      have c6b0 := decide_eq_true c6
      clear c6
      obtain ⟨t678, A7, H⟩ := bindA H
      by_cases c8 : 0 ≤ x4_1
      ·rw [if_pos c8] at H
       have c8b0 := decide_eq_true c8
       clear c8
       by_cases c9 : x4_1 < (x3_1.length : Int)
       ·rw [if_pos c9] at H
        have c9b0 := decide_eq_true c9
        clear c9
        obtain ⟨y680, hy680⟩ : ∃ y_ : List Int, y_ = (x3_1.set (x4_1 : Int).toNat (((IntKind.u64.wrap ((IntKind.u64.wrap (t678 * 4294967296)) + (IntKind.u64.wrap (rd l0 x4_1)))) / 2) % 4294967296)) := ⟨_, rfl⟩
        rw [← hy680] at H
        have Ny680 := mk0 hy680
        clear hy680
        have H' := mk0 H
        clear H
        try go_wp2
        replace HO_3 := mk0 (Kd.R_drew HO_3.out)
        replace HB := mk0 (b1 HB.out)
        have p679 : 0 ≤ (x4_1 : Int) := of_decide_eq_true (by assumption)
        have q679 : x4_1 < (l0.length : Int) := of_decide_eq_true (by assumption)
        obtain ⟨ad679, e679, hx679_0⟩ := Kd.at_int HR0.out x4_1 p679 q679
        have hw679_0 := hx679_0
        cases e679
        replace hx679_0 := (HB.out.cell (World.block_lt_of_cell? w _ hx679_0)).trans hx679_0
        replace p679 := eq_true p679
        replace q679 := eq_true q679
        refine start_ (n := 17) (S := fun w' => w'.cell? (ad679.add (x4_1).toNat) = some (.int .u32 (rd l0 x4_1))) (ds := [16]) (bv 17 0) (by kernel_rfl) rfl rfl (((HB.out.cell (World.block_lt_of_cell? w _ hw679_0)).trans hw679_0)) (fun hHeld => ?_); refine with_tabW examboardref01_half.tab5 examboardref01_half.bits5 (fun HT_ HW_ => ?_)
        generalize wr.drew = w11 at HO_3 HB hx679_0 hHeld ⊢
        refine puA (i := 0) (N := 14) (v := ?_) (a' := ?_) (bv 17 1) HT_ ?_ ?_ ?_; rotate_left; (intro w'; go_simp; with_reducible rfl); rotate_left; (simp only [Act.put, sA, sZ, sS, i64_w, i32_w]; rfl)
        refine puA (i := 1) (N := 15) (v := ?_) (a' := ?_) (bv 17 3) HT_ ?_ ?_ ?_; rotate_left; (intro w'; go_simp; with_reducible rfl); rotate_left; (simp only [Act.put, sA, sZ, sS, i64_w, i32_w]; rfl)
        refine puA (i := 2) (N := 16) (v := ?_) (a' := ?_) (bv 17 7) HT_ ?_ ?_ ?_; rotate_left; (intro w'; go_simp; with_reducible rfl); rotate_left; (simp only [Act.put, sA, sZ, sS, i64_w, i32_w]; rfl)
        refine puA (i := 3) (N := 17) (v := ?_) (a' := ?_) (bv 17 15) HT_ ?_ ?_ ?_; rotate_left; (intro w'; go_simp; with_reducible rfl); rotate_left; (simp only [Act.put, sA, sZ, sS, i64_w, i32_w]; rfl)
        refine puA (i := 4) (N := 18) (v := ?_) (a' := ?_) (bv 17 31) HT_ ?_ ?_ ?_; rotate_left; (intro w'; go_simp; with_reducible rfl); rotate_left; (simp only [Act.put, sA, sZ, sS, i64_w, i32_w]; rfl)
        refine puA (i := 7) (N := 21) (v := ?_) (a' := ?_) (bv 17 159) HT_ ?_ ?_ ?_; rotate_left; (intro w'; go_simp; with_reducible rfl); rotate_left; (simp only [Act.put, sA, sZ, sS, i64_w, i32_w]; rfl)
        refine puA (i := 8) (N := 22) (v := ?_) (a' := ?_) (bv 17 415) HT_ ?_ ?_ ?_; rotate_left; (intro w'; go_simp; with_reducible rfl); rotate_left; (simp only [Act.put, sA, sZ, sS, i64_w, i32_w]; rfl)
        refine puA (i := 9) (N := 23) (v := ?_) (a' := ?_) (bv 17 927) HT_ ?_ ?_ ?_; rotate_left; (intro w'; go_simp; with_reducible rfl); rotate_left; (simp only [Act.put, sA, sZ, sS, i64_w, i32_w]; rfl)
        refine take_ (i := 10) (N := some 24) (v := ?_) (a' := ?_) (bv 17 1951) rfl rfl (take_ofW HT_.out HW_.out (by kernel_rfl)) (fun _ _ _ h => h) (Or.inl ⟨by rfl, ?_⟩) hHeld ?_ ?_
        rotate_left
        ·intro w' s0
         go_simp
         with_reducible rfl
        rotate_left
        ·simp only [Act.put, sA, sZ, sS, i64_w, i32_w]
         rfl
        refine puA (i := 11) (N := 25) (v := ?_) (a' := ?_) (bv 17 3999) HT_ ?_ ?_ ?_; rotate_left; (intro w'; go_simp; with_reducible rfl); rotate_left; (simp only [Act.put, sA, sZ, sS, i64_w, i32_w]; rfl)
        refine one_ (i := 5) (N := some 19) (bv 17 4031) rfl rfl (one_of HT_.out (by kernel_rfl)) (by decide) (fun K hK => ?_)
        refine goes_ Try.func118 (by kernel_rfl) rfl #[.slice (some ad679) l0.length c0, .int .i64 (wrap64 (x4_1 + 1))] (by rfl) rfl rfl (by go_simp <;> rfl) ?_
        with_reducible refine (examboardref01_limb.calls _ _ l0 (wrap64 (x4_1 + 1)) t678 _ ?side1 ?side2 A7.out).mono ?_
        (case side1 => repeat (first | exact (Cb HR0.out HB.out) | (with_reducible refine Kd.C_alloc ?_ _) | (with_reducible refine Kd.C_drewN ?_ _) | (with_reducible refine Kd.C_drew ?_)))
        (case side2 => exact HC0.out)
        rintro e w' ⟨rfl, ⟨nd, rfl⟩⟩
        refine ⟨_, rfl, ?_⟩
        have p10 : 0 ≤ (x4_1 : Int) := of_decide_eq_true (by assumption)
        have q10 : (x4_1 : Int) < ((x3_1.length : Int) : Int) := of_decide_eq_true (by assumption)
        obtain ⟨go10, co10, eo10, gb10, gl10, cl10, HG10⟩ := Kd.R_form HO_3.out (by omega)
        (first | cases eo10 | (injection eo10 with ea_ en_ ec_; (first | subst ea_ | (injection ea_ with ea_; subst ea_)); subst ec_; clear en_))
        have GB10 := mk0 gb10
        have GG10 := mk0 HG10
        clear gb10 gl10 HG10
        obtain ⟨hx10_0, hf10_0⟩ := Kd.R_celln 0 HO_3.out (x4_1 : Int) p10 q10
        replace p10 := eq_true p10
        replace q10 := eq_true q10
        have HP12 := Kd.R_putn HO_3.out (x4_1 : Int) (((IntKind.u64.wrap ((IntKind.u64.wrap (t678 * 4294967296)) + (IntKind.u64.wrap (rd l0 x4_1)))) / 2) % 4294967296)
        rw [← Ny680.out] at HP12
        have HQ12 := mk0 HP12
        clear HP12
        refine hK.out _ _ (((HB.out.cell (World.block_lt_of_cell? w _ hw679_0)).trans hw679_0)) (fun hHeld => ?_)
        clear hK K
        refine norm_ (a' := ?_) ?_ ?_
        rotate_left
        ·show Act.put _ (some 19) _ = _
         simp only [Act.put, sA, sZ, sS, i64_w, i32_w]
         rfl
        refine puA (i := 6) (N := 20) (v := ?_) (a' := ?_) (bv 17 4095) HT_ ?_ ?_ ?_; rotate_left; (intro w'; go_simp; with_reducible rfl); rotate_left; (simp only [Act.put, sA, sZ, sS, i64_w, i32_w]; rfl)
        refine puA (i := 12) (N := 26) (v := ?_) (a' := ?_) (bv 17 8191) HT_ ?_ ?_ ?_; rotate_left; (intro w'; go_simp; with_reducible rfl); rotate_left; (simp only [Act.put, sA, sZ, sS, i64_w, i32_w]; rfl)
        refine puA (i := 13) (N := 27) (v := ?_) (a' := ?_) (bv 17 16383) HT_ ?_ ?_ ?_; rotate_left; (intro w'; go_simp; with_reducible rfl); rotate_left; (simp only [Act.put, sA, sZ, sS, i64_w, i32_w]; rfl)
        refine puA (i := 14) (N := 28) (v := ?_) (a' := ?_) (bv 17 32767) HT_ ?_ ?_ ?_; rotate_left; (intro w'; go_simp; with_reducible rfl); rotate_left; (simp only [Act.put, sA, sZ, sS, i64_w, i32_w]; rfl)
        refine puA (i := 15) (N := 29) (v := ?_) (a' := ?_) (bv 17 65535) HT_ ?_ ?_ ?_; rotate_left; (intro w'; go_simp; with_reducible rfl); rotate_left; (simp only [Act.put, sA, sZ, sS, i64_w, i32_w]; rfl)
        refine last_ (i := 16) (N := none) (bv 17 131071) rfl rfl (one_of HT_.out (by kernel_rfl)) (by decide) (fun K hK => ?_)
        refine skip_ (w1 := ?_) (by rfl) rfl ?_ ?_
        rotate_left
        ·go_simp
         rfl
        refine hK.out _ _ ?_
        clear hK K
        refine done_ (done_of HT_.out (by kernel_rfl)) ?_
        try go_wp2
        go_roundg k1
        case measure => have := HK1.out; omega
        case rel => exact ⟨(y680), (wrap64 (x4_1 + 1)), (by first | rfl | (simp; done) | (simp [*]; done)), H', ⟨by have := HK1.out; omega⟩, ⟨by (with_reducible repeat apply Kd.R_drewN); exact HQ12.out⟩, ⟨by repeat (first | exact HB.out | apply bN | apply b1 | apply bA | refine bS ?_ GB10.out)⟩⟩
       ·rw [if_neg c9] at H
        exact absurd H (by simp)
      ·rw [if_neg c8] at H
       exact absurd H (by simp)
     ·rw [if_neg c6] at H
      have c6b0 := decide_eq_false c6
      clear c6
      obtain ⟨t681, A13, H⟩ := bindA H
      obtain rfl := Option.some.inj H
      obtain ⟨Ao14, co14, eo14⟩ := Kd.R_slice HO_3.out
      subst eo14
      go_wp2_with (first | ((with_reducible refine gate_callee (f := 89) rfl ?_); refine goA 31 Try.func89 #[.slice Ao14 x3_1.length co14] ?_; (with_reducible refine (examboardref01_Norm.calls k1 _ _ x3_1 t681 _ (by exact (Kd.R_reads' HO_3.out).2.2) (by exact (Kd.R_reads' HO_3.out).2.1) A13.out).mono ?_); rintro e w15 ⟨v682, rfl, ho0, hb⟩; refine ⟨_, rfl, ?_⟩; have HO683 := mk0 (Rl (Rn ho0 (Rq (by (with_reducible repeat apply Kd.R_drewN); exact HO_3.out))) (bZ (by repeat (first | exact HB.out | apply bN | apply b1 | apply bA)))); replace HO_3 := mk0 (Re (by (with_reducible repeat apply Kd.R_drewN); exact HO_3.out) (Rs ho0) hb); replace HB := (by first | exact hbS HB hb | exact hbD HB hb)))
      go_ret
      exact ⟨_, by first | rfl | (simp [errW_none, errW_some] <;> rfl) | (simp [*, errW_none, errW_some] <;> rfl), by (with_reducible repeat apply Kd.R_drewN); exact Rm HO683.out tv, by repeat (first | exact HB.out | apply bN | apply b1 | apply bA)⟩
  ·rw [if_neg c3] at H
   exact absurd H (by simp)
 ·rw [if_neg c2] at H
  exact absurd H (by simp)
set_option maxHeartbeats 8000000 in
set_option maxRecDepth 100000 in
theorem examboardref01_DivMod.calls (k : Nat) (A0 : Option Addr) (c0 : Nat) (l0 : List Int) (A1 : Option Addr) (c1 : Nat) (l1 : List Int) (r1 : List Int) (r2 : List Int) (r3 : Bool) (w : World) (hr0 : Kd.C (Kd.int .u32) w A0 l0.length l0) (hc0 : l0.length ≤ c0) (hr1 : Kd.C (Kd.int .u32) w A1 l1.length l1) (hc1 : l1.length ≤ c1) (h : examboardref01_DivMod.f k l0 l1 = some (r1, r2, r3)) :
  Calls Try.prog 88 #[.slice A0 l0.length c0, .slice A1 l1.length c1] w fun e w' => ∃ v0_ v1_ : Value, e = .returned (.tuple #[v0_, v1_, .bool r3]) ∧ Kd.R (Kd.int .u32) 87 w' w.heap.size (fun k_ => some k_ ≠ (v1_ : Value).ownBlock) v0_ r1 ∧ Kd.R (Kd.int .u32) 87 w' w.heap.size (fun k_ => some k_ ≠ (v0_ : Value).ownBlock) v1_ r2 ∧ Below w.heap.size w w' := by
 have HR0 := mk0 hr0
 have HC0 := mk0 hc0
 clear hr0 hc0
 have HR1 := mk0 hr1
 have HC1 := mk0 hc1
 clear hr1 hc1
 have HB := mk0 (Below.refl w.heap.size w)
 have H : ((examboardref01_Norm.f k l0).bind fun t684 => ((examboardref01_Norm.f k l1).bind fun t687 => (if (t687.length : Int) = 0 then (some (([] : List Int), ([] : List Int), false)) else (if (t687.length : Int) = 1 then (if 0 < (t687.length : Int) then ((examboardref01_short.f k t684 (IntKind.u64.wrap (rd t687 0))).bind fun bt691 => ((examboardref01_Of.f k bt691.2).bind fun t695 => (some (bt691.1, t695, true)))) else (none)) else ((examboardref01_Bits.f k t684).bind fun t698 => ((examboardref01_Bits.f k t687).bind fun t699 => (if (wrap64 (t698 - t699)) < 0 then (some (([] : List Int), t684, true)) else (if 0 ≤ (wrap64 ((wrap64 (Int.tdiv (wrap64 (t698 - t699)) 32)) + 1)) then (if (wrap64 ((wrap64 (Int.tdiv (wrap64 (t698 - t699)) 32)) + 1) : Int).toNat ≤ 70368744177664 then ((examboardref01_Shift.f k t687 (wrap64 (t698 - t699))).bind fun t703 => (examboardref01_DivMod.l0 k t684 (List.replicate (wrap64 ((wrap64 (Int.tdiv (wrap64 (t698 - t699)) 32)) + 1) : Int).toNat 0) t703 (wrap64 (t698 - t699)))) else (none)) else (none))))))))) = some (r1, r2, r3) := h
 clear h
 obtain ⟨t684, A3, H⟩ := bindA H
 obtain ⟨t687, A4, H⟩ := bindA H
 by_cases c5 : (t687.length : Int) = 0
 ·rw [if_pos c5] at H
  have c5b0 : ((t687.length : Int) == 0) = true := beq_iff_eq.mpr c5
  have c5b1 : ((t687.length : Int) != 0) = false := bne_eq_false_iff_eq.mpr c5
  clear c5
  simp only [Option.some.injEq, Prod.mk.injEq] at H
  obtain ⟨rfl, rfl, rfl⟩ := H
  go_enter Try.func88, Try.ntmps88
  go_wp2_with (first | ((refine gate_callee (f := 89) rfl ?_); refine goA 14 Try.func89 #[.slice A0 l0.length c0] ?_; (with_reducible refine (examboardref01_Norm.calls k _ _ l0 t684 _ HR0.out HC0.out A3.out).mono ?_); rintro e w6 ⟨v685, rfl, ho0, hb⟩; refine ⟨_, rfl, ?_⟩; have HO686 := mk0 (Rl ho0 (bZ HB.out)); replace HB := hbS HB hb) | ((refine gate_callee (f := 89) rfl ?_); refine goA 16 Try.func89 #[.slice A1 l1.length c1] ?_; (with_reducible refine (examboardref01_Norm.calls k _ _ l1 t687 _ (by exact Cb HR1.out HB.out) HC1.out A4.out).mono ?_); rintro e w7 ⟨v688, rfl, ho0, hb⟩; refine ⟨_, rfl, ?_⟩; have HO689 := mk0 (Rl (Rn ho0 (Rq HO686.out)) (bZ HB.out)); replace HO686 := mk0 (Re HO686.out (Rs ho0) hb); replace HB := hbS HB hb; obtain ⟨Ao8, co8, eo8⟩ := Kd.R_slice HO689.out; subst eo8))
  go_ret3
  exact ⟨_, _, rfl, Kd.R_nil _ _ _ _ _, Kd.R_nil _ _ _ _ _, by repeat (first | exact HB.out | apply bN | apply b1 | apply bA)⟩
 ·rw [if_neg c5] at H
  have c5b0 : ((t687.length : Int) == 0) = false := beq_eq_false_iff_ne.mpr c5
  have c5b1 : ((t687.length : Int) != 0) = true := bne_iff_ne.mpr c5
  have c5b2 : ¬ (t687 = []) := fun h_ => c5 (by rw [h_]; rfl)
  by_cases c9 : (t687.length : Int) = 1
  ·rw [if_pos c9] at H
   have c9b0 : ((t687.length : Int) == 1) = true := beq_iff_eq.mpr c9
   have c9b1 : ((t687.length : Int) != 1) = false := bne_eq_false_iff_eq.mpr c9
   clear c9
   by_cases c10 : 0 < (t687.length : Int)
   ·rw [if_pos c10] at H
    have c10b0 := decide_eq_true c10
    have c10b1 : decide (0 < t687.length) = true := decide_eq_true (by omega)
    clear c10
    obtain ⟨⟨t691, t692⟩, A11, H⟩ := bindA H
    obtain ⟨t695, A12, H⟩ := bindA H
    simp only [Option.some.injEq, Prod.mk.injEq] at H
    obtain ⟨rfl, rfl, rfl⟩ := H
    go_enter Try.func88, Try.ntmps88
    go_wp2_with (first | ((refine gate_callee (f := 89) rfl ?_); refine goA 14 Try.func89 #[.slice A0 l0.length c0] ?_; (with_reducible refine (examboardref01_Norm.calls k _ _ l0 t684 _ HR0.out HC0.out A3.out).mono ?_); rintro e w13 ⟨v685, rfl, ho0, hb⟩; refine ⟨_, rfl, ?_⟩; have HO686 := mk0 (Rl ho0 (bZ HB.out)); replace HB := hbS HB hb) | ((refine gate_callee (f := 89) rfl ?_); refine goA 16 Try.func89 #[.slice A1 l1.length c1] ?_; (with_reducible refine (examboardref01_Norm.calls k _ _ l1 t687 _ (by exact Cb HR1.out HB.out) HC1.out A4.out).mono ?_); rintro e w14 ⟨v688, rfl, ho0, hb⟩; refine ⟨_, rfl, ?_⟩; have HO689 := mk0 (Rl (Rn ho0 (Rq HO686.out)) (bZ HB.out)); replace HO686 := mk0 (Re HO686.out (Rs ho0) hb); replace HB := hbS HB hb; obtain ⟨Ao15, co15, eo15⟩ := Kd.R_slice HO689.out; subst eo15; have p690 : 0 ≤ (0 : Int) := (by omega); have q690 : 0 < (t687.length : Int) := of_decide_eq_true (by assumption); obtain ⟨ad690, e690, hx690_0⟩ := Kd.at_int (Kd.R_reads' HO689.out).2.2 0 p690 q690; cases e690; have qi690 : (0 < t687.length) = True := eq_true (by omega); (try rw [show ((0 : Int)).toNat = 0 from rfl] at hx690_0); (try rw [Addr.add_zero'] at hx690_0); replace p690 := eq_true p690; replace q690 := eq_true q690; obtain ⟨Ao16, co16, eo16⟩ := Kd.R_slice HO686.out; subst eo16) | ((refine gate_callee (f := 114) rfl ?_); refine goA 29 Try.func114 #[.slice Ao16 t684.length co16, .int .u64 (IntKind.u64.wrap (rd t687 0))] ?_; (with_reducible refine (examboardref01_short.calls k _ _ t684 (IntKind.u64.wrap (rd t687 0)) t691 t692 _ (by exact (Kd.R_reads' HO686.out).2.2) (by exact (Kd.R_reads' HO686.out).2.1) A11.out).mono ?_); rintro e w17 ⟨v693, rfl, ho0, hb⟩; refine ⟨_, rfl, ?_⟩; have HO694 := mk0 (Rl (Rn (Rn ho0 (Rq HO686.out)) (Rq HO689.out)) (bZ HB.out)); replace HO686 := mk0 (Re HO686.out (Rs ho0) hb); replace HO689 := mk0 (Re HO689.out (Rs ho0) hb); replace HB := hbS HB hb) | ((refine gate_callee (f := 90) rfl ?_); refine goA 34 Try.func90 #[.int .u64 t692] ?_; (with_reducible refine (examboardref01_Of.calls k t692 t695 _ A12.out).mono ?_); rintro e w18 ⟨v696, rfl, ho0, hb⟩; refine ⟨_, rfl, ?_⟩; have HO697 := mk0 (Rl (Rn (Rn (Rn ho0 (Rq HO686.out)) (Rq HO689.out)) (Rq HO694.out)) (bZ HB.out)); replace HO686 := mk0 (Re HO686.out (Rs ho0) hb); replace HO689 := mk0 (Re HO689.out (Rs ho0) hb); replace HO694 := mk0 (Re HO694.out (Rs ho0) hb); replace HB := hbS HB hb))
    go_ret3
    exact ⟨_, _, rfl, Rm HO694.out (fun _ hk => hk.2), Rm HO697.out (fun _ hk => hk.2), by repeat (first | exact HB.out | apply bN | apply b1 | apply bA)⟩
   ·rw [if_neg c10] at H
    exact absurd H (by simp)
  ·rw [if_neg c9] at H
   have c9b0 : ((t687.length : Int) == 1) = false := beq_eq_false_iff_ne.mpr c9
   have c9b1 : ((t687.length : Int) != 1) = true := bne_iff_ne.mpr c9
   obtain ⟨t698, A19, H⟩ := bindA H
   obtain ⟨t699, A20, H⟩ := bindA H
   by_cases c21 : (wrap64 (t698 - t699)) < 0
   ·rw [if_pos c21] at H
    have c21b0 := decide_eq_true c21
    clear c21
    simp only [Option.some.injEq, Prod.mk.injEq] at H
    obtain ⟨rfl, rfl, rfl⟩ := H
    go_enter Try.func88, Try.ntmps88
    go_wp2_with (first | ((refine gate_callee (f := 89) rfl ?_); refine goA 14 Try.func89 #[.slice A0 l0.length c0] ?_; (with_reducible refine (examboardref01_Norm.calls k _ _ l0 t684 _ HR0.out HC0.out A3.out).mono ?_); rintro e w22 ⟨v685, rfl, ho0, hb⟩; refine ⟨_, rfl, ?_⟩; have HO686 := mk0 (Rl ho0 (bZ HB.out)); replace HB := hbS HB hb) | ((refine gate_callee (f := 89) rfl ?_); refine goA 16 Try.func89 #[.slice A1 l1.length c1] ?_; (with_reducible refine (examboardref01_Norm.calls k _ _ l1 t687 _ (by exact Cb HR1.out HB.out) HC1.out A4.out).mono ?_); rintro e w23 ⟨v688, rfl, ho0, hb⟩; refine ⟨_, rfl, ?_⟩; have HO689 := mk0 (Rl (Rn ho0 (Rq HO686.out)) (bZ HB.out)); replace HO686 := mk0 (Re HO686.out (Rs ho0) hb); replace HB := hbS HB hb; obtain ⟨Ao24, co24, eo24⟩ := Kd.R_slice HO689.out; subst eo24; obtain ⟨Ao25, co25, eo25⟩ := Kd.R_slice HO686.out; subst eo25) | ((refine gate_callee (f := 85) rfl ?_); refine goA 36 Try.func85 #[.slice Ao25 t684.length co25] ?_; (with_reducible refine (examboardref01_Bits.calls k _ _ t684 t698 _ (by exact (Kd.R_reads' HO686.out).2.2) (by exact (Kd.R_reads' HO686.out).2.1) A19.out).mono ?_); rintro e w26 ⟨rfl, hb⟩; refine ⟨_, rfl, ?_⟩; replace HO686 := rB HO686 hb; replace HO689 := rB HO689 hb; replace HB := hbS HB hb) | ((refine gate_callee (f := 85) rfl ?_); refine goA 38 Try.func85 #[.slice Ao24 t687.length co24] ?_; (with_reducible refine (examboardref01_Bits.calls k _ _ t687 t699 _ (by exact (Kd.R_reads' HO689.out).2.2) (by exact (Kd.R_reads' HO689.out).2.1) A20.out).mono ?_); rintro e w27 ⟨rfl, hb⟩; refine ⟨_, rfl, ?_⟩; replace HO686 := rB HO686 hb; replace HO689 := rB HO689 hb; replace HB := hbS HB hb))
    go_ret3
    exact ⟨_, _, rfl, Kd.R_nil _ _ _ _ _, Rm HO686.out (fun _ hk => (by simp [Value.ownBlock])), by repeat (first | exact HB.out | apply bN | apply b1 | apply bA)⟩
   ·rw [if_neg c21] at H
    have c21b0 := decide_eq_false c21
    clear c21
    obtain ⟨ji28, hji28⟩ : ∃ j_ : Int, (wrap64 ((wrap64 (Int.tdiv (wrap64 (t698 - t699)) 32)) + 1)) = j_ := ⟨_, rfl⟩
    rw [hji28] at H
    (try rw [hji28] at A3)
    (try rw [hji28] at A4)
    (try rw [hji28] at A19)
    (try rw [hji28] at A20)
    have hji28w : (IntKind.i64.wrap ((wrap64 (Int.tdiv (wrap64 (t698 - t699)) 32)) + 1)) = ji28 := (i64_w _).trans hji28
    by_cases c29 : 0 ≤ (ji28)
    ·rw [if_pos c29] at H
     have c29b0 := eq_true c29
     have c29b1 := decide_eq_true c29
     clear c29
     by_cases c30 : (ji28 : Int).toNat ≤ 70368744177664
     ·rw [if_pos c30] at H
      have c30b0 := eq_true c30
      have c30b1 := decide_eq_true c30
      clear c30
      obtain ⟨y700, hy700⟩ : ∃ y_ : List Int, y_ = (List.replicate (ji28 : Int).toNat 0) := ⟨_, rfl⟩
      replace H : ((examboardref01_Shift.f k t687 (wrap64 (t698 - t699))).bind fun t703 => (examboardref01_DivMod.l0 k t684 y700 t703 (wrap64 (t698 - t699)))) = some (r1, r2, r3) := by rw [hy700]; exact H
      have Ny700 := mk0 hy700
      clear hy700
      obtain ⟨t703, A31, H⟩ := bindA H
      have H' := mk0 H
      clear H
      go_enter Try.func88, Try.ntmps88
      go_wp2_with (first | ((refine gate_callee (f := 89) rfl ?_); refine goA 14 Try.func89 #[.slice A0 l0.length c0] ?_; (with_reducible refine (examboardref01_Norm.calls k _ _ l0 t684 _ HR0.out HC0.out A3.out).mono ?_); rintro e w32 ⟨v685, rfl, ho0, hb⟩; refine ⟨_, rfl, ?_⟩; have HO686 := mk0 (Rl ho0 (bZ HB.out)); replace HB := hbS HB hb) | ((refine gate_callee (f := 89) rfl ?_); refine goA 16 Try.func89 #[.slice A1 l1.length c1] ?_; (with_reducible refine (examboardref01_Norm.calls k _ _ l1 t687 _ (by exact Cb HR1.out HB.out) HC1.out A4.out).mono ?_); rintro e w33 ⟨v688, rfl, ho0, hb⟩; refine ⟨_, rfl, ?_⟩; have HO689 := mk0 (Rl (Rn ho0 (Rq HO686.out)) (bZ HB.out)); replace HO686 := mk0 (Re HO686.out (Rs ho0) hb); replace HB := hbS HB hb; obtain ⟨Ao34, co34, eo34⟩ := Kd.R_slice HO689.out; subst eo34; obtain ⟨Ao35, co35, eo35⟩ := Kd.R_slice HO686.out; subst eo35) | ((refine gate_callee (f := 85) rfl ?_); refine goA 36 Try.func85 #[.slice Ao35 t684.length co35] ?_; (with_reducible refine (examboardref01_Bits.calls k _ _ t684 t698 _ (by exact (Kd.R_reads' HO686.out).2.2) (by exact (Kd.R_reads' HO686.out).2.1) A19.out).mono ?_); rintro e w36 ⟨rfl, hb⟩; refine ⟨_, rfl, ?_⟩; replace HO686 := rB HO686 hb; replace HO689 := rB HO689 hb; replace HB := hbS HB hb) | ((refine gate_callee (f := 85) rfl ?_); refine goA 38 Try.func85 #[.slice Ao34 t687.length co34] ?_; (with_reducible refine (examboardref01_Bits.calls k _ _ t687 t699 _ (by exact (Kd.R_reads' HO689.out).2.2) (by exact (Kd.R_reads' HO689.out).2.1) A20.out).mono ?_); rintro e w37 ⟨rfl, hb⟩; refine ⟨_, rfl, ?_⟩; replace HO686 := rB HO686 hb; replace HO689 := rB HO689 hb; replace HB := hbS HB hb) | ((refine gate_dst (N := 46) rfl ?_); refine Kd.R_make (Kd.int .u32) _ 87 rfl (N := 46) rfl 25 _ _ rfl ji28 rfl rfl Try.underlying25 (.int .u32 0) 4 info87 rfl (by decide) (by omega) 0 (ok := fun _ => True) (okp := fun _ => True) rfl (fun _ hk => hk) trivial (of_decide_eq_true (by assumption)) (Nat.le_trans (Nat.mul_le_mul_right _ (of_decide_eq_true (by assumption) : ji28.toNat ≤ 70368744177664)) (by omega)) (Below.refl _ _) (Nat.le_refl _) ?_; intro v701 w38 ho39 hb hg_ hnew_; clear hg_ hnew_; (first | rw [← Ny700.out] at ho39 | (simp only [Int.reduceToNat] at ho39; rw [← Ny700.out] at ho39)); have HO702 := mk0 (Rl (Rn (Rn ho39 (Rq HO686.out)) (Rq HO689.out)) (bZ HB.out)); replace HO686 := mk0 (Re HO686.out (Rs ho39) hb); replace HO689 := mk0 (Re HO689.out (Rs ho39) hb); replace HB := hbS HB hb; clear hb ho39) | ((refine gate_callee (f := 115) rfl ?_); refine goA 49 Try.func115 #[.slice Ao34 t687.length co34, .int .i64 (wrap64 (t698 - t699))] ?_; (with_reducible refine (examboardref01_Shift.calls k _ _ t687 (wrap64 (t698 - t699)) t703 _ (by exact (Kd.R_reads' HO689.out).2.2) (by exact (Kd.R_reads' HO689.out).2.1) A31.out).mono ?_); rintro e w40 ⟨v704, rfl, ho0, hb⟩; refine ⟨_, rfl, ?_⟩; have HO705 := mk0 (Rl (Rn (Rn (Rn ho0 (Rq HO686.out)) (Rq HO689.out)) (Rq HO702.out)) (bZ HB.out)); replace HO686 := mk0 (Re HO686.out (Rs ho0) hb); replace HO689 := mk0 (Re HO689.out (Rs ho0) hb); replace HO702 := mk0 (Re HO702.out (Rs ho0) hb); replace HB := hbS HB hb))
      go_loopg [0, 11, 12] k (fun kq v0 v11 v12 w' => ∃ (x0_1 : List Int) (x10_1 : List Int) (x11_1 : List Int) (x12_1 : Int), v12 = .int .i64 x12_1 ∧ Aside0 (examboardref01_DivMod.l0 kq x0_1 x10_1 x11_1 x12_1 = some (r1, r2, r3)) ∧ Aside0 (kq ≤ k) ∧ Aside0 (Kd.R (Kd.int .u32) 87 w' w.heap.size (fun k_ => some k_ ≠ (v701 : Value).ownBlock ∧ some k_ ≠ (v11 : Value).ownBlock) v0 x0_1) ∧ Aside0 (Kd.R (Kd.int .u32) 87 w' w.heap.size (fun k_ => some k_ ≠ (v0 : Value).ownBlock ∧ some k_ ≠ (v11 : Value).ownBlock) v701 x10_1) ∧ Aside0 (Kd.R (Kd.int .u32) 87 w' w.heap.size (fun k_ => some k_ ≠ (v0 : Value).ownBlock ∧ some k_ ≠ (v701 : Value).ownBlock) v11 x11_1) ∧ Aside0 (Below w.heap.size w w'))
      case atStart => exact ⟨(t684), (y700), (t703), (wrap64 (t698 - t699)), (by first | rfl | (simp; done) | (simp [*]; done)), H', ⟨Nat.le_refl _⟩, ⟨Rm HO686.out (fun _ hk => ⟨hk.1.2, hk.2⟩)⟩, ⟨Rm HO702.out (fun _ hk => ⟨hk.1.1.2, hk.2⟩)⟩, ⟨Rm HO705.out (fun _ hk => ⟨hk.1.1.2, hk.2⟩)⟩, ⟨by repeat (first | exact HB.out | apply bN | apply b1 | apply bA)⟩⟩
      case round =>
       clear H'
       obtain ⟨x0_1, x10_1, x11_1, x12_1, rfl, HA, HK1, HO_0, HO_10, HO_11, HB⟩ := hrel
       cases gk with
       | zero => exact absurd HA.out (by simp [examboardref01_DivMod.l0])
       | succ k1 =>
        have H := HA.out
        clear HA
        simp only [examboardref01_DivMod.l0] at H
        by_cases c41 : x12_1 ≥ 0
        ·rw [if_pos c41] at H
         have c41b0 := decide_eq_true c41
         clear c41
         obtain ⟨t709, A42, H⟩ := bindA H
         by_cases c43 : t709 ≥ 0
         ·rw [if_pos c43] at H
          have c43b0 := decide_eq_true c43
          clear c43
          obtain ⟨⟨t710, t711⟩, A44, H⟩ := bindA H
          obtain ⟨ji45, hji45⟩ : ∃ j_ : Int, (wrap64 (Int.tdiv x12_1 32)) = j_ := ⟨_, rfl⟩
          rw [hji45] at H
          (try rw [hji45] at A42)
          (try rw [hji45] at A44)
          have hji45w : (IntKind.i64.wrap (Int.tdiv x12_1 32)) = ji45 := (i64_w _).trans hji45
          by_cases c46 : 0 ≤ (ji45)
          ·rw [if_pos c46] at H
           have c46b0 := decide_eq_true c46
           clear c46
           by_cases c47 : (ji45) < (x10_1.length : Int)
           ·rw [if_pos c47] at H
            have c47b0 := decide_eq_true c47
            clear c47
            obtain ⟨ji48, hji48⟩ : ∃ j_ : Int, (IntKind.u64.wrap (Int.tmod x12_1 32)) = j_ := ⟨_, rfl⟩
            rw [hji48] at H
            (try rw [hji48] at A42)
            (try rw [hji48] at A44)
            by_cases c49 : 0 ≤ (ji48)
            ·rw [if_pos c49] at H
             have c49b0 := eq_true c49
             have c49b1 := decide_eq_true c49
             clear c49
             obtain ⟨ji50, hji50⟩ : ∃ j_ : Int, (shl .u32 1 (ji48)) = j_ := ⟨_, rfl⟩
             rw [hji50] at H
             (try rw [hji50] at A42)
             (try rw [hji50] at A44)
             have hji50_ : (IntKind.u32.wrap (1 * 2 ^ min (ji48).toNat 32)) = ji50 := hji50
             have hji50z : (ji48) ≤ 32 → (IntKind.u32.wrap (1 * 2 ^ (ji48).toNat)) = ji50 := shl_small hji50
             have hji50u : (IntKind.u32.wrap (2 ^ min (ji48).toNat 32)) = ji50 := by have h_ := hji50_; rw [Int.one_mul] at h_; exact h_
             have hji50v : (ji48) ≤ 32 → (IntKind.u32.wrap (2 ^ (ji48).toNat)) = ji50 := fun hle_ => by have h_ := hji50z hle_; rw [Int.one_mul] at h_; exact h_
             obtain ⟨y715, hy715⟩ : ∃ y_ : List Int, y_ = (x10_1.set ((ji45) : Int).toNat (Go.bits .or .u32 (rd x10_1 (ji45)) (ji50))) := ⟨_, rfl⟩
             replace H : ((examboardref01_half.f k1 x11_1).bind fun t716 => (examboardref01_DivMod.l0 k1 t710 y715 t716 (wrap64 (x12_1 - 1)))) = some (r1, r2, r3) := by rw [hy715]; exact H
             have Ny715 := mk0 hy715
             clear hy715
             obtain ⟨t716, A52, H⟩ := bindA H
             have H' := mk0 H
             clear H
             obtain ⟨Ao53, co53, eo53⟩ := Kd.R_slice HO_0.out
             subst eo53
             obtain ⟨Ao54, co54, eo54⟩ := Kd.R_slice HO_11.out
             subst eo54
             go_wp2_with (first | ((refine gate_callee (f := 92) rfl ?_); refine goA 57 Try.func92 #[.slice Ao53 x0_1.length co53, .slice Ao54 x11_1.length co54] ?_; (with_reducible refine (examboardref01_Cmp.calls k1 _ _ x0_1 _ _ x11_1 t709 _ (by exact (Kd.R_reads' HO_0.out).2.2) (by exact (Kd.R_reads' HO_0.out).2.1) (by exact (Kd.R_reads' HO_11.out).2.2) (by exact (Kd.R_reads' HO_11.out).2.1) A42.out).mono ?_); rintro e w55 ⟨rfl, hb⟩; refine ⟨_, rfl, ?_⟩; replace HO_0 := rB HO_0 hb; replace HO_10 := rB HO_10 hb; replace HO_11 := rB HO_11 hb; replace HB := hbS HB hb) | ((refine gate_callee (f := 116) rfl ?_); refine goA 62 Try.func116 #[.slice Ao53 x0_1.length co53, .slice Ao54 x11_1.length co54] ?_; (with_reducible refine (examboardref01_Sub.calls k1 _ _ x0_1 _ _ x11_1 t710 t711 _ (by exact (Kd.R_reads' HO_0.out).2.2) (by exact (Kd.R_reads' HO_0.out).2.1) (by exact (Kd.R_reads' HO_11.out).2.2) (by exact (Kd.R_reads' HO_11.out).2.1) A44.out).mono ?_); rintro e w56 ⟨v712, rfl, ho0, hb⟩; refine ⟨_, rfl, ?_⟩; have HO713 := mk0 (Rl (Rn (Rn (Rn ho0 (Rq HO_0.out)) (Rq HO_10.out)) (Rq HO_11.out)) (bZ HB.out)); replace HO_0 := mk0 (Re HO_0.out (Rs ho0) hb); replace HO_10 := mk0 (Re HO_10.out (Rs ho0) hb); replace HO_11 := mk0 (Re HO_11.out (Rs ho0) hb); replace HB := hbS HB hb; obtain ⟨Ao57, co57, eo57⟩ := Kd.R_slice HO_10.out; subst eo57; have p714 : 0 ≤ ((ji45) : Int) := of_decide_eq_true (by assumption); have q714 : (ji45) < (x10_1.length : Int) := of_decide_eq_true (by assumption); obtain ⟨ad714, e714, hx714_0⟩ := Kd.at_int (Kd.R_reads' HO_10.out).2.2 (ji45) p714 q714; cases e714; replace p714 := eq_true p714; replace q714 := eq_true q714; have p51 : 0 ≤ ((ji45) : Int) := of_decide_eq_true (by assumption); have q51 : ((ji45) : Int) < ((x10_1.length : Int) : Int) := of_decide_eq_true (by assumption); obtain ⟨go51, co51, eo51, gb51, gl51, cl51, HG51⟩ := Kd.R_form HO_10.out (by omega); (first | cases eo51 | (injection eo51 with ea_ en_ ec_; (first | subst ea_ | (injection ea_ with ea_; subst ea_)); subst ec_; clear en_)); have GB51 := mk0 gb51; have GG51 := mk0 HG51; clear gb51 gl51 HG51; (first | simp only [add_plain] at hx714_0 | skip); obtain ⟨hx51_0, hf51_0⟩ := Kd.R_celln 0 HO_10.out ((ji45) : Int) p51 q51; replace p51 := eq_true p51; replace q51 := eq_true q51; have n_ := mk0 (Rm (ok' := (fun k_ => some k_ ≠ (.slice Ao53 x0_1.length co53 : Value).ownBlock ∧ some k_ ≠ (.slice Ao54 x11_1.length co54 : Value).ownBlock ∧ some k_ ≠ (v712 : Value).ownBlock)) HO_10.out (fun k_ hk => ⟨hk.1.1, ⟨hk.1.2, hk.2⟩⟩)); clear HO_10; have HO_10 := n_; clear n_; obtain ⟨hy58_, hz58_⟩ := Kd.R_celln 0 HO_10.out ((ji45) : Int) (of_decide_eq_true (by assumption)) (of_decide_eq_true (by assumption)); have HP58 := Kd.R_putg HO_10.out ((ji45) : Int) (Go.bits .or .u32 (rd x10_1 (ji45)) (ji50))) | ((refine gate_store (t := 87) (p := 78) rfl ?_); refine store_event (t := 87) (p := 78) (v := ?vo_w59) (w1 := (w56.setCell ⟨go51, ((ji45) : Int).toNat, none⟩ (.int .u32 (Go.bits .or .u32 (rd x10_1 (ji45)) (ji50))))) ?hg ?ho ?hn ?hr ?_; (case ho => rfl); (case hg => rfl); (case hn => rfl); (case hr => go_simp <;> rfl); intro w59 hw; have hg : w56.grownBy w59 (some go51) := (by rw [hw]; exact HP58.2); have hp_ : Kd.R (Kd.int .u32) 87 w59 w.heap.size (fun k_ => some k_ ≠ (.slice Ao53 x0_1.length co53 : Value).ownBlock ∧ some k_ ≠ (.slice Ao54 x11_1.length co54 : Value).ownBlock ∧ some k_ ≠ (v712 : Value).ownBlock) (.slice (some ⟨go51, 0, none⟩) x10_1.length co57) y715 := (by rw [hw, Ny715.out]; exact HP58.1); clear HP58; replace HO_0 := mk0 (Kd.R_after (v := (.slice (some ⟨go51, 0, none⟩) x10_1.length co57)) (v1 := (.slice (some ⟨go51, 0, none⟩) x10_1.length co57)) (ok := (fun k_ => some k_ ≠ (.slice Ao54 x11_1.length co54 : Value).ownBlock ∧ some k_ ≠ (v712 : Value).ownBlock)) (Rm HO_0.out (fun _ hk => ⟨⟨hk.1.2, hk.2⟩, hk.1.1⟩)) hg (.inl rfl)); replace HO_10 := mk0 (hp_); replace HO_11 := mk0 (Kd.R_after (v := (.slice (some ⟨go51, 0, none⟩) x10_1.length co57)) (v1 := (.slice (some ⟨go51, 0, none⟩) x10_1.length co57)) (ok := (fun k_ => some k_ ≠ (.slice Ao53 x0_1.length co53 : Value).ownBlock ∧ some k_ ≠ (v712 : Value).ownBlock)) (Rm HO_11.out (fun _ hk => ⟨⟨hk.1.1, hk.2⟩, hk.1.2⟩)) hg (.inl rfl)); replace HO713 := mk0 (Kd.R_after (v := (.slice (some ⟨go51, 0, none⟩) x10_1.length co57)) (v1 := (.slice (some ⟨go51, 0, none⟩) x10_1.length co57)) (ok := (fun k_ => some k_ ≠ (.slice Ao53 x0_1.length co53 : Value).ownBlock ∧ some k_ ≠ (.slice Ao54 x11_1.length co54 : Value).ownBlock)) (Rm HO713.out (fun _ hk => ⟨⟨hk.1.1.2, hk.2⟩, hk.1.2⟩)) hg (.inl rfl)); replace HB := mk0 ((by rw [hw]; exact bS (HB.out) GB51.out : Below w.heap.size w w59)); clear hg hw hp_) | ((refine gate_callee (f := 117) rfl ?_); refine goA 80 Try.func117 #[.slice Ao54 x11_1.length co54] ?_; (with_reducible refine (examboardref01_half.calls k1 _ _ x11_1 t716 _ (by exact (Kd.R_reads' HO_11.out).2.2) (by exact (Kd.R_reads' HO_11.out).2.1) A52.out).mono ?_); rintro e w60 ⟨v717, rfl, ho0, hb⟩; refine ⟨_, rfl, ?_⟩; have HO718 := mk0 (Rl (Rn (Rn (Rn (Rn ho0 (Rq HO_0.out)) (Rq HO_10.out)) (Rq HO_11.out)) (Rq HO713.out)) (bZ HB.out)); replace HO_0 := mk0 (Re HO_0.out (Rs ho0) hb); replace HO_10 := mk0 (Re HO_10.out (Rs ho0) hb); replace HO_11 := mk0 (Re HO_11.out (Rs ho0) hb); replace HO713 := mk0 (Re HO713.out (Rs ho0) hb); replace HB := hbS HB hb))
             go_roundg k1
             case measure => have := HK1.out; omega
             case rel => exact ⟨(t710), (y715), (t716), (wrap64 (x12_1 - 1)), (by first | rfl | (simp; done) | (simp [*]; done)), H', ⟨by have := HK1.out; omega⟩, ⟨Rm HO713.out (fun _ hk => ⟨hk.1.2, hk.2⟩)⟩, ⟨Rm HO_10.out (fun _ hk => ⟨hk.1.2.2, hk.2⟩)⟩, ⟨Rm HO718.out (fun _ hk => ⟨hk.2, hk.1.1.2⟩)⟩, ⟨by repeat (first | exact HB.out | apply bN | apply b1 | apply bA)⟩⟩
            ·rw [if_neg c49] at H
             exact absurd H (by simp)
           ·rw [if_neg c47] at H
            exact absurd H (by simp)
          ·rw [if_neg c46] at H
           exact absurd H (by simp)
         ·rw [if_neg c43] at H
          have c43b0 := decide_eq_false c43
          clear c43
          obtain ⟨t719, A61, H⟩ := bindA H
          have H' := mk0 H
          clear H
          obtain ⟨Ao62, co62, eo62⟩ := Kd.R_slice HO_0.out
          subst eo62
          obtain ⟨Ao63, co63, eo63⟩ := Kd.R_slice HO_11.out
          subst eo63
          go_wp2_with (first | ((refine gate_callee (f := 92) rfl ?_); refine goA 57 Try.func92 #[.slice Ao62 x0_1.length co62, .slice Ao63 x11_1.length co63] ?_; (with_reducible refine (examboardref01_Cmp.calls k1 _ _ x0_1 _ _ x11_1 t709 _ (by exact (Kd.R_reads' HO_0.out).2.2) (by exact (Kd.R_reads' HO_0.out).2.1) (by exact (Kd.R_reads' HO_11.out).2.2) (by exact (Kd.R_reads' HO_11.out).2.1) A42.out).mono ?_); rintro e w64 ⟨rfl, hb⟩; refine ⟨_, rfl, ?_⟩; replace HO_0 := rB HO_0 hb; replace HO_10 := rB HO_10 hb; replace HO_11 := rB HO_11 hb; replace HB := hbS HB hb) | ((refine gate_callee (f := 117) rfl ?_); refine goA 80 Try.func117 #[.slice Ao63 x11_1.length co63] ?_; (with_reducible refine (examboardref01_half.calls k1 _ _ x11_1 t719 _ (by exact (Kd.R_reads' HO_11.out).2.2) (by exact (Kd.R_reads' HO_11.out).2.1) A61.out).mono ?_); rintro e w65 ⟨v720, rfl, ho0, hb⟩; refine ⟨_, rfl, ?_⟩; have HO721 := mk0 (Rl (Rn (Rn (Rn ho0 (Rq HO_0.out)) (Rq HO_10.out)) (Rq HO_11.out)) (bZ HB.out)); replace HO_0 := mk0 (Re HO_0.out (Rs ho0) hb); replace HO_10 := mk0 (Re HO_10.out (Rs ho0) hb); replace HO_11 := mk0 (Re HO_11.out (Rs ho0) hb); replace HB := hbS HB hb))
          go_roundg k1
          case measure => have := HK1.out; omega
          case rel => exact ⟨(x0_1), (x10_1), (t719), (wrap64 (x12_1 - 1)), (by first | rfl | (simp; done) | (simp [*]; done)), H', ⟨by have := HK1.out; omega⟩, ⟨Rm HO_0.out (fun _ hk => ⟨hk.1.1, hk.2⟩)⟩, ⟨Rm HO_10.out (fun _ hk => ⟨hk.1.1, hk.2⟩)⟩, ⟨Rm HO721.out (fun _ hk => ⟨hk.1.1.2, hk.1.2⟩)⟩, ⟨by repeat (first | exact HB.out | apply bN | apply b1 | apply bA)⟩⟩
        ·rw [if_neg c41] at H
         have c41b0 := decide_eq_false c41
         clear c41
         obtain ⟨t706, A66, H⟩ := bindA H
         simp only [Option.some.injEq, Prod.mk.injEq] at H
         obtain ⟨rfl, rfl, rfl⟩ := H
         obtain ⟨Ao67, co67, eo67⟩ := Kd.R_slice HO_10.out
         subst eo67
         go_wp2_with (first | ((refine gate_callee (f := 89) rfl ?_); refine goA 82 Try.func89 #[.slice Ao67 x10_1.length co67] ?_; (with_reducible refine (examboardref01_Norm.calls k1 _ _ x10_1 t706 _ (by exact (Kd.R_reads' HO_10.out).2.2) (by exact (Kd.R_reads' HO_10.out).2.1) A66.out).mono ?_); rintro e w68 ⟨v707, rfl, ho0, hb⟩; refine ⟨_, rfl, ?_⟩; have HO708 := mk0 (Rl (Rn (Rn (Rn ho0 (Rq HO_0.out)) (Rq HO_10.out)) (Rq HO_11.out)) (bZ HB.out)); replace HO_0 := mk0 (Re HO_0.out (Rs ho0) hb); replace HO_10 := mk0 (Re HO_10.out (Rs ho0) hb); replace HO_11 := mk0 (Re HO_11.out (Rs ho0) hb); replace HB := hbS HB hb))
         go_ret3
         exact ⟨_, _, by first | rfl | (simp [errW_none, errW_some] <;> rfl) | (simp only [← hji28]; first | rfl | (simp [errW_none, errW_some] <;> rfl)) | (simp [*, errW_none, errW_some] <;> rfl), Rm HO708.out (fun _ hk => hk.1.1.2), Rm HO_0.out (fun _ hk => hk.2), by repeat (first | exact HB.out | apply bN | apply b1 | apply bA)⟩
     ·rw [if_neg c30] at H
      exact absurd H (by simp)
    ·rw [if_neg c29] at H
     exact absurd H (by simp)
set_option maxHeartbeats 8000000 in
set_option maxRecDepth 100000 in
theorem examboardref01_Gcd.calls (k : Nat) (A0 : Option Addr) (c0 : Nat) (l0 : List Int) (A1 : Option Addr) (c1 : Nat) (l1 : List Int) (r : List Int) (w : World) (hr0 : Kd.C (Kd.int .u32) w A0 l0.length l0) (hc0 : l0.length ≤ c0) (hr1 : Kd.C (Kd.int .u32) w A1 l1.length l1) (hc1 : l1.length ≤ c1) (h : examboardref01_Gcd.f k l0 l1 = some r) :
  Calls Try.prog 87 #[.slice A0 l0.length c0, .slice A1 l1.length c1] w fun e w' => ∃ v0_ : Value, e = .returned (v0_) ∧ Kd.R (Kd.int .u32) 87 w' w.heap.size (fun _ => True) v0_ r ∧ Below w.heap.size w w' := by
 have HR0 := mk0 hr0
 have HC0 := mk0 hc0
 clear hr0 hc0
 have HR1 := mk0 hr1
 have HC1 := mk0 hc1
 clear hr1 hc1
 have HB := mk0 (Below.refl w.heap.size w)
 have H : ((examboardref01_Norm.f k l0).bind fun t722 => ((examboardref01_Norm.f k l1).bind fun t725 => (examboardref01_Gcd.l0 k t722 t725))) = some r := h
 clear h
 obtain ⟨t722, A3, H⟩ := bindA H
 obtain ⟨t725, A4, H⟩ := bindA H
 have H' := mk0 H
 clear H
 go_enter Try.func87, Try.ntmps87
 go_wp2_with (first | ((with_reducible refine gate_callee (f := 89) rfl ?_); refine goA 9 Try.func89 #[.slice A0 l0.length c0] ?_; (with_reducible refine (examboardref01_Norm.calls k _ _ l0 t722 _ HR0.out HC0.out A3.out).mono ?_); rintro e w5 ⟨v723, rfl, ho0, hb⟩; refine ⟨_, rfl, ?_⟩; have HO724 := mk0 (Rl ho0 (bZ HB.out)); replace HB := hbS HB hb) | ((with_reducible refine gate_callee (f := 89) rfl ?_); refine goA 11 Try.func89 #[.slice A1 l1.length c1] ?_; (with_reducible refine (examboardref01_Norm.calls k _ _ l1 t725 _ (by exact Cb HR1.out HB.out) HC1.out A4.out).mono ?_); rintro e w6 ⟨v726, rfl, ho0, hb⟩; refine ⟨_, rfl, ?_⟩; have HO727 := mk0 (Rl (Rn ho0 (Rq HO724.out)) (bZ HB.out)); replace HO724 := mk0 (Re HO724.out (Rs ho0) hb); replace HB := hbS HB hb))
 go_loopg [0, 1] k (fun kq v0 v1 w' => ∃ (x0_1 : List Int) (x1_1 : List Int), Aside0 (examboardref01_Gcd.l0 kq x0_1 x1_1 = some r) ∧ Aside0 (kq ≤ k) ∧ Aside0 (Kd.R (Kd.int .u32) 87 w' w.heap.size (fun k_ => some k_ ≠ (v1 : Value).ownBlock) v0 x0_1) ∧ Aside0 (Kd.R (Kd.int .u32) 87 w' w.heap.size (fun k_ => some k_ ≠ (v0 : Value).ownBlock) v1 x1_1) ∧ Aside0 (Below w.heap.size w w'))
 case atStart => exact ⟨(t722), (t725), H', ⟨Nat.le_refl _⟩, ⟨Rm HO724.out (fun _ hk => hk.2)⟩, ⟨Rm HO727.out (fun _ hk => hk.2)⟩, ⟨by repeat (first | exact HB.out | apply bN | apply b1 | apply bA)⟩⟩
 case round =>
  clear H'
  try clear c1
  try clear p2
  obtain ⟨x0_1, x1_1, HA, HK1, HO_0, HO_1, HB⟩ := hrel
  cases gk with
  | zero => exact absurd HA.out (by simp [examboardref01_Gcd.l0])
  | succ k1 =>
   have H := HA.out
   clear HA
   simp only [examboardref01_Gcd.l0] at H
   by_cases c7 : (x1_1.length : Int) > 0
   ·rw [if_pos c7] at H
    have c7b0 : decide (0 < (x1_1.length : Int)) = true := decide_eq_true c7
    have c7b1 : decide (0 < x1_1.length) = true := decide_eq_true (by omega)
    clear c7
    obtain ⟨⟨t728, t729, t730⟩, A8, H⟩ := bindA H
    have H' := mk0 H
    clear H
    obtain ⟨Ao9, co9, eo9⟩ := Kd.R_slice HO_1.out
    subst eo9
    obtain ⟨Ao10, co10, eo10⟩ := Kd.R_slice HO_0.out
    subst eo10
    go_wp2_with (first | ((with_reducible refine gate_callee (f := 88) rfl ?_); refine goA 18 Try.func88 #[.slice Ao10 x0_1.length co10, .slice Ao9 x1_1.length co9] ?_; (with_reducible refine (examboardref01_DivMod.calls k1 _ _ x0_1 _ _ x1_1 t728 t729 t730 _ (by exact (Kd.R_reads' HO_0.out).2.2) (by exact (Kd.R_reads' HO_0.out).2.1) (by exact (Kd.R_reads' HO_1.out).2.2) (by exact (Kd.R_reads' HO_1.out).2.1) A8.out).mono ?_); rintro e w11 ⟨v731, v733, rfl, ho0, ho1, hb⟩; refine ⟨_, rfl, ?_⟩; have HO734 := mk0 (Rl (Rn (Rn ho1 (Rq HO_0.out)) (Rq HO_1.out)) (bZ HB.out)); replace HO_0 := mk0 (Rm (Kd.R_told (Kd.R_told (Kd.R_old HO_0.out hb) (Rs ho0)) (Rs ho1)) (fun _ h_ => h_.1)); replace HO_1 := mk0 (Rm (Kd.R_told (Kd.R_told (Kd.R_old HO_1.out hb) (Rs ho0)) (Rs ho1)) (fun _ h_ => h_.1)); replace HB := hbS HB hb))
    go_roundg k1
    case measure => have := HK1.out; omega
    case rel => exact ⟨(x1_1), (t729), H', ⟨by have := HK1.out; omega⟩, ⟨Rm HO_1.out (fun _ hk => hk.2)⟩, ⟨Rm HO734.out (fun _ hk => hk.2)⟩, ⟨by repeat (first | exact HB.out | apply bN | apply b1 | apply bA)⟩⟩
   ·rw [if_neg c7] at H
    have c7b0 : decide (0 < (x1_1.length : Int)) = false := decide_eq_false c7
    have c7b1 : decide (0 < x1_1.length) = false := decide_eq_false (by omega)
    clear c7
    obtain rfl := Option.some.inj H
    obtain ⟨Ao12, co12, eo12⟩ := Kd.R_slice HO_1.out
    subst eo12
    go_wp2
    go_ret
    exact ⟨_, by first | rfl | (simp [errW_none, errW_some] <;> rfl) | (simp [*, errW_none, errW_some] <;> rfl), Rm HO_0.out tv, by repeat (first | exact HB.out | apply bN | apply b1 | apply bA)⟩
set_option maxHeartbeats 8000000 in
set_option maxRecDepth 100000 in
theorem examboardref03_reduce.calls (k : Nat) (a0_0 : Bool) (A0_1 : Option Addr) (c0_1 : Nat) (l0_1 : List Int) (A1 : Option Addr) (c1 : Nat) (l1 : List Int) (r1 : Bool) (r2 : List Int) (r3 : List Int) (w : World) (hr0_1 : Kd.C (Kd.int .u32) w A0_1 l0_1.length l0_1) (hc0_1 : l0_1.length ≤ c0_1) (hr1 : Kd.C (Kd.int .u32) w A1 l1.length l1) (hc1 : l1.length ≤ c1) (h : examboardref03_reduce.f k a0_0 l0_1 l1 = some (r1, r2, r3)) :
  Calls Try.prog 57 #[.agg #[.bool a0_0, .slice A0_1 l0_1.length c0_1], .slice A1 l1.length c1] w fun e w' => ∃ v1_ v2_ : Value, e = .returned (.agg #[.bool r1, v1_, v2_]) ∧ Kd.R (Kd.int .u32) 87 w' w.heap.size (fun k_ => some k_ ≠ (v2_ : Value).ownBlock) v1_ r2 ∧ Kd.R (Kd.int .u32) 87 w' w.heap.size (fun k_ => some k_ ≠ (v1_ : Value).ownBlock) v2_ r3 ∧ Below w.heap.size w w' := by
 have hu27 := Try.underlying27
 have hu29 := Try.underlying29
 have HR0_1 := mk0 hr0_1
 have HC0_1 := mk0 hc0_1
 clear hr0_1 hc0_1
 have HR1 := mk0 hr1
 have HC1 := mk0 hc1
 clear hr1 hc1
 have HB := mk0 (Below.refl w.heap.size w)
 have H : ((examboardref02_Norm.f k a0_0 l0_1).bind fun bt737 => ((examboardref01_Bits.f k bt737.2).bind fun t742 => (if t742 = 0 then ((examboardref03_zero.f k).bind fun bt743 => (some (bt743.1, bt743.2.1, bt743.2.2))) else ((examboardref01_Gcd.f k bt737.2 l1).bind fun t750 => ((examboardref01_DivMod.f k bt737.2 t750).bind fun bt753 => ((examboardref01_DivMod.f k l1 t750).bind fun bt760 => ((examboardref02_Make.f k bt737.1 bt753.1).bind fun bt767 => (some (bt767.1, bt767.2, bt760.1))))))))) = some (r1, r2, r3) := h
 clear h
 obtain ⟨⟨t737, t738⟩, A3, H⟩ := bindA H
 obtain ⟨t742, A4, H⟩ := bindA H
 by_cases c5 : t742 = 0
 ·rw [if_pos c5] at H
  have c5b0 : (t742 == 0) = true := beq_iff_eq.mpr c5
  have c5b1 : (t742 != 0) = false := bne_eq_false_iff_eq.mpr c5
  clear c5
  obtain ⟨⟨t743, t744, t747⟩, A6, H⟩ := bindA H
  simp only [Option.some.injEq, Prod.mk.injEq] at H
  obtain ⟨rfl, rfl, rfl⟩ := H
  go_enter Try.func57, Try.ntmps57
  go_wp2_with (first | ((refine gate_dst (N := 2) rfl ?_); refine box_event rfl (N := 2) rfl (cs := #[.bool a0_0, .slice A0_1 l0_1.length c0_1]) (t := 27) (by go_simp <;> rfl) ?_; intro gb735 hg w7 hbox hb; have BK735 := mk0 (hbox); have GE735 := geB hg HB; replace HB := hbS HB hb; clear hb hbox hg) | ((refine gate_dst (N := 4) rfl ?_); refine box_event rfl (N := 4) rfl (cs := #[.bool false, .slice none 0 0, .slice none 0 0]) (t := 29) (by go_simp <;> rfl) ?_; intro gb736 hg w8 hbox hb; have BK736 := mk0 (hbox); have GE736 := geB hg HB; replace HB := hbS HB hb; have NB735_736 := nbA hg BK735; have NB736_735 := nbB hg BK735; replace BK735 := bkB BK735 hb; clear hb hbox hg; have hnb9 := NB735_736.out; have hnc9 := NB736_735.out; obtain ⟨hcz10_0, hcz10_1, hfz10_0, hfz10_1⟩ := cz2 BK735) | ((refine gate_callee (f := 84) rfl ?_); refine goA 14 Try.func84 #[.agg #[.bool a0_0, .slice A0_1 l0_1.length c0_1]] ?_; (with_reducible refine (examboardref02_Norm.calls k a0_0 _ _ l0_1 t737 t738 _ (by exact Cb HR0_1.out HB.out) HC0_1.out A3.out).mono ?_); rintro e w11 ⟨v739, rfl, ho0, hb⟩; refine ⟨_, rfl, ?_⟩; have HO740 := mk0 (Rl ho0 (bZ HB.out)); replace BK735 := bkB BK735 hb; replace BK736 := bkB BK736 hb; replace HB := hbS HB hb) | ((refine gate_dst (N := 5) rfl ?_); refine box_event rfl (N := 5) rfl (cs := #[.bool false, .slice none 0 0]) (t := 27) (by go_simp <;> rfl) ?_; intro gb741 hg w12 hbox hb; replace HO740 := rB HO740 hb; have BK741 := mk0 (hbox); have GE741 := geB hg HB; replace HB := hbS HB hb; have NB735_741 := nbA hg BK735; have NB741_735 := nbB hg BK735; replace BK735 := bkB BK735 hb; have NB736_741 := nbA hg BK736; have NB741_736 := nbB hg BK736; replace BK736 := bkB BK736 hb; clear hb hbox hg; have hnb13 := NB741_735.out; have hnc13 := NB735_741.out; have hnb14 := NB741_736.out; have hnc14 := NB736_741.out; obtain ⟨hcz15_0, hcz15_1, hfz15_0, hfz15_1⟩ := cz2 BK741; obtain ⟨Ao16, co16, eo16⟩ := Kd.R_slice HO740.out; subst eo16) | ((refine gate_callee (f := 85) rfl ?_); refine goA 17 Try.func85 #[.slice Ao16 t738.length co16] ?_; (with_reducible refine (examboardref01_Bits.calls k _ _ t738 t742 _ (by refine (Kd.R_reads' (e := 87) (base := w.heap.size) (ok := fun k_ => True) (n := t738.length) (c := co16) ?_).2.2; exact ((Rm (Rg 1 (Rg 0 (Rd HO740.out BK741) (.bool t737)) (.slice Ao16 t738.length co16)) (fun _ h_ => h_.1)))) (by exact (Kd.R_reads' HO740.out).2.1) A4.out).mono ?_); rintro e w17 ⟨rfl, hb⟩; refine ⟨_, rfl, ?_⟩; replace HO740 := mk0 (Rb ((Rm (Rg 1 (Rg 0 (Rd HO740.out BK741) (.bool t737)) (.slice Ao16 t738.length co16)) (fun _ h_ => h_.1))) hb); replace BK735 := mk0 (blk_below (g := gb735) (o := .cells #[.bool a0_0, .slice A0_1 l0_1.length c0_1] 27 (0, 0)) (by refine blk_far ?_ NB735_741.out _; refine blk_far ?_ NB735_741.out _; exact BK735.out) hb); replace BK736 := mk0 (blk_below (g := gb736) (o := .cells #[.bool false, .slice none 0 0, .slice none 0 0] 29 (0, 0)) (by refine blk_far ?_ NB736_741.out _; refine blk_far ?_ NB736_741.out _; exact BK736.out) hb); replace BK741 := mk0 (blk_below (g := gb741) (o := .cells #[.bool t737, .slice Ao16 t738.length co16] 27 (0, 0)) (by refine blk_put (cs := #[.bool t737, .slice none 0 0]) ?_ 1 _ rfl; refine blk_put (cs := #[.bool false, .slice none 0 0]) ?_ 0 _ rfl; exact BK741.out) hb); replace HB := mk0 (below_step (by repeat (first | exact HB.out | refine bS ?_ GE736.out | refine bS ?_ GE741.out)) hb)) | ((refine gate_callee (f := 86) rfl ?_); refine goA 19 Try.func86 #[] ?_; (with_reducible refine (examboardref03_zero.calls k  t743 t744 t747 _ A6.out).mono ?_); rintro e w18 ⟨v745, v748, rfl, ho0, ho1, hb⟩; refine ⟨_, rfl, ?_⟩; have HO746 := mk0 (Rl (Rn ho0 (Rq HO740.out)) (bZ HB.out)); have HO749 := mk0 (Rl (Rn ho1 (Rq HO740.out)) (bZ HB.out)); replace HO740 := mk0 (Rm (Kd.R_told (Kd.R_told (Kd.R_old HO740.out hb) (Rs ho0)) (Rs ho1)) (fun _ h_ => h_.1)); replace BK735 := bkB BK735 hb; replace BK736 := bkB BK736 hb; replace BK741 := bkB BK741 hb; replace HB := hbS HB hb; obtain ⟨hcz19_0, hcz19_1, hcz19_2, hfz19_0, hfz19_1, hfz19_2⟩ := cz3 BK736; obtain ⟨Ao20, co20, eo20⟩ := Kd.R_slice HO746.out; subst eo20; obtain ⟨Ao21, co21, eo21⟩ := Kd.R_slice HO749.out; subst eo21))
  refine bodyPost_ret (results_cell_row rfl _ _ gb736 29 #[.bool t743, .slice Ao20 t744.length co20, .slice Ao21 t747.length co21] (0, 0) _ rfl (by refine blk_put (cs := #[.bool t743, .slice Ao20 t744.length co20, .slice none 0 0]) ?_ 2 _ rfl; refine blk_put (cs := #[.bool t743, .slice none 0 0, .slice none 0 0]) ?_ 1 _ rfl; refine blk_put (cs := #[.bool false, .slice none 0 0, .slice none 0 0]) ?_ 0 _ rfl; exact BK736.out) Try.underlying29 rfl (by kernel_rfl)) rfl ?_
  exact ⟨_, _, rfl, Rm (Rg 2 (Rg 1 (Rg 0 (Rd HO746.out BK736) (.bool t743)) (.slice Ao20 t744.length co20)) (.slice Ao21 t747.length co21)) (fun _ hk => hk.1.1), Rm (Rg 2 (Rg 1 (Rg 0 (Rd HO749.out BK736) (.bool t743)) (.slice Ao20 t744.length co20)) (.slice Ao21 t747.length co21)) (fun _ hk => hk.1.1), by repeat (first | exact HB.out | apply bN | apply b1 | apply bA | refine bS ?_ GE735.out | refine bS ?_ GE736.out | refine bS ?_ GE741.out)⟩
 ·rw [if_neg c5] at H
  have c5b0 : (t742 == 0) = false := beq_eq_false_iff_ne.mpr c5
  have c5b1 : (t742 != 0) = true := bne_iff_ne.mpr c5
  obtain ⟨t750, A22, H⟩ := bindA H
  obtain ⟨⟨t753, t754, t755⟩, A23, H⟩ := bindA H
  obtain ⟨⟨t760, t761, t762⟩, A24, H⟩ := bindA H
  obtain ⟨⟨t767, t768⟩, A25, H⟩ := bindA H
  simp only [Option.some.injEq, Prod.mk.injEq] at H
  obtain ⟨rfl, rfl, rfl⟩ := H
  go_enter Try.func57, Try.ntmps57
  go_wp2_with (first | ((refine gate_dst (N := 2) rfl ?_); refine box_event rfl (N := 2) rfl (cs := #[.bool a0_0, .slice A0_1 l0_1.length c0_1]) (t := 27) (by go_simp <;> rfl) ?_; intro gb735 hg w26 hbox hb; have BK735 := mk0 (hbox); have GE735 := geB hg HB; replace HB := hbS HB hb; clear hb hbox hg) | ((refine gate_dst (N := 4) rfl ?_); refine box_event rfl (N := 4) rfl (cs := #[.bool false, .slice none 0 0, .slice none 0 0]) (t := 29) (by go_simp <;> rfl) ?_; intro gb736 hg w27 hbox hb; have BK736 := mk0 (hbox); have GE736 := geB hg HB; replace HB := hbS HB hb; have NB735_736 := nbA hg BK735; have NB736_735 := nbB hg BK735; replace BK735 := bkB BK735 hb; clear hb hbox hg; have hnb28 := NB735_736.out; have hnc28 := NB736_735.out; obtain ⟨hcz29_0, hcz29_1, hfz29_0, hfz29_1⟩ := cz2 BK735) | ((refine gate_callee (f := 84) rfl ?_); refine goA 14 Try.func84 #[.agg #[.bool a0_0, .slice A0_1 l0_1.length c0_1]] ?_; (with_reducible refine (examboardref02_Norm.calls k a0_0 _ _ l0_1 t737 t738 _ (by exact Cb HR0_1.out HB.out) HC0_1.out A3.out).mono ?_); rintro e w30 ⟨v739, rfl, ho0, hb⟩; refine ⟨_, rfl, ?_⟩; have HO740 := mk0 (Rl ho0 (bZ HB.out)); replace BK735 := bkB BK735 hb; replace BK736 := bkB BK736 hb; replace HB := hbS HB hb) | ((refine gate_dst (N := 5) rfl ?_); refine box_event rfl (N := 5) rfl (cs := #[.bool false, .slice none 0 0]) (t := 27) (by go_simp <;> rfl) ?_; intro gb741 hg w31 hbox hb; replace HO740 := rB HO740 hb; have BK741 := mk0 (hbox); have GE741 := geB hg HB; replace HB := hbS HB hb; have NB735_741 := nbA hg BK735; have NB741_735 := nbB hg BK735; replace BK735 := bkB BK735 hb; have NB736_741 := nbA hg BK736; have NB741_736 := nbB hg BK736; replace BK736 := bkB BK736 hb; clear hb hbox hg; have hnb32 := NB741_735.out; have hnc32 := NB735_741.out; have hnb33 := NB741_736.out; have hnc33 := NB736_741.out; obtain ⟨hcz34_0, hcz34_1, hfz34_0, hfz34_1⟩ := cz2 BK741; obtain ⟨Ao35, co35, eo35⟩ := Kd.R_slice HO740.out; subst eo35) | ((refine gate_callee (f := 85) rfl ?_); refine goA 17 Try.func85 #[.slice Ao35 t738.length co35] ?_; (with_reducible refine (examboardref01_Bits.calls k _ _ t738 t742 _ (by refine (Kd.R_reads' (e := 87) (base := w.heap.size) (ok := fun k_ => True) (n := t738.length) (c := co35) ?_).2.2; exact ((Rm (Rg 1 (Rg 0 (Rd HO740.out BK741) (.bool t737)) (.slice Ao35 t738.length co35)) (fun _ h_ => h_.1)))) (by exact (Kd.R_reads' HO740.out).2.1) A4.out).mono ?_); rintro e w36 ⟨rfl, hb⟩; refine ⟨_, rfl, ?_⟩; replace HO740 := mk0 (Rb ((Rm (Rg 1 (Rg 0 (Rd HO740.out BK741) (.bool t737)) (.slice Ao35 t738.length co35)) (fun _ h_ => h_.1))) hb); replace BK735 := mk0 (blk_below (g := gb735) (o := .cells #[.bool a0_0, .slice A0_1 l0_1.length c0_1] 27 (0, 0)) (by refine blk_far ?_ NB735_741.out _; refine blk_far ?_ NB735_741.out _; exact BK735.out) hb); replace BK736 := mk0 (blk_below (g := gb736) (o := .cells #[.bool false, .slice none 0 0, .slice none 0 0] 29 (0, 0)) (by refine blk_far ?_ NB736_741.out _; refine blk_far ?_ NB736_741.out _; exact BK736.out) hb); replace BK741 := mk0 (blk_below (g := gb741) (o := .cells #[.bool t737, .slice Ao35 t738.length co35] 27 (0, 0)) (by refine blk_put (cs := #[.bool t737, .slice none 0 0]) ?_ 1 _ rfl; refine blk_put (cs := #[.bool false, .slice none 0 0]) ?_ 0 _ rfl; exact BK741.out) hb); replace HB := mk0 (below_step (by repeat (first | exact HB.out | refine bS ?_ GE736.out | refine bS ?_ GE741.out)) hb); obtain ⟨hcz37_0, hcz37_1, hfz37_0, hfz37_1⟩ := cz2 BK741) | ((refine gate_callee (f := 87) rfl ?_); refine goA 23 Try.func87 #[.slice Ao35 t738.length co35, .slice A1 l1.length c1] ?_; (with_reducible refine (examboardref01_Gcd.calls k _ _ t738 _ _ l1 t750 _ (by exact (Kd.R_reads' HO740.out).2.2) (by exact (Kd.R_reads' HO740.out).2.1) (by exact Cb HR1.out HB.out) HC1.out A22.out).mono ?_); rintro e w38 ⟨v751, rfl, ho0, hb⟩; refine ⟨_, rfl, ?_⟩; have HO752 := mk0 (Rl (Rn ho0 (Rq HO740.out)) (bZ HB.out)); replace HO740 := mk0 (Re HO740.out (Rs ho0) hb); replace BK735 := bkB BK735 hb; replace BK736 := bkB BK736 hb; replace BK741 := bkB BK741 hb; replace HB := hbS HB hb; obtain ⟨hcz39_0, hcz39_1, hfz39_0, hfz39_1⟩ := cz2 BK741; obtain ⟨Ao40, co40, eo40⟩ := Kd.R_slice HO752.out; subst eo40) | ((refine gate_callee (f := 88) rfl ?_); refine goA 28 Try.func88 #[.slice Ao35 t738.length co35, .slice Ao40 t750.length co40] ?_; (with_reducible refine (examboardref01_DivMod.calls k _ _ t738 _ _ t750 t753 t754 t755 _ (by exact (Kd.R_reads' HO740.out).2.2) (by exact (Kd.R_reads' HO740.out).2.1) (by exact (Kd.R_reads' HO752.out).2.2) (by exact (Kd.R_reads' HO752.out).2.1) A23.out).mono ?_); rintro e w41 ⟨v756, v758, rfl, ho0, ho1, hb⟩; refine ⟨_, rfl, ?_⟩; have HO757 := mk0 (Rl (Rn (Rn ho0 (Rq HO740.out)) (Rq HO752.out)) (bZ HB.out)); have HO759 := mk0 (Rl (Rn (Rn ho1 (Rq HO740.out)) (Rq HO752.out)) (bZ HB.out)); replace HO740 := mk0 (Rm (Kd.R_told (Kd.R_told (Kd.R_old HO740.out hb) (Rs ho0)) (Rs ho1)) (fun _ h_ => h_.1)); replace HO752 := mk0 (Rm (Kd.R_told (Kd.R_told (Kd.R_old HO752.out hb) (Rs ho0)) (Rs ho1)) (fun _ h_ => h_.1)); replace BK735 := bkB BK735 hb; replace BK736 := bkB BK736 hb; replace BK741 := bkB BK741 hb; replace HB := hbS HB hb) | ((refine gate_callee (f := 88) rfl ?_); refine goA 35 Try.func88 #[.slice A1 l1.length c1, .slice Ao40 t750.length co40] ?_; (with_reducible refine (examboardref01_DivMod.calls k _ _ l1 _ _ t750 t760 t761 t762 _ (by exact Cb HR1.out HB.out) HC1.out (by exact (Kd.R_reads' HO752.out).2.2) (by exact (Kd.R_reads' HO752.out).2.1) A24.out).mono ?_); rintro e w42 ⟨v763, v765, rfl, ho0, ho1, hb⟩; refine ⟨_, rfl, ?_⟩; have HO764 := mk0 (Rl (Rn (Rn (Rn (Rn ho0 (Rq HO740.out)) (Rq HO752.out)) (Rq HO757.out)) (Rq HO759.out)) (bZ HB.out)); have HO766 := mk0 (Rl (Rn (Rn (Rn (Rn ho1 (Rq HO740.out)) (Rq HO752.out)) (Rq HO757.out)) (Rq HO759.out)) (bZ HB.out)); replace HO740 := mk0 (Rm (Kd.R_told (Kd.R_told (Kd.R_old HO740.out hb) (Rs ho0)) (Rs ho1)) (fun _ h_ => h_.1)); replace HO752 := mk0 (Rm (Kd.R_told (Kd.R_told (Kd.R_old HO752.out hb) (Rs ho0)) (Rs ho1)) (fun _ h_ => h_.1)); replace HO757 := mk0 (Rm (Kd.R_told (Kd.R_told (Kd.R_old HO757.out hb) (Rs ho0)) (Rs ho1)) (fun _ h_ => h_.1)); replace HO759 := mk0 (Rm (Kd.R_told (Kd.R_told (Kd.R_old HO759.out hb) (Rs ho0)) (Rs ho1)) (fun _ h_ => h_.1)); replace BK735 := bkB BK735 hb; replace BK736 := bkB BK736 hb; replace BK741 := bkB BK741 hb; replace HB := hbS HB hb; obtain ⟨hcz43_0, hcz43_1, hfz43_0, hfz43_1⟩ := cz2 BK741; obtain ⟨Ao44, co44, eo44⟩ := Kd.R_slice HO757.out; subst eo44) | ((refine gate_callee (f := 62) rfl ?_); refine goA 42 Try.func62 #[.bool t737, .slice Ao44 t753.length co44] ?_; (with_reducible refine (examboardref02_Make.calls k t737 _ _ t753 t767 t768 _ (by exact (Kd.R_reads' HO757.out).2.2) (by exact (Kd.R_reads' HO757.out).2.1) A25.out).mono ?_); rintro e w45 ⟨v769, rfl, ho0, hb⟩; refine ⟨_, rfl, ?_⟩; have HO770 := mk0 (Rl (Rn (Rn (Rn (Rn (Rn (Rn ho0 (Rq HO740.out)) (Rq HO752.out)) (Rq HO757.out)) (Rq HO759.out)) (Rq HO764.out)) (Rq HO766.out)) (bZ HB.out)); replace HO740 := mk0 (Re HO740.out (Rs ho0) hb); replace HO752 := mk0 (Re HO752.out (Rs ho0) hb); replace HO757 := mk0 (Re HO757.out (Rs ho0) hb); replace HO759 := mk0 (Re HO759.out (Rs ho0) hb); replace HO764 := mk0 (Re HO764.out (Rs ho0) hb); replace HO766 := mk0 (Re HO766.out (Rs ho0) hb); replace BK735 := bkB BK735 hb; replace BK736 := bkB BK736 hb; replace BK741 := bkB BK741 hb; replace HB := hbS HB hb; obtain ⟨Ao46, co46, eo46⟩ := Kd.R_slice HO764.out; subst eo46; obtain ⟨Ao47, co47, eo47⟩ := Kd.R_slice HO770.out; subst eo47; obtain ⟨hcz48_0, hcz48_1, hcz48_2, hfz48_0, hfz48_1, hfz48_2⟩ := cz3 BK736))
  refine bodyPost_ret (results_cell_row rfl _ _ gb736 29 #[.bool t767, .slice Ao47 t768.length co47, .slice Ao46 t760.length co46] (0, 0) _ rfl (by refine blk_put (cs := #[.bool t767, .slice Ao47 t768.length co47, .slice none 0 0]) ?_ 2 _ rfl; refine blk_put (cs := #[.bool t767, .slice none 0 0, .slice none 0 0]) ?_ 1 _ rfl; refine blk_put (cs := #[.bool false, .slice none 0 0, .slice none 0 0]) ?_ 0 _ rfl; exact BK736.out) Try.underlying29 rfl (by kernel_rfl)) rfl ?_
  exact ⟨_, _, rfl, Rm (Rg 2 (Rg 1 (Rg 0 (Rd HO770.out BK736) (.bool t767)) (.slice Ao47 t768.length co47)) (.slice Ao46 t760.length co46)) (fun _ hk => hk.1.1.2), Rm (Rg 2 (Rg 1 (Rg 0 (Rd HO764.out BK736) (.bool t767)) (.slice Ao47 t768.length co47)) (.slice Ao46 t760.length co46)) (fun _ hk => hk.1.2), by repeat (first | exact HB.out | apply bN | apply b1 | apply bA | refine bS ?_ GE735.out | refine bS ?_ GE736.out | refine bS ?_ GE741.out)⟩
end Go.Proofs.Ythamhjmhgcpdgaa.Q
end
