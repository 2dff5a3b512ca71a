/- Lemmas and contracts for the law ExposureFilters: words of the print, contracts of the functions that the law reaches, and what these compute, as far as the law needs them; packed by a program of this session. -/
import Derived.Test.YthamhjmhgcpdgaaZExposureFilters4
import Derived.Sort.OwnSortedInts
import Derived.Shelf.Sort.Plain
import Derived.Shelf.Slices.CompactI
import Derived.Laws.CopyRow
import Derived.Laws.Externs
import Derived.Lib.AppendZerosOnto
import Derived.Lib.Overlaps
import Derived.Lib.Walk
import Derived.Shelf.Spec.SlicesInsertGrow
import Derived.Ground.NamesProg
import Derived.Shelf.Slices.In.SortNone
import Derived.Ground.Names2Prog
section
namespace Go.Proofs.Ythamhjmhgcpdgaa.MyWords
open Go.RowKit Go.Proofs.YthamhjmhgcpdgaaW.PrintWords
theorem compact_length (zs : List Int) : (Lib.compact zs).length ≤ zs.length := by
 unfold Lib.compact Lib.compactUpTo
 rw [List.length_map]
 exact Nat.le_trans (List.length_filter_le _ _) (by simp)
end Go.Proofs.Ythamhjmhgcpdgaa.MyWords
end
section
namespace Go.Proofs
open Go.Shelf
def Try.lays189_ren : Go.Shelf.Ren := ⟨fun | 189 => 48 | 125 => 75 | 257 => 74 | 128 => 93 | 129 => 105 | 294 => 96 | 295 => 97 | 296 => 98 | 297 => 99 | 298 => 100 | 299 => 101 | 216 => 102 | 300 => 103 | 301 => 104 | 328 => 120 | 329 => 121 | 330 => 122 | 331 => 123 | 332 => 124 | 215 => 71 | 343 => 125 | n => n, fun | 28 => 46 | 3 => 3 | 46 => 98 | 0 => 0 | 51 => 87 | 53 => 22 | 4 => 4 | 183 => 113 | 182 => 112 | 131 => 71 | 5 => 5 | 9 => 9 | 218 => 133 | 222 => 137 | 228 => 139 | 229 => 140 | n => n, fun | n => n⟩
theorem Try.lays189 : Go.Proofs.Lays.n189 Try.prog Try.lays189_ren := {
 mixed := by kernel_rfl
 f125 := Try.func75.trans (congrArg some (by kernel_rfl))
 f128 := Try.func93.trans (congrArg some (by kernel_rfl))
 f129 := Try.func105.trans (congrArg some (by kernel_rfl))
 f189 := Try.func48.trans (congrArg some (by kernel_rfl))
 f215 := Try.func71.trans (congrArg some (by kernel_rfl))
 f216 := Try.func102.trans (congrArg some (by kernel_rfl))
 f257 := Try.func74.trans (congrArg some (by kernel_rfl))
 f294 := Try.func96.trans (congrArg some (by kernel_rfl))
 f295 := Try.func97.trans (congrArg some (by kernel_rfl))
 f296 := Try.func98.trans (congrArg some (by kernel_rfl))
 f297 := Try.func99.trans (congrArg some (by kernel_rfl))
 f298 := Try.func100.trans (congrArg some (by kernel_rfl))
 f299 := Try.func101.trans (congrArg some (by kernel_rfl))
 f300 := Try.func103.trans (congrArg some (by kernel_rfl))
 f301 := Try.func104.trans (congrArg some (by kernel_rfl))
 f328 := Try.func120.trans (congrArg some (by kernel_rfl))
 f329 := Try.func121.trans (congrArg some (by kernel_rfl))
 f330 := Try.func122.trans (congrArg some (by kernel_rfl))
 f331 := Try.func123.trans (congrArg some (by kernel_rfl))
 f332 := Try.func124.trans (congrArg some (by kernel_rfl))
 f343 := Try.func125.trans (congrArg some (by kernel_rfl))
 t0 := Try.underlying0
 a0 := Try.isAgg0
 z0 := Try.sizeOf0
 v0 := Try.zeroValue0
 t3 := Try.underlying3
 a3 := Try.isAgg3
 z3 := Try.sizeOf3
 v3 := Try.zeroValue3
 t4 := Try.underlying4
 a4 := Try.isAgg4
 z4 := Try.sizeOf4
 v4 := Try.zeroValue4
 t5 := Try.underlying5
 a5 := Try.isAgg5
 z5 := Try.sizeOf5
 v5 := Try.zeroValue5
 t9 := Try.underlying9
 a9 := Try.isAgg9
 z9 := Try.sizeOf9
 v9 := Try.zeroValue9
 t28 := Try.underlying46
 a28 := Try.isAgg46
 z28 := Try.sizeOf46
 v28 := Try.zeroValue46
 t46 := Try.underlying98
 a46 := Try.isAgg98
 z46 := Try.sizeOf98
 v46 := Try.zeroValue98
 t51 := Try.underlying87
 a51 := Try.isAgg87
 z51 := Try.sizeOf87
 v51 := Try.zeroValue87
 t53 := Try.underlying22
 a53 := Try.isAgg22
 z53 := Try.sizeOf22
 v53 := Try.zeroValue22
 t131 := Try.underlying71
 a131 := Try.isAgg71
 z131 := Try.sizeOf71
 v131 := Try.zeroValue71
 t182 := Try.underlying112
 a182 := Try.isAgg112
 z182 := Try.sizeOf112
 v182 := Try.zeroValue112
 t183 := Try.underlying113
 a183 := Try.isAgg113
 z183 := Try.sizeOf113
 v183 := Try.zeroValue113
 t218 := Try.underlying133
 a218 := Try.isAgg133
 z218 := Try.sizeOf133
 v218 := Try.zeroValue133
 t222 := Try.underlying137
 a222 := Try.isAgg137
 z222 := Try.sizeOf137
 v222 := Try.zeroValue137
 t228 := Try.underlying139
 a228 := Try.isAgg139
 z228 := Try.sizeOf139
 v228 := Try.zeroValue139
 t229 := Try.underlying140
 a229 := Try.isAgg140
 z229 := Try.sizeOf140
 v229 := Try.zeroValue140 }
def Try.lays220_ren : Go.Shelf.Ren := ⟨fun | 20 => 49 | n => n, fun | 22 => 46 | 3 => 3 | 4 => 4 | 0 => 0 | n => n, fun | n => n⟩
theorem Try.lays220 : Go.Proofs.Lays2.n20 Try.prog Try.lays220_ren := {
 mixed := by kernel_rfl
 f20 := Try.func49.trans (congrArg some (by kernel_rfl))
 t0 := Try.underlying0
 a0 := Try.isAgg0
 z0 := Try.sizeOf0
 v0 := Try.zeroValue0
 t3 := Try.underlying3
 a3 := Try.isAgg3
 z3 := Try.sizeOf3
 v3 := Try.zeroValue3
 t4 := Try.underlying4
 a4 := Try.isAgg4
 z4 := Try.sizeOf4
 v4 := Try.zeroValue4
 t22 := Try.underlying46
 a22 := Try.isAgg46
 z22 := Try.sizeOf46
 v22 := Try.zeroValue46
 i3 := by kernel_rfl }
end Go.Proofs
end
section
namespace Go.Proofs.Ythamhjmhgcpdgaa.Q
open Go.RowKit Go.Proofs.YthamhjmhgcpdgaaW.PrintWords Go.Proofs.YthamhjmhgcpdgaaW.PrintLast Go.Proofs.YthamhjmhgcpdgaaW.PrintMore Go.Proofs.Ythamhjmhgcpdgaa.MyWords
attribute [local go_sem] max2_int min2_int max_two min_two
set_option linter.unusedVariables false
set_option linter.unusedSimpArgs false
set_option maxHeartbeats 8000000 in
set_option maxRecDepth 100000 in
theorem slices_Sort_int_int.calls (P0_ : Nat → Prop) (u9000_ : Value) (l0 : List Int) (r : List Int) (w0 w : World) (hB : Below w0.heap.size w0 w) (ho0 : Kd.R (Kd.int .i64) 3 w w0.heap.size P0_ u9000_ l0) (h : slices_Sort_int_int.f l0 = some r) :
  Calls Try.prog 48 #[u9000_] w fun e w' => e = .returned (.tuple #[]) ∧ Kd.R (Kd.int .i64) 3 w' w0.heap.size (fun k_ => (P0_ k_ ∨ w.heap.size ≤ k_)) u9000_ r ∧ Below w0.heap.size w0 w' ∧ Kept w w' (fun k_ => P0_ k_) := by
 unfold slices_Sort_int_int.f at h
 by_cases hlen : l0.length < 4611686018427387904
 case neg => rw [if_neg hlen] at h; cases h
 rw [if_pos hlen] at h
 have hr := Option.some.inj h
 clear h
 rcases (Kd.own_of_R ho0).2 with ⟨rfl, hn⟩ | ⟨g, cap, cur, rfl, hge, hb, hn, hcap, hs, hi⟩
 ·obtain rfl := List.eq_nil_of_length_eq_zero hn
  obtain rfl : r = [] := by simpa using hr.symm
  exact (Any.slices_Sort_int_none Try.lays189 none 0 w).mono fun e w' ⟨he, hw⟩ => by
   subst hw
   exact ⟨he, Rm ho0 (fun _ hk => .inl hk), hB, Kept.refl _ _⟩
 ·have hg : g < w.heap.size := (Array.getElem?_eq_some_iff.1 hb).1
  have hp : P0_ g := ho0.1 g (by simp [Value.ownBlock])
  have ht : cur.toList.take l0.length = l0.map (Value.int .i64) := by simpa [encs] using hi
  have hrl : r.length = l0.length := by rw [← hr]; exact List.length_mergeSort _
  exact (Any.slices_Sort_int Try.lays189 g 0 cap l0 w (holds_of_blockI hb ht) hg hlen).mono fun e w' ⟨he, n, os, hw⟩ => by
   have hgr : w.grownBy w' (some g) := by rw [hw]; exact grownBy_sortedI _
   have how : w'.ownsRow w0.heap.size 3 1 (.slice (some ⟨g, 0, none⟩) l0.length cap) l0.length (r.map (Value.int .i64)) := by rw [hw, hr]; exact ownsRow_sortedI hrl hge hb hn hcap hs
   exact ⟨he, Kd.R_of_own (by rw [hrl]; exact how) (fun k hk => .inl (ho0.1 k hk)), hB.grown hgr hB.size (fun k hk => by cases hk; exact hge), Kept.of_grown hgr (Kept.refl _ _) (fun k hk => by cases hk; exact .inl hp)⟩
set_option maxHeartbeats 8000000 in
set_option maxRecDepth 100000 in
theorem slices_Compact_int_int.calls (P0_ : Nat → Prop) (u9000_ : Value) (l0 : List Int) (r : List Int) (w0 w : World) (hB : Below w0.heap.size w0 w) (ho0 : Kd.R (Kd.int .i64) 3 w w0.heap.size P0_ u9000_ l0) (h : slices_Compact_int_int.f l0 = some r) :
  Calls Try.prog 49 #[u9000_] w fun e w' => ∃ v0_ : Value, e = .returned (v0_) ∧ Kd.R (Kd.int .i64) 3 w' w0.heap.size (fun k_ => (P0_ k_ ∨ w.heap.size ≤ k_)) v0_ r ∧ Below w0.heap.size w0 w' ∧ Kept w w' (fun k_ => P0_ k_) := by
 unfold slices_Compact_int_int.f at h
 by_cases hlen : l0.length < 4611686018427387904
 case neg => rw [if_neg hlen] at h; cases h
 rw [if_pos hlen] at h
 have hr : Lib.compact l0 = r := Option.some.inj h
 clear h
 rcases (Kd.own_of_R ho0).2 with ⟨rfl, hn⟩ | ⟨g, cap, cur, rfl, hge, hb, hn, hcap, hs, hi⟩
 ·obtain rfl := List.eq_nil_of_length_eq_zero hn
  obtain rfl : r = [] := by rw [← hr]; rfl
  exact (Any.slices_Compact_int_empty Try.lays220 none 0 w).mono fun e w' ⟨he, hw⟩ => by
   subst hw
   exact ⟨_, he, Rm ho0 (fun _ hk => .inl hk), hB, Kept.refl _ _⟩
 ·have hg : g < w.heap.size := (Array.getElem?_eq_some_iff.1 hb).1
  have hp : P0_ g := ho0.1 g (by simp [Value.ownBlock])
  have ht : cur.toList.take l0.length = l0.map (Value.int .i64) := by simpa [encs] using hi
  have hcl : (Lib.compact l0).length ≤ l0.length := compact_length l0
  refine (Any.slices_Compact_int Try.lays220 g 0 cap l0 w (holds_of_blockI hb ht) (by omega) hn).mono fun e w' ⟨he, n, hw⟩ => ?_
  have hrow : (Lib.compact l0 ++ List.replicate (l0.length - (Lib.compact l0).length) 0).length = l0.length := by simp; omega
  have hgr : w.grownBy w' (some g) := by
   rw [hw]
   exact grownBy_sortedI (os := #[]) _
  have how : w'.ownsRow w0.heap.size 3 1 (.slice (some ⟨g, 0, none⟩) l0.length cap) l0.length ((Lib.compact l0 ++ List.replicate (l0.length - (Lib.compact l0).length) 0).map (Value.int .i64)) := by
   rw [hw]
   exact ownsRow_sortedI (os := #[]) (ss := l0) hrow hge hb hn hcap hs
  have hR : Kd.R (Kd.int .i64) 3 w' w0.heap.size (fun k_ => (P0_ k_ ∨ w.heap.size ≤ k_)) (.slice (some ⟨g, 0, none⟩) l0.length cap) (Lib.compact l0 ++ List.replicate (l0.length - (Lib.compact l0).length) 0) := Kd.R_of_own (by rw [hrow]; exact how) (fun k hk => .inl (ho0.1 k hk))
  have hT := Kd.R_take (m := (Lib.compact l0).length) hR (by rw [hrow]; exact hcl)
  rw [List.take_left] at hT
  exact ⟨_, he, by rw [← hr]; exact hT, hB.grown hgr hB.size (fun k hk => by cases hk; exact hge), Kept.of_grown hgr (Kept.refl _ _) (fun k hk => by cases hk; exact .inl hp)⟩
def exposure_Filter.T5 : Bool × List (List Nat × List Nat) := (true, [([], []), ([], []), ([1], [1]), ([0, 2], [0, 2]), ([], []), ([], []), ([], []), ([3, 4, 5, 6, 3], [3, 4, 5, 6])])
def exposure_Filter.B5 : List Nat := [0, 0, 2, 7, 0, 0, 0, 127]
theorem exposure_Filter.tab5 : rtab .any (opsOf Try.f24 5) = exposure_Filter.T5 := by kernel_rfl
theorem exposure_Filter.bits5 : waitsOk exposure_Filter.T5.2 exposure_Filter.B5 = true := by kernel_rfl
set_option maxHeartbeats 8000000 in
set_option maxRecDepth 100000 in
theorem exposure_Filter.calls (k : Nat) (A0 : Option Addr) (c0 : Nat) (l0 : List (S80)) (A1 : Option Addr) (c1 : Nat) (l1 : List (S50)) (a2 : Int) (a3_0 : Bool) (A3_1 : Option Addr) (c3_1 : Nat) (l3_1 : List Int) (A3_2 : Option Addr) (c3_2 : Nat) (l3_2 : List Int) (a4 : Int) (r : List Int) (w : World) (hr0 : Kd.C k80 w A0 l0.length l0) (hc0 : l0.length ≤ c0) (hr1 : Kd.C k50 w A1 l1.length l1) (hc1 : l1.length ≤ c1) (hr3_1 : Kd.C (Kd.int .u32) w A3_1 l3_1.length l3_1) (hc3_1 : l3_1.length ≤ c3_1) (hr3_2 : Kd.C (Kd.int .u32) w A3_2 l3_2.length l3_2) (hc3_2 : l3_2.length ≤ c3_2) (h : exposure_Filter.f k l0 l1 a2 a3_0 l3_1 l3_2 a4 = some r) :
  Calls Try.prog 24 #[.slice A0 l0.length c0, .slice A1 l1.length c1, .int .i64 a2, .agg #[.bool a3_0, .slice A3_1 l3_1.length c3_1, .slice A3_2 l3_2.length c3_2], .int .i64 a4] w fun e w' => ∃ v0_ : Value, e = .returned (v0_) ∧ Kd.R (Kd.int .i64) 3 w' w.heap.size (fun _ => True) v0_ r ∧ Below w.heap.size w w' := by
 have hu29 := Try.underlying29
 have hu80 := Try.underlying80
 have HR0 := mk0 hr0
 have HC0 := mk0 hc0
 clear hr0 hc0
 have HR1 := mk0 hr1
 have HC1 := mk0 hc1
 clear hr1 hc1
 have HR3_1 := mk0 hr3_1
 have HC3_1 := mk0 hc3_1
 clear hr3_1 hc3_1
 have HR3_2 := mk0 hr3_2
 have HC3_2 := mk0 hc3_2
 clear hr3_2 hc3_2
 have HB := mk0 (Below.refl w.heap.size w)
 have H : (exposure_Filter.l0 k l1 a2 a4 ([] : List Int) l0 (l0.length : Int) 0 a3_0 l3_1 l3_2) = some r := h
 clear h
 have H' := mk0 H
 clear H
 go_enter Try.func24, Try.ntmps24
 go_wp2_with (first | ((with_reducible refine gate_dst (N := 8) rfl ?_); refine box_event rfl (N := 8) rfl (cs := #[.bool a3_0, .slice A3_1 l3_1.length c3_1, .slice A3_2 l3_2.length c3_2]) (t := 29) (by go_simp <;> rfl) ?_; intro gb607 hg w6 hbox hb; have BK607 := mk0 (hbox); have GE607 := mk0 ((by rw [hg]; exact (bZ (by repeat (first | (with_reducible first | exact HB.out | apply bA | apply bN | apply b1) | exact HB.out))) : w.heap.size ≤ gb607)); replace HB := mk0 (below_step (by repeat (first | (with_reducible first | exact HB.out | apply bA | apply bN | apply b1) | exact HB.out)) hb); clear hb hbox hg))
 go_loopg [11, 16] k (fun kq v11 v16 w' => ∃ (x11_1 : List Int) (x16_1 : Int), v16 = .int .i64 x16_1 ∧ Aside0 (exposure_Filter.l0 kq l1 a2 a4 x11_1 l0 (l0.length : Int) x16_1 a3_0 l3_1 l3_2 = some r) ∧ Aside0 (kq ≤ k) ∧ Aside0 (Kd.R (Kd.int .i64) 3 w' w.heap.size (fun _ => True) v11 x11_1) ∧ Aside0 (w'.heap[gb607]? = some (.cells #[.bool a3_0, (.slice A3_1 l3_1.length c3_1), (.slice A3_2 l3_2.length c3_2)] 29 (0, 0))) ∧ Aside0 (Below w.heap.size w w'))
 case atStart => exact ⟨(([] : List Int)), (0), (by first | rfl | (simp; done) | (simp [*]; done)), H', ⟨Nat.le_refl _⟩, ⟨by first | exact Kd.R_nil _ _ _ _ _ | exact Kd.N_nil _ _ _ _ _ | exact Kd.V_nil _ _ _ _ _ | exact Kd.Q_nil _ _ _ _ _ | exact Kd.S_nil _ _ _ _ _⟩, ⟨by (with_reducible repeat (first | refine blk_drewN ?_ _ | refine blk_drew ?_ | refine blk_alloc ?_ _)); exact BK607.out⟩, ⟨by repeat (first | (with_reducible first | exact HB.out | apply bA | apply bN | apply b1 | refine bS ?_ GE607.out) | exact HB.out)⟩⟩
 case round =>
  clear H'
  try clear c1
  try clear c2
  try clear p2
  try clear c3
  obtain ⟨x11_1, x16_1, rfl, HA, HK1, HO_11, BK607, HB⟩ := hrel
  cases gk with
  | zero => exact absurd HA.out (by simp [exposure_Filter.l0])
  | succ k1 =>
   have H := HA.out
   clear HA
   simp only [exposure_Filter.l0] at H
   by_cases c7 : x16_1 < (l0.length : Int)
   ·rw [if_pos c7] at H
    have c7b0 := decide_eq_true c7
    clear c7
    by_cases c8 : 0 ≤ x16_1
    ·rw [if_pos c8] at H
     have c8b0 := decide_eq_true c8
     clear c8
     by_cases c9 : x16_1 < (l0.length : Int)
     ·rw [if_pos c9] at H
      have c9b0 := decide_eq_true c9
      clear c9
      obtain ⟨t614, A10, H⟩ := bindA H
      obtain ⟨t615, A11, H⟩ := bindA H
      by_cases c12 : t615 = true
      ·subst c12
       have H1 : (if x11_1.length < 17592186044416 then (exposure_Filter.l0 k1 l1 a2 a4 (x11_1 ++ [(rd_T80 l0 x16_1).f0]) l0 (l0.length : Int) (wrap64 (x16_1 + 1)) a3_0 l3_1 l3_2) else (none)) = some r := by rw [if_pos rfl] at H; exact H
       clear H
       have H := H1
       clear H1
       by_cases c13 : x11_1.length < 17592186044416
       ·rw [if_pos c13] at H
        have LMc13 := mk0 c13
        clear c13
        obtain ⟨y616, hy616⟩ : ∃ y_ : List Int, y_ = (x11_1 ++ [(rd_T80 l0 x16_1).f0]) := ⟨_, rfl⟩
        replace H : (exposure_Filter.l0 k1 l1 a2 a4 y616 l0 (l0.length : Int) (wrap64 (x16_1 + 1)) a3_0 l3_1 l3_2) = some r := by rw [hy616]; exact H
        have Ny616 := mk0 hy616
        clear hy616
        have H' := mk0 H
        clear H
        have p612 : 0 ≤ (x16_1 : Int) := of_decide_eq_true (by assumption)
        have q612 : x16_1 < (l0.length : Int) := of_decide_eq_true (by assumption)
        obtain ⟨ad612, A612_8, c612_8, e612, hx612_0, hx612_1, hx612_2, hx612_3, hx612_4, hx612_5, hx612_6, hx612_7, hx612_8, hl612_8, hi612_8⟩ := at_T80 HR0.out x16_1 p612 q612
        cases e612
        replace hx612_0 := (HB.out.cell (World.block_lt_of_cell? w _ hx612_0)).trans hx612_0
        replace hx612_1 := (HB.out.cell (World.block_lt_of_cell? w _ hx612_1)).trans hx612_1
        replace hx612_2 := (HB.out.cell (World.block_lt_of_cell? w _ hx612_2)).trans hx612_2
        replace hx612_3 := (HB.out.cell (World.block_lt_of_cell? w _ hx612_3)).trans hx612_3
        replace hx612_4 := (HB.out.cell (World.block_lt_of_cell? w _ hx612_4)).trans hx612_4
        replace hx612_5 := (HB.out.cell (World.block_lt_of_cell? w _ hx612_5)).trans hx612_5
        replace hx612_6 := (HB.out.cell (World.block_lt_of_cell? w _ hx612_6)).trans hx612_6
        replace hx612_7 := (HB.out.cell (World.block_lt_of_cell? w _ hx612_7)).trans hx612_7
        replace hx612_8 := (HB.out.cell (World.block_lt_of_cell? w _ hx612_8)).trans hx612_8
        have HR612_8 := mk0 hi612_8
        have HC612_8 := mk0 hl612_8
        clear hi612_8 hl612_8
        replace p612 := eq_true p612
        replace q612 := eq_true q612
        try go_wp2_with (first | ((with_reducible refine gate_dst (N := 13) rfl ?_); refine box_event rfl (N := 13) rfl (cs := #[.int .i64 0, .string (⟨#[]⟩ : ByteArray), .int .i64 0, .int .i64 0, .int .i64 0, .int .i64 0, .int .i64 0, .int .i64 0, .slice none 0 0]) (t := 80) (by go_simp <;> rfl) ?_; intro gb613 hg w14 hbox hb; replace HO_11 := mk0 (Rb HO_11.out hb); have BK613 := mk0 (hbox); have GE613 := mk0 ((by rw [hg]; exact (bZ (by repeat (first | (with_reducible first | exact HB.out | apply bA | apply bN | apply b1 | refine bS ?_ GE607.out) | exact HB.out))) : w.heap.size ≤ gb613)); replace HB := mk0 (below_step (by repeat (first | (with_reducible first | exact HB.out | apply bA | apply bN | apply b1 | refine bS ?_ GE607.out) | exact HB.out)) hb); have NB607_613 := mk0 ((by rw [hg]; exact Nat.ne_of_lt (blk_lt (g := gb607) BK607.out) : gb607 ≠ gb613)); have NB613_607 := mk0 ((by rw [hg]; exact Nat.ne_of_gt (blk_lt (g := gb607) BK607.out) : gb613 ≠ gb607)); replace BK607 := mk0 (blk_below (g := gb607) BK607.out hb); clear hb hbox hg; have hnb15 := NB613_607.out; have hnc15 := NB607_613.out; have hcz16_0 : w14.cell? ⟨gb613, 0, none⟩ = some (.int .i64 0) := (blk_cell BK613.out 0).trans rfl; have hcz16_1 : w14.cell? ⟨gb613, 1, none⟩ = some (.string (⟨#[]⟩ : ByteArray)) := (blk_cell BK613.out 1).trans rfl; have hcz16_2 : w14.cell? ⟨gb613, 2, none⟩ = some (.int .i64 0) := (blk_cell BK613.out 2).trans rfl; have hcz16_3 : w14.cell? ⟨gb613, 3, none⟩ = some (.int .i64 0) := (blk_cell BK613.out 3).trans rfl; have hcz16_4 : w14.cell? ⟨gb613, 4, none⟩ = some (.int .i64 0) := (blk_cell BK613.out 4).trans rfl; have hcz16_5 : w14.cell? ⟨gb613, 5, none⟩ = some (.int .i64 0) := (blk_cell BK613.out 5).trans rfl; have hcz16_6 : w14.cell? ⟨gb613, 6, none⟩ = some (.int .i64 0) := (blk_cell BK613.out 6).trans rfl; have hcz16_7 : w14.cell? ⟨gb613, 7, none⟩ = some (.int .i64 0) := (blk_cell BK613.out 7).trans rfl; have hcz16_8 : w14.cell? ⟨gb613, 8, none⟩ = some (.slice none 0 0) := (blk_cell BK613.out 8).trans rfl; have hfz16_0 := blk_frozen BK613.out 0; have hfz16_1 := blk_frozen BK613.out 1; have hfz16_2 := blk_frozen BK613.out 2; have hfz16_3 := blk_frozen BK613.out 3; have hfz16_4 := blk_frozen BK613.out 4; have hfz16_5 := blk_frozen BK613.out 5; have hfz16_6 := blk_frozen BK613.out 6; have hfz16_7 := blk_frozen BK613.out 7; have hfz16_8 := blk_frozen BK613.out 8))
        have n0_ : Aside0 (Kd.R (Kd.int .i64) 3 (((((((((w14.setCell ⟨gb613, 0, none⟩ (.int .i64 ((rd_T80 l0 x16_1).f0))).setCell ⟨gb613, 1, none⟩ (.string ((rd_T80 l0 x16_1).f1))).setCell ⟨gb613, 2, none⟩ (.int .i64 ((rd_T80 l0 x16_1).f2))).setCell ⟨gb613, 3, none⟩ (.int .i64 ((rd_T80 l0 x16_1).f3))).setCell ⟨gb613, 4, none⟩ (.int .i64 ((rd_T80 l0 x16_1).f4))).setCell ⟨gb613, 5, none⟩ (.int .i64 ((rd_T80 l0 x16_1).f5))).setCell ⟨gb613, 6, none⟩ (.int .i64 ((rd_T80 l0 x16_1).f6))).setCell ⟨gb613, 7, none⟩ (.int .i64 ((rd_T80 l0 x16_1).f7))).setCell ⟨gb613, 8, none⟩ (.slice A612_8 ((rd_T80 l0 x16_1).f8.f0).length c612_8)) w.heap.size (fun _ => True) u11 x11_1) := ⟨by (with_reducible repeat (first | apply Kd.R_alloc | apply Kd.R_drewN | apply Kd.R_drew)); exact Rm (Rf (p := ⟨gb613, 8, none⟩) (Rf (p := ⟨gb613, 7, none⟩) (Rf (p := ⟨gb613, 6, none⟩) (Rf (p := ⟨gb613, 5, none⟩) (Rf (p := ⟨gb613, 4, none⟩) (Rf (p := ⟨gb613, 3, none⟩) (Rg 2 (Rg 1 (Rg 0 (Rt HO_11.out BK613.out (by decide)) (.int .i64 ((rd_T80 l0 x16_1).f0))) (.string ((rd_T80 l0 x16_1).f1))) (.int .i64 ((rd_T80 l0 x16_1).f2))) (fun _ hk => hk.2) (.int .i64 ((rd_T80 l0 x16_1).f3))) (fun _ hk => hk.2) (.int .i64 ((rd_T80 l0 x16_1).f4))) (fun _ hk => hk.2) (.int .i64 ((rd_T80 l0 x16_1).f5))) (fun _ hk => hk.2) (.int .i64 ((rd_T80 l0 x16_1).f6))) (fun _ hk => hk.2) (.int .i64 ((rd_T80 l0 x16_1).f7))) (fun _ hk => hk.2) (.slice A612_8 ((rd_T80 l0 x16_1).f8.f0).length c612_8)) tv⟩
        have n1_ : Aside0 ((((((((((w14.setCell ⟨gb613, 0, none⟩ (.int .i64 ((rd_T80 l0 x16_1).f0))).setCell ⟨gb613, 1, none⟩ (.string ((rd_T80 l0 x16_1).f1))).setCell ⟨gb613, 2, none⟩ (.int .i64 ((rd_T80 l0 x16_1).f2))).setCell ⟨gb613, 3, none⟩ (.int .i64 ((rd_T80 l0 x16_1).f3))).setCell ⟨gb613, 4, none⟩ (.int .i64 ((rd_T80 l0 x16_1).f4))).setCell ⟨gb613, 5, none⟩ (.int .i64 ((rd_T80 l0 x16_1).f5))).setCell ⟨gb613, 6, none⟩ (.int .i64 ((rd_T80 l0 x16_1).f6))).setCell ⟨gb613, 7, none⟩ (.int .i64 ((rd_T80 l0 x16_1).f7))).setCell ⟨gb613, 8, none⟩ (.slice A612_8 ((rd_T80 l0 x16_1).f8.f0).length c612_8)).heap[gb607]? = some (.cells #[.bool a3_0, .slice A3_1 l3_1.length c3_1, .slice A3_2 l3_2.length c3_2] 29 (0, 0))) := ⟨by (with_reducible repeat (first | refine blk_drewN ?_ _ | refine blk_drew ?_ | refine blk_alloc ?_ _)); refine blk_far ?_ NB607_613.out _; (with_reducible repeat (first | refine blk_drewN ?_ _ | refine blk_drew ?_ | refine blk_alloc ?_ _)); refine blk_far ?_ NB607_613.out _; (with_reducible repeat (first | refine blk_drewN ?_ _ | refine blk_drew ?_ | refine blk_alloc ?_ _)); refine blk_far ?_ NB607_613.out _; (with_reducible repeat (first | refine blk_drewN ?_ _ | refine blk_drew ?_ | refine blk_alloc ?_ _)); refine blk_far ?_ NB607_613.out _; (with_reducible repeat (first | refine blk_drewN ?_ _ | refine blk_drew ?_ | refine blk_alloc ?_ _)); refine blk_far ?_ NB607_613.out _; (with_reducible repeat (first | refine blk_drewN ?_ _ | refine blk_drew ?_ | refine blk_alloc ?_ _)); refine blk_far ?_ NB607_613.out _; (with_reducible repeat (first | refine blk_drewN ?_ _ | refine blk_drew ?_ | refine blk_alloc ?_ _)); refine blk_far ?_ NB607_613.out _; (with_reducible repeat (first | refine blk_drewN ?_ _ | refine blk_drew ?_ | refine blk_alloc ?_ _)); refine blk_far ?_ NB607_613.out _; (with_reducible repeat (first | refine blk_drewN ?_ _ | refine blk_drew ?_ | refine blk_alloc ?_ _)); refine blk_far ?_ NB607_613.out _; (with_reducible repeat (first | refine blk_drewN ?_ _ | refine blk_drew ?_ | refine blk_alloc ?_ _)); exact BK607.out⟩
        have n2_ : Aside0 ((((((((((w14.setCell ⟨gb613, 0, none⟩ (.int .i64 ((rd_T80 l0 x16_1).f0))).setCell ⟨gb613, 1, none⟩ (.string ((rd_T80 l0 x16_1).f1))).setCell ⟨gb613, 2, none⟩ (.int .i64 ((rd_T80 l0 x16_1).f2))).setCell ⟨gb613, 3, none⟩ (.int .i64 ((rd_T80 l0 x16_1).f3))).setCell ⟨gb613, 4, none⟩ (.int .i64 ((rd_T80 l0 x16_1).f4))).setCell ⟨gb613, 5, none⟩ (.int .i64 ((rd_T80 l0 x16_1).f5))).setCell ⟨gb613, 6, none⟩ (.int .i64 ((rd_T80 l0 x16_1).f6))).setCell ⟨gb613, 7, none⟩ (.int .i64 ((rd_T80 l0 x16_1).f7))).setCell ⟨gb613, 8, none⟩ (.slice A612_8 ((rd_T80 l0 x16_1).f8.f0).length c612_8)).heap[gb613]? = some (.cells #[.int .i64 ((rd_T80 l0 x16_1).f0), .string ((rd_T80 l0 x16_1).f1), .int .i64 ((rd_T80 l0 x16_1).f2), .int .i64 ((rd_T80 l0 x16_1).f3), .int .i64 ((rd_T80 l0 x16_1).f4), .int .i64 ((rd_T80 l0 x16_1).f5), .int .i64 ((rd_T80 l0 x16_1).f6), .int .i64 ((rd_T80 l0 x16_1).f7), .slice A612_8 ((rd_T80 l0 x16_1).f8.f0).length c612_8] 80 (0, 0))) := ⟨by (with_reducible repeat (first | refine blk_drewN ?_ _ | refine blk_drew ?_ | refine blk_alloc ?_ _)); refine blk_put (cs := #[.int .i64 ((rd_T80 l0 x16_1).f0), .string ((rd_T80 l0 x16_1).f1), .int .i64 ((rd_T80 l0 x16_1).f2), .int .i64 ((rd_T80 l0 x16_1).f3), .int .i64 ((rd_T80 l0 x16_1).f4), .int .i64 ((rd_T80 l0 x16_1).f5), .int .i64 ((rd_T80 l0 x16_1).f6), .int .i64 ((rd_T80 l0 x16_1).f7), .slice none 0 0]) ?_ 8 _ rfl; (with_reducible repeat (first | refine blk_drewN ?_ _ | refine blk_drew ?_ | refine blk_alloc ?_ _)); refine blk_put (cs := #[.int .i64 ((rd_T80 l0 x16_1).f0), .string ((rd_T80 l0 x16_1).f1), .int .i64 ((rd_T80 l0 x16_1).f2), .int .i64 ((rd_T80 l0 x16_1).f3), .int .i64 ((rd_T80 l0 x16_1).f4), .int .i64 ((rd_T80 l0 x16_1).f5), .int .i64 ((rd_T80 l0 x16_1).f6), .int .i64 0, .slice none 0 0]) ?_ 7 _ rfl; (with_reducible repeat (first | refine blk_drewN ?_ _ | refine blk_drew ?_ | refine blk_alloc ?_ _)); refine blk_put (cs := #[.int .i64 ((rd_T80 l0 x16_1).f0), .string ((rd_T80 l0 x16_1).f1), .int .i64 ((rd_T80 l0 x16_1).f2), .int .i64 ((rd_T80 l0 x16_1).f3), .int .i64 ((rd_T80 l0 x16_1).f4), .int .i64 ((rd_T80 l0 x16_1).f5), .int .i64 0, .int .i64 0, .slice none 0 0]) ?_ 6 _ rfl; (with_reducible repeat (first | refine blk_drewN ?_ _ | refine blk_drew ?_ | refine blk_alloc ?_ _)); refine blk_put (cs := #[.int .i64 ((rd_T80 l0 x16_1).f0), .string ((rd_T80 l0 x16_1).f1), .int .i64 ((rd_T80 l0 x16_1).f2), .int .i64 ((rd_T80 l0 x16_1).f3), .int .i64 ((rd_T80 l0 x16_1).f4), .int .i64 0, .int .i64 0, .int .i64 0, .slice none 0 0]) ?_ 5 _ rfl; (with_reducible repeat (first | refine blk_drewN ?_ _ | refine blk_drew ?_ | refine blk_alloc ?_ _)); refine blk_put (cs := #[.int .i64 ((rd_T80 l0 x16_1).f0), .string ((rd_T80 l0 x16_1).f1), .int .i64 ((rd_T80 l0 x16_1).f2), .int .i64 ((rd_T80 l0 x16_1).f3), .int .i64 0, .int .i64 0, .int .i64 0, .int .i64 0, .slice none 0 0]) ?_ 4 _ rfl; (with_reducible repeat (first | refine blk_drewN ?_ _ | refine blk_drew ?_ | refine blk_alloc ?_ _)); refine blk_put (cs := #[.int .i64 ((rd_T80 l0 x16_1).f0), .string ((rd_T80 l0 x16_1).f1), .int .i64 ((rd_T80 l0 x16_1).f2), .int .i64 0, .int .i64 0, .int .i64 0, .int .i64 0, .int .i64 0, .slice none 0 0]) ?_ 3 _ rfl; (with_reducible repeat (first | refine blk_drewN ?_ _ | refine blk_drew ?_ | refine blk_alloc ?_ _)); refine blk_put (cs := #[.int .i64 ((rd_T80 l0 x16_1).f0), .string ((rd_T80 l0 x16_1).f1), .int .i64 0, .int .i64 0, .int .i64 0, .int .i64 0, .int .i64 0, .int .i64 0, .slice none 0 0]) ?_ 2 _ rfl; (with_reducible repeat (first | refine blk_drewN ?_ _ | refine blk_drew ?_ | refine blk_alloc ?_ _)); refine blk_put (cs := #[.int .i64 ((rd_T80 l0 x16_1).f0), .string (⟨#[]⟩ : ByteArray), .int .i64 0, .int .i64 0, .int .i64 0, .int .i64 0, .int .i64 0, .int .i64 0, .slice none 0 0]) ?_ 1 _ rfl; (with_reducible repeat (first | refine blk_drewN ?_ _ | refine blk_drew ?_ | refine blk_alloc ?_ _)); refine blk_put (cs := #[.int .i64 0, .string (⟨#[]⟩ : ByteArray), .int .i64 0, .int .i64 0, .int .i64 0, .int .i64 0, .int .i64 0, .int .i64 0, .slice none 0 0]) ?_ 0 _ rfl; (with_reducible repeat (first | refine blk_drewN ?_ _ | refine blk_drew ?_ | refine blk_alloc ?_ _)); exact BK613.out⟩
        have n3_ : Aside0 (Below w.heap.size w (((((((((w14.setCell ⟨gb613, 0, none⟩ (.int .i64 ((rd_T80 l0 x16_1).f0))).setCell ⟨gb613, 1, none⟩ (.string ((rd_T80 l0 x16_1).f1))).setCell ⟨gb613, 2, none⟩ (.int .i64 ((rd_T80 l0 x16_1).f2))).setCell ⟨gb613, 3, none⟩ (.int .i64 ((rd_T80 l0 x16_1).f3))).setCell ⟨gb613, 4, none⟩ (.int .i64 ((rd_T80 l0 x16_1).f4))).setCell ⟨gb613, 5, none⟩ (.int .i64 ((rd_T80 l0 x16_1).f5))).setCell ⟨gb613, 6, none⟩ (.int .i64 ((rd_T80 l0 x16_1).f6))).setCell ⟨gb613, 7, none⟩ (.int .i64 ((rd_T80 l0 x16_1).f7))).setCell ⟨gb613, 8, none⟩ (.slice A612_8 ((rd_T80 l0 x16_1).f8.f0).length c612_8))) := ⟨by repeat (first | (with_reducible first | exact HB.out | apply bA | apply bN | apply b1 | refine bS ?_ GE607.out | refine bS ?_ GE613.out) | exact HB.out)⟩
        (try clear HO_11)
        (try clear BK607)
        (try clear BK613)
        (try clear HB)
        generalize (((((((((w14.setCell ⟨gb613, 0, none⟩ (.int .i64 ((rd_T80 l0 x16_1).f0))).setCell ⟨gb613, 1, none⟩ (.string ((rd_T80 l0 x16_1).f1))).setCell ⟨gb613, 2, none⟩ (.int .i64 ((rd_T80 l0 x16_1).f2))).setCell ⟨gb613, 3, none⟩ (.int .i64 ((rd_T80 l0 x16_1).f3))).setCell ⟨gb613, 4, none⟩ (.int .i64 ((rd_T80 l0 x16_1).f4))).setCell ⟨gb613, 5, none⟩ (.int .i64 ((rd_T80 l0 x16_1).f5))).setCell ⟨gb613, 6, none⟩ (.int .i64 ((rd_T80 l0 x16_1).f6))).setCell ⟨gb613, 7, none⟩ (.int .i64 ((rd_T80 l0 x16_1).f7))).setCell ⟨gb613, 8, none⟩ (.slice A612_8 ((rd_T80 l0 x16_1).f8.f0).length c612_8)) = w17 at n0_ n1_ n2_ n3_ ⊢
        have HO_11 := n0_
        have BK607 := n1_
        have BK613 := n2_
        have HB := n3_
        clear n0_ n1_ n2_ n3_
        replace HO_11 := mk0 (Kd.R_drew HO_11.out)
        replace BK607 := mk0 (blk_drew BK607.out)
        replace BK613 := mk0 (blk_drew BK613.out)
        replace HB := mk0 (b1 HB.out)
        refine start_ (n := 8) (S := fun w' => w'.cell? ⟨gb613, 0, none⟩ = some (.int .i64 ((rd_T80 l0 x16_1).f0)) ∧ w'.cell? ⟨gb613, 1, none⟩ = some (.string ((rd_T80 l0 x16_1).f1)) ∧ w'.cell? ⟨gb613, 2, none⟩ = some (.int .i64 ((rd_T80 l0 x16_1).f2)) ∧ w'.cell? ⟨gb613, 3, none⟩ = some (.int .i64 ((rd_T80 l0 x16_1).f3)) ∧ w'.cell? ⟨gb613, 4, none⟩ = some (.int .i64 ((rd_T80 l0 x16_1).f4)) ∧ w'.cell? ⟨gb613, 5, none⟩ = some (.int .i64 ((rd_T80 l0 x16_1).f5)) ∧ w'.cell? ⟨gb613, 6, none⟩ = some (.int .i64 ((rd_T80 l0 x16_1).f6)) ∧ w'.cell? ⟨gb613, 7, none⟩ = some (.int .i64 ((rd_T80 l0 x16_1).f7)) ∧ w'.cell? ⟨gb613, 8, none⟩ = some (.slice A612_8 ((rd_T80 l0 x16_1).f8.f0).length c612_8) ∧ w'.cell? ⟨gb607, 0, none⟩ = some (.bool a3_0) ∧ w'.cell? ⟨gb607, 1, none⟩ = some (.slice A3_1 l3_1.length c3_1) ∧ w'.cell? ⟨gb607, 2, none⟩ = some (.slice A3_2 l3_2.length c3_2)) (ds := []) (bv 8 0) (by kernel_rfl) rfl rfl ⟨(blk_cell BK613.out 0).trans rfl, (blk_cell BK613.out 1).trans rfl, (blk_cell BK613.out 2).trans rfl, (blk_cell BK613.out 3).trans rfl, (blk_cell BK613.out 4).trans rfl, (blk_cell BK613.out 5).trans rfl, (blk_cell BK613.out 6).trans rfl, (blk_cell BK613.out 7).trans rfl, (blk_cell BK613.out 8).trans rfl, (blk_cell BK607.out 0).trans rfl, (blk_cell BK607.out 1).trans rfl, (blk_cell BK607.out 2).trans rfl⟩ (fun hHeld => ?_); refine with_tabW exposure_Filter.tab5 exposure_Filter.bits5 (fun HT_ HW_ => ?_)
        generalize w17.drew = w18 at HO_11 BK607 BK613 HB hHeld ⊢
        refine puA (i := 0) (N := 20) (v := ?_) (a' := ?_) (bv 8 1) HT_ ?_ ?_ ?_; rotate_left; (intro w'; go_simp; with_reducible rfl); rotate_left; (simp only [Act.put, sA, sZ, sS, i64_w, i32_w]; rfl)
        refine puA (i := 1) (N := 21) (v := ?_) (a' := ?_) (bv 8 3) HT_ ?_ ?_ ?_; rotate_left; (intro w'; go_simp; with_reducible rfl); rotate_left; (simp only [Act.put, sA, sZ, sS, i64_w, i32_w]; rfl)
        refine puA (i := 4) (N := 24) (v := ?_) (a' := ?_) (bv 8 19) HT_ ?_ ?_ ?_; rotate_left; (intro w'; go_simp; with_reducible rfl); rotate_left; (simp only [Act.put, sA, sZ, sS, i64_w, i32_w]; rfl)
        refine puA (i := 6) (N := 26) (v := ?_) (a' := ?_) (bv 8 83) HT_ ?_ ?_ ?_; rotate_left; (intro w'; go_simp; with_reducible rfl); rotate_left; (simp only [Act.put, sA, sZ, sS, i64_w, i32_w]; rfl)
        refine take_ (i := 2) (N := some 22) (v := ?_) (a' := ?_) (bv 8 87) rfl rfl (take_ofW HT_.out HW_.out (by kernel_rfl)) (fun _ _ _ h => h) (Or.inl ⟨by rfl, ?_⟩) hHeld ?_ ?_; rotate_left; (rintro w' ⟨s0, s1, s2, s3, s4, s5, s6, s7, s8, s9, s10, s11⟩; go_simp; with_reducible rfl); rotate_left; (simp only [Act.put, sA, sZ, sS, i64_w, i32_w]; rfl)
        refine take_ (i := 5) (N := some 25) (v := ?_) (a' := ?_) (bv 8 119) rfl rfl (take_ofW HT_.out HW_.out (by kernel_rfl)) (fun _ _ _ h => h) (Or.inl ⟨by rfl, ?_⟩) hHeld ?_ ?_; rotate_left; (rintro w' ⟨s0, s1, s2, s3, s4, s5, s6, s7, s8, s9, s10, s11⟩; go_simp; with_reducible rfl); rotate_left; (simp only [Act.put, sA, sZ, sS, i64_w, i32_w]; rfl)
        refine one_ (i := 3) (N := some 23) (bv 8 127) rfl rfl (one_of HT_.out (by kernel_rfl)) (by decide) (fun K hK => ?_)
        refine goes_ Try.func17 (by kernel_rfl) rfl #[.slice A1 l1.length c1, .int .i64 ((rd_T80 l0 x16_1).f0)] (by rfl) rfl rfl (by (try simp only [mA, mC, mN]); first | done | rfl | (simp only [lD, lT]; rfl)) ?_
        with_reducible refine (exposure_Count.calls k1 _ _ l1 ((rd_T80 l0 x16_1).f0) t614 _ ?side1 ?side2 A10.out).mono ?_
        (case side1 => exact (Cb HR1.out HB.out))
        (case side2 => exact HC1.out)
        rintro e w19 ⟨rfl, hb⟩
        refine ⟨_, rfl, ?_⟩
        replace HO_11 := mk0 (Rb HO_11.out hb)
        replace BK607 := mk0 (blk_below (g := gb607) BK607.out hb)
        replace BK613 := mk0 (blk_below (g := gb613) BK613.out hb)
        replace HB := mk0 (below_step (by repeat (first | (with_reducible first | exact HB.out | apply bA | apply bN | apply b1 | refine bS ?_ GE607.out | refine bS ?_ GE613.out) | exact HB.out)) hb)
        refine hK.out _ _ ⟨(blk_cell BK613.out 0).trans rfl, (blk_cell BK613.out 1).trans rfl, (blk_cell BK613.out 2).trans rfl, (blk_cell BK613.out 3).trans rfl, (blk_cell BK613.out 4).trans rfl, (blk_cell BK613.out 5).trans rfl, (blk_cell BK613.out 6).trans rfl, (blk_cell BK613.out 7).trans rfl, (blk_cell BK613.out 8).trans rfl, (blk_cell BK607.out 0).trans rfl, (blk_cell BK607.out 1).trans rfl, (blk_cell BK607.out 2).trans rfl⟩ (fun hHeld => ?_)
        clear hK K
        refine norm_ (a' := ?_) ?_ ?_
        rotate_left
        ·show Act.put _ (some 23) _ = _
         simp only [Act.put, sA, sZ, sS, i64_w, i32_w]
         rfl
        refine one_ (i := 7) (N := some 27) (bv 8 255) rfl rfl (one_of HT_.out (by kernel_rfl)) (by decide) (fun K hK => ?_)
        refine goes_ Try.func13 (by kernel_rfl) rfl #[.int .i64 t614, .int .i64 a2, .agg #[.bool a3_0, .slice A3_1 l3_1.length c3_1, .slice A3_2 l3_2.length c3_2], .int .i64 a4] (by rfl) rfl rfl (by (try simp only [mA, mC, mN]); first | done | rfl | (simp only [lD, lT]; rfl)) ?_
        with_reducible refine (exposure_Eligible.calls k1 t614 a2 a3_0 _ _ l3_1 _ _ l3_2 a4 true _ ?side1 ?side2 ?side3 ?side4 A11.out).mono ?_
        (case side1 => exact (Cb HR3_1.out HB.out))
        (case side2 => exact HC3_1.out)
        (case side3 => exact (Cb HR3_2.out HB.out))
        (case side4 => exact HC3_2.out)
        rintro e w20 ⟨rfl, hb⟩
        refine ⟨_, rfl, ?_⟩
        replace HO_11 := mk0 (Rb HO_11.out hb)
        replace BK607 := mk0 (blk_below (g := gb607) BK607.out hb)
        replace BK613 := mk0 (blk_below (g := gb613) BK613.out hb)
        replace HB := mk0 (below_step (by repeat (first | (with_reducible first | exact HB.out | apply bA | apply bN | apply b1 | refine bS ?_ GE607.out | refine bS ?_ GE613.out) | exact HB.out)) hb)
        refine hK.out _ _ ⟨(blk_cell BK613.out 0).trans rfl, (blk_cell BK613.out 1).trans rfl, (blk_cell BK613.out 2).trans rfl, (blk_cell BK613.out 3).trans rfl, (blk_cell BK613.out 4).trans rfl, (blk_cell BK613.out 5).trans rfl, (blk_cell BK613.out 6).trans rfl, (blk_cell BK613.out 7).trans rfl, (blk_cell BK613.out 8).trans rfl, (blk_cell BK607.out 0).trans rfl, (blk_cell BK607.out 1).trans rfl, (blk_cell BK607.out 2).trans rfl⟩ (fun hHeld => ?_)
        clear hK K
        refine norm_ (a' := ?_) ?_ ?_
        rotate_left
        ·show Act.put _ (some 27) _ = _
         simp only [Act.put, sA, sZ, sS, i64_w, i32_w]
         rfl
        refine done_ (done_of HT_.out (by kernel_rfl)) ?_
        have hcz21_0 : w20.cell? ⟨gb613, 0, none⟩ = some (.int .i64 ((rd_T80 l0 x16_1).f0)) := (blk_cell BK613.out 0).trans rfl
        have hcz21_1 : w20.cell? ⟨gb613, 1, none⟩ = some (.string ((rd_T80 l0 x16_1).f1)) := (blk_cell BK613.out 1).trans rfl
        have hcz21_2 : w20.cell? ⟨gb613, 2, none⟩ = some (.int .i64 ((rd_T80 l0 x16_1).f2)) := (blk_cell BK613.out 2).trans rfl
        have hcz21_3 : w20.cell? ⟨gb613, 3, none⟩ = some (.int .i64 ((rd_T80 l0 x16_1).f3)) := (blk_cell BK613.out 3).trans rfl
        have hcz21_4 : w20.cell? ⟨gb613, 4, none⟩ = some (.int .i64 ((rd_T80 l0 x16_1).f4)) := (blk_cell BK613.out 4).trans rfl
        have hcz21_5 : w20.cell? ⟨gb613, 5, none⟩ = some (.int .i64 ((rd_T80 l0 x16_1).f5)) := (blk_cell BK613.out 5).trans rfl
        have hcz21_6 : w20.cell? ⟨gb613, 6, none⟩ = some (.int .i64 ((rd_T80 l0 x16_1).f6)) := (blk_cell BK613.out 6).trans rfl
        have hcz21_7 : w20.cell? ⟨gb613, 7, none⟩ = some (.int .i64 ((rd_T80 l0 x16_1).f7)) := (blk_cell BK613.out 7).trans rfl
        have hcz21_8 : w20.cell? ⟨gb613, 8, none⟩ = some (.slice A612_8 ((rd_T80 l0 x16_1).f8.f0).length c612_8) := (blk_cell BK613.out 8).trans rfl
        have hfz21_0 := blk_frozen BK613.out 0
        have hfz21_1 := blk_frozen BK613.out 1
        have hfz21_2 := blk_frozen BK613.out 2
        have hfz21_3 := blk_frozen BK613.out 3
        have hfz21_4 := blk_frozen BK613.out 4
        have hfz21_5 := blk_frozen BK613.out 5
        have hfz21_6 := blk_frozen BK613.out 6
        have hfz21_7 := blk_frozen BK613.out 7
        have hfz21_8 := blk_frozen BK613.out 8
        try go_wp2_with (first | ((with_reducible refine gate_builtin (b := .append) (xs := #[.tmp 28, .tmp 31]) rfl ?_); at_builtin; refine Kd.R_append (Kd.int .i64) (w0 := w) w.heap.size rfl (.tmp 28) (.tmp 31) 46 3 (.int .i64 0) 8 rfl Try.underlying46 info3 rfl (by decide) (by omega) u11 x11_1 ((rd_T80 l0 x16_1).f0) [.int .i64 ((rd_T80 l0 x16_1).f0)] (fun _ => True) (fun _ => False) rfl rfl ?aP (fun _ hk => hk.elim) ?aF ?aO ?aB ?aS ?aL ?_; (case aP => exact rfl); (case aB => exact (by repeat (first | (with_reducible first | exact HB.out | apply bA | apply bN | apply b1 | refine bS ?_ GE607.out | refine bS ?_ GE613.out) | exact HB.out))); (case aF => exact tv); (case aO => exact HO_11.out); (case aS => exact (bZ (by repeat (first | (with_reducible first | exact HB.out | apply bA | apply bN | apply b1 | refine bS ?_ GE607.out | refine bS ?_ GE613.out) | exact HB.out)))); (case aL => have := LMc13.out; omega); intro v617 w22 ho hb hg hat; rw [← Ny616.out] at ho; replace BK607 := mk0 (blk_grown (g := gb607) BK607.out hg (Kd.R_ne HO_11.out BK607.out (by decide))); replace BK613 := mk0 (blk_grown (g := gb613) BK613.out hg (Kd.R_ne HO_11.out BK613.out (by decide))); replace HB := mk0 (hb); have HO618 := mk0 (ho); clear HO_11; clear ho hb hg hat))
        go_roundg k1
        case measure => have := HK1.out; omega
        case rel => exact ⟨(y616), (wrap64 (x16_1 + 1)), (by first | rfl | (simp; done) | (simp [*]; done)), H', ⟨by have := HK1.out; omega⟩, ⟨by (with_reducible repeat (first | apply Kd.R_alloc | apply Kd.R_drewN | apply Kd.R_drew)); exact HO618.out⟩, ⟨by (with_reducible repeat (first | refine blk_drewN ?_ _ | refine blk_drew ?_ | refine blk_alloc ?_ _)); exact BK607.out⟩, ⟨by repeat (first | (with_reducible first | exact HB.out | apply bA | apply bN | apply b1 | refine bS ?_ GE607.out | refine bS ?_ GE613.out) | exact HB.out)⟩⟩
       ·rw [if_neg c13] at H
        exact absurd H (by simp)
      ·replace c12 := Bool.eq_false_iff.mpr c12
       subst c12
       have H1 : (exposure_Filter.l0 k1 l1 a2 a4 x11_1 l0 (l0.length : Int) (wrap64 (x16_1 + 1)) a3_0 l3_1 l3_2) = some r := by rw [if_neg (show ¬ (false = true) by decide)] at H; exact H
       clear H
       have H := H1
       clear H1
       have H' := mk0 H
       clear H
       have p612 : 0 ≤ (x16_1 : Int) := of_decide_eq_true (by assumption)
       have q612 : x16_1 < (l0.length : Int) := of_decide_eq_true (by assumption)
       obtain ⟨ad612, A612_8, c612_8, e612, hx612_0, hx612_1, hx612_2, hx612_3, hx612_4, hx612_5, hx612_6, hx612_7, hx612_8, hl612_8, hi612_8⟩ := at_T80 HR0.out x16_1 p612 q612
       cases e612
       replace hx612_0 := (HB.out.cell (World.block_lt_of_cell? w _ hx612_0)).trans hx612_0
       replace hx612_1 := (HB.out.cell (World.block_lt_of_cell? w _ hx612_1)).trans hx612_1
       replace hx612_2 := (HB.out.cell (World.block_lt_of_cell? w _ hx612_2)).trans hx612_2
       replace hx612_3 := (HB.out.cell (World.block_lt_of_cell? w _ hx612_3)).trans hx612_3
       replace hx612_4 := (HB.out.cell (World.block_lt_of_cell? w _ hx612_4)).trans hx612_4
       replace hx612_5 := (HB.out.cell (World.block_lt_of_cell? w _ hx612_5)).trans hx612_5
       replace hx612_6 := (HB.out.cell (World.block_lt_of_cell? w _ hx612_6)).trans hx612_6
       replace hx612_7 := (HB.out.cell (World.block_lt_of_cell? w _ hx612_7)).trans hx612_7
       replace hx612_8 := (HB.out.cell (World.block_lt_of_cell? w _ hx612_8)).trans hx612_8
       have HR612_8 := mk0 hi612_8
       have HC612_8 := mk0 hl612_8
       clear hi612_8 hl612_8
       replace p612 := eq_true p612
       replace q612 := eq_true q612
       try go_wp2_with (first | ((with_reducible refine gate_dst (N := 13) rfl ?_); refine box_event rfl (N := 13) rfl (cs := #[.int .i64 0, .string (⟨#[]⟩ : ByteArray), .int .i64 0, .int .i64 0, .int .i64 0, .int .i64 0, .int .i64 0, .int .i64 0, .slice none 0 0]) (t := 80) (by go_simp <;> rfl) ?_; intro gb613 hg w23 hbox hb; replace HO_11 := mk0 (Rb HO_11.out hb); have BK613 := mk0 (hbox); have GE613 := mk0 ((by rw [hg]; exact (bZ (by repeat (first | (with_reducible first | exact HB.out | apply bA | apply bN | apply b1 | refine bS ?_ GE607.out) | exact HB.out))) : w.heap.size ≤ gb613)); replace HB := mk0 (below_step (by repeat (first | (with_reducible first | exact HB.out | apply bA | apply bN | apply b1 | refine bS ?_ GE607.out) | exact HB.out)) hb); have NB607_613 := mk0 ((by rw [hg]; exact Nat.ne_of_lt (blk_lt (g := gb607) BK607.out) : gb607 ≠ gb613)); have NB613_607 := mk0 ((by rw [hg]; exact Nat.ne_of_gt (blk_lt (g := gb607) BK607.out) : gb613 ≠ gb607)); replace BK607 := mk0 (blk_below (g := gb607) BK607.out hb); clear hb hbox hg; have hnb24 := NB613_607.out; have hnc24 := NB607_613.out; have hcz25_0 : w23.cell? ⟨gb613, 0, none⟩ = some (.int .i64 0) := (blk_cell BK613.out 0).trans rfl; have hcz25_1 : w23.cell? ⟨gb613, 1, none⟩ = some (.string (⟨#[]⟩ : ByteArray)) := (blk_cell BK613.out 1).trans rfl; have hcz25_2 : w23.cell? ⟨gb613, 2, none⟩ = some (.int .i64 0) := (blk_cell BK613.out 2).trans rfl; have hcz25_3 : w23.cell? ⟨gb613, 3, none⟩ = some (.int .i64 0) := (blk_cell BK613.out 3).trans rfl; have hcz25_4 : w23.cell? ⟨gb613, 4, none⟩ = some (.int .i64 0) := (blk_cell BK613.out 4).trans rfl; have hcz25_5 : w23.cell? ⟨gb613, 5, none⟩ = some (.int .i64 0) := (blk_cell BK613.out 5).trans rfl; have hcz25_6 : w23.cell? ⟨gb613, 6, none⟩ = some (.int .i64 0) := (blk_cell BK613.out 6).trans rfl; have hcz25_7 : w23.cell? ⟨gb613, 7, none⟩ = some (.int .i64 0) := (blk_cell BK613.out 7).trans rfl; have hcz25_8 : w23.cell? ⟨gb613, 8, none⟩ = some (.slice none 0 0) := (blk_cell BK613.out 8).trans rfl; have hfz25_0 := blk_frozen BK613.out 0; have hfz25_1 := blk_frozen BK613.out 1; have hfz25_2 := blk_frozen BK613.out 2; have hfz25_3 := blk_frozen BK613.out 3; have hfz25_4 := blk_frozen BK613.out 4; have hfz25_5 := blk_frozen BK613.out 5; have hfz25_6 := blk_frozen BK613.out 6; have hfz25_7 := blk_frozen BK613.out 7; have hfz25_8 := blk_frozen BK613.out 8))
       have n0_ : Aside0 (Kd.R (Kd.int .i64) 3 (((((((((w23.setCell ⟨gb613, 0, none⟩ (.int .i64 ((rd_T80 l0 x16_1).f0))).setCell ⟨gb613, 1, none⟩ (.string ((rd_T80 l0 x16_1).f1))).setCell ⟨gb613, 2, none⟩ (.int .i64 ((rd_T80 l0 x16_1).f2))).setCell ⟨gb613, 3, none⟩ (.int .i64 ((rd_T80 l0 x16_1).f3))).setCell ⟨gb613, 4, none⟩ (.int .i64 ((rd_T80 l0 x16_1).f4))).setCell ⟨gb613, 5, none⟩ (.int .i64 ((rd_T80 l0 x16_1).f5))).setCell ⟨gb613, 6, none⟩ (.int .i64 ((rd_T80 l0 x16_1).f6))).setCell ⟨gb613, 7, none⟩ (.int .i64 ((rd_T80 l0 x16_1).f7))).setCell ⟨gb613, 8, none⟩ (.slice A612_8 ((rd_T80 l0 x16_1).f8.f0).length c612_8)) w.heap.size (fun _ => True) u11 x11_1) := ⟨by (with_reducible repeat (first | apply Kd.R_alloc | apply Kd.R_drewN | apply Kd.R_drew)); exact Rm (Rf (p := ⟨gb613, 8, none⟩) (Rf (p := ⟨gb613, 7, none⟩) (Rf (p := ⟨gb613, 6, none⟩) (Rf (p := ⟨gb613, 5, none⟩) (Rf (p := ⟨gb613, 4, none⟩) (Rf (p := ⟨gb613, 3, none⟩) (Rg 2 (Rg 1 (Rg 0 (Rt HO_11.out BK613.out (by decide)) (.int .i64 ((rd_T80 l0 x16_1).f0))) (.string ((rd_T80 l0 x16_1).f1))) (.int .i64 ((rd_T80 l0 x16_1).f2))) (fun _ hk => hk.2) (.int .i64 ((rd_T80 l0 x16_1).f3))) (fun _ hk => hk.2) (.int .i64 ((rd_T80 l0 x16_1).f4))) (fun _ hk => hk.2) (.int .i64 ((rd_T80 l0 x16_1).f5))) (fun _ hk => hk.2) (.int .i64 ((rd_T80 l0 x16_1).f6))) (fun _ hk => hk.2) (.int .i64 ((rd_T80 l0 x16_1).f7))) (fun _ hk => hk.2) (.slice A612_8 ((rd_T80 l0 x16_1).f8.f0).length c612_8)) tv⟩
       have n1_ : Aside0 ((((((((((w23.setCell ⟨gb613, 0, none⟩ (.int .i64 ((rd_T80 l0 x16_1).f0))).setCell ⟨gb613, 1, none⟩ (.string ((rd_T80 l0 x16_1).f1))).setCell ⟨gb613, 2, none⟩ (.int .i64 ((rd_T80 l0 x16_1).f2))).setCell ⟨gb613, 3, none⟩ (.int .i64 ((rd_T80 l0 x16_1).f3))).setCell ⟨gb613, 4, none⟩ (.int .i64 ((rd_T80 l0 x16_1).f4))).setCell ⟨gb613, 5, none⟩ (.int .i64 ((rd_T80 l0 x16_1).f5))).setCell ⟨gb613, 6, none⟩ (.int .i64 ((rd_T80 l0 x16_1).f6))).setCell ⟨gb613, 7, none⟩ (.int .i64 ((rd_T80 l0 x16_1).f7))).setCell ⟨gb613, 8, none⟩ (.slice A612_8 ((rd_T80 l0 x16_1).f8.f0).length c612_8)).heap[gb607]? = some (.cells #[.bool a3_0, .slice A3_1 l3_1.length c3_1, .slice A3_2 l3_2.length c3_2] 29 (0, 0))) := ⟨by (with_reducible repeat (first | refine blk_drewN ?_ _ | refine blk_drew ?_ | refine blk_alloc ?_ _)); refine blk_far ?_ NB607_613.out _; (with_reducible repeat (first | refine blk_drewN ?_ _ | refine blk_drew ?_ | refine blk_alloc ?_ _)); refine blk_far ?_ NB607_613.out _; (with_reducible repeat (first | refine blk_drewN ?_ _ | refine blk_drew ?_ | refine blk_alloc ?_ _)); refine blk_far ?_ NB607_613.out _; (with_reducible repeat (first | refine blk_drewN ?_ _ | refine blk_drew ?_ | refine blk_alloc ?_ _)); refine blk_far ?_ NB607_613.out _; (with_reducible repeat (first | refine blk_drewN ?_ _ | refine blk_drew ?_ | refine blk_alloc ?_ _)); refine blk_far ?_ NB607_613.out _; (with_reducible repeat (first | refine blk_drewN ?_ _ | refine blk_drew ?_ | refine blk_alloc ?_ _)); refine blk_far ?_ NB607_613.out _; (with_reducible repeat (first | refine blk_drewN ?_ _ | refine blk_drew ?_ | refine blk_alloc ?_ _)); refine blk_far ?_ NB607_613.out _; (with_reducible repeat (first | refine blk_drewN ?_ _ | refine blk_drew ?_ | refine blk_alloc ?_ _)); refine blk_far ?_ NB607_613.out _; (with_reducible repeat (first | refine blk_drewN ?_ _ | refine blk_drew ?_ | refine blk_alloc ?_ _)); refine blk_far ?_ NB607_613.out _; (with_reducible repeat (first | refine blk_drewN ?_ _ | refine blk_drew ?_ | refine blk_alloc ?_ _)); exact BK607.out⟩
       have n2_ : Aside0 ((((((((((w23.setCell ⟨gb613, 0, none⟩ (.int .i64 ((rd_T80 l0 x16_1).f0))).setCell ⟨gb613, 1, none⟩ (.string ((rd_T80 l0 x16_1).f1))).setCell ⟨gb613, 2, none⟩ (.int .i64 ((rd_T80 l0 x16_1).f2))).setCell ⟨gb613, 3, none⟩ (.int .i64 ((rd_T80 l0 x16_1).f3))).setCell ⟨gb613, 4, none⟩ (.int .i64 ((rd_T80 l0 x16_1).f4))).setCell ⟨gb613, 5, none⟩ (.int .i64 ((rd_T80 l0 x16_1).f5))).setCell ⟨gb613, 6, none⟩ (.int .i64 ((rd_T80 l0 x16_1).f6))).setCell ⟨gb613, 7, none⟩ (.int .i64 ((rd_T80 l0 x16_1).f7))).setCell ⟨gb613, 8, none⟩ (.slice A612_8 ((rd_T80 l0 x16_1).f8.f0).length c612_8)).heap[gb613]? = some (.cells #[.int .i64 ((rd_T80 l0 x16_1).f0), .string ((rd_T80 l0 x16_1).f1), .int .i64 ((rd_T80 l0 x16_1).f2), .int .i64 ((rd_T80 l0 x16_1).f3), .int .i64 ((rd_T80 l0 x16_1).f4), .int .i64 ((rd_T80 l0 x16_1).f5), .int .i64 ((rd_T80 l0 x16_1).f6), .int .i64 ((rd_T80 l0 x16_1).f7), .slice A612_8 ((rd_T80 l0 x16_1).f8.f0).length c612_8] 80 (0, 0))) := ⟨by (with_reducible repeat (first | refine blk_drewN ?_ _ | refine blk_drew ?_ | refine blk_alloc ?_ _)); refine blk_put (cs := #[.int .i64 ((rd_T80 l0 x16_1).f0), .string ((rd_T80 l0 x16_1).f1), .int .i64 ((rd_T80 l0 x16_1).f2), .int .i64 ((rd_T80 l0 x16_1).f3), .int .i64 ((rd_T80 l0 x16_1).f4), .int .i64 ((rd_T80 l0 x16_1).f5), .int .i64 ((rd_T80 l0 x16_1).f6), .int .i64 ((rd_T80 l0 x16_1).f7), .slice none 0 0]) ?_ 8 _ rfl; (with_reducible repeat (first | refine blk_drewN ?_ _ | refine blk_drew ?_ | refine blk_alloc ?_ _)); refine blk_put (cs := #[.int .i64 ((rd_T80 l0 x16_1).f0), .string ((rd_T80 l0 x16_1).f1), .int .i64 ((rd_T80 l0 x16_1).f2), .int .i64 ((rd_T80 l0 x16_1).f3), .int .i64 ((rd_T80 l0 x16_1).f4), .int .i64 ((rd_T80 l0 x16_1).f5), .int .i64 ((rd_T80 l0 x16_1).f6), .int .i64 0, .slice none 0 0]) ?_ 7 _ rfl; (with_reducible repeat (first | refine blk_drewN ?_ _ | refine blk_drew ?_ | refine blk_alloc ?_ _)); refine blk_put (cs := #[.int .i64 ((rd_T80 l0 x16_1).f0), .string ((rd_T80 l0 x16_1).f1), .int .i64 ((rd_T80 l0 x16_1).f2), .int .i64 ((rd_T80 l0 x16_1).f3), .int .i64 ((rd_T80 l0 x16_1).f4), .int .i64 ((rd_T80 l0 x16_1).f5), .int .i64 0, .int .i64 0, .slice none 0 0]) ?_ 6 _ rfl; (with_reducible repeat (first | refine blk_drewN ?_ _ | refine blk_drew ?_ | refine blk_alloc ?_ _)); refine blk_put (cs := #[.int .i64 ((rd_T80 l0 x16_1).f0), .string ((rd_T80 l0 x16_1).f1), .int .i64 ((rd_T80 l0 x16_1).f2), .int .i64 ((rd_T80 l0 x16_1).f3), .int .i64 ((rd_T80 l0 x16_1).f4), .int .i64 0, .int .i64 0, .int .i64 0, .slice none 0 0]) ?_ 5 _ rfl; (with_reducible repeat (first | refine blk_drewN ?_ _ | refine blk_drew ?_ | refine blk_alloc ?_ _)); refine blk_put (cs := #[.int .i64 ((rd_T80 l0 x16_1).f0), .string ((rd_T80 l0 x16_1).f1), .int .i64 ((rd_T80 l0 x16_1).f2), .int .i64 ((rd_T80 l0 x16_1).f3), .int .i64 0, .int .i64 0, .int .i64 0, .int .i64 0, .slice none 0 0]) ?_ 4 _ rfl; (with_reducible repeat (first | refine blk_drewN ?_ _ | refine blk_drew ?_ | refine blk_alloc ?_ _)); refine blk_put (cs := #[.int .i64 ((rd_T80 l0 x16_1).f0), .string ((rd_T80 l0 x16_1).f1), .int .i64 ((rd_T80 l0 x16_1).f2), .int .i64 0, .int .i64 0, .int .i64 0, .int .i64 0, .int .i64 0, .slice none 0 0]) ?_ 3 _ rfl; (with_reducible repeat (first | refine blk_drewN ?_ _ | refine blk_drew ?_ | refine blk_alloc ?_ _)); refine blk_put (cs := #[.int .i64 ((rd_T80 l0 x16_1).f0), .string ((rd_T80 l0 x16_1).f1), .int .i64 0, .int .i64 0, .int .i64 0, .int .i64 0, .int .i64 0, .int .i64 0, .slice none 0 0]) ?_ 2 _ rfl; (with_reducible repeat (first | refine blk_drewN ?_ _ | refine blk_drew ?_ | refine blk_alloc ?_ _)); refine blk_put (cs := #[.int .i64 ((rd_T80 l0 x16_1).f0), .string (⟨#[]⟩ : ByteArray), .int .i64 0, .int .i64 0, .int .i64 0, .int .i64 0, .int .i64 0, .int .i64 0, .slice none 0 0]) ?_ 1 _ rfl; (with_reducible repeat (first | refine blk_drewN ?_ _ | refine blk_drew ?_ | refine blk_alloc ?_ _)); refine blk_put (cs := #[.int .i64 0, .string (⟨#[]⟩ : ByteArray), .int .i64 0, .int .i64 0, .int .i64 0, .int .i64 0, .int .i64 0, .int .i64 0, .slice none 0 0]) ?_ 0 _ rfl; (with_reducible repeat (first | refine blk_drewN ?_ _ | refine blk_drew ?_ | refine blk_alloc ?_ _)); exact BK613.out⟩
       have n3_ : Aside0 (Below w.heap.size w (((((((((w23.setCell ⟨gb613, 0, none⟩ (.int .i64 ((rd_T80 l0 x16_1).f0))).setCell ⟨gb613, 1, none⟩ (.string ((rd_T80 l0 x16_1).f1))).setCell ⟨gb613, 2, none⟩ (.int .i64 ((rd_T80 l0 x16_1).f2))).setCell ⟨gb613, 3, none⟩ (.int .i64 ((rd_T80 l0 x16_1).f3))).setCell ⟨gb613, 4, none⟩ (.int .i64 ((rd_T80 l0 x16_1).f4))).setCell ⟨gb613, 5, none⟩ (.int .i64 ((rd_T80 l0 x16_1).f5))).setCell ⟨gb613, 6, none⟩ (.int .i64 ((rd_T80 l0 x16_1).f6))).setCell ⟨gb613, 7, none⟩ (.int .i64 ((rd_T80 l0 x16_1).f7))).setCell ⟨gb613, 8, none⟩ (.slice A612_8 ((rd_T80 l0 x16_1).f8.f0).length c612_8))) := ⟨by repeat (first | (with_reducible first | exact HB.out | apply bA | apply bN | apply b1 | refine bS ?_ GE607.out | refine bS ?_ GE613.out) | exact HB.out)⟩
       (try clear HO_11)
       (try clear BK607)
       (try clear BK613)
       (try clear HB)
       generalize (((((((((w23.setCell ⟨gb613, 0, none⟩ (.int .i64 ((rd_T80 l0 x16_1).f0))).setCell ⟨gb613, 1, none⟩ (.string ((rd_T80 l0 x16_1).f1))).setCell ⟨gb613, 2, none⟩ (.int .i64 ((rd_T80 l0 x16_1).f2))).setCell ⟨gb613, 3, none⟩ (.int .i64 ((rd_T80 l0 x16_1).f3))).setCell ⟨gb613, 4, none⟩ (.int .i64 ((rd_T80 l0 x16_1).f4))).setCell ⟨gb613, 5, none⟩ (.int .i64 ((rd_T80 l0 x16_1).f5))).setCell ⟨gb613, 6, none⟩ (.int .i64 ((rd_T80 l0 x16_1).f6))).setCell ⟨gb613, 7, none⟩ (.int .i64 ((rd_T80 l0 x16_1).f7))).setCell ⟨gb613, 8, none⟩ (.slice A612_8 ((rd_T80 l0 x16_1).f8.f0).length c612_8)) = w26 at n0_ n1_ n2_ n3_ ⊢
       have HO_11 := n0_
       have BK607 := n1_
       have BK613 := n2_
       have HB := n3_
       clear n0_ n1_ n2_ n3_
       replace HO_11 := mk0 (Kd.R_drew HO_11.out)
       replace BK607 := mk0 (blk_drew BK607.out)
       replace BK613 := mk0 (blk_drew BK613.out)
       replace HB := mk0 (b1 HB.out)
       refine start_ (n := 8) (S := fun w' => w'.cell? ⟨gb613, 0, none⟩ = some (.int .i64 ((rd_T80 l0 x16_1).f0)) ∧ w'.cell? ⟨gb613, 1, none⟩ = some (.string ((rd_T80 l0 x16_1).f1)) ∧ w'.cell? ⟨gb613, 2, none⟩ = some (.int .i64 ((rd_T80 l0 x16_1).f2)) ∧ w'.cell? ⟨gb613, 3, none⟩ = some (.int .i64 ((rd_T80 l0 x16_1).f3)) ∧ w'.cell? ⟨gb613, 4, none⟩ = some (.int .i64 ((rd_T80 l0 x16_1).f4)) ∧ w'.cell? ⟨gb613, 5, none⟩ = some (.int .i64 ((rd_T80 l0 x16_1).f5)) ∧ w'.cell? ⟨gb613, 6, none⟩ = some (.int .i64 ((rd_T80 l0 x16_1).f6)) ∧ w'.cell? ⟨gb613, 7, none⟩ = some (.int .i64 ((rd_T80 l0 x16_1).f7)) ∧ w'.cell? ⟨gb613, 8, none⟩ = some (.slice A612_8 ((rd_T80 l0 x16_1).f8.f0).length c612_8) ∧ w'.cell? ⟨gb607, 0, none⟩ = some (.bool a3_0) ∧ w'.cell? ⟨gb607, 1, none⟩ = some (.slice A3_1 l3_1.length c3_1) ∧ w'.cell? ⟨gb607, 2, none⟩ = some (.slice A3_2 l3_2.length c3_2)) (ds := []) (bv 8 0) (by kernel_rfl) rfl rfl ⟨(blk_cell BK613.out 0).trans rfl, (blk_cell BK613.out 1).trans rfl, (blk_cell BK613.out 2).trans rfl, (blk_cell BK613.out 3).trans rfl, (blk_cell BK613.out 4).trans rfl, (blk_cell BK613.out 5).trans rfl, (blk_cell BK613.out 6).trans rfl, (blk_cell BK613.out 7).trans rfl, (blk_cell BK613.out 8).trans rfl, (blk_cell BK607.out 0).trans rfl, (blk_cell BK607.out 1).trans rfl, (blk_cell BK607.out 2).trans rfl⟩ (fun hHeld => ?_); refine with_tabW exposure_Filter.tab5 exposure_Filter.bits5 (fun HT_ HW_ => ?_)
       generalize w26.drew = w27 at HO_11 BK607 BK613 HB hHeld ⊢
       refine puA (i := 0) (N := 20) (v := ?_) (a' := ?_) (bv 8 1) HT_ ?_ ?_ ?_; rotate_left; (intro w'; go_simp; with_reducible rfl); rotate_left; (simp only [Act.put, sA, sZ, sS, i64_w, i32_w]; rfl)
       refine puA (i := 1) (N := 21) (v := ?_) (a' := ?_) (bv 8 3) HT_ ?_ ?_ ?_; rotate_left; (intro w'; go_simp; with_reducible rfl); rotate_left; (simp only [Act.put, sA, sZ, sS, i64_w, i32_w]; rfl)
       refine puA (i := 4) (N := 24) (v := ?_) (a' := ?_) (bv 8 19) HT_ ?_ ?_ ?_; rotate_left; (intro w'; go_simp; with_reducible rfl); rotate_left; (simp only [Act.put, sA, sZ, sS, i64_w, i32_w]; rfl)
       refine puA (i := 6) (N := 26) (v := ?_) (a' := ?_) (bv 8 83) HT_ ?_ ?_ ?_; rotate_left; (intro w'; go_simp; with_reducible rfl); rotate_left; (simp only [Act.put, sA, sZ, sS, i64_w, i32_w]; rfl)
       refine take_ (i := 2) (N := some 22) (v := ?_) (a' := ?_) (bv 8 87) rfl rfl (take_ofW HT_.out HW_.out (by kernel_rfl)) (fun _ _ _ h => h) (Or.inl ⟨by rfl, ?_⟩) hHeld ?_ ?_; rotate_left; (rintro w' ⟨s0, s1, s2, s3, s4, s5, s6, s7, s8, s9, s10, s11⟩; go_simp; with_reducible rfl); rotate_left; (simp only [Act.put, sA, sZ, sS, i64_w, i32_w]; rfl)
       refine take_ (i := 5) (N := some 25) (v := ?_) (a' := ?_) (bv 8 119) rfl rfl (take_ofW HT_.out HW_.out (by kernel_rfl)) (fun _ _ _ h => h) (Or.inl ⟨by rfl, ?_⟩) hHeld ?_ ?_; rotate_left; (rintro w' ⟨s0, s1, s2, s3, s4, s5, s6, s7, s8, s9, s10, s11⟩; go_simp; with_reducible rfl); rotate_left; (simp only [Act.put, sA, sZ, sS, i64_w, i32_w]; rfl)
       refine one_ (i := 3) (N := some 23) (bv 8 127) rfl rfl (one_of HT_.out (by kernel_rfl)) (by decide) (fun K hK => ?_)
       refine goes_ Try.func17 (by kernel_rfl) rfl #[.slice A1 l1.length c1, .int .i64 ((rd_T80 l0 x16_1).f0)] (by rfl) rfl rfl (by (try simp only [mA, mC, mN]); first | done | rfl | (simp only [lD, lT]; rfl)) ?_
       with_reducible refine (exposure_Count.calls k1 _ _ l1 ((rd_T80 l0 x16_1).f0) t614 _ ?side1 ?side2 A10.out).mono ?_
       (case side1 => exact (Cb HR1.out HB.out))
       (case side2 => exact HC1.out)
       rintro e w28 ⟨rfl, hb⟩
       refine ⟨_, rfl, ?_⟩
       replace HO_11 := mk0 (Rb HO_11.out hb)
       replace BK607 := mk0 (blk_below (g := gb607) BK607.out hb)
       replace BK613 := mk0 (blk_below (g := gb613) BK613.out hb)
       replace HB := mk0 (below_step (by repeat (first | (with_reducible first | exact HB.out | apply bA | apply bN | apply b1 | refine bS ?_ GE607.out | refine bS ?_ GE613.out) | exact HB.out)) hb)
       refine hK.out _ _ ⟨(blk_cell BK613.out 0).trans rfl, (blk_cell BK613.out 1).trans rfl, (blk_cell BK613.out 2).trans rfl, (blk_cell BK613.out 3).trans rfl, (blk_cell BK613.out 4).trans rfl, (blk_cell BK613.out 5).trans rfl, (blk_cell BK613.out 6).trans rfl, (blk_cell BK613.out 7).trans rfl, (blk_cell BK613.out 8).trans rfl, (blk_cell BK607.out 0).trans rfl, (blk_cell BK607.out 1).trans rfl, (blk_cell BK607.out 2).trans rfl⟩ (fun hHeld => ?_)
       clear hK K
       refine norm_ (a' := ?_) ?_ ?_
       rotate_left
       ·show Act.put _ (some 23) _ = _
        simp only [Act.put, sA, sZ, sS, i64_w, i32_w]
        rfl
       refine one_ (i := 7) (N := some 27) (bv 8 255) rfl rfl (one_of HT_.out (by kernel_rfl)) (by decide) (fun K hK => ?_)
       refine goes_ Try.func13 (by kernel_rfl) rfl #[.int .i64 t614, .int .i64 a2, .agg #[.bool a3_0, .slice A3_1 l3_1.length c3_1, .slice A3_2 l3_2.length c3_2], .int .i64 a4] (by rfl) rfl rfl (by (try simp only [mA, mC, mN]); first | done | rfl | (simp only [lD, lT]; rfl)) ?_
       with_reducible refine (exposure_Eligible.calls k1 t614 a2 a3_0 _ _ l3_1 _ _ l3_2 a4 false _ ?side1 ?side2 ?side3 ?side4 A11.out).mono ?_
       (case side1 => exact (Cb HR3_1.out HB.out))
       (case side2 => exact HC3_1.out)
       (case side3 => exact (Cb HR3_2.out HB.out))
       (case side4 => exact HC3_2.out)
       rintro e w29 ⟨rfl, hb⟩
       refine ⟨_, rfl, ?_⟩
       replace HO_11 := mk0 (Rb HO_11.out hb)
       replace BK607 := mk0 (blk_below (g := gb607) BK607.out hb)
       replace BK613 := mk0 (blk_below (g := gb613) BK613.out hb)
       replace HB := mk0 (below_step (by repeat (first | (with_reducible first | exact HB.out | apply bA | apply bN | apply b1 | refine bS ?_ GE607.out | refine bS ?_ GE613.out) | exact HB.out)) hb)
       refine hK.out _ _ ⟨(blk_cell BK613.out 0).trans rfl, (blk_cell BK613.out 1).trans rfl, (blk_cell BK613.out 2).trans rfl, (blk_cell BK613.out 3).trans rfl, (blk_cell BK613.out 4).trans rfl, (blk_cell BK613.out 5).trans rfl, (blk_cell BK613.out 6).trans rfl, (blk_cell BK613.out 7).trans rfl, (blk_cell BK613.out 8).trans rfl, (blk_cell BK607.out 0).trans rfl, (blk_cell BK607.out 1).trans rfl, (blk_cell BK607.out 2).trans rfl⟩ (fun hHeld => ?_)
       clear hK K
       refine norm_ (a' := ?_) ?_ ?_
       rotate_left
       ·show Act.put _ (some 27) _ = _
        simp only [Act.put, sA, sZ, sS, i64_w, i32_w]
        rfl
       refine done_ (done_of HT_.out (by kernel_rfl)) ?_
       try go_wp2
       go_roundg k1
       case measure => have := HK1.out; omega
       case rel => exact ⟨(x11_1), (wrap64 (x16_1 + 1)), (by first | rfl | (simp; done) | (simp [*]; done)), H', ⟨by have := HK1.out; omega⟩, ⟨by (with_reducible repeat (first | apply Kd.R_alloc | apply Kd.R_drewN | apply Kd.R_drew)); exact HO_11.out⟩, ⟨by (with_reducible repeat (first | refine blk_drewN ?_ _ | refine blk_drew ?_ | refine blk_alloc ?_ _)); exact BK607.out⟩, ⟨by repeat (first | (with_reducible first | exact HB.out | apply bA | apply bN | apply b1 | refine bS ?_ GE607.out | refine bS ?_ GE613.out) | exact HB.out)⟩⟩
     ·rw [if_neg c9] at H
      exact absurd H (by simp)
    ·rw [if_neg c8] at H
     exact absurd H (by simp)
   ·rw [if_neg c7] at H
    have c7b0 := decide_eq_false c7
    clear c7
    obtain ⟨t608, A30, H⟩ := bindA H
    obtain ⟨t609, A31, H⟩ := bindA H
    obtain rfl := Option.some.inj H
    obtain ⟨Ao32, co32, eo32⟩ := Kd.R_slice HO_11.out
    subst eo32
    go_wp2_with (first | ((with_reducible refine gate_callee (f := 48) rfl ?_); refine goesL_ (some 35) rfl rfl Try.func48 (by kernel_rfl) rfl #[.slice Ao32 x11_1.length co32] rfl (by (try simp only [mA, mC, mN]); first | done | rfl | (simp only [lD, lT]; rfl)) ?_; (with_reducible refine (slices_Sort_int_int.calls (fun k_ => some k_ = (.slice Ao32 x11_1.length co32 : Value).ownBlock) (.slice Ao32 x11_1.length co32) x11_1 t608 w _ (by repeat (first | (with_reducible first | exact HB.out | apply bA | apply bN | apply b1 | refine bS ?_ GE607.out) | exact HB.out)) (by exact Kd.R_tight rfl HO_11.out) A30.out).mono ?_); rintro e w33 ⟨rfl, hy0, hb, hkp⟩; refine ⟨_, rfl, ?_⟩; replace BK607 := mk0 (blk_kept BK607.out hkp (fun hs_ => (fun e_ => (Kd.R_ne HO_11.out BK607.out (by decide)) e_) hs_)); replace HO_11 := mk0 (Kd.R_reok rfl hy0 (fun k_ e_ => HO_11.out.1 k_ e_)); replace HB := mk0 (hb); (try clear hkp); (try clear hy0)) | ((with_reducible refine gate_callee (f := 49) rfl ?_); refine goesL_ (some 37) rfl rfl Try.func49 (by kernel_rfl) rfl #[.slice Ao32 x11_1.length co32] rfl (by (try simp only [mA, mC, mN]); first | done | rfl | (simp only [lD, lT]; rfl)) ?_; (with_reducible refine (slices_Compact_int_int.calls (fun k_ => some k_ = (.slice Ao32 x11_1.length co32 : Value).ownBlock) (.slice Ao32 x11_1.length co32) t608 t609 w _ (by repeat (first | (with_reducible first | exact HB.out | apply bA | apply bN | apply b1 | refine bS ?_ GE607.out) | exact HB.out)) (by exact Kd.R_tight rfl HO_11.out) A31.out).mono ?_); rintro e w34 ⟨v610, rfl, ho0, hb, hkp⟩; refine ⟨_, rfl, ?_⟩; replace BK607 := mk0 (blk_kept BK607.out hkp (fun hs_ => (fun e_ => (Kd.R_ne HO_11.out BK607.out (by decide)) e_) hs_)); have HO611 := mk0 (Rm (ok' := fun k_ => True) ho0 tv); replace HB := mk0 (hb); clear HO_11; (try clear hkp)))
    go_ret
    exact ⟨_, by first | rfl | (simp [errW_none, errW_some] <;> rfl) | (simp [*, errW_none, errW_some] <;> rfl), by (with_reducible repeat (first | apply Kd.R_alloc | apply Kd.R_drewN | apply Kd.R_drew)); exact HO611.out, by repeat (first | (with_reducible first | exact HB.out | apply bA | apply bN | apply b1 | refine bS ?_ GE607.out) | exact HB.out)⟩
set_option maxHeartbeats 8000000 in
set_option maxRecDepth 100000 in
theorem examboardlaw37_ExposureFilters.calls (k : Nat) (A0 : Option Addr) (c0 : Nat) (l0 : List (S80)) (A1 : Option Addr) (c1 : Nat) (l1 : List (S50)) (a2 : Int) (a3_0 : Bool) (A3_1 : Option Addr) (c3_1 : Nat) (l3_1 : List Int) (A3_2 : Option Addr) (c3_2 : Nat) (l3_2 : List Int) (a4 : Int) (r : Bool) (w : World) (hr0 : Kd.C k80 w A0 l0.length l0) (hc0 : l0.length ≤ c0) (hr1 : Kd.C k50 w A1 l1.length l1) (hc1 : l1.length ≤ c1) (hr3_1 : Kd.C (Kd.int .u32) w A3_1 l3_1.length l3_1) (hc3_1 : l3_1.length ≤ c3_1) (hr3_2 : Kd.C (Kd.int .u32) w A3_2 l3_2.length l3_2) (hc3_2 : l3_2.length ≤ c3_2) (h : examboardlaw37_ExposureFilters.f k l0 l1 a2 a3_0 l3_1 l3_2 a4 = some r) :
  Calls Try.prog 8 #[.slice A0 l0.length c0, .slice A1 l1.length c1, .int .i64 a2, .agg #[.bool a3_0, .slice A3_1 l3_1.length c3_1, .slice A3_2 l3_2.length c3_2], .int .i64 a4] w fun e w' => e = .returned (.bool r) ∧ Below w.heap.size w w' := by
 have hu29 := Try.underlying29
 have HR0 := mk0 hr0
 have HC0 := mk0 hc0
 clear hr0 hc0
 have HR1 := mk0 hr1
 have HC1 := mk0 hc1
 clear hr1 hc1
 have HR3_1 := mk0 hr3_1
 have HC3_1 := mk0 hc3_1
 clear hr3_1 hc3_1
 have HR3_2 := mk0 hr3_2
 have HC3_2 := mk0 hc3_2
 clear hr3_2 hc3_2
 have HB := mk0 (Below.refl w.heap.size w)
 have H : (if (l0.length : Int) > 40 then (examboardlaw37_ExposureFilters.j0 k l0 l1 a2 a4 true a3_0 l3_1 l3_2) else (if (l1.length : Int) > 200 then (examboardlaw37_ExposureFilters.j0 k l0 l1 a2 a4 true a3_0 l3_1 l3_2) else ((examboardlaw37_large.f a3_0 l3_1 l3_2).bind fun t1033 => (examboardlaw37_ExposureFilters.j0 k l0 l1 a2 a4 t1033 a3_0 l3_1 l3_2)))) = some r := h
 clear h
 have HC6 := mk0 H
 clear H
 go_enter Try.func8, Try.ntmps8
 go_upto_region 1 with (first | ((with_reducible refine gate_dst (N := 8) rfl ?_); (try (refine gate_guard (by rfl) ?_; dsimp only)); refine box_event rfl (N := 8) rfl (cs := #[.bool a3_0, .slice A3_1 l3_1.length c3_1, .slice A3_2 l3_2.length c3_2]) (t := 29) (by go_simp <;> rfl) ?_; intro gb1032 hg w7 hbox hb; have BK1032 := mk0 (hbox); have GE1032 := geB hg HB; replace HB := hbS HB hb; clear hb hbox hg))
 repeat (go_quiet (first | ((with_reducible refine gate_dst (N := 8) rfl ?_); (try (refine gate_guard (by rfl) ?_; dsimp only)); refine box_event rfl (N := 8) rfl (cs := #[.bool a3_0, .slice A3_1 l3_1.length c3_1, .slice A3_2 l3_2.length c3_2]) (t := 29) (by go_simp <;> rfl) ?_; intro gb1032 hg w7 hbox hb; have BK1032 := mk0 (hbox); have GE1032 := geB hg HB; replace HB := hbS HB hb; clear hb hbox hg)); go_upto_region 1 with (first | ((with_reducible refine gate_dst (N := 8) rfl ?_); (try (refine gate_guard (by rfl) ?_; dsimp only)); refine box_event rfl (N := 8) rfl (cs := #[.bool a3_0, .slice A3_1 l3_1.length c3_1, .slice A3_2 l3_2.length c3_2]) (t := 29) (by go_simp <;> rfl) ?_; intro gb1032 hg w7 hbox hb; have BK1032 := mk0 (hbox); have GE1032 := geB hg HB; replace HB := hbS HB hb; clear hb hbox hg)))
 (try simp only [Act.put, sA, sZ, sS])
 go_cut [25] (fun v25 wc => ∃ (kq : Nat) (x25_5 : Bool), v25 = .bool x25_5 ∧ Aside0 (examboardlaw37_ExposureFilters.j0 kq l0 l1 a2 a4 x25_5 a3_0 l3_1 l3_2 = some r) ∧ Aside0 (kq ≤ k) ∧ Aside0 (wc.heap[gb1032]? = some (.cells #[.bool a3_0, (.slice A3_1 l3_1.length c3_1), (.slice A3_2 l3_2.length c3_2)] 29 (0, 0))) ∧ Aside0 (Below w.heap.size w wc))
 case first =>
  have H := HC6.out
  clear HC6
  by_cases c8 : (l0.length : Int) > 40
  ·rw [if_pos c8] at H
   have c8b0 := decide_eq_true c8
   have c8b1 : decide (40 < l0.length) = true := decide_eq_true (by omega)
   clear c8
   (first | rw [c8b0] | (simp only [i64_w, i32_w]; rw [c8b0]) | skip)
   have H' := mk0 H
   clear H
   go_wp2
   repeat (go_quiet (fail); try go_wp2)
   go_meet
   case rel => exact ⟨_, (true), rfl, H', ⟨by first | omega | exact Nat.le_refl _⟩, ⟨BK1032.out⟩, ⟨by repeat (first | exact HB.out | apply bN | apply b1 | apply bA | refine bS ?_ GE1032.out)⟩⟩
  ·rw [if_neg c8] at H
   have c8b0 := decide_eq_false c8
   have c8b1 : decide (40 < l0.length) = false := decide_eq_false (by omega)
   clear c8
   (first | rw [c8b0] | (simp only [i64_w, i32_w]; rw [c8b0]) | skip)
   by_cases c9 : (l1.length : Int) > 200
   ·rw [if_pos c9] at H
    have c9b0 := decide_eq_true c9
    have c9b1 : decide (200 < l1.length) = true := decide_eq_true (by omega)
    clear c9
    have H' := mk0 H
    clear H
    go_wp2
    repeat (go_quiet (fail); try go_wp2)
    go_meet
    case rel => exact ⟨_, (true), rfl, H', ⟨by first | omega | exact Nat.le_refl _⟩, ⟨BK1032.out⟩, ⟨by repeat (first | exact HB.out | apply bN | apply b1 | apply bA | refine bS ?_ GE1032.out)⟩⟩
   ·rw [if_neg c9] at H
    have c9b0 := decide_eq_false c9
    have c9b1 : decide (200 < l1.length) = false := decide_eq_false (by omega)
    clear c9
    obtain ⟨t1033, A10, H⟩ := bindA H
    have H' := mk0 H
    clear H
    obtain ⟨hcz11_0, hcz11_1, hcz11_2, hfz11_0, hfz11_1, hfz11_2⟩ := cz3 BK1032
    go_wp2_with (first | (go_at_call 10; (with_reducible refine (examboardlaw37_large.calls a3_0 _ _ l3_1 _ _ l3_2 t1033 _ (by exact Cb HR3_1.out HB.out) HC3_1.out (by exact Cb HR3_2.out HB.out) HC3_2.out A10.out).mono ?_); rintro e w12 ⟨rfl, hb⟩; replace BK1032 := bkB BK1032 hb; replace HB := mk0 (below_step HB.out hb)))
    repeat (go_quiet (first | (go_at_call 10; (with_reducible refine (examboardlaw37_large.calls a3_0 _ _ l3_1 _ _ l3_2 t1033 _ (by exact Cb HR3_1.out HB.out) HC3_1.out (by exact Cb HR3_2.out HB.out) HC3_2.out A10.out).mono ?_); rintro e w12 ⟨rfl, hb⟩; replace BK1032 := bkB BK1032 hb; replace HB := mk0 (below_step HB.out hb))); try go_wp2_with (first | (go_at_call 10; (with_reducible refine (examboardlaw37_large.calls a3_0 _ _ l3_1 _ _ l3_2 t1033 _ (by exact Cb HR3_1.out HB.out) HC3_1.out (by exact Cb HR3_2.out HB.out) HC3_2.out A10.out).mono ?_); rintro e w12 ⟨rfl, hb⟩; replace BK1032 := bkB BK1032 hb; replace HB := mk0 (below_step HB.out hb))))
    go_meet
    case rel => exact ⟨_, (t1033), rfl, H', ⟨by first | omega | exact Nat.le_refl _⟩, ⟨BK1032.out⟩, ⟨by repeat (first | exact HB.out | apply bN | apply b1 | apply bA | refine bS ?_ GE1032.out)⟩⟩
 case rest =>
  clear HC6
  obtain ⟨kq, x25_5, rfl, HA, HJ5, BK1032, HB⟩ := hcut
  cases kq with
  | zero => exact absurd HA.out (by simp [examboardlaw37_ExposureFilters.j0])
  | succ kj5 =>
   have H := HA.out
   clear HA
   simp only [examboardlaw37_ExposureFilters.j0] at H
   by_cases c13 : x25_5 = true
   ·subst c13
    have H1 : (some true) = some r := by rw [if_pos rfl] at H; exact H
    clear H
    have H := H1
    clear H1
    obtain rfl := Option.some.inj H
    go_wp2
    repeat (go_quiet (fail); try go_wp2)
    go_ret
    exact ⟨rfl, by repeat (first | exact HB.out | apply bN | apply b1 | apply bA | refine bS ?_ GE1032.out)⟩
   ·replace c13 := Bool.eq_false_iff.mpr c13
    subst c13
    have H1 : ((exposure_Filter.f kj5 l0 l1 a2 a3_0 l3_1 l3_2 a4).bind fun t1034 => ((examboardref37_Filter.f kj5 l0 l1 a2 a3_0 l3_1 l3_2 a4).bind fun t1037 => (if (t1034.length : Int) = (t1037.length : Int) then (examboardlaw37_ExposureFilters.l0 kj5 t1034 t1037 0) else (some false)))) = some r := by rw [if_neg (show ¬ (false = true) by decide)] at H; exact H
    clear H
    have H := H1
    clear H1
    obtain ⟨t1034, A14, H⟩ := bindA H
    obtain ⟨t1037, A15, H⟩ := bindA H
    by_cases c16 : (t1034.length : Int) = (t1037.length : Int)
    ·rw [if_pos c16] at H
     have c16b0 : ((t1034.length : Int) == (t1037.length : Int)) = true := beq_iff_eq.mpr c16
     have c16b1 : ((t1034.length : Int) != (t1037.length : Int)) = false := bne_eq_false_iff_eq.mpr c16
     have c16b2 : (t1034.length == t1037.length) = true := by first | simpa using c16 | (simp at c16 ⊢; omega)
     clear c16
     have H' := mk0 H
     clear H
     obtain ⟨hcz17_0, hcz17_1, hcz17_2, hfz17_0, hfz17_1, hfz17_2⟩ := cz3 BK1032
     go_wp2_with (first | (go_at_call 24; (with_reducible refine (exposure_Filter.calls kj5 _ _ l0 _ _ l1 a2 a3_0 _ _ l3_1 _ _ l3_2 a4 t1034 _ (by exact Cb HR0.out HB.out) HC0.out (by exact Cb HR1.out HB.out) HC1.out (by exact Cb HR3_1.out HB.out) HC3_1.out (by exact Cb HR3_2.out HB.out) HC3_2.out A14.out).mono ?_); rintro e w18 ⟨v1035, rfl, ho0, hb⟩; have HO1036 := mk0 (Rl ho0 (bZ HB.out)); replace BK1032 := bkB BK1032 hb; replace HB := mk0 (below_step HB.out hb); obtain ⟨hcz19_0, hcz19_1, hcz19_2, hfz19_0, hfz19_1, hfz19_2⟩ := cz3 BK1032) | (go_at_call 25; (with_reducible refine (examboardref37_Filter.calls kj5 _ _ l0 _ _ l1 a2 a3_0 _ _ l3_1 _ _ l3_2 a4 t1037 _ (by exact Cb HR0.out HB.out) HC0.out (by exact Cb HR1.out HB.out) HC1.out (by exact Cb HR3_1.out HB.out) HC3_1.out (by exact Cb HR3_2.out HB.out) HC3_2.out A15.out).mono ?_); rintro e w20 ⟨v1038, rfl, ho0, hb⟩; have HO1039 := mk0 (Rl (Rn ho0 (Rq HO1036.out)) (bZ HB.out)); replace HO1036 := mk0 (Re HO1036.out (Rs ho0) hb); replace BK1032 := bkB BK1032 hb; replace HB := mk0 (below_step HB.out hb); obtain ⟨Ao21, co21, eo21⟩ := Kd.R_slice HO1036.out; subst eo21; obtain ⟨Ao22, co22, eo22⟩ := Kd.R_slice HO1039.out; subst eo22))
     repeat (go_quiet (first | (go_at_call 24; (with_reducible refine (exposure_Filter.calls kj5 _ _ l0 _ _ l1 a2 a3_0 _ _ l3_1 _ _ l3_2 a4 t1034 _ (by exact Cb HR0.out HB.out) HC0.out (by exact Cb HR1.out HB.out) HC1.out (by exact Cb HR3_1.out HB.out) HC3_1.out (by exact Cb HR3_2.out HB.out) HC3_2.out A14.out).mono ?_); rintro e w18 ⟨v1035, rfl, ho0, hb⟩; have HO1036 := mk0 (Rl ho0 (bZ HB.out)); replace BK1032 := bkB BK1032 hb; replace HB := mk0 (below_step HB.out hb); obtain ⟨hcz19_0, hcz19_1, hcz19_2, hfz19_0, hfz19_1, hfz19_2⟩ := cz3 BK1032) | (go_at_call 25; (with_reducible refine (examboardref37_Filter.calls kj5 _ _ l0 _ _ l1 a2 a3_0 _ _ l3_1 _ _ l3_2 a4 t1037 _ (by exact Cb HR0.out HB.out) HC0.out (by exact Cb HR1.out HB.out) HC1.out (by exact Cb HR3_1.out HB.out) HC3_1.out (by exact Cb HR3_2.out HB.out) HC3_2.out A15.out).mono ?_); rintro e w20 ⟨v1038, rfl, ho0, hb⟩; have HO1039 := mk0 (Rl (Rn ho0 (Rq HO1036.out)) (bZ HB.out)); replace HO1036 := mk0 (Re HO1036.out (Rs ho0) hb); replace BK1032 := bkB BK1032 hb; replace HB := mk0 (below_step HB.out hb); obtain ⟨Ao21, co21, eo21⟩ := Kd.R_slice HO1036.out; subst eo21; obtain ⟨Ao22, co22, eo22⟩ := Kd.R_slice HO1039.out; subst eo22)); try go_wp2_with (first | (go_at_call 24; (with_reducible refine (exposure_Filter.calls kj5 _ _ l0 _ _ l1 a2 a3_0 _ _ l3_1 _ _ l3_2 a4 t1034 _ (by exact Cb HR0.out HB.out) HC0.out (by exact Cb HR1.out HB.out) HC1.out (by exact Cb HR3_1.out HB.out) HC3_1.out (by exact Cb HR3_2.out HB.out) HC3_2.out A14.out).mono ?_); rintro e w18 ⟨v1035, rfl, ho0, hb⟩; have HO1036 := mk0 (Rl ho0 (bZ HB.out)); replace BK1032 := bkB BK1032 hb; replace HB := mk0 (below_step HB.out hb); obtain ⟨hcz19_0, hcz19_1, hcz19_2, hfz19_0, hfz19_1, hfz19_2⟩ := cz3 BK1032) | (go_at_call 25; (with_reducible refine (examboardref37_Filter.calls kj5 _ _ l0 _ _ l1 a2 a3_0 _ _ l3_1 _ _ l3_2 a4 t1037 _ (by exact Cb HR0.out HB.out) HC0.out (by exact Cb HR1.out HB.out) HC1.out (by exact Cb HR3_1.out HB.out) HC3_1.out (by exact Cb HR3_2.out HB.out) HC3_2.out A15.out).mono ?_); rintro e w20 ⟨v1038, rfl, ho0, hb⟩; have HO1039 := mk0 (Rl (Rn ho0 (Rq HO1036.out)) (bZ HB.out)); replace HO1036 := mk0 (Re HO1036.out (Rs ho0) hb); replace BK1032 := bkB BK1032 hb; replace HB := mk0 (below_step HB.out hb); obtain ⟨Ao21, co21, eo21⟩ := Kd.R_slice HO1036.out; subst eo21; obtain ⟨Ao22, co22, eo22⟩ := Kd.R_slice HO1039.out; subst eo22)))
     go_loopg [13] kj5 (fun kq v13 w' => ∃ (x13_2 : Int), v13 = .int .i64 x13_2 ∧ Aside0 (examboardlaw37_ExposureFilters.l0 kq t1034 t1037 x13_2 = some r) ∧ Aside0 (kq ≤ kj5) ∧ Aside0 (Kd.R (Kd.int .i64) 3 w' w.heap.size (fun k_ => some k_ ≠ ((.slice Ao22 t1037.length co22) : Value).ownBlock) (.slice Ao21 t1034.length co21) t1034) ∧ Aside0 (Kd.R (Kd.int .i64) 3 w' w.heap.size (fun k_ => some k_ ≠ ((.slice Ao21 t1034.length co21) : Value).ownBlock) (.slice Ao22 t1037.length co22) t1037) ∧ Aside0 (w'.heap[gb1032]? = some (.cells #[.bool a3_0, (.slice A3_1 l3_1.length c3_1), (.slice A3_2 l3_2.length c3_2)] 29 (0, 0))) ∧ Aside0 (Below w.heap.size w w'))
     case atStart => exact ⟨(0), rfl, H', ⟨Nat.le_refl _⟩, ⟨Rm HO1036.out (fun _ hk => hk.2)⟩, ⟨Rm HO1039.out (fun _ hk => hk.2)⟩, ⟨BK1032.out⟩, ⟨by repeat (first | exact HB.out | apply bN | apply b1 | apply bA | refine bS ?_ GE1032.out)⟩⟩
     case round =>
      clear H'
      obtain ⟨x13_2, rfl, HA, HK2, HO_11, HO_12, BK1032, HB⟩ := hrel
      cases gk with
      | zero => exact absurd HA.out (by simp [examboardlaw37_ExposureFilters.l0])
      | succ k2 =>
       have H := HA.out
       clear HA
       simp only [examboardlaw37_ExposureFilters.l0] at H
       by_cases c23 : x13_2 < (t1034.length : Int)
       ·rw [if_pos c23] at H
        have c23b0 := decide_eq_true c23
        clear c23
        by_cases c24 : 0 ≤ x13_2
        ·rw [if_pos c24] at H
         have c24b0 := decide_eq_true c24
         clear c24
         by_cases c25 : x13_2 < (t1037.length : Int)
         ·rw [if_pos c25] at H
          have c25b0 := decide_eq_true c25
          clear c25
          by_cases c26 : (rd t1034 x13_2) = (rd t1037 x13_2)
          ·rw [if_pos c26] at H
           have c26b0 : ((rd t1034 x13_2) == (rd t1037 x13_2)) = true := beq_iff_eq.mpr c26
           have c26b1 : ((rd t1034 x13_2) != (rd t1037 x13_2)) = false := bne_eq_false_iff_eq.mpr c26
           clear c26
           have H' := mk0 H
           clear H
           have p1040 : 0 ≤ (x13_2 : Int) := of_decide_eq_true (by assumption)
           have q1040 : x13_2 < (t1034.length : Int) := of_decide_eq_true (by assumption)
           obtain ⟨ad1040, e1040, hx1040_0⟩ := Kd.at_int (Kd.R_reads' HO_11.out).2.2 x13_2 p1040 q1040
           cases e1040
           replace p1040 := eq_true p1040
           replace q1040 := eq_true q1040
           have p1041 : 0 ≤ (x13_2 : Int) := of_decide_eq_true (by assumption)
           have q1041 : x13_2 < (t1037.length : Int) := of_decide_eq_true (by assumption)
           obtain ⟨ad1041, e1041, hx1041_0⟩ := Kd.at_int (Kd.R_reads' HO_12.out).2.2 x13_2 p1041 q1041
           cases e1041
           replace p1041 := eq_true p1041
           replace q1041 := eq_true q1041
           go_wp2
           repeat (go_quiet (fail); try go_wp2)
           go_roundg k2
           case measure => have := HJ5.out; have := HK2.out; omega
           case rel => exact ⟨(wrap64 (x13_2 + 1)), rfl, H', ⟨by have := HJ5.out; have := HK2.out; omega⟩, ⟨HO_11.out⟩, ⟨HO_12.out⟩, ⟨BK1032.out⟩, ⟨by repeat (first | exact HB.out | apply bN | apply b1 | apply bA | refine bS ?_ GE1032.out)⟩⟩
          ·rw [if_neg c26] at H
           have c26b0 : ((rd t1034 x13_2) == (rd t1037 x13_2)) = false := beq_eq_false_iff_ne.mpr c26
           have c26b1 : ((rd t1034 x13_2) != (rd t1037 x13_2)) = true := bne_iff_ne.mpr c26
           obtain rfl := Option.some.inj H
           have p1040 : 0 ≤ (x13_2 : Int) := of_decide_eq_true (by assumption)
           have q1040 : x13_2 < (t1034.length : Int) := of_decide_eq_true (by assumption)
           obtain ⟨ad1040, e1040, hx1040_0⟩ := Kd.at_int (Kd.R_reads' HO_11.out).2.2 x13_2 p1040 q1040
           cases e1040
           replace p1040 := eq_true p1040
           replace q1040 := eq_true q1040
           have p1041 : 0 ≤ (x13_2 : Int) := of_decide_eq_true (by assumption)
           have q1041 : x13_2 < (t1037.length : Int) := of_decide_eq_true (by assumption)
           obtain ⟨ad1041, e1041, hx1041_0⟩ := Kd.at_int (Kd.R_reads' HO_12.out).2.2 x13_2 p1041 q1041
           cases e1041
           replace p1041 := eq_true p1041
           replace q1041 := eq_true q1041
           go_wp2
           repeat (go_quiet (fail); try go_wp2)
           go_ret
           exact ⟨rfl, by repeat (first | exact HB.out | apply bN | apply b1 | apply bA | refine bS ?_ GE1032.out)⟩
         ·rw [if_neg c25] at H
          exact absurd H (by simp)
        ·rw [if_neg c24] at H
         exact absurd H (by simp)
       ·rw [if_neg c23] at H
        have c23b0 := decide_eq_false c23
        clear c23
        obtain rfl := Option.some.inj H
        go_wp2
        repeat (go_quiet (fail); try go_wp2)
        go_ret
        exact ⟨rfl, by repeat (first | exact HB.out | apply bN | apply b1 | apply bA | refine bS ?_ GE1032.out)⟩
    ·rw [if_neg c16] at H
     have c16b0 : ((t1034.length : Int) == (t1037.length : Int)) = false := beq_eq_false_iff_ne.mpr c16
     have c16b1 : ((t1034.length : Int) != (t1037.length : Int)) = true := bne_iff_ne.mpr c16
     have c16b2 : (t1034.length == t1037.length) = false := by first | simpa using c16 | (simp at c16 ⊢; omega)
     obtain rfl := Option.some.inj H
     obtain ⟨hcz27_0, hcz27_1, hcz27_2, hfz27_0, hfz27_1, hfz27_2⟩ := cz3 BK1032
     go_wp2_with (first | (go_at_call 24; (with_reducible refine (exposure_Filter.calls kj5 _ _ l0 _ _ l1 a2 a3_0 _ _ l3_1 _ _ l3_2 a4 t1034 _ (by exact Cb HR0.out HB.out) HC0.out (by exact Cb HR1.out HB.out) HC1.out (by exact Cb HR3_1.out HB.out) HC3_1.out (by exact Cb HR3_2.out HB.out) HC3_2.out A14.out).mono ?_); rintro e w28 ⟨v1035, rfl, ho0, hb⟩; have HO1036 := mk0 (Rl ho0 (bZ HB.out)); replace BK1032 := bkB BK1032 hb; replace HB := mk0 (below_step HB.out hb); obtain ⟨hcz29_0, hcz29_1, hcz29_2, hfz29_0, hfz29_1, hfz29_2⟩ := cz3 BK1032) | (go_at_call 25; (with_reducible refine (examboardref37_Filter.calls kj5 _ _ l0 _ _ l1 a2 a3_0 _ _ l3_1 _ _ l3_2 a4 t1037 _ (by exact Cb HR0.out HB.out) HC0.out (by exact Cb HR1.out HB.out) HC1.out (by exact Cb HR3_1.out HB.out) HC3_1.out (by exact Cb HR3_2.out HB.out) HC3_2.out A15.out).mono ?_); rintro e w30 ⟨v1038, rfl, ho0, hb⟩; have HO1039 := mk0 (Rl (Rn ho0 (Rq HO1036.out)) (bZ HB.out)); replace HO1036 := mk0 (Re HO1036.out (Rs ho0) hb); replace BK1032 := bkB BK1032 hb; replace HB := mk0 (below_step HB.out hb); obtain ⟨Ao31, co31, eo31⟩ := Kd.R_slice HO1036.out; subst eo31; obtain ⟨Ao32, co32, eo32⟩ := Kd.R_slice HO1039.out; subst eo32))
     repeat (go_quiet (first | (go_at_call 24; (with_reducible refine (exposure_Filter.calls kj5 _ _ l0 _ _ l1 a2 a3_0 _ _ l3_1 _ _ l3_2 a4 t1034 _ (by exact Cb HR0.out HB.out) HC0.out (by exact Cb HR1.out HB.out) HC1.out (by exact Cb HR3_1.out HB.out) HC3_1.out (by exact Cb HR3_2.out HB.out) HC3_2.out A14.out).mono ?_); rintro e w28 ⟨v1035, rfl, ho0, hb⟩; have HO1036 := mk0 (Rl ho0 (bZ HB.out)); replace BK1032 := bkB BK1032 hb; replace HB := mk0 (below_step HB.out hb); obtain ⟨hcz29_0, hcz29_1, hcz29_2, hfz29_0, hfz29_1, hfz29_2⟩ := cz3 BK1032) | (go_at_call 25; (with_reducible refine (examboardref37_Filter.calls kj5 _ _ l0 _ _ l1 a2 a3_0 _ _ l3_1 _ _ l3_2 a4 t1037 _ (by exact Cb HR0.out HB.out) HC0.out (by exact Cb HR1.out HB.out) HC1.out (by exact Cb HR3_1.out HB.out) HC3_1.out (by exact Cb HR3_2.out HB.out) HC3_2.out A15.out).mono ?_); rintro e w30 ⟨v1038, rfl, ho0, hb⟩; have HO1039 := mk0 (Rl (Rn ho0 (Rq HO1036.out)) (bZ HB.out)); replace HO1036 := mk0 (Re HO1036.out (Rs ho0) hb); replace BK1032 := bkB BK1032 hb; replace HB := mk0 (below_step HB.out hb); obtain ⟨Ao31, co31, eo31⟩ := Kd.R_slice HO1036.out; subst eo31; obtain ⟨Ao32, co32, eo32⟩ := Kd.R_slice HO1039.out; subst eo32)); try go_wp2_with (first | (go_at_call 24; (with_reducible refine (exposure_Filter.calls kj5 _ _ l0 _ _ l1 a2 a3_0 _ _ l3_1 _ _ l3_2 a4 t1034 _ (by exact Cb HR0.out HB.out) HC0.out (by exact Cb HR1.out HB.out) HC1.out (by exact Cb HR3_1.out HB.out) HC3_1.out (by exact Cb HR3_2.out HB.out) HC3_2.out A14.out).mono ?_); rintro e w28 ⟨v1035, rfl, ho0, hb⟩; have HO1036 := mk0 (Rl ho0 (bZ HB.out)); replace BK1032 := bkB BK1032 hb; replace HB := mk0 (below_step HB.out hb); obtain ⟨hcz29_0, hcz29_1, hcz29_2, hfz29_0, hfz29_1, hfz29_2⟩ := cz3 BK1032) | (go_at_call 25; (with_reducible refine (examboardref37_Filter.calls kj5 _ _ l0 _ _ l1 a2 a3_0 _ _ l3_1 _ _ l3_2 a4 t1037 _ (by exact Cb HR0.out HB.out) HC0.out (by exact Cb HR1.out HB.out) HC1.out (by exact Cb HR3_1.out HB.out) HC3_1.out (by exact Cb HR3_2.out HB.out) HC3_2.out A15.out).mono ?_); rintro e w30 ⟨v1038, rfl, ho0, hb⟩; have HO1039 := mk0 (Rl (Rn ho0 (Rq HO1036.out)) (bZ HB.out)); replace HO1036 := mk0 (Re HO1036.out (Rs ho0) hb); replace BK1032 := bkB BK1032 hb; replace HB := mk0 (below_step HB.out hb); obtain ⟨Ao31, co31, eo31⟩ := Kd.R_slice HO1036.out; subst eo31; obtain ⟨Ao32, co32, eo32⟩ := Kd.R_slice HO1039.out; subst eo32)))
     go_ret
     exact ⟨rfl, by repeat (first | exact HB.out | apply bN | apply b1 | apply bA | refine bS ?_ GE1032.out)⟩
end Go.Proofs.Ythamhjmhgcpdgaa.Q
end
section
namespace Go.Proofs.Ythamhjmhgcpdgaa.Ord
open Go.RowKit Go.Proofs.YthamhjmhgcpdgaaW.PrintWords Go.Proofs.Ythamhjmhgcpdgaa.Q Go.Proofs.Ythamhjmhgcpdgaa.Lp
set_option linter.unusedVariables false
set_option linter.unusedSimpArgs false
def bd (a : Int) : Int := if a < 0 then 0 else if a > 1000000 then 1000000 else a
theorem bd_bounds (a : Int) : 0 ≤ bd a ∧ bd a ≤ 1000000 := by unfold bd; split <;> (try split) <;> omega
theorem bd_id {a : Int} (h0 : 0 ≤ a) (h1 : a ≤ 1000000) : bd a = a := by unfold bd; split <;> (try split) <;> omega
def tot : List S50 → Int → Int
 | [], _ => 0
 | u :: l, x => (if u.f0 = x then bd u.f1 else 0) + tot l x
def cnt (l : List S50) (x : Int) : Int := bd (tot l x)
theorem tot_nonneg (l : List S50) (x : Int) : 0 ≤ tot l x := by
 induction l with
 | nil => exact Int.le_refl _
 | cons u l ih => have := (bd_bounds u.f1).1; unfold tot; split <;> omega
theorem keeps_iff (d : Array Int) (j : Nat) : Lib.keeps d j = true ↔ (j = 0 ∨ d[j]! ≠ d[j - 1]!) := by
 unfold Lib.keeps
 simp
theorem compact_mem (zs : List Int) (x : Int) : x ∈ Lib.compact zs ↔ x ∈ zs := by
 unfold Lib.compact Lib.compactUpTo
 simp only [List.mem_map, List.mem_filter, List.mem_range]
 constructor
 ·rintro ⟨j, ⟨hj, _⟩, rfl⟩
  have : zs.toArray[j]! = zs[j] := by simp [hj]
  rw [this]
  exact List.getElem_mem hj
 ·intro hx
  obtain ⟨j, hj, rfl⟩ := List.mem_iff_getElem.1 hx
  clear hx
  induction j with
  | zero => exact ⟨0, ⟨hj, (keeps_iff _ _).2 (.inl rfl)⟩, by simp [hj]⟩
  | succ j ih =>
   by_cases hk : Lib.keeps zs.toArray (j + 1) = true
   ·exact ⟨j + 1, ⟨hj, hk⟩, by simp [hj]⟩
   ·have h1 : zs[j + 1] = zs[j]'(by omega) := by
     have h2 : ¬ (j + 1 = 0 ∨ zs.toArray[j + 1]! ≠ zs.toArray[j + 1 - 1]!) := fun h => hk ((keeps_iff _ _).2 h)
     have h3 : zs.toArray[j + 1]! = zs.toArray[j]! := by
      rcases Classical.em (zs.toArray[j + 1]! = zs.toArray[j]!) with h | h
      ·exact h
      ·exact absurd (.inr (by simpa using h)) h2
     have e1 : zs.toArray[j + 1]! = zs[j + 1] := by simp [hj]
     have e2 : zs.toArray[j]! = zs[j]'(by omega) := by simp [show j < zs.length by omega]
     rw [← e1, h3, e2]
    rw [h1]
    exact ih (by omega)
theorem compact_sorted {zs : List Int} (h : zs.Pairwise (· ≤ ·)) : (Lib.compact zs).Pairwise (· < ·) := by
 unfold Lib.compact Lib.compactUpTo
 rw [List.pairwise_map]
 have hr : ((List.range zs.length).filter (Lib.keeps zs.toArray)).Pairwise (fun i j => i < j ∧ j < zs.length ∧ Lib.keeps zs.toArray j = true) := by
  have h1 : ((List.range zs.length).filter (Lib.keeps zs.toArray)).Pairwise (· < ·) := List.Pairwise.filter _ List.pairwise_lt_range
  refine List.Pairwise.imp_of_mem ?_ h1
  intro a b _ hb hab
  rw [List.mem_filter, List.mem_range] at hb
  exact ⟨hab, hb.1, hb.2⟩
 refine hr.imp ?_
 rintro i j ⟨hij, hj, hk⟩
 have e1 : zs.toArray[j]! = zs[j] := by simp [hj]
 have e2 : zs.toArray[i]! = zs[i]'(by omega) := by simp [show i < zs.length by omega]
 have e3 : zs.toArray[j - 1]! = zs[j - 1]'(by omega) := by simp [show j - 1 < zs.length by omega]
 have h2 := (keeps_iff _ _).1 hk
 rw [e1, e3] at h2
 rw [e1, e2]
 have h3 : zs[j - 1]'(by omega) ≤ zs[j] := List.pairwise_iff_getElem.1 h (j - 1) j (by omega) hj (by omega)
 have h4 : zs[i]'(by omega) ≤ zs[j - 1]'(by omega) := by
  rcases Nat.lt_or_ge i (j - 1) with h | h'
  ·exact List.pairwise_iff_getElem.1 ‹_› i (j - 1) (by omega) (by omega) h
  ·have : i = j - 1 := by omega
   subst this
   exact Int.le_refl _
 rcases h2 with h2 | h2
 ·omega
 ·omega
def sorted (zs : List Int) : List Int := zs.mergeSort fun x y => decide (x ≤ y)
theorem sorted_le (zs : List Int) : (sorted zs).Pairwise (· ≤ ·) := by
 have := List.pairwise_mergeSort (le := fun x y : Int => decide (x ≤ y)) (fun a b c h1 h2 => by simp at *; omega) (fun a b => by simp; omega) zs
 exact this.imp (fun h => by simpa using h)
theorem sorted_mem (zs : List Int) (x : Int) : x ∈ sorted zs ↔ x ∈ zs := List.mem_mergeSort
def keys (zs : List Int) : List Int := Lib.compact (sorted zs)
theorem keys_mem (zs : List Int) (x : Int) : x ∈ keys zs ↔ x ∈ zs := by unfold keys; rw [compact_mem, sorted_mem]
theorem keys_sorted (zs : List Int) : (keys zs).Pairwise (· < ·) := compact_sorted (sorted_le zs)
theorem keys_length (zs : List Int) : (keys zs).length ≤ zs.length := by
 unfold keys
 refine Nat.le_trans (MyWords.compact_length _) ?_
 unfold sorted
 rw [List.length_mergeSort]
 exact Nat.le_refl _
theorem bounded_eq (a : Int) : exposure_bounded.f a = some (bd a) := by
 unfold exposure_bounded.f bd mn mx
 congr 1
 split <;> split <;> (try split) <;> (try split) <;> omega
theorem count_loop (l : List S50) (x : Int) (hl : l.length ≤ 9223372036854775807) (d : Nat) : ∀ (i : Nat) (acc : Int), i + d = l.length → 0 ≤ acc → acc ≤ 1000000 →
  Ev (fun k => exposure_Count.l0 k x acc l (l.length : Int) (i : Int)) (bd (acc + tot (l.drop i) x)) := by
 induction d with
 | zero =>
  intro i acc hi h0 h1
  refine Ev.last (fun k => ?_)
  simp only [exposure_Count.l0]
  rw [if_neg (by omega), List.drop_eq_nil_of_le (by omega)]
  simp only [tot, Int.add_zero]
  rw [bd_id h0 h1]
 | succ d ih =>
  intro i acc hi h0 h1
  have w := wrap_next (i := i) (n := l.length) (by omega) hl
  have hil : (i : Int) < (l.length : Int) := by omega
  have hi0 : (0 : Int) ≤ (i : Int) := by omega
  have e : rd_T50 l (i : Int) = l.getD i z50 := by unfold rd_T50; rw [Int.toNat_natCast]
  obtain ⟨u, hu⟩ : ∃ u, u = l.getD i z50 := ⟨_, rfl⟩
  have hd : l.drop i = u :: l.drop (i + 1) := by rw [hu]; exact getD_drop l z50 i (by omega)
  rw [hd, tot]
  have tn := tot_nonneg (l.drop (i + 1)) x
  by_cases hx : u.f0 = x
  ·obtain ⟨b0, b1⟩ := bd_bounds u.f1
   have w2 : wrap64 (acc + bd u.f1) = acc + bd u.f1 := wrap64_id (by omega) (by omega)
   obtain ⟨c0, c1⟩ := bd_bounds (acc + bd u.f1)
   have k2 := ih (i + 1) (bd (acc + bd u.f1)) (by omega) c0 c1
   have eb : bd (acc + ((if u.f0 = x then bd u.f1 else 0) + tot (l.drop (i + 1)) x)) = bd (bd (acc + bd u.f1) + tot (l.drop (i + 1)) x) := by
    rw [if_pos hx]
    generalize tot (l.drop (i + 1)) x = t at tn
    generalize bd u.f1 = b at b0 b1
    unfold bd
    split <;> split <;> (try split) <;> (try split) <;> (try split) <;> omega
   rw [eb]
   refine Ev.step (fun k => ?_) k2
   simp only [exposure_Count.l0]
   rw [if_pos hil, if_pos hi0, if_pos hil, e, ← hu, if_pos hx, w, bounded_eq, Option.bind_some, w2, bounded_eq, Option.bind_some]
  ·rw [if_neg hx, Int.zero_add]
   refine Ev.step (fun k => ?_) (ih (i + 1) acc (by omega) h0 h1)
   simp only [exposure_Count.l0]
   rw [if_pos hil, if_pos hi0, if_pos hil, e, ← hu, if_neg hx, w]
theorem count_ev (l : List S50) (x : Int) (hl : l.length ≤ 9223372036854775807) : Ev (fun k => exposure_Count.f k l x) (cnt l x) := by
 have h := count_loop l x hl l.length 0 0 (by omega) (by omega) (by omega)
 rw [List.drop_zero, Int.zero_add] at h
 exact h
def key (a : List S50) (j : Nat) : Int := (a.getD j z50).f0
def isLeast (l : List Int) (after : Bool) (x : Int) (b : Int) : Prop := b ∈ l ∧ (after = true → x < b) ∧ ∀ y ∈ l, (after = true → x < y) → b ≤ y
theorem least_loop (l : List Int) (after : Bool) (x : Int) (hl : l.length ≤ 9223372036854775807) (d : Nat) : ∀ (i : Nat) (best : Int) (found : Bool), i + d = l.length →
  (found = true → isLeast (l.take i) after x best) → (found = false → ∀ y ∈ l.take i, ¬ (after = true → x < y)) →
  ∃ b f, Ev (fun k => examboardref37_least.l0 k l after x best found (i : Int)) (b, f) ∧ (f = true → isLeast l after x b) ∧ (f = false → ∀ y ∈ l, ¬ (after = true → x < y)) := by
 induction d with
 | zero =>
  intro i best found hid h1 h2
  rw [List.take_of_length_le (by omega)] at h1 h2
  refine ⟨best, found, Ev.last (fun k => ?_), h1, h2⟩
  simp only [examboardref37_least.l0]
  rw [if_neg (by omega)]
 | succ d ih =>
  intro i best found hid h1 h2
  have W := Aside0.mk (wrap_next (i := i) (n := l.length) (by omega) hl)
  obtain ⟨t, ht⟩ : ∃ t, t = l.getD i 0 := ⟨_, rfl⟩
  have e : rd l (i : Int) = t := by unfold rd; rw [Int.toNat_natCast, ht]
  have hsn := take_snoc l 0 i (by omega)
  rw [← ht] at hsn
  have hi0 : (0 : Int) ≤ (i : Int) := by omega
  have hil : (i : Int) < (l.length : Int) := by omega
  have take_ : (after = true → x < t) → (found = true → t < best) → ∃ b f, Ev (fun k => examboardref37_least.l0 k l after x t true ((i + 1 : Nat) : Int)) (b, f) ∧ (f = true → isLeast l after x b) ∧ (f = false → ∀ y ∈ l, ¬ (after = true → x < y)) := by
   intro q1 q2
   refine ih (i + 1) t true (by omega) (fun _ => ?_) (fun h => by cases h)
   rw [hsn]
   refine ⟨List.mem_append_right _ List.mem_cons_self, q1, fun y hy hxy => ?_⟩
   rcases List.mem_append.1 hy with hy | hy
   ·cases found with
    | true =>
     have := (h1 rfl).2.2 y hy hxy
     have := q2 rfl
     omega
    | false => exact absurd hxy (h2 rfl y hy)
   ·rw [List.mem_singleton.1 hy]
    exact Int.le_refl _
  have keep : ((after = true → x < t) → found = true ∧ best ≤ t) → ∃ b f, Ev (fun k => examboardref37_least.l0 k l after x best found ((i + 1 : Nat) : Int)) (b, f) ∧ (f = true → isLeast l after x b) ∧ (f = false → ∀ y ∈ l, ¬ (after = true → x < y)) := by
   intro q
   refine ih (i + 1) best found (by omega) (fun hf => ?_) (fun hf y hy hxy => ?_)
   ·rw [hsn]
    have h3 := h1 hf
    refine ⟨List.mem_append_left _ h3.1, h3.2.1, fun y hy hxy => ?_⟩
    rcases List.mem_append.1 hy with hy | hy
    ·exact h3.2.2 y hy hxy
    ·rw [List.mem_singleton.1 hy] at hxy ⊢
     exact (q hxy).2
   ·rw [hsn] at hy
    rcases List.mem_append.1 hy with hy | hy
    ·exact h2 hf y hy hxy
    ·rw [List.mem_singleton.1 hy] at hxy
     have := (q hxy).1
     rw [hf] at this
     cases this
  by_cases ha : after = true
  ·subst ha
   by_cases hx : t > x
   ·cases found with
    | true =>
     by_cases hb : t < best
     ·obtain ⟨b, f, k1, k2⟩ := take_ (fun _ => hx) (fun _ => hb)
      refine ⟨b, f, Ev.step (fun k => ?_) k1, k2⟩
      simp only [examboardref37_least.l0, if_true]
      rw [if_pos hil, if_pos hi0, e, if_pos hx, if_pos hb, W.out]
     ·obtain ⟨b, f, k1, k2⟩ := keep (fun _ => ⟨rfl, by omega⟩)
      refine ⟨b, f, Ev.step (fun k => ?_) k1, k2⟩
      simp only [examboardref37_least.l0, if_true]
      rw [if_pos hil, if_pos hi0, e, if_pos hx, if_neg hb, W.out]
    | false =>
     obtain ⟨b, f, k1, k2⟩ := take_ (fun _ => hx) (fun h => by cases h)
     refine ⟨b, f, Ev.step (fun k => ?_) k1, k2⟩
     simp only [examboardref37_least.l0, if_true, Bool.false_eq_true, if_false]
     rw [if_pos hil, if_pos hi0, e, if_pos hx, W.out]
   ·obtain ⟨b, f, k1, k2⟩ := keep (fun h => absurd (h rfl) hx)
    refine ⟨b, f, Ev.step (fun k => ?_) k1, k2⟩
    simp only [examboardref37_least.l0, if_true]
    rw [if_pos hil, if_pos hi0, e, if_neg hx, W.out]
  ·have haf : after = false := by simpa using ha
   subst haf
   cases found with
   | true =>
    by_cases hb : t < best
    ·obtain ⟨b, f, k1, k2⟩ := take_ (fun h => by cases h) (fun _ => hb)
     refine ⟨b, f, Ev.step (fun k => ?_) k1, k2⟩
     simp only [examboardref37_least.l0, if_true, Bool.false_eq_true, if_false]
     rw [if_pos hil, if_pos hi0, e, if_pos hb, W.out]
    ·obtain ⟨b, f, k1, k2⟩ := keep (fun _ => ⟨rfl, by omega⟩)
     refine ⟨b, f, Ev.step (fun k => ?_) k1, k2⟩
     simp only [examboardref37_least.l0, if_true, Bool.false_eq_true, if_false]
     rw [if_pos hil, if_pos hi0, e, if_neg hb, W.out]
   | false =>
    obtain ⟨b, f, k1, k2⟩ := take_ (fun h => by cases h) (fun h => by cases h)
    refine ⟨b, f, Ev.step (fun k => ?_) k1, k2⟩
    simp only [examboardref37_least.l0, if_true, Bool.false_eq_true, if_false]
    rw [if_pos hil, if_pos hi0, e, W.out]
theorem least_ev (l : List Int) (after : Bool) (x : Int) (hl : l.length ≤ 9223372036854775807) : ∃ b f, Ev (fun k => examboardref37_least.f k l after x) (b, f) ∧ (f = true → isLeast l after x b) ∧ (f = false → ∀ y ∈ l, ¬ (after = true → x < y)) :=
 least_loop l after x hl l.length 0 0 false (by omega) (fun h => by cases h) (fun _ y hy => by simp at hy)
theorem rising_eq : ∀ {a b : List Int}, a.Pairwise (· < ·) → b.Pairwise (· < ·) → (∀ x, x ∈ a ↔ x ∈ b) → a = b
 | [], [], _, _, _ => rfl
 | [], y :: b, _, _, h => absurd ((h y).2 List.mem_cons_self) (by simp)
 | y :: a, [], _, _, h => absurd ((h y).1 List.mem_cons_self) (by simp)
 | x :: a, y :: b, ha, hb, h => by
  have ha1 := (List.pairwise_cons.1 ha).1
  have hb1 := (List.pairwise_cons.1 hb).1
  have hxy : x = y := by
   rcases List.mem_cons.1 ((h x).1 List.mem_cons_self) with e | e
   ·exact e
   ·rcases List.mem_cons.1 ((h y).2 List.mem_cons_self) with e' | e'
    ·exact e'.symm
    ·have := ha1 y e'
     have := hb1 x e
     omega
  subst hxy
  rw [rising_eq (List.pairwise_cons.1 ha).2 (List.pairwise_cons.1 hb).2 (fun z => by
   constructor
   ·intro hz
    rcases List.mem_cons.1 ((h z).1 (List.mem_cons_of_mem _ hz)) with e | e
    ·have := ha1 z hz; omega
    ·exact e
   ·intro hz
    rcases List.mem_cons.1 ((h z).2 (List.mem_cons_of_mem _ hz)) with e | e
    ·have := hb1 z hz; omega
    ·exact e)]
theorem rising_len : ∀ {a b : List Int}, a.Pairwise (· < ·) → b.Pairwise (· < ·) → (∀ x ∈ a, x ∈ b) → a.length ≤ b.length
 | [], _, _, _, _ => Nat.zero_le _
 | x :: a, [], _, _, h => absurd (h x List.mem_cons_self) (by simp)
 | x :: a, y :: b, ha, hb, h => by
  have ha1 := (List.pairwise_cons.1 ha).1
  have hb1 := (List.pairwise_cons.1 hb).1
  rcases List.mem_cons.1 (h x List.mem_cons_self) with e | e
  ·have := rising_len (List.pairwise_cons.1 ha).2 (List.pairwise_cons.1 hb).2 (fun z hz => by
    rcases List.mem_cons.1 (h z (List.mem_cons_of_mem _ hz)) with e2 | e2
    ·have := ha1 z hz; omega
    ·exact e2)
   simp only [List.length_cons]
   omega
  ·have hyx := hb1 x e
   have := rising_len ha (List.pairwise_cons.1 hb).2 (fun z hz => by
    rcases List.mem_cons.1 (h z hz) with e2 | e2
    ·rcases List.mem_cons.1 hz with e3 | e3
     ·omega
     ·have := ha1 z e3; omega
    ·exact e2)
   simp only [List.length_cons] at *
   omega
theorem rising_loop (l : List Int) (hl : l.length ≤ 1000000) (d : Nat) : ∀ (out : List Int) (x : Int) (ok : Bool), (keys l).length ≤ out.length + d → out.Pairwise (· < ·) → (∀ y ∈ out, y ∈ l) →
  (ok = true → x ∈ l ∧ (∀ y ∈ out, y < x) ∧ ∀ y ∈ l, y < x → y ∈ out) → (ok = false → ∀ y ∈ l, y ∈ out) →
  Ev (fun k => examboardref37_rising.l0 k l out x ok) (keys l) := by
 have fin : ∀ out : List Int, out.Pairwise (· < ·) → (∀ y ∈ out, y ∈ l) → (∀ y ∈ l, y ∈ out) → out = keys l := fun out h1 h2 h3 => rising_eq h1 (keys_sorted l) (fun y => by rw [keys_mem]; exact ⟨h2 y, h3 y⟩)
 have len : ∀ out : List Int, out.Pairwise (· < ·) → (∀ y ∈ out, y ∈ keys l) → out.length ≤ (keys l).length := fun out h1 h2 => by
  exact rising_len h1 (keys_sorted l) h2
 induction d with
 | zero =>
  intro out x ok hd h1 h2 h3 h4
  have h5 : ok = false := by
   cases ok with
   | false => rfl
   | true =>
    obtain ⟨q1, q2, q3⟩ := h3 rfl
    have hp : (out ++ [x]).Pairwise (· < ·) := by
     rw [List.pairwise_append]
     exact ⟨h1, List.pairwise_singleton _ _, fun a ha b hb => by rw [List.mem_singleton.1 hb]; exact q2 a ha⟩
    have := len (out ++ [x]) hp (fun y hy => by
     rw [keys_mem]
     rcases List.mem_append.1 hy with hy | hy
     ·exact h2 y hy
     ·rw [List.mem_singleton.1 hy]; exact q1)
    rw [List.length_append, List.length_singleton] at this
    omega
  subst h5
  rw [← fin out h1 h2 (h4 rfl)]
  exact Ev.last (fun k => by simp only [examboardref37_rising.l0, Bool.false_eq_true, if_false])
 | succ d ih =>
  intro out x ok hd h1 h2 h3 h4
  cases ok with
  | false =>
   rw [← fin out h1 h2 (h4 rfl)]
   exact Ev.last (fun k => by simp only [examboardref37_rising.l0, Bool.false_eq_true, if_false])
  | true =>
   obtain ⟨q1, q2, q3⟩ := h3 rfl
   have hp : (out ++ [x]).Pairwise (· < ·) := by
    rw [List.pairwise_append]
    exact ⟨h1, List.pairwise_singleton _ _, fun a ha b hb => by rw [List.mem_singleton.1 hb]; exact q2 a ha⟩
   have hm : ∀ y ∈ out ++ [x], y ∈ l := fun y hy => by
    rcases List.mem_append.1 hy with hy | hy
    ·exact h2 y hy
    ·rw [List.mem_singleton.1 hy]; exact q1
   have hlen : out.length < 17592186044416 := by
    have a1 := len out h1 (fun y hy => by rw [keys_mem]; exact h2 y hy)
    have a2 := keys_length l
    omega
   obtain ⟨b, f, k1, k2, k3⟩ := least_ev l true x (by omega)
   refine Ev.step (f := fun k => (examboardref37_least.f k l true x).bind fun bt1019 => (examboardref37_rising.l0 k l (out ++ [x]) bt1019.1 bt1019.2)) (fun k => by simp only [examboardref37_rising.l0, if_true]; rw [if_pos hlen]) ?_
   refine Ev.bind k1 (ih (out ++ [x]) b f (by rw [List.length_append, List.length_singleton]; omega) hp hm (fun hf => ?_) (fun hf y hy => ?_))
   ·obtain ⟨r1, r2, r3⟩ := k2 hf
    refine ⟨r1, fun y hy => ?_, fun y hy hyb => ?_⟩
    ·rcases List.mem_append.1 hy with hy | hy
     ·have := q2 y hy
      have := r2 rfl
      omega
     ·rw [List.mem_singleton.1 hy]; exact r2 rfl
    ·rcases Int.lt_trichotomy y x with h | h | h
     ·exact List.mem_append_left _ (q3 y hy h)
     ·rw [h]; exact List.mem_append_right _ List.mem_cons_self
     ·have := r3 y hy (fun _ => h)
      omega
   ·have hn : ¬ x < y := fun h => k3 hf y hy (fun _ => h)
    rcases Int.lt_or_eq_of_le (Int.not_lt.1 hn) with h | h
    ·exact List.mem_append_left _ (q3 y hy h)
    ·rw [h]; exact List.mem_append_right _ List.mem_cons_self
theorem rising_ev (l : List Int) (hl : l.length ≤ 1000000) : Ev (fun k => examboardref37_rising.f k l) (keys l) := by
 obtain ⟨b, f, k1, k2, k3⟩ := least_ev l false 0 (by omega)
 refine Ev.bind k1 (rising_loop l hl (keys l).length [] b f (by simp) List.Pairwise.nil (fun y hy => by cases hy) (fun hf => ?_) (fun hf y hy => ?_))
 ·obtain ⟨r1, r2, r3⟩ := k2 hf
  exact ⟨r1, fun y hy => (by cases hy), fun y hy hyb => by have := r3 y hy (fun h => by cases h); omega⟩
 ·exact absurd (fun h => by cases h) (k3 hf y hy)
end Go.Proofs.Ythamhjmhgcpdgaa.Ord
end
section
namespace Go.Proofs.Ythamhjmhgcpdgaa.Fil
open Go.RowKit Go.Proofs.YthamhjmhgcpdgaaW.PrintWords Go.Proofs.YthamhjmhgcpdgaaW.PrintLast Go.Proofs.YthamhjmhgcpdgaaW.PrintMore Go.Proofs.Ythamhjmhgcpdgaa.Q Go.Proofs.Ythamhjmhgcpdgaa.Th
open Go.Proofs.Ythamhjmhgcpdgaa.Big (elig_ev elig37_ev eligV numR denR large_eq limited_eq)
open Go.Proofs.Ythamhjmhgcpdgaa.Ord (cnt tot count_ev keys rising_ev keys_length bd bd_bounds bd_id tot_nonneg)
open Go.Proofs.Ythamhjmhgcpdgaa.Lp
set_option linter.unusedVariables false
set_option linter.unusedSimpArgs false
theorem rcount_loop (l : List S50) (x : Int) (hl : l.length ≤ 9223372036854775807) (d : Nat) : ∀ (i : Nat) (acc : Int), i + d = l.length → 0 ≤ acc → acc ≤ 1000000 →
  Ev (fun k => examboardref37_Count.l0 k l x acc (i : Int)) (bd (acc + tot (l.drop i) x)) := by
 induction d with
 | zero =>
  intro i acc hi h0 h1
  refine Ev.last (fun k => ?_)
  simp only [examboardref37_Count.l0]
  rw [if_neg (by omega), List.drop_eq_nil_of_le (by omega)]
  simp only [tot, Int.add_zero]
  rw [bd_id h0 h1]
 | succ d ih =>
  intro i acc hi h0 h1
  have w := wrap_next (i := i) (n := l.length) (by omega) hl
  have hil : (i : Int) < (l.length : Int) := by omega
  have hi0 : (0 : Int) ≤ (i : Int) := by omega
  have e : rd_T50 l (i : Int) = l.getD i z50 := by unfold rd_T50; rw [Int.toNat_natCast]
  obtain ⟨u, hu⟩ : ∃ u, u = l.getD i z50 := ⟨_, rfl⟩
  have hd : l.drop i = u :: l.drop (i + 1) := by rw [hu]; exact getD_drop l z50 i (by omega)
  rw [hd, tot]
  have tn := tot_nonneg (l.drop (i + 1)) x
  have lim : ∀ a : Int, examboardref37_limited.f a = some (bd a) := limited_eq
  by_cases hx : u.f0 = x
  ·obtain ⟨b0, b1⟩ := bd_bounds u.f1
   have w2 : wrap64 (acc + bd u.f1) = acc + bd u.f1 := wrap64_id (by omega) (by omega)
   obtain ⟨c0, c1⟩ := bd_bounds (acc + bd u.f1)
   have k2 := ih (i + 1) (bd (acc + bd u.f1)) (by omega) c0 c1
   have eb : bd (acc + ((if u.f0 = x then bd u.f1 else 0) + tot (l.drop (i + 1)) x)) = bd (bd (acc + bd u.f1) + tot (l.drop (i + 1)) x) := by
    rw [if_pos hx]
    generalize tot (l.drop (i + 1)) x = t at tn
    generalize bd u.f1 = b at b0 b1
    unfold bd
    split <;> split <;> (try split) <;> (try split) <;> (try split) <;> omega
   rw [eb]
   refine Ev.step (fun k => ?_) k2
   simp only [examboardref37_Count.l0]
   rw [if_pos hil, if_pos hi0, e, ← hu, if_pos hx, w, lim, Option.bind_some, w2, lim, Option.bind_some]
  ·rw [if_neg hx, Int.zero_add]
   refine Ev.step (fun k => ?_) (ih (i + 1) acc (by omega) h0 h1)
   simp only [examboardref37_Count.l0]
   rw [if_pos hil, if_pos hi0, e, ← hu, if_neg hx, w]
theorem rcount_ev (l : List S50) (x : Int) (hl : l.length ≤ 9223372036854775807) : Ev (fun k => examboardref37_Count.f k l x) (cnt l x) := by
 have h := rcount_loop l x hl l.length 0 0 (by omega) (by omega) (by omega)
 rw [List.drop_zero, Int.zero_add] at h
 exact h
def ok (uses : List S50) (served : Int) (N : Int) (D : Nat) (slack : Int) (u : S80) : Bool := eligV (cnt uses u.f0) served N D slack
def pick (pool : List S80) (uses : List S50) (served : Int) (N : Int) (D : Nat) (slack : Int) : List Int := (pool.filter (ok uses served N D slack)).map (·.f0)
theorem filter_loop (neg : Bool) {ln ld : List Int} (hn : okl ln) (hd : okl ld) (h1 : ln.length ≤ 20) (h2 : ld.length ≤ 20) (pool : List S80) (hp : pool.length ≤ 40) (uses : List S50) (hu : uses.length ≤ 200) (served slack : Int) (d : Nat) :
  ∀ (i : Nat) (acc : List Int), i + d = pool.length → acc.length ≤ i →
  Ev (fun k => exposure_Filter.l0 k uses served slack acc pool (pool.length : Int) (i : Int) neg ln ld) (keys (acc ++ pick (pool.drop i) uses served (numR neg ln ld) (denR ld) slack)) ∧
  Ev (fun k => examboardref37_Filter.l0 k pool uses served slack acc (i : Int) neg ln ld) (keys (acc ++ pick (pool.drop i) uses served (numR neg ln ld) (denR ld) slack)) := by
 induction d with
 | zero =>
  intro i acc hid ha
  rw [List.drop_eq_nil_of_le (by omega)]
  simp only [pick, List.filter_nil, List.map_nil, List.append_nil]
  constructor
  ·refine Ev.last (fun k => ?_)
   simp only [exposure_Filter.l0, slices_Sort_int_int.f, slices_Compact_int_int.f]
   rw [if_neg (by omega), if_pos (by omega), Option.bind_some, if_pos (by rw [List.length_mergeSort]; omega), Option.bind_some]
   rfl
  ·refine Ev.step (f := fun k => (examboardref37_rising.f k acc).bind fun t1022 => (some t1022)) (fun k => ?_) (Ev.bind (f := fun (_ : Nat) (t : List Int) => some t) (rising_ev acc (by omega)) (Ev.now _))
   simp only [examboardref37_Filter.l0]
   rw [if_neg (by omega)]
 | succ d ih =>
  intro i acc hid ha
  have W := Aside0.mk (wrap_next (i := i) (n := pool.length) (by omega) (by omega))
  obtain ⟨u, hu0⟩ : ∃ u, u = pool.getD i z80 := ⟨_, rfl⟩
  have e : rd_T80 pool (i : Int) = u := by unfold rd_T80; rw [Int.toNat_natCast, hu0]
  have hdr : pool.drop i = u :: pool.drop (i + 1) := by rw [hu0]; exact getD_drop pool z80 i (by omega)
  have hil : (i : Int) < (pool.length : Int) := by omega
  have hi0 : (0 : Int) ≤ (i : Int) := by omega
  have c1 := count_ev uses u.f0 (by omega)
  have c2 := rcount_ev uses u.f0 (by omega)
  have q1 := elig_ev (cnt uses u.f0) served slack neg hn hd h1 h2
  have q2 := elig37_ev (cnt uses u.f0) served slack neg hn hd h1 h2
  have s1 : ∀ k, exposure_Filter.l0 (k + 1) uses served slack acc pool (pool.length : Int) (i : Int) neg ln ld = (exposure_Count.f k uses u.f0).bind fun t614 => ((exposure_Eligible.f k t614 served neg ln ld slack).bind fun t615 => (if t615 = true then (if acc.length < 17592186044416 then (exposure_Filter.l0 k uses served slack (acc ++ [u.f0]) pool (pool.length : Int) ((i + 1 : Nat) : Int) neg ln ld) else (none)) else (exposure_Filter.l0 k uses served slack acc pool (pool.length : Int) ((i + 1 : Nat) : Int) neg ln ld))) := fun k => by
   simp only [exposure_Filter.l0]
   rw [if_pos hil, if_pos hi0, if_pos hil, e, W.out]
  have s2 : ∀ k, examboardref37_Filter.l0 (k + 1) pool uses served slack acc (i : Int) neg ln ld = (examboardref37_Count.f k uses u.f0).bind fun t1026 => ((examboardref37_Eligible.f k t1026 served neg ln ld slack).bind fun t1027 => (if t1027 = true then (if acc.length < 17592186044416 then (examboardref37_Filter.l0 k pool uses served slack (acc ++ [u.f0]) ((i + 1 : Nat) : Int) neg ln ld) else (none)) else (examboardref37_Filter.l0 k pool uses served slack acc ((i + 1 : Nat) : Int) neg ln ld))) := fun k => by
   simp only [examboardref37_Filter.l0]
   rw [if_pos hil, if_pos hi0, e, W.out]
  rw [hdr]
  by_cases hel : eligV (cnt uses u.f0) served (numR neg ln ld) (denR ld) slack = true
  ·have hpk : pick (u :: pool.drop (i + 1)) uses served (numR neg ln ld) (denR ld) slack = u.f0 :: pick (pool.drop (i + 1)) uses served (numR neg ln ld) (denR ld) slack := by
    unfold pick
    rw [List.filter_cons, if_pos (show ok uses served (numR neg ln ld) (denR ld) slack u = true from hel), List.map_cons]
   obtain ⟨g1, g2⟩ := ih (i + 1) (acc ++ [u.f0]) (by omega) (by rw [List.length_append, List.length_singleton]; omega)
   rw [List.append_assoc, List.singleton_append, ← hpk] at g1 g2
   have hlim : acc.length < 17592186044416 := by omega
   exact ⟨Ev.step s1 (Ev.bind c1 (Ev.bind q1 (Ev.ite_pos hel (Ev.ite_pos hlim g1)))), Ev.step s2 (Ev.bind c2 (Ev.bind q2 (Ev.ite_pos hel (Ev.ite_pos hlim g2))))⟩
  ·have hpk : pick (u :: pool.drop (i + 1)) uses served (numR neg ln ld) (denR ld) slack = pick (pool.drop (i + 1)) uses served (numR neg ln ld) (denR ld) slack := by
    unfold pick
    rw [List.filter_cons, if_neg (show ¬ ok uses served (numR neg ln ld) (denR ld) slack u = true from hel)]
   obtain ⟨g1, g2⟩ := ih (i + 1) acc (by omega) (by omega)
   rw [← hpk] at g1 g2
   exact ⟨Ev.step s1 (Ev.bind c1 (Ev.bind q1 (Ev.ite_neg hel g1))), Ev.step s2 (Ev.bind c2 (Ev.bind q2 (Ev.ite_neg hel g2)))⟩
theorem same_loop (a : List Int) (ha : a.length ≤ 9223372036854775807) (d : Nat) : ∀ i : Nat, i + d = a.length → Ev (fun k => examboardlaw37_ExposureFilters.l0 k a a (i : Int)) true := by
 induction d with
 | zero =>
  intro i hid
  refine Ev.last (fun k => ?_)
  simp only [examboardlaw37_ExposureFilters.l0]
  rw [if_neg (by omega)]
 | succ d ih =>
  intro i hid
  have W := Aside0.mk (wrap_next (i := i) (n := a.length) (by omega) ha)
  refine Ev.step (fun k => ?_) (ih (i + 1) (by omega))
  simp only [examboardlaw37_ExposureFilters.l0]
  rw [if_pos (by omega), if_pos (by omega), if_pos (by omega), if_pos trivial, W.out]
theorem filters_law (pool : List S80) (uses : List S50) (served : Int) (neg : Bool) {ln ld : List Int} (hn : okl ln) (hd : okl ld) (slack : Int) : Ev (fun k => examboardlaw37_ExposureFilters.f k pool uses served neg ln ld slack) true := by
 unfold examboardlaw37_ExposureFilters.f
 have ht : Ev (fun k => examboardlaw37_ExposureFilters.j0 k pool uses served slack true neg ln ld) true := Ev.last (fun k => by simp only [examboardlaw37_ExposureFilters.j0, if_true])
 by_cases c1 : (pool.length : Int) > 40
 ·exact Ev.ite_pos c1 ht
 refine Ev.ite_neg c1 ?_
 by_cases c2 : (uses.length : Int) > 200
 ·exact Ev.ite_pos c2 ht
 refine Ev.ite_neg c2 ?_
 rw [large_eq]
 simp only [Option.bind_some]
 by_cases h : 20 < ln.length ∨ 20 < ld.length
 ·rw [decide_eq_true h]
  exact ht
 rw [decide_eq_false h]
 obtain ⟨g1, g2⟩ := filter_loop neg hn hd (by omega) (by omega) pool (by omega) uses (by omega) served slack pool.length 0 [] (by omega) (Nat.le_refl _)
 rw [List.drop_zero, List.nil_append] at g1 g2
 generalize hk : keys (pick pool uses served (numR neg ln ld) (denR ld) slack) = ks at g1 g2
 have hl : ks.length ≤ 40 := by
  rw [← hk]
  refine Nat.le_trans (keys_length _) ?_
  unfold pick
  rw [List.length_map]
  exact Nat.le_trans (List.length_filter_le _ _) (by omega)
 refine Ev.step (f := fun k => (exposure_Filter.f k pool uses served neg ln ld slack).bind fun t1034 => ((examboardref37_Filter.f k pool uses served neg ln ld slack).bind fun t1037 => (if (t1034.length : Int) = (t1037.length : Int) then (examboardlaw37_ExposureFilters.l0 k t1034 t1037 0) else (some false)))) (fun k => ?_) ?_
 ·simp only [examboardlaw37_ExposureFilters.j0]
  rw [if_neg (by decide)]
 ·exact Ev.bind (a := ks) g1 (Ev.bind (a := ks) g2 (Ev.ite_pos rfl (same_loop ks (by omega) ks.length 0 (by omega))))
end Go.Proofs.Ythamhjmhgcpdgaa.Fil
end
