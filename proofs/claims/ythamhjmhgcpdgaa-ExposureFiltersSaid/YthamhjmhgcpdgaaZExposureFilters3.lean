/- Lemmas and contracts for the law ExposureFilters: words of the print, contracts of the functions that the law reaches, and what these compute, as far as the law needs them; packed by a program of this session. -/
import Derived.Test.YthamhjmhgcpdgaaZExposureFilters2
section
namespace Go.Proofs.Ythamhjmhgcpdgaa.Q
open Go.RowKit Go.Proofs.YthamhjmhgcpdgaaW.PrintWords Go.Proofs.YthamhjmhgcpdgaaW.PrintLast Go.Proofs.YthamhjmhgcpdgaaW.PrintMore Go.Proofs.Ythamhjmhgcpdgaa.MyWords
attribute [local go_sem] max2_int min2_int max_two min_two
set_option linter.unusedVariables false
set_option linter.unusedSimpArgs false
def examboardref01_Mul.T9 : Bool × List (List Nat × List Nat) := (true, [([], []), ([], []), ([], []), ([1, 2], [1, 2]), ([0, 3], [0, 3]), ([4], [4]), ([5], [5]), ([], []), ([], []), ([7, 8], [7, 8]), ([9], [9]), ([10], [10]), ([], []), ([], []), ([12, 13], [12, 13]), ([14], [14]), ([15], [15]), ([11, 16], [11, 16]), ([6, 17], [6, 17]), ([], []), ([18, 19], [18, 19]), ([20, 0, 1, 2, 3, 4, 5, 6, 7, 8, 9, 10, 11, 12, 13, 14, 15, 16, 17, 18, 19, 20], [20])])
def examboardref01_Mul.B9 : List Nat := [0, 0, 0, 6, 15, 31, 63, 0, 0, 384, 896, 1920, 0, 0, 12288, 28672, 61440, 130944, 262143, 0, 1048575, 2097151]
theorem examboardref01_Mul.tab9 : rtab .any (opsOf Try.f60 9) = examboardref01_Mul.T9 := by kernel_rfl
theorem examboardref01_Mul.bits9 : waitsOk examboardref01_Mul.T9.2 examboardref01_Mul.B9 = true := by kernel_rfl
set_option maxHeartbeats 8000000 in
set_option maxRecDepth 100000 in
theorem examboardref01_Mul.calls (k : Nat) (A0 : Option Addr) (c0 : Nat) (l0 : List Int) (A1 : Option Addr) (c1 : Nat) (l1 : List Int) (r : List Int) (w : World) (hr0 : Kd.C (Kd.int .u32) w A0 l0.length l0) (hc0 : l0.length ≤ c0) (hr1 : Kd.C (Kd.int .u32) w A1 l1.length l1) (hc1 : l1.length ≤ c1) (h : examboardref01_Mul.f k l0 l1 = some r) :
  Calls Try.prog 60 #[.slice A0 l0.length c0, .slice A1 l1.length c1] w fun e w' => ∃ v0_ : Value, e = .returned (v0_) ∧ Kd.R (Kd.int .u32) 87 w' w.heap.size (fun _ => True) v0_ r ∧ Below w.heap.size w w' := by
 have HR0 := mk0 hr0
 have HC0 := mk0 hc0
 clear hr0 hc0
 have HR1 := mk0 hr1
 have HC1 := mk0 hc1
 clear hr1 hc1
 have HB := mk0 (Below.refl w.heap.size w)
 have H : (if 0 ≤ (wrap64 ((l0.length : Int) + (l1.length : Int))) then (if (wrap64 ((l0.length : Int) + (l1.length : Int)) : Int).toNat ≤ 70368744177664 then (examboardref01_Mul.l0 k l0 l1 (List.replicate (wrap64 ((l0.length : Int) + (l1.length : Int)) : Int).toNat 0) 0) else (none)) else (none)) = some r := h
 clear h
 obtain ⟨ji3, hji3⟩ : ∃ j_ : Int, (wrap64 ((l0.length : Int) + (l1.length : Int))) = j_ := ⟨_, rfl⟩
 rw [hji3] at H
 have hji3w : (IntKind.i64.wrap ((l0.length : Int) + (l1.length : Int))) = ji3 := (i64_w _).trans hji3
 by_cases c4 : 0 ≤ (ji3)
 ·rw [if_pos c4] at H
  have c4b0 := eq_true c4
  have c4b1 := decide_eq_true c4
  clear c4
  by_cases c5 : (ji3 : Int).toNat ≤ 70368744177664
  ·rw [if_pos c5] at H
   have c5b0 := eq_true c5
   have c5b1 := decide_eq_true c5
   clear c5
   obtain ⟨y771, hy771⟩ : ∃ y_ : List Int, y_ = (List.replicate (ji3 : Int).toNat 0) := ⟨_, rfl⟩
   rw [← hy771] at H
   have Ny771 := mk0 hy771
   clear hy771
   have H' := mk0 H
   clear H
   go_enter Try.func60, Try.ntmps60
   go_wp2_with (first | ((with_reducible refine gate_dst (N := 15) rfl ?_); refine Kd.R_make (Kd.int .u32) _ 87 rfl (N := 15) rfl 25 _ _ rfl ji3 rfl rfl Try.underlying25 (.int .u32 0) 4 info87 rfl (by decide) (by omega) 0 (ok := fun _ => True) (okp := fun _ => True) rfl (fun _ hk => hk) trivial (of_decide_eq_true (by assumption)) (Nat.le_trans (Nat.mul_le_mul_right _ (of_decide_eq_true (by assumption) : ji3.toNat ≤ 70368744177664)) (by omega)) (Below.refl _ _) (Nat.le_refl _) ?_; intro v772 w6 ho7 hb hg_ hnew_; clear hg_ hnew_; (first | rw [← Ny771.out] at ho7 | (simp only [Int.reduceToNat] at ho7; rw [← Ny771.out] at ho7)); have HO773 := mk0 (Rl ho7 (bZ HB.out)); replace HB := hbS HB hb; clear hb ho7))
   go_loopg [6] k (fun kq v6 w' => ∃ (x5_1 : List Int) (x6_1 : Int), v6 = .int .i64 x6_1 ∧ Aside0 (examboardref01_Mul.l0 kq l0 l1 x5_1 x6_1 = some r) ∧ Aside0 (kq ≤ k) ∧ Aside0 (Kd.R (Kd.int .u32) 87 w' w.heap.size (fun _ => True) v772 x5_1) ∧ Aside0 (Below w.heap.size w w'))
   case atStart => exact ⟨(y771), (0), rfl, H', ⟨Nat.le_refl _⟩, ⟨HO773.out⟩, ⟨by repeat (first | exact HB.out | apply bN | apply b1 | apply bA)⟩⟩
   case round =>
    clear H'
    obtain ⟨x5_1, x6_1, rfl, HA, HK1, HO_5, HB⟩ := hrel
    cases gk with
    | zero => exact absurd HA.out (by simp [examboardref01_Mul.l0])
    | succ k1 =>
     have H := HA.out
     clear HA
     simp only [examboardref01_Mul.l0] at H
     by_cases c8 : x6_1 < (l0.length : Int)
     ·rw [if_pos c8] at H
      have c8b0 := decide_eq_true c8
      clear c8
      have H' := mk0 H
      clear H
      go_wp2
      go_loopg [7, 8] k1 (fun kq v7 v8 w' => ∃ (x5_2 : List Int) (x7_2 : Int) (x8_2 : Int), v7 = .int .u64 x7_2 ∧ v8 = .int .i64 x8_2 ∧ Aside0 (examboardref01_Mul.l1 kq l0 l1 x5_2 x6_1 x7_2 x8_2 = some r) ∧ Aside0 (kq ≤ k1) ∧ Aside0 (Kd.R (Kd.int .u32) 87 w' w.heap.size (fun _ => True) v772 x5_2) ∧ Aside0 (Below w.heap.size w w'))
      case atStart => exact ⟨(x5_1), (0), (0), rfl, rfl, H', ⟨Nat.le_refl _⟩, ⟨HO_5.out⟩, ⟨by repeat (first | exact HB.out | apply bN | apply b1 | apply bA)⟩⟩
      case round =>
       clear H'
       obtain ⟨x5_2, x7_2, x8_2, rfl, rfl, HA, HK2, HO_5, HB⟩ := hrel
       cases gk with
       | zero => exact absurd HA.out (by simp [examboardref01_Mul.l1])
       | succ k2 =>
        have H := HA.out
        clear HA
        simp only [examboardref01_Mul.l1] at H
        by_cases c9 : x8_2 < (l1.length : Int)
        ·rw [if_pos c9] at H
         have c9b0 := decide_eq_true c9
         clear c9
         obtain ⟨ji10, hji10⟩ : ∃ j_ : Int, (wrap64 (x6_1 + x8_2)) = j_ := ⟨_, rfl⟩
         rw [hji10] at H
         have hji10w : (IntKind.i64.wrap (x6_1 + x8_2)) = ji10 := (i64_w _).trans hji10
         by_cases c11 : 0 ≤ (ji10)
         ·rw [if_pos c11] at H
          have c11b0 := decide_eq_true c11
          clear c11
          by_cases c12 : (ji10) < (x5_2.length : Int)
          ·rw [if_pos c12] at H
           have c12b0 := decide_eq_true c12
           clear c12
           by_cases c13 : 0 ≤ x6_1
           ·rw [if_pos c13] at H
            have c13b0 := decide_eq_true c13
            clear c13
            by_cases c14 : x6_1 < (l0.length : Int)
            ·rw [if_pos c14] at H
             have c14b0 := decide_eq_true c14
             clear c14
             by_cases c15 : 0 ≤ x8_2
             ·rw [if_pos c15] at H
              have c15b0 := decide_eq_true c15
              clear c15
              obtain ⟨y780, hy780⟩ : ∃ y_ : List Int, y_ = (x5_2.set ((ji10) : Int).toNat ((IntKind.u64.wrap ((IntKind.u64.wrap ((IntKind.u64.wrap (rd x5_2 (ji10))) + (IntKind.u64.wrap ((IntKind.u64.wrap (rd l0 x6_1)) * (IntKind.u64.wrap (rd l1 x8_2)))))) + x7_2)) % 4294967296)) := ⟨_, rfl⟩
              rw [← hy780] at H
              have Ny780 := mk0 hy780
              clear hy780
              have H' := mk0 H
              clear H
              try go_wp2
              replace HO_5 := mk0 (Kd.R_drew HO_5.out)
              replace HB := mk0 (b1 HB.out)
              obtain ⟨Ao18, co18, eo18⟩ := Kd.R_slice HO_5.out
              (first | subst eo18 | (injection eo18 with f1_ f2_ f3_; have f4_ := f1_.symm; have f5_ := f3_.symm; clear f1_ f2_ f3_; subst f4_; subst f5_))
              have p777 : 0 ≤ ((ji10) : Int) := of_decide_eq_true (by assumption)
              have q777 : (ji10) < (x5_2.length : Int) := of_decide_eq_true (by assumption)
              obtain ⟨ad777, e777, hx777_0⟩ := Kd.at_int (Kd.R_reads' HO_5.out).2.2 (ji10) p777 q777
              cases e777
              replace p777 := eq_true p777
              replace q777 := eq_true q777
              have p778 : 0 ≤ (x6_1 : Int) := of_decide_eq_true (by assumption)
              have q778 : x6_1 < (l0.length : Int) := of_decide_eq_true (by assumption)
              obtain ⟨ad778, e778, hx778_0⟩ := Kd.at_int HR0.out x6_1 p778 q778
              have hw778_0 := hx778_0
              cases e778
              replace hx778_0 := (HB.out.cell (World.block_lt_of_cell? w _ hx778_0)).trans hx778_0
              replace p778 := eq_true p778
              replace q778 := eq_true q778
              have p779 : 0 ≤ (x8_2 : Int) := of_decide_eq_true (by assumption)
              have q779 : x8_2 < (l1.length : Int) := of_decide_eq_true (by assumption)
              obtain ⟨ad779, e779, hx779_0⟩ := Kd.at_int HR1.out x8_2 p779 q779
              have hw779_0 := hx779_0
              cases e779
              replace hx779_0 := (HB.out.cell (World.block_lt_of_cell? w _ hx779_0)).trans hx779_0
              replace p779 := eq_true p779
              replace q779 := eq_true q779
              refine start_ (n := 22) (S := fun w' => w'.cell? (ad777.add ((ji10)).toNat) = some (.int .u32 (rd x5_2 (ji10))) ∧ w'.cell? (ad778.add (x6_1).toNat) = some (.int .u32 (rd l0 x6_1)) ∧ w'.cell? (ad779.add (x8_2).toNat) = some (.int .u32 (rd l1 x8_2))) (ds := []) (bv 22 0) (by kernel_rfl) rfl rfl ⟨hx777_0, ((HB.out.cell (World.block_lt_of_cell? w _ hw778_0)).trans hw778_0), ((HB.out.cell (World.block_lt_of_cell? w _ hw779_0)).trans hw779_0)⟩ (fun hHeld => ?_); refine with_tabW examboardref01_Mul.tab9 examboardref01_Mul.bits9 (fun HT_ HW_ => ?_)
              generalize wr.drew = w17 at HO_5 HB hx777_0 hx778_0 hx779_0 hHeld ⊢
              refine puA (i := 0) (N := 28) (v := ?_) (a' := ?_) (bv 22 1) HT_ ?_ ?_ ?_; rotate_left; (intro w'; go_simp; with_reducible rfl); rotate_left; (simp only [Act.put, sA, sZ, sS, i64_w, i32_w]; rfl)
              refine puA (i := 1) (N := 29) (v := ?_) (a' := ?_) (bv 22 3) HT_ ?_ ?_ ?_; rotate_left; (intro w'; go_simp; with_reducible rfl); rotate_left; (simp only [Act.put, sA, sZ, sS, i64_w, i32_w]; rfl)
              refine puA (i := 2) (N := 30) (v := ?_) (a' := ?_) (bv 22 7) HT_ ?_ ?_ ?_; rotate_left; (intro w'; go_simp; with_reducible rfl); rotate_left; (simp only [Act.put, sA, sZ, sS, i64_w, i32_w]; rfl)
              refine puA (i := 3) (N := 31) (v := ?_) (a' := ?_) (bv 22 15) HT_ ?_ ?_ ?_; rotate_left; (intro w'; go_simp; with_reducible rfl); rotate_left; (simp only [Act.put, sA, sZ, sS, i64_w, i32_w]; rfl)
              refine puA (i := 4) (N := 32) (v := ?_) (a' := ?_) (bv 22 31) HT_ ?_ ?_ ?_; rotate_left; (intro w'; go_simp; with_reducible rfl); rotate_left; (simp only [Act.put, sA, sZ, sS, i64_w, i32_w]; rfl)
              refine puA (i := 7) (N := 35) (v := ?_) (a' := ?_) (bv 22 159) HT_ ?_ ?_ ?_; rotate_left; (intro w'; go_simp; with_reducible rfl); rotate_left; (simp only [Act.put, sA, sZ, sS, i64_w, i32_w]; rfl)
              refine puA (i := 8) (N := 36) (v := ?_) (a' := ?_) (bv 22 415) HT_ ?_ ?_ ?_; rotate_left; (intro w'; go_simp; with_reducible rfl); rotate_left; (simp only [Act.put, sA, sZ, sS, i64_w, i32_w]; rfl)
              refine puA (i := 9) (N := 37) (v := ?_) (a' := ?_) (bv 22 927) HT_ ?_ ?_ ?_; rotate_left; (intro w'; go_simp; with_reducible rfl); rotate_left; (simp only [Act.put, sA, sZ, sS, i64_w, i32_w]; rfl)
              refine puA (i := 12) (N := 40) (v := ?_) (a' := ?_) (bv 22 5023) HT_ ?_ ?_ ?_; rotate_left; (intro w'; go_simp; with_reducible rfl); rotate_left; (simp only [Act.put, sA, sZ, sS, i64_w, i32_w]; rfl)
              refine puA (i := 13) (N := 41) (v := ?_) (a' := ?_) (bv 22 13215) HT_ ?_ ?_ ?_; rotate_left; (intro w'; go_simp; with_reducible rfl); rotate_left; (simp only [Act.put, sA, sZ, sS, i64_w, i32_w]; rfl)
              refine puA (i := 14) (N := 42) (v := ?_) (a' := ?_) (bv 22 29599) HT_ ?_ ?_ ?_; rotate_left; (intro w'; go_simp; with_reducible rfl); rotate_left; (simp only [Act.put, sA, sZ, sS, i64_w, i32_w]; rfl)
              refine puA (i := 19) (N := 47) (v := ?_) (a' := ?_) (bv 22 553887) HT_ ?_ ?_ ?_; rotate_left; (intro w'; go_simp; with_reducible rfl); rotate_left; (simp only [Act.put, sA, sZ, sS, i64_w, i32_w]; rfl)
              refine take_ (i := 5) (N := some 33) (v := ?_) (a' := ?_) (bv 22 553919) rfl rfl (take_ofW HT_.out HW_.out (by kernel_rfl)) (fun _ _ _ h => h) (Or.inl ⟨by rfl, ?_⟩) hHeld ?_ ?_; rotate_left; (rintro w' ⟨s0, s1, s2⟩; go_simp; with_reducible rfl); rotate_left; (simp only [Act.put, sA, sZ, sS, i64_w, i32_w]; rfl)
              refine puA (i := 6) (N := 34) (v := ?_) (a' := ?_) (bv 22 553983) HT_ ?_ ?_ ?_; rotate_left; (intro w'; go_simp; with_reducible rfl); rotate_left; (simp only [Act.put, sA, sZ, sS, i64_w, i32_w]; rfl)
              refine take_ (i := 10) (N := some 38) (v := ?_) (a' := ?_) (bv 22 555007) rfl rfl (take_ofW HT_.out HW_.out (by kernel_rfl)) (fun _ _ _ h => h) (Or.inl ⟨by rfl, ?_⟩) hHeld ?_ ?_; rotate_left; (rintro w' ⟨s0, s1, s2⟩; go_simp; with_reducible rfl); rotate_left; (simp only [Act.put, sA, sZ, sS, i64_w, i32_w]; rfl)
              refine puA (i := 11) (N := 39) (v := ?_) (a' := ?_) (bv 22 557055) HT_ ?_ ?_ ?_; rotate_left; (intro w'; go_simp; with_reducible rfl); rotate_left; (simp only [Act.put, sA, sZ, sS, i64_w, i32_w]; rfl)
              refine take_ (i := 15) (N := some 43) (v := ?_) (a' := ?_) (bv 22 589823) rfl rfl (take_ofW HT_.out HW_.out (by kernel_rfl)) (fun _ _ _ h => h) (Or.inl ⟨by rfl, ?_⟩) hHeld ?_ ?_; rotate_left; (rintro w' ⟨s0, s1, s2⟩; go_simp; with_reducible rfl); rotate_left; (simp only [Act.put, sA, sZ, sS, i64_w, i32_w]; rfl)
              refine puA (i := 16) (N := 44) (v := ?_) (a' := ?_) (bv 22 655359) HT_ ?_ ?_ ?_; rotate_left; (intro w'; go_simp; with_reducible rfl); rotate_left; (simp only [Act.put, sA, sZ, sS, i64_w, i32_w]; rfl)
              refine puA (i := 17) (N := 45) (v := ?_) (a' := ?_) (bv 22 786431) HT_ ?_ ?_ ?_; rotate_left; (intro w'; go_simp; with_reducible rfl); rotate_left; (simp only [Act.put, sA, sZ, sS, i64_w, i32_w]; rfl)
              refine puA (i := 18) (N := 46) (v := ?_) (a' := ?_) (bv 22 1048575) HT_ ?_ ?_ ?_; rotate_left; (intro w'; go_simp; with_reducible rfl); rotate_left; (simp only [Act.put, sA, sZ, sS, i64_w, i32_w]; rfl)
              refine puA (i := 20) (N := 48) (v := ?_) (a' := ?_) (bv 22 2097151) HT_ ?_ ?_ ?_; rotate_left; (intro w'; go_simp; with_reducible rfl); rotate_left; (simp only [Act.put, sA, sZ, sS, i64_w, i32_w]; rfl)
              refine puA (i := 21) (N := 9) (v := ?_) (a' := ?_) (bv 22 4194303) HT_ ?_ ?_ ?_; rotate_left; (intro w'; go_simp; with_reducible rfl); rotate_left; (simp only [Act.put, sA, sZ, sS, i64_w, i32_w]; rfl)
              refine done_ (done_of HT_.out (by kernel_rfl)) ?_
              have p16 : 0 ≤ ((ji10) : Int) := of_decide_eq_true (by assumption)
              have q16 : ((ji10) : Int) < ((x5_2.length : Int) : Int) := of_decide_eq_true (by assumption)
              obtain ⟨go16, co16, eo16, gb16, gl16, cl16, HG16⟩ := Kd.R_form HO_5.out (by omega)
              (first | cases eo16 | (injection eo16 with ea_ en_ ec_; (first | subst ea_ | (injection ea_ with ea_; subst ea_)); subst ec_; clear en_))
              have GB16 := mk0 gb16
              have GG16 := mk0 HG16
              clear gb16 gl16 HG16
              (first | simp only [add_plain] at hx777_0 | skip)
              obtain ⟨hx16_0, hf16_0⟩ := Kd.R_celln 0 HO_5.out ((ji10) : Int) p16 q16
              replace p16 := eq_true p16
              replace q16 := eq_true q16
              obtain ⟨hy19_, hz19_⟩ := Kd.R_celln 0 HO_5.out ((ji10) : Int) (of_decide_eq_true (by assumption)) (of_decide_eq_true (by assumption))
              have HP19 := Kd.R_putg HO_5.out ((ji10) : Int) ((IntKind.u64.wrap ((IntKind.u64.wrap ((IntKind.u64.wrap (rd x5_2 (ji10))) + (IntKind.u64.wrap ((IntKind.u64.wrap (rd l0 x6_1)) * (IntKind.u64.wrap (rd l1 x8_2)))))) + x7_2)) % 4294967296)
              try go_wp2_with (first | ((with_reducible refine gate_store (t := 87) (p := 55) rfl ?_); refine store_event (t := 87) (p := 55) (v := ?vo_w20) (w1 := (w17.setCell ⟨go16, ((ji10) : Int).toNat, none⟩ (.int .u32 ((IntKind.u64.wrap ((IntKind.u64.wrap ((IntKind.u64.wrap (rd x5_2 (ji10))) + (IntKind.u64.wrap ((IntKind.u64.wrap (rd l0 x6_1)) * (IntKind.u64.wrap (rd l1 x8_2)))))) + x7_2)) % 4294967296)))) ?hg ?ho ?hn ?hr ?_; (case ho => rfl); (case hg => rfl); (case hn => rfl); (case hr => go_simp <;> rfl); intro w20 hw; have hg : w17.grownBy w20 (some go16) := (by rw [hw]; exact HP19.2); have hp_ : Kd.R (Kd.int .u32) 87 w20 w.heap.size (fun _ => True) (.slice (some ⟨go16, 0, none⟩) x5_2.length co18) y780 := (by rw [hw, Ny780.out]; exact HP19.1); clear HP19; replace HO_5 := mk0 (hp_); replace HB := mk0 ((by rw [hw]; exact bS (HB.out) GB16.out : Below w.heap.size w w20)); clear hg hw hp_))
              go_roundg k2
              case measure => have := HK1.out; have := HK2.out; omega
              case rel => exact ⟨(y780), ((IntKind.u64.wrap ((IntKind.u64.wrap ((IntKind.u64.wrap (rd x5_2 (ji10))) + (IntKind.u64.wrap ((IntKind.u64.wrap (rd l0 x6_1)) * (IntKind.u64.wrap (rd l1 x8_2)))))) + x7_2)) / 4294967296), (wrap64 (x8_2 + 1)), (by first | rfl | (simp; done) | (simp only [← hji10] <;> (first | rfl | simp)) | (simp [*]; done)), rfl, H', ⟨by have := HK1.out; have := HK2.out; omega⟩, ⟨HO_5.out⟩, ⟨by repeat (first | exact HB.out | apply bN | apply b1 | apply bA)⟩⟩
             ·rw [if_neg c15] at H
              exact absurd H (by simp)
            ·rw [if_neg c14] at H
             exact absurd H (by simp)
           ·rw [if_neg c13] at H
            exact absurd H (by simp)
          ·rw [if_neg c12] at H
           exact absurd H (by simp)
         ·rw [if_neg c11] at H
          exact absurd H (by simp)
        ·rw [if_neg c9] at H
         have c9b0 := decide_eq_false c9
         clear c9
         obtain ⟨ji21, hji21⟩ : ∃ j_ : Int, (wrap64 (x6_1 + (l1.length : Int))) = j_ := ⟨_, rfl⟩
         rw [hji21] at H
         have hji21w : (IntKind.i64.wrap (x6_1 + (l1.length : Int))) = ji21 := (i64_w _).trans hji21
         by_cases c22 : 0 ≤ (ji21)
         ·rw [if_pos c22] at H
          have c22b0 := decide_eq_true c22
          clear c22
          by_cases c23 : (ji21) < (x5_2.length : Int)
          ·rw [if_pos c23] at H
           have c23b0 := decide_eq_true c23
           clear c23
           obtain ⟨y781, hy781⟩ : ∃ y_ : List Int, y_ = (x5_2.set ((ji21) : Int).toNat ((x7_2) % 4294967296)) := ⟨_, rfl⟩
           rw [← hy781] at H
           have Ny781 := mk0 hy781
           clear hy781
           have H' := mk0 H
           clear H
           have p24 : 0 ≤ ((ji21) : Int) := of_decide_eq_true (by assumption)
           have q24 : ((ji21) : Int) < ((x5_2.length : Int) : Int) := of_decide_eq_true (by assumption)
           obtain ⟨go24, co24, eo24, gb24, gl24, cl24, HG24⟩ := Kd.R_form HO_5.out (by omega)
           (first | cases eo24 | (injection eo24 with ea_ en_ ec_; (first | subst ea_ | (injection ea_ with ea_; subst ea_)); subst ec_; clear en_))
           have GB24 := mk0 gb24
           have GG24 := mk0 HG24
           clear gb24 gl24 HG24
           obtain ⟨hx24_0, hf24_0⟩ := Kd.R_celln 0 HO_5.out ((ji21) : Int) p24 q24
           replace p24 := eq_true p24
           replace q24 := eq_true q24
           have HP25 := Kd.R_putg HO_5.out ((ji21) : Int) ((x7_2) % 4294967296)
           go_wp2_with (first | ((with_reducible refine gate_store (t := 87) (p := 65) rfl ?_); refine store_event (t := 87) (p := 65) (v := ?vo_w26) (w1 := (wr.setCell ⟨go24, ((ji21) : Int).toNat, none⟩ (.int .u32 ((x7_2) % 4294967296)))) ?hg ?ho ?hn ?hr ?_; (case ho => rfl); (case hg => rfl); (case hn => rfl); (case hr => go_simp <;> rfl); intro w26 hw; have hg : wr.grownBy w26 (some go24) := (by rw [hw]; exact HP25.2); have hp_ : Kd.R (Kd.int .u32) 87 w26 w.heap.size (fun _ => True) (.slice (some ⟨go24, 0, none⟩) x5_2.length co24) y781 := (by rw [hw, Ny781.out]; exact HP25.1); clear HP25; replace HO_5 := mk0 (hp_); replace HB := mk0 ((by rw [hw]; exact bS (HB.out) GB24.out : Below w.heap.size w w26)); clear hg hw hp_))
           go_roundg k2
           case measure => have := HK1.out; have := HK2.out; omega
           case rel => exact ⟨(y781), (wrap64 (x6_1 + 1)), rfl, H', ⟨by have := HK1.out; have := HK2.out; omega⟩, ⟨HO_5.out⟩, ⟨by repeat (first | exact HB.out | apply bN | apply b1 | apply bA)⟩⟩
          ·rw [if_neg c23] at H
           exact absurd H (by simp)
         ·rw [if_neg c22] at H
          exact absurd H (by simp)
     ·rw [if_neg c8] at H
      have c8b0 := decide_eq_false c8
      clear c8
      obtain ⟨t774, A27, H⟩ := bindA H
      obtain rfl := Option.some.inj H
      obtain ⟨Ao28, co28, eo28⟩ := Kd.R_slice HO_5.out
      subst eo28
      go_wp2_with (first | ((with_reducible refine gate_callee (f := 89) rfl ?_); refine goA 67 Try.func89 #[.slice Ao28 x5_1.length co28] ?_; (with_reducible refine (examboardref01_Norm.calls k1 _ _ x5_1 t774 _ (by exact (Kd.R_reads' HO_5.out).2.2) (by exact (Kd.R_reads' HO_5.out).2.1) A27.out).mono ?_); rintro e w29 ⟨v775, rfl, ho0, hb⟩; refine ⟨_, rfl, ?_⟩; have HO776 := mk0 (Rl (Rn ho0 (Rq HO_5.out)) (bZ HB.out)); replace HO_5 := mk0 (Re HO_5.out (Rs ho0) hb); replace HB := hbS HB hb))
      go_ret
      exact ⟨_, by first | rfl | (simp [errW_none, errW_some] <;> rfl) | (simp only [← hji3]; first | rfl | (simp [errW_none, errW_some] <;> rfl)) | (simp [*, errW_none, errW_some] <;> rfl), Rm HO776.out tv, by repeat (first | exact HB.out | apply bN | apply b1 | apply bA)⟩
  ·rw [if_neg c5] at H
   exact absurd H (by simp)
 ·rw [if_neg c4] at H
  exact absurd H (by simp)
def examboardref02_Mul.T1 : Bool × List (List Nat × List Nat) := (true, [([], []), ([0], [0]), ([], []), ([2], [2]), ([1, 3], [1, 3]), ([], []), ([5], [5]), ([], []), ([7], [7]), ([6, 8], [6, 8]), ([4, 9, 9], [4, 9]), ([10, 10, 0, 1, 2, 3, 4, 5, 6, 7, 8, 9, 10], [10])])
def examboardref02_Mul.B1 : List Nat := [0, 1, 0, 4, 15, 0, 32, 0, 128, 480, 1023, 2047]
theorem examboardref02_Mul.tab1 : rtab .any (opsOf Try.f58 1) = examboardref02_Mul.T1 := by kernel_rfl
theorem examboardref02_Mul.bits1 : waitsOk examboardref02_Mul.T1.2 examboardref02_Mul.B1 = true := by kernel_rfl
set_option maxHeartbeats 8000000 in
set_option maxRecDepth 100000 in
theorem examboardref02_Mul.calls (k : Nat) (a0_0 : Bool) (A0_1 : Option Addr) (c0_1 : Nat) (l0_1 : List Int) (a1_0 : Bool) (A1_1 : Option Addr) (c1_1 : Nat) (l1_1 : List Int) (r1 : Bool) (r2 : List Int) (w : World) (hr0_1 : Kd.C (Kd.int .u32) w A0_1 l0_1.length l0_1) (hc0_1 : l0_1.length ≤ c0_1) (hr1_1 : Kd.C (Kd.int .u32) w A1_1 l1_1.length l1_1) (hc1_1 : l1_1.length ≤ c1_1) (h : examboardref02_Mul.f k a0_0 l0_1 a1_0 l1_1 = some (r1, r2)) :
  Calls Try.prog 58 #[.agg #[.bool a0_0, .slice A0_1 l0_1.length c0_1], .agg #[.bool a1_0, .slice A1_1 l1_1.length c1_1]] w fun e w' => ∃ v1_ : Value, e = .returned (.agg #[.bool r1, v1_]) ∧ Kd.R (Kd.int .u32) 87 w' w.heap.size (fun _ => True) v1_ r2 ∧ Below w.heap.size w w' := by
 have hu27 := Try.underlying27
 have HR0_1 := mk0 hr0_1
 have HC0_1 := mk0 hc0_1
 clear hr0_1 hc0_1
 have HR1_1 := mk0 hr1_1
 have HC1_1 := mk0 hc1_1
 clear hr1_1 hc1_1
 have HB := mk0 (Below.refl w.heap.size w)
 have H : ((examboardref01_Mul.f k l0_1 l1_1).bind fun t785 => ((examboardref02_Make.f k (a0_0 != a1_0) t785).bind fun bt788 => (some (bt788.1, bt788.2)))) = some (r1, r2) := h
 clear h
 obtain ⟨t785, A3, H⟩ := bindA H
 obtain ⟨⟨t788, t789⟩, A4, H⟩ := bindA H
 simp only [Option.some.injEq, Prod.mk.injEq] at H
 obtain ⟨rfl, rfl⟩ := H
 go_enter Try.func58, Try.ntmps58
 try go_wp2_with (first | ((with_reducible refine gate_dst (N := 2) rfl ?_); refine box_event rfl (N := 2) rfl (cs := #[.bool a0_0, .slice A0_1 l0_1.length c0_1]) (t := 27) (by go_simp <;> rfl) ?_; intro gb782 hg w5 hbox hb; have BK782 := mk0 (hbox); have GE782 := geB hg HB; replace HB := hbS HB hb; clear hb hbox hg) | ((with_reducible refine gate_dst (N := 3) rfl ?_); refine box_event rfl (N := 3) rfl (cs := #[.bool a1_0, .slice A1_1 l1_1.length c1_1]) (t := 27) (by go_simp <;> rfl) ?_; intro gb783 hg w6 hbox hb; have BK783 := mk0 (hbox); have GE783 := geB hg HB; replace HB := hbS HB hb; replace BK782 := bkB BK782 hb; clear hb hbox hg) | ((with_reducible refine gate_dst (N := 4) rfl ?_); refine box_event rfl (N := 4) rfl (cs := #[.bool false, .slice none 0 0]) (t := 27) (by go_simp <;> rfl) ?_; intro gb784 hg w7 hbox hb; have BK784 := mk0 (hbox); have GE784 := geB hg HB; replace HB := hbS HB hb; have NB782_784 := nbA hg BK782; have NB784_782 := nbB hg BK782; replace BK782 := bkB BK782 hb; have NB783_784 := nbA hg BK783; have NB784_783 := nbB hg BK783; replace BK783 := bkB BK783 hb; clear hb hbox hg))
 replace BK782 := mk0 (blk_drew BK782.out)
 replace BK783 := mk0 (blk_drew BK783.out)
 replace BK784 := mk0 (blk_drew BK784.out)
 replace HB := mk0 (b1 HB.out)
 refine start_ (n := 12) (S := fun w' => w'.cell? ⟨gb782, 0, none⟩ = some (.bool a0_0) ∧ w'.cell? ⟨gb782, 1, none⟩ = some (.slice A0_1 l0_1.length c0_1) ∧ w'.cell? ⟨gb783, 0, none⟩ = some (.bool a1_0) ∧ w'.cell? ⟨gb783, 1, none⟩ = some (.slice A1_1 l1_1.length c1_1)) (ds := []) (bv 12 0) (by kernel_rfl) rfl rfl ⟨(blk_cell BK782.out 0).trans rfl, (blk_cell BK782.out 1).trans rfl, (blk_cell BK783.out 0).trans rfl, (blk_cell BK783.out 1).trans rfl⟩ (fun hHeld => ?_); refine with_tabW examboardref02_Mul.tab1 examboardref02_Mul.bits1 (fun HT_ HW_ => ?_)
 generalize w7.drew = w8 at BK782 BK783 BK784 HB hHeld ⊢
 refine puA (i := 0) (N := 5) (v := ?_) (a' := ?_) (bv 12 1) HT_ ?_ ?_ ?_; rotate_left; (intro w'; go_simp; with_reducible rfl); rotate_left; (simp only [Act.put, sA, sZ, sS, i64_w, i32_w]; rfl)
 refine puA (i := 2) (N := 7) (v := ?_) (a' := ?_) (bv 12 5) HT_ ?_ ?_ ?_; rotate_left; (intro w'; go_simp; with_reducible rfl); rotate_left; (simp only [Act.put, sA, sZ, sS, i64_w, i32_w]; rfl)
 refine puA (i := 5) (N := 10) (v := ?_) (a' := ?_) (bv 12 37) HT_ ?_ ?_ ?_; rotate_left; (intro w'; go_simp; with_reducible rfl); rotate_left; (simp only [Act.put, sA, sZ, sS, i64_w, i32_w]; rfl)
 refine puA (i := 7) (N := 12) (v := ?_) (a' := ?_) (bv 12 165) HT_ ?_ ?_ ?_; rotate_left; (intro w'; go_simp; with_reducible rfl); rotate_left; (simp only [Act.put, sA, sZ, sS, i64_w, i32_w]; rfl)
 refine take_ (i := 1) (N := some 6) (v := ?_) (a' := ?_) (bv 12 167) rfl rfl (take_ofW HT_.out HW_.out (by kernel_rfl)) (fun _ _ _ h => h) (Or.inl ⟨by rfl, ?_⟩) hHeld ?_ ?_; rotate_left; (rintro w' ⟨s0, s1, s2, s3⟩; go_simp; with_reducible rfl); rotate_left; (simp only [Act.put, sA, sZ, sS, i64_w, i32_w]; rfl)
 refine take_ (i := 3) (N := some 8) (v := ?_) (a' := ?_) (bv 12 175) rfl rfl (take_ofW HT_.out HW_.out (by kernel_rfl)) (fun _ _ _ h => h) (Or.inl ⟨by rfl, ?_⟩) hHeld ?_ ?_; rotate_left; (rintro w' ⟨s0, s1, s2, s3⟩; go_simp; with_reducible rfl); rotate_left; (simp only [Act.put, sA, sZ, sS, i64_w, i32_w]; rfl)
 refine puA (i := 4) (N := 9) (v := ?_) (a' := ?_) (bv 12 191) HT_ ?_ ?_ ?_; rotate_left; (intro w'; go_simp; with_reducible rfl); rotate_left; (simp only [Act.put, sA, sZ, sS, i64_w, i32_w]; rfl)
 refine take_ (i := 6) (N := some 11) (v := ?_) (a' := ?_) (bv 12 255) rfl rfl (take_ofW HT_.out HW_.out (by kernel_rfl)) (fun _ _ _ h => h) (Or.inl ⟨by rfl, ?_⟩) hHeld ?_ ?_; rotate_left; (rintro w' ⟨s0, s1, s2, s3⟩; go_simp; with_reducible rfl); rotate_left; (simp only [Act.put, sA, sZ, sS, i64_w, i32_w]; rfl)
 refine take_ (i := 8) (N := some 13) (v := ?_) (a' := ?_) (bv 12 511) rfl rfl (take_ofW HT_.out HW_.out (by kernel_rfl)) (fun _ _ _ h => h) (Or.inl ⟨by rfl, ?_⟩) hHeld ?_ ?_; rotate_left; (rintro w' ⟨s0, s1, s2, s3⟩; go_simp; with_reducible rfl); rotate_left; (simp only [Act.put, sA, sZ, sS, i64_w, i32_w]; rfl)
 refine one_ (i := 9) (N := some 14) (bv 12 1023) rfl rfl (one_of HT_.out (by kernel_rfl)) (by decide) (fun K hK => ?_)
 refine goes_ Try.func60 (by kernel_rfl) rfl #[.slice A0_1 l0_1.length c0_1, .slice A1_1 l1_1.length c1_1] (by rfl) rfl rfl (by (try simp only [mA, mC, mN]); first | done | rfl | (simp only [lD, lT]; rfl)) ?_
 with_reducible refine (examboardref01_Mul.calls k _ _ l0_1 _ _ l1_1 t785 _ ?side1 ?side2 ?side3 ?side4 A3.out).mono ?_
 (case side1 => exact (Cb HR0_1.out HB.out))
 (case side2 => exact HC0_1.out)
 (case side3 => exact (Cb HR1_1.out HB.out))
 (case side4 => exact HC1_1.out)
 rintro e w9 ⟨v786, rfl, ho0, hb⟩
 refine ⟨_, rfl, ?_⟩
 have HO787 := mk0 (Rl ho0 (bZ HB.out))
 replace BK782 := bkB BK782 hb
 replace BK783 := bkB BK783 hb
 replace BK784 := bkB BK784 hb
 replace HB := mk0 (below_step HB.out hb)
 obtain ⟨Ao10, co10, eo10⟩ := Kd.R_slice HO787.out
 (first | subst eo10 | (injection eo10 with f1_ f2_ f3_; have f4_ := f1_.symm; have f5_ := f3_.symm; clear f1_ f2_ f3_; subst f4_; subst f5_))
 refine hK.out _ _ ⟨(blk_cell BK782.out 0).trans rfl, (blk_cell BK782.out 1).trans rfl, (blk_cell BK783.out 0).trans rfl, (blk_cell BK783.out 1).trans rfl⟩ (fun hHeld => ?_)
 clear hK K
 refine norm_ (a' := ?_) ?_ ?_
 rotate_left
 ·show Act.put _ (some 14) _ = _
  simp only [Act.put, sA, sZ, sS, i64_w, i32_w]
  rfl
 refine one_ (i := 10) (N := some 15) (bv 12 2047) rfl rfl (one_of HT_.out (by kernel_rfl)) (by decide) (fun K hK => ?_)
 refine goes_ Try.func62 (by kernel_rfl) rfl #[.bool (a0_0 != a1_0), .slice Ao10 t785.length co10] (by rfl) rfl rfl (by (try simp only [mA, mC, mN]); first | done | rfl | (simp only [lD, lT]; rfl)) ?_
 with_reducible refine (examboardref02_Make.calls k (a0_0 != a1_0) _ _ t785 t788 t789 _ ?side1 ?side2 A4.out).mono ?_
 (case side1 => exact (Kd.R_reads' HO787.out).2.2)
 (case side2 => exact (Kd.R_reads' HO787.out).2.1)
 rintro e w11 ⟨v790, rfl, ho0, hb⟩
 refine ⟨_, rfl, ?_⟩
 have HO791 := mk0 (Rl (Rn ho0 (Rq HO787.out)) (bZ HB.out))
 replace HO787 := mk0 (Re HO787.out (Rs ho0) hb)
 replace BK782 := bkB BK782 hb
 replace BK783 := bkB BK783 hb
 replace BK784 := bkB BK784 hb
 replace HB := mk0 (below_step HB.out hb)
 obtain ⟨Ao13, co13, eo13⟩ := Kd.R_slice HO791.out
 (first | subst eo13 | (injection eo13 with f1_ f2_ f3_; have f4_ := f1_.symm; have f5_ := f3_.symm; clear f1_ f2_ f3_; subst f4_; subst f5_))
 refine hK.out _ _ ⟨(blk_cell BK782.out 0).trans rfl, (blk_cell BK782.out 1).trans rfl, (blk_cell BK783.out 0).trans rfl, (blk_cell BK783.out 1).trans rfl⟩ (fun hHeld => ?_)
 clear hK K
 refine norm_ (a' := ?_) ?_ ?_
 rotate_left
 ·show Act.put _ (some 15) _ = _
  simp only [Act.put, sA, sZ, sS, i64_w, i32_w]
  rfl
 refine one_ (i := 11) (N := none) (bv 12 4095) rfl rfl (one_of HT_.out (by kernel_rfl)) (by decide) (fun K hK => ?_)
 have hs12 : w11.cell? ⟨gb784, 0, none⟩ = some (.bool false) := (blk_cell BK784.out 0).trans rfl
 have hfs12 := blk_frozen BK784.out 0
 have hns12_0 := NB782_784.out
 have hns12_1 := NB783_784.out
 have hms12_0 := NB784_782.out
 have hms12_1 := NB784_783.out
 have hs14 : w11.cell? ⟨gb784, 1, none⟩ = some (.slice none 0 0) := (blk_cell BK784.out 1).trans rfl
 have hfs14 := blk_frozen BK784.out 1
 have hns14_0 := NB782_784.out
 have hns14_1 := NB783_784.out
 have hms14_0 := NB784_782.out
 have hms14_1 := NB784_783.out
 refine skip_ (w1 := ?_) (by rfl) rfl ?_ ?_
 rotate_left
 ·go_simp
  rfl
 refine hK.out _ _ ⟨((cell_far (p := ⟨gb784, _, none⟩) NB782_784.out _).trans (((cell_far (p := ⟨gb784, _, none⟩) NB782_784.out _).trans (hHeld.1)))), ((cell_far (p := ⟨gb784, _, none⟩) NB782_784.out _).trans (((cell_far (p := ⟨gb784, _, none⟩) NB782_784.out _).trans (hHeld.2.1)))), ((cell_far (p := ⟨gb784, _, none⟩) NB783_784.out _).trans (((cell_far (p := ⟨gb784, _, none⟩) NB783_784.out _).trans (hHeld.2.2.1)))), ((cell_far (p := ⟨gb784, _, none⟩) NB783_784.out _).trans (((cell_far (p := ⟨gb784, _, none⟩) NB783_784.out _).trans (hHeld.2.2.2))))⟩ (fun hHeld => ?_)
 clear hK K
 refine done_ (done_of HT_.out (by kernel_rfl)) ?_
 try go_wp2
 refine bodyPost_ret (results_cell_row rfl _ _ gb784 27 #[.bool t788, .slice Ao13 t789.length co13] (0, 0) _ rfl (by refine blk_put (cs := #[.bool t788, .slice none 0 0]) ?_ 1 _ rfl; refine blk_put (cs := #[.bool false, .slice none 0 0]) ?_ 0 _ rfl; exact BK784.out) Try.underlying27 rfl (by kernel_rfl)) rfl ?_
 exact ⟨_, by first | rfl | (simp [errW_none, errW_some] <;> rfl) | (simp [*, errW_none, errW_some] <;> rfl), Rm (Rg 1 (Rg 0 (Rt HO791.out BK784.out (by decide)) (.bool t788)) (.slice Ao13 t789.length co13)) tv, by repeat (first | exact HB.out | apply bN | apply b1 | apply bA | refine bS ?_ GE782.out | refine bS ?_ GE783.out | refine bS ?_ GE784.out)⟩
set_option maxHeartbeats 8000000 in
set_option maxRecDepth 100000 in
theorem examboardref02_Of.calls (k : Nat) (a0 : Int) (r1 : Bool) (r2 : List Int) (w : World) (h : examboardref02_Of.f k a0 = some (r1, r2)) :
  Calls Try.prog 69 #[.int .i64 a0] w fun e w' => ∃ v1_ : Value, e = .returned (.agg #[.bool r1, v1_]) ∧ Kd.R (Kd.int .u32) 87 w' w.heap.size (fun _ => True) v1_ r2 ∧ Below w.heap.size w w' := by
 have hu27 := Try.underlying27
 have HB := mk0 (Below.refl w.heap.size w)
 have H : (if a0 < 0 then ((examboardref01_Of.f k (IntKind.u64.wrap ((IntKind.u64.wrap (wrap64 (-(wrap64 (a0 + 1))))) + 1))).bind fun t793 => ((examboardref02_Make.f k true t793).bind fun bt796 => (some (bt796.1, bt796.2)))) else ((examboardref01_Of.f k (IntKind.u64.wrap (a0))).bind fun t800 => ((examboardref02_Make.f k false t800).bind fun bt803 => (some (bt803.1, bt803.2))))) = some (r1, r2) := h
 clear h
 by_cases c2 : a0 < 0
 ·rw [if_pos c2] at H
  have c2b0 : decide (a0 < 0) = true := decide_eq_true c2
  clear c2
  obtain ⟨t793, A3, H⟩ := bindA H
  obtain ⟨⟨t796, t797⟩, A4, H⟩ := bindA H
  simp only [Option.some.injEq, Prod.mk.injEq] at H
  obtain ⟨rfl, rfl⟩ := H
  go_enter Try.func69, Try.ntmps69
  go_wp2_with (first | ((with_reducible refine gate_dst (N := 2) rfl ?_); refine box_event rfl (N := 2) rfl (cs := #[.bool false, .slice none 0 0]) (t := 27) (by go_simp <;> rfl) ?_; intro gb792 hg w5 hbox hb; have BK792 := mk0 (hbox); have GE792 := geB hg HB; replace HB := hbS HB hb; clear hb hbox hg) | ((with_reducible refine gate_callee (f := 90) rfl ?_); refine goA 10 Try.func90 #[.int .u64 (IntKind.u64.wrap ((IntKind.u64.wrap (wrap64 (-(wrap64 (a0 + 1))))) + 1))] ?_; (with_reducible refine (examboardref01_Of.calls k (IntKind.u64.wrap ((IntKind.u64.wrap (wrap64 (-(wrap64 (a0 + 1))))) + 1)) t793 _ A3.out).mono ?_); rintro e w6 ⟨v794, rfl, ho0, hb⟩; refine ⟨_, rfl, ?_⟩; have HO795 := mk0 (Rl ho0 (bZ HB.out)); replace BK792 := bkB BK792 hb; replace HB := hbS HB hb; obtain ⟨Ao7, co7, eo7⟩ := Kd.R_slice HO795.out; subst eo7) | ((with_reducible refine gate_callee (f := 62) rfl ?_); refine goA 11 Try.func62 #[.bool true, .slice Ao7 t793.length co7] ?_; (with_reducible refine (examboardref02_Make.calls k true _ _ t793 t796 t797 _ (by exact (Kd.R_reads' HO795.out).2.2) (by exact (Kd.R_reads' HO795.out).2.1) A4.out).mono ?_); rintro e w8 ⟨v798, rfl, ho0, hb⟩; refine ⟨_, rfl, ?_⟩; have HO799 := mk0 (Rl (Rn ho0 (Rq HO795.out)) (bZ HB.out)); replace HO795 := mk0 (Re HO795.out (Rs ho0) hb); replace BK792 := bkB BK792 hb; replace HB := hbS HB hb; obtain ⟨hcz9_0, hcz9_1, hfz9_0, hfz9_1⟩ := cz2 BK792; obtain ⟨Ao10, co10, eo10⟩ := Kd.R_slice HO799.out; subst eo10))
  refine bodyPost_ret (results_cell_row rfl _ _ gb792 27 #[.bool t796, .slice Ao10 t797.length co10] (0, 0) _ rfl (by refine blk_put (cs := #[.bool t796, .slice none 0 0]) ?_ 1 _ rfl; refine blk_put (cs := #[.bool false, .slice none 0 0]) ?_ 0 _ rfl; exact BK792.out) Try.underlying27 rfl (by kernel_rfl)) rfl ?_
  exact ⟨_, rfl, Rm (Rg 1 (Rg 0 (Rt HO799.out BK792.out (by decide)) (.bool t796)) (.slice Ao10 t797.length co10)) tv, by repeat (first | exact HB.out | apply bN | apply b1 | apply bA | refine bS ?_ GE792.out)⟩
 ·rw [if_neg c2] at H
  have c2b0 : decide (a0 < 0) = false := decide_eq_false c2
  clear c2
  obtain ⟨t800, A11, H⟩ := bindA H
  obtain ⟨⟨t803, t804⟩, A12, H⟩ := bindA H
  simp only [Option.some.injEq, Prod.mk.injEq] at H
  obtain ⟨rfl, rfl⟩ := H
  go_enter Try.func69, Try.ntmps69
  go_wp2_with (first | ((with_reducible refine gate_dst (N := 2) rfl ?_); refine box_event rfl (N := 2) rfl (cs := #[.bool false, .slice none 0 0]) (t := 27) (by go_simp <;> rfl) ?_; intro gb792 hg w13 hbox hb; have BK792 := mk0 (hbox); have GE792 := geB hg HB; replace HB := hbS HB hb; clear hb hbox hg) | ((with_reducible refine gate_callee (f := 90) rfl ?_); refine goA 14 Try.func90 #[.int .u64 (IntKind.u64.wrap (a0))] ?_; (with_reducible refine (examboardref01_Of.calls k (IntKind.u64.wrap (a0)) t800 _ A11.out).mono ?_); rintro e w14 ⟨v801, rfl, ho0, hb⟩; refine ⟨_, rfl, ?_⟩; have HO802 := mk0 (Rl ho0 (bZ HB.out)); replace BK792 := bkB BK792 hb; replace HB := hbS HB hb; obtain ⟨Ao15, co15, eo15⟩ := Kd.R_slice HO802.out; subst eo15) | ((with_reducible refine gate_callee (f := 62) rfl ?_); refine goA 15 Try.func62 #[.bool false, .slice Ao15 t800.length co15] ?_; (with_reducible refine (examboardref02_Make.calls k false _ _ t800 t803 t804 _ (by exact (Kd.R_reads' HO802.out).2.2) (by exact (Kd.R_reads' HO802.out).2.1) A12.out).mono ?_); rintro e w16 ⟨v805, rfl, ho0, hb⟩; refine ⟨_, rfl, ?_⟩; have HO806 := mk0 (Rl (Rn ho0 (Rq HO802.out)) (bZ HB.out)); replace HO802 := mk0 (Re HO802.out (Rs ho0) hb); replace BK792 := bkB BK792 hb; replace HB := hbS HB hb; obtain ⟨hcz17_0, hcz17_1, hfz17_0, hfz17_1⟩ := cz2 BK792; obtain ⟨Ao18, co18, eo18⟩ := Kd.R_slice HO806.out; subst eo18))
  refine bodyPost_ret (results_cell_row rfl _ _ gb792 27 #[.bool t803, .slice Ao18 t804.length co18] (0, 0) _ rfl (by refine blk_put (cs := #[.bool t803, .slice none 0 0]) ?_ 1 _ rfl; refine blk_put (cs := #[.bool false, .slice none 0 0]) ?_ 0 _ rfl; exact BK792.out) Try.underlying27 rfl (by kernel_rfl)) rfl ?_
  exact ⟨_, rfl, Rm (Rg 1 (Rg 0 (Rt HO806.out BK792.out (by decide)) (.bool t803)) (.slice Ao18 t804.length co18)) tv, by repeat (first | exact HB.out | apply bN | apply b1 | apply bA | refine bS ?_ GE792.out)⟩
set_option maxHeartbeats 8000000 in
set_option maxRecDepth 100000 in
theorem examboardref03_top.calls (k : Nat) (a0_0 : Bool) (A0_1 : Option Addr) (c0_1 : Nat) (l0_1 : List Int) (A0_2 : Option Addr) (c0_2 : Nat) (l0_2 : List Int) (r1 : Bool) (r2 : List Int) (w : World) (hr0_1 : Kd.C (Kd.int .u32) w A0_1 l0_1.length l0_1) (hc0_1 : l0_1.length ≤ c0_1) (hr0_2 : Kd.C (Kd.int .u32) w A0_2 l0_2.length l0_2) (hc0_2 : l0_2.length ≤ c0_2) (h : examboardref03_top.f k a0_0 l0_1 l0_2 = some (r1, r2)) :
  Calls Try.prog 59 #[.agg #[.bool a0_0, .slice A0_1 l0_1.length c0_1, .slice A0_2 l0_2.length c0_2]] w fun e w' => ∃ v1_ : Value, e = .returned (.agg #[.bool r1, v1_]) ∧ Kd.R (Kd.int .u32) 87 w' w.heap.size (fun _ => True) v1_ r2 ∧ Below w.heap.size w w' := by
 have hu29 := Try.underlying29
 have hu27 := Try.underlying27
 have HR0_1 := mk0 hr0_1
 have HC0_1 := mk0 hc0_1
 clear hr0_1 hc0_1
 have HR0_2 := mk0 hr0_2
 have HC0_2 := mk0 hc0_2
 clear hr0_2 hc0_2
 have HB := mk0 (Below.refl w.heap.size w)
 have H : ((examboardref01_Bits.f k l0_2).bind fun t809 => (if t809 = 0 then ((examboardref02_Of.f k 0).bind fun bt810 => (some (bt810.1, bt810.2))) else ((examboardref02_Norm.f k a0_0 l0_1).bind fun bt814 => (some (bt814.1, bt814.2))))) = some (r1, r2) := h
 clear h
 obtain ⟨t809, A2, H⟩ := bindA H
 by_cases c3 : t809 = 0
 ·rw [if_pos c3] at H
  have c3b0 : (t809 == 0) = true := beq_iff_eq.mpr c3
  have c3b1 : (t809 != 0) = false := bne_eq_false_iff_eq.mpr c3
  clear c3
  obtain ⟨⟨t810, t811⟩, A4, H⟩ := bindA H
  simp only [Option.some.injEq, Prod.mk.injEq] at H
  obtain ⟨rfl, rfl⟩ := H
  go_enter Try.func59, Try.ntmps59
  go_wp2_with (first | ((with_reducible refine gate_dst (N := 1) rfl ?_); refine box_event rfl (N := 1) rfl (cs := #[.bool a0_0, .slice A0_1 l0_1.length c0_1, .slice A0_2 l0_2.length c0_2]) (t := 29) (by go_simp <;> rfl) ?_; intro gb807 hg w5 hbox hb; have BK807 := mk0 (hbox); have GE807 := geB hg HB; replace HB := hbS HB hb; clear hb hbox hg) | ((with_reducible refine gate_dst (N := 2) rfl ?_); refine box_event rfl (N := 2) rfl (cs := #[.bool false, .slice none 0 0]) (t := 27) (by go_simp <;> rfl) ?_; intro gb808 hg w6 hbox hb; have BK808 := mk0 (hbox); have GE808 := geB hg HB; replace HB := hbS HB hb; have NB807_808 := nbA hg BK807; have NB808_807 := nbB hg BK807; replace BK807 := bkB BK807 hb; clear hb hbox hg; have hnb7 := NB807_808.out; have hnc7 := NB808_807.out; obtain ⟨hcz8_0, hcz8_1, hcz8_2, hfz8_0, hfz8_1, hfz8_2⟩ := cz3 BK807) | ((with_reducible refine gate_callee (f := 85) rfl ?_); refine goA 5 Try.func85 #[.slice A0_2 l0_2.length c0_2] ?_; (with_reducible refine (examboardref01_Bits.calls k _ _ l0_2 t809 _ (by exact Cb HR0_2.out HB.out) HC0_2.out A2.out).mono ?_); rintro e w9 ⟨rfl, hb⟩; refine ⟨_, rfl, ?_⟩; replace BK807 := bkB BK807 hb; replace BK808 := bkB BK808 hb; replace HB := hbS HB hb) | ((with_reducible refine gate_callee (f := 69) rfl ?_); refine goA 7 Try.func69 #[.int .i64 0] ?_; (with_reducible refine (examboardref02_Of.calls k 0 t810 t811 _ A4.out).mono ?_); rintro e w10 ⟨v812, rfl, ho0, hb⟩; refine ⟨_, rfl, ?_⟩; have HO813 := mk0 (Rl ho0 (bZ HB.out)); replace BK807 := bkB BK807 hb; replace BK808 := bkB BK808 hb; replace HB := hbS HB hb; obtain ⟨hcz11_0, hcz11_1, hfz11_0, hfz11_1⟩ := cz2 BK808; obtain ⟨Ao12, co12, eo12⟩ := Kd.R_slice HO813.out; subst eo12))
  refine bodyPost_ret (results_cell_row rfl _ _ gb808 27 #[.bool t810, .slice Ao12 t811.length co12] (0, 0) _ rfl (by refine blk_put (cs := #[.bool t810, .slice none 0 0]) ?_ 1 _ rfl; refine blk_put (cs := #[.bool false, .slice none 0 0]) ?_ 0 _ rfl; exact BK808.out) Try.underlying27 rfl (by kernel_rfl)) rfl ?_
  exact ⟨_, rfl, Rm (Rg 1 (Rg 0 (Rt HO813.out BK808.out (by decide)) (.bool t810)) (.slice Ao12 t811.length co12)) tv, by repeat (first | exact HB.out | apply bN | apply b1 | apply bA | refine bS ?_ GE807.out | refine bS ?_ GE808.out)⟩
 ·rw [if_neg c3] at H
  have c3b0 : (t809 == 0) = false := beq_eq_false_iff_ne.mpr c3
  have c3b1 : (t809 != 0) = true := bne_iff_ne.mpr c3
  obtain ⟨⟨t814, t815⟩, A13, H⟩ := bindA H
  simp only [Option.some.injEq, Prod.mk.injEq] at H
  obtain ⟨rfl, rfl⟩ := H
  go_enter Try.func59, Try.ntmps59
  go_wp2_with (first | ((with_reducible refine gate_dst (N := 1) rfl ?_); refine box_event rfl (N := 1) rfl (cs := #[.bool a0_0, .slice A0_1 l0_1.length c0_1, .slice A0_2 l0_2.length c0_2]) (t := 29) (by go_simp <;> rfl) ?_; intro gb807 hg w14 hbox hb; have BK807 := mk0 (hbox); have GE807 := geB hg HB; replace HB := hbS HB hb; clear hb hbox hg) | ((with_reducible refine gate_dst (N := 2) rfl ?_); refine box_event rfl (N := 2) rfl (cs := #[.bool false, .slice none 0 0]) (t := 27) (by go_simp <;> rfl) ?_; intro gb808 hg w15 hbox hb; have BK808 := mk0 (hbox); have GE808 := geB hg HB; replace HB := hbS HB hb; have NB807_808 := nbA hg BK807; have NB808_807 := nbB hg BK807; replace BK807 := bkB BK807 hb; clear hb hbox hg; have hnb16 := NB807_808.out; have hnc16 := NB808_807.out; obtain ⟨hcz17_0, hcz17_1, hcz17_2, hfz17_0, hfz17_1, hfz17_2⟩ := cz3 BK807) | ((with_reducible refine gate_callee (f := 85) rfl ?_); refine goA 5 Try.func85 #[.slice A0_2 l0_2.length c0_2] ?_; (with_reducible refine (examboardref01_Bits.calls k _ _ l0_2 t809 _ (by exact Cb HR0_2.out HB.out) HC0_2.out A2.out).mono ?_); rintro e w18 ⟨rfl, hb⟩; refine ⟨_, rfl, ?_⟩; replace BK807 := bkB BK807 hb; replace BK808 := bkB BK808 hb; replace HB := hbS HB hb; obtain ⟨hcz19_0, hcz19_1, hcz19_2, hfz19_0, hfz19_1, hfz19_2⟩ := cz3 BK807) | ((with_reducible refine gate_callee (f := 84) rfl ?_); refine goA 10 Try.func84 #[.agg #[.bool a0_0, .slice A0_1 l0_1.length c0_1]] ?_; (with_reducible refine (examboardref02_Norm.calls k a0_0 _ _ l0_1 t814 t815 _ (by exact Cb HR0_1.out HB.out) HC0_1.out A13.out).mono ?_); rintro e w20 ⟨v816, rfl, ho0, hb⟩; refine ⟨_, rfl, ?_⟩; have HO817 := mk0 (Rl ho0 (bZ HB.out)); replace BK807 := bkB BK807 hb; replace BK808 := bkB BK808 hb; replace HB := hbS HB hb; obtain ⟨hcz21_0, hcz21_1, hfz21_0, hfz21_1⟩ := cz2 BK808; obtain ⟨Ao22, co22, eo22⟩ := Kd.R_slice HO817.out; subst eo22))
  refine bodyPost_ret (results_cell_row rfl _ _ gb808 27 #[.bool t814, .slice Ao22 t815.length co22] (0, 0) _ rfl (by refine blk_put (cs := #[.bool t814, .slice none 0 0]) ?_ 1 _ rfl; refine blk_put (cs := #[.bool false, .slice none 0 0]) ?_ 0 _ rfl; exact BK808.out) Try.underlying27 rfl (by kernel_rfl)) rfl ?_
  exact ⟨_, rfl, Rm (Rg 1 (Rg 0 (Rt HO817.out BK808.out (by decide)) (.bool t814)) (.slice Ao22 t815.length co22)) tv, by repeat (first | exact HB.out | apply bN | apply b1 | apply bA | refine bS ?_ GE807.out | refine bS ?_ GE808.out)⟩
set_option maxHeartbeats 8000000 in
set_option maxRecDepth 100000 in
theorem examboardref03_low.calls (k : Nat) (a0_0 : Bool) (A0_1 : Option Addr) (c0_1 : Nat) (l0_1 : List Int) (A0_2 : Option Addr) (c0_2 : Nat) (l0_2 : List Int) (r : List Int) (w : World) (hr0_1 : Kd.C (Kd.int .u32) w A0_1 l0_1.length l0_1) (hc0_1 : l0_1.length ≤ c0_1) (hr0_2 : Kd.C (Kd.int .u32) w A0_2 l0_2.length l0_2) (hc0_2 : l0_2.length ≤ c0_2) (h : examboardref03_low.f k a0_0 l0_1 l0_2 = some r) :
  Calls Try.prog 61 #[.agg #[.bool a0_0, .slice A0_1 l0_1.length c0_1, .slice A0_2 l0_2.length c0_2]] w fun e w' => ∃ v0_ : Value, e = .returned (v0_) ∧ Kd.R (Kd.int .u32) 87 w' w.heap.size (fun _ => True) v0_ r ∧ Below w.heap.size w w' := by
 have hu29 := Try.underlying29
 have HR0_1 := mk0 hr0_1
 have HC0_1 := mk0 hc0_1
 clear hr0_1 hc0_1
 have HR0_2 := mk0 hr0_2
 have HC0_2 := mk0 hc0_2
 clear hr0_2 hc0_2
 have HB := mk0 (Below.refl w.heap.size w)
 have H : ((examboardref01_Bits.f k l0_2).bind fun t819 => (if t819 = 0 then ((examboardref01_Of.f k 1).bind fun t820 => (some t820)) else ((examboardref01_Norm.f k l0_2).bind fun t823 => (some t823)))) = some r := h
 clear h
 obtain ⟨t819, A2, H⟩ := bindA H
 by_cases c3 : t819 = 0
 ·rw [if_pos c3] at H
  have c3b0 : (t819 == 0) = true := beq_iff_eq.mpr c3
  have c3b1 : (t819 != 0) = false := bne_eq_false_iff_eq.mpr c3
  clear c3
  obtain ⟨t820, A4, H⟩ := bindA H
  obtain rfl := Option.some.inj H
  go_enter Try.func61, Try.ntmps61
  go_wp2_with (first | ((with_reducible refine gate_dst (N := 1) rfl ?_); refine box_event rfl (N := 1) rfl (cs := #[.bool a0_0, .slice A0_1 l0_1.length c0_1, .slice A0_2 l0_2.length c0_2]) (t := 29) (by go_simp <;> rfl) ?_; intro gb818 hg w5 hbox hb; have BK818 := mk0 (hbox); have GE818 := geB hg HB; replace HB := hbS HB hb; clear hb hbox hg; obtain ⟨hcz6_0, hcz6_1, hcz6_2, hfz6_0, hfz6_1, hfz6_2⟩ := cz3 BK818) | ((with_reducible refine gate_callee (f := 85) rfl ?_); refine goA 5 Try.func85 #[.slice A0_2 l0_2.length c0_2] ?_; (with_reducible refine (examboardref01_Bits.calls k _ _ l0_2 t819 _ (by exact Cb HR0_2.out HB.out) HC0_2.out A2.out).mono ?_); rintro e w7 ⟨rfl, hb⟩; refine ⟨_, rfl, ?_⟩; replace BK818 := bkB BK818 hb; replace HB := hbS HB hb) | ((with_reducible refine gate_callee (f := 90) rfl ?_); refine goA 7 Try.func90 #[.int .u64 1] ?_; (with_reducible refine (examboardref01_Of.calls k 1 t820 _ A4.out).mono ?_); rintro e w8 ⟨v821, rfl, ho0, hb⟩; refine ⟨_, rfl, ?_⟩; have HO822 := mk0 (Rl ho0 (bZ HB.out)); replace BK818 := bkB BK818 hb; replace HB := hbS HB hb))
  go_ret
  exact ⟨_, rfl, HO822.out, by repeat (first | exact HB.out | apply bN | apply b1 | apply bA | refine bS ?_ GE818.out)⟩
 ·rw [if_neg c3] at H
  have c3b0 : (t819 == 0) = false := beq_eq_false_iff_ne.mpr c3
  have c3b1 : (t819 != 0) = true := bne_iff_ne.mpr c3
  obtain ⟨t823, A9, H⟩ := bindA H
  obtain rfl := Option.some.inj H
  go_enter Try.func61, Try.ntmps61
  go_wp2_with (first | ((with_reducible refine gate_dst (N := 1) rfl ?_); refine box_event rfl (N := 1) rfl (cs := #[.bool a0_0, .slice A0_1 l0_1.length c0_1, .slice A0_2 l0_2.length c0_2]) (t := 29) (by go_simp <;> rfl) ?_; intro gb818 hg w10 hbox hb; have BK818 := mk0 (hbox); have GE818 := geB hg HB; replace HB := hbS HB hb; clear hb hbox hg; obtain ⟨hcz11_0, hcz11_1, hcz11_2, hfz11_0, hfz11_1, hfz11_2⟩ := cz3 BK818) | ((with_reducible refine gate_callee (f := 85) rfl ?_); refine goA 5 Try.func85 #[.slice A0_2 l0_2.length c0_2] ?_; (with_reducible refine (examboardref01_Bits.calls k _ _ l0_2 t819 _ (by exact Cb HR0_2.out HB.out) HC0_2.out A2.out).mono ?_); rintro e w12 ⟨rfl, hb⟩; refine ⟨_, rfl, ?_⟩; replace BK818 := bkB BK818 hb; replace HB := hbS HB hb; obtain ⟨hcz13_0, hcz13_1, hcz13_2, hfz13_0, hfz13_1, hfz13_2⟩ := cz3 BK818) | ((with_reducible refine gate_callee (f := 89) rfl ?_); refine goA 10 Try.func89 #[.slice A0_2 l0_2.length c0_2] ?_; (with_reducible refine (examboardref01_Norm.calls k _ _ l0_2 t823 _ (by exact Cb HR0_2.out HB.out) HC0_2.out A9.out).mono ?_); rintro e w14 ⟨v824, rfl, ho0, hb⟩; refine ⟨_, rfl, ?_⟩; have HO825 := mk0 (Rl ho0 (bZ HB.out)); replace BK818 := bkB BK818 hb; replace HB := hbS HB hb))
  go_ret
  exact ⟨_, rfl, HO825.out, by repeat (first | exact HB.out | apply bN | apply b1 | apply bA | refine bS ?_ GE818.out)⟩
def examboardref03_Mul.T1 : Bool × List (List Nat × List Nat) := (true, [([], []), ([0], [0]), ([], []), ([2, 1], [2]), ([1, 3, 3], [1, 3]), ([], []), ([5, 4], [5]), ([], []), ([7, 6], [7]), ([6, 8, 8], [6, 8]), ([4, 9, 9], [4, 9]), ([10, 10, 0, 1, 2, 3, 4, 5, 6, 7, 8, 9, 10], [10])])
def examboardref03_Mul.B1 : List Nat := [0, 1, 0, 7, 15, 0, 63, 0, 255, 511, 1023, 2047]
theorem examboardref03_Mul.tab1 : rtab .any (opsOf Try.f32 1) = examboardref03_Mul.T1 := by kernel_rfl
theorem examboardref03_Mul.bits1 : waitsOk examboardref03_Mul.T1.2 examboardref03_Mul.B1 = true := by kernel_rfl
set_option maxHeartbeats 8000000 in
set_option maxRecDepth 100000 in
theorem examboardref03_Mul.calls (k : Nat) (a0_0 : Bool) (A0_1 : Option Addr) (c0_1 : Nat) (l0_1 : List Int) (A0_2 : Option Addr) (c0_2 : Nat) (l0_2 : List Int) (a1_0 : Bool) (A1_1 : Option Addr) (c1_1 : Nat) (l1_1 : List Int) (A1_2 : Option Addr) (c1_2 : Nat) (l1_2 : List Int) (r1 : Bool) (r2 : List Int) (r3 : List Int) (w : World) (hr0_1 : Kd.C (Kd.int .u32) w A0_1 l0_1.length l0_1) (hc0_1 : l0_1.length ≤ c0_1) (hr0_2 : Kd.C (Kd.int .u32) w A0_2 l0_2.length l0_2) (hc0_2 : l0_2.length ≤ c0_2) (hr1_1 : Kd.C (Kd.int .u32) w A1_1 l1_1.length l1_1) (hc1_1 : l1_1.length ≤ c1_1) (hr1_2 : Kd.C (Kd.int .u32) w A1_2 l1_2.length l1_2) (hc1_2 : l1_2.length ≤ c1_2) (h : examboardref03_Mul.f k a0_0 l0_1 l0_2 a1_0 l1_1 l1_2 = some (r1, r2, r3)) :
  Calls Try.prog 32 #[.agg #[.bool a0_0, .slice A0_1 l0_1.length c0_1, .slice A0_2 l0_2.length c0_2], .agg #[.bool a1_0, .slice A1_1 l1_1.length c1_1, .slice A1_2 l1_2.length c1_2]] w fun e w' => ∃ v1_ v2_ : Value, e = .returned (.agg #[.bool r1, v1_, v2_]) ∧ Kd.R (Kd.int .u32) 87 w' w.heap.size (fun k_ => some k_ ≠ (v2_ : Value).ownBlock) v1_ r2 ∧ Kd.R (Kd.int .u32) 87 w' w.heap.size (fun k_ => some k_ ≠ (v1_ : Value).ownBlock) v2_ r3 ∧ Below w.heap.size w w' := by
 have hu29 := Try.underlying29
 have HR0_1 := mk0 hr0_1
 have HC0_1 := mk0 hc0_1
 clear hr0_1 hc0_1
 have HR0_2 := mk0 hr0_2
 have HC0_2 := mk0 hc0_2
 clear hr0_2 hc0_2
 have HR1_1 := mk0 hr1_1
 have HC1_1 := mk0 hc1_1
 clear hr1_1 hc1_1
 have HR1_2 := mk0 hr1_2
 have HC1_2 := mk0 hc1_2
 clear hr1_2 hc1_2
 have HB := mk0 (Below.refl w.heap.size w)
 have H : ((examboardref03_top.f k a0_0 l0_1 l0_2).bind fun bt829 => ((examboardref03_top.f k a1_0 l1_1 l1_2).bind fun bt833 => ((examboardref02_Mul.f k bt829.1 bt829.2 bt833.1 bt833.2).bind fun bt837 => ((examboardref03_low.f k a0_0 l0_1 l0_2).bind fun t841 => ((examboardref03_low.f k a1_0 l1_1 l1_2).bind fun t844 => ((examboardref01_Mul.f k t841 t844).bind fun t847 => ((examboardref03_reduce.f k bt837.1 bt837.2 t847).bind fun bt850 => (some (bt850.1, bt850.2.1, bt850.2.2))))))))) = some (r1, r2, r3) := h
 clear h
 obtain ⟨⟨t829, t830⟩, A3, H⟩ := bindA H
 obtain ⟨⟨t833, t834⟩, A4, H⟩ := bindA H
 obtain ⟨⟨t837, t838⟩, A5, H⟩ := bindA H
 obtain ⟨t841, A6, H⟩ := bindA H
 obtain ⟨t844, A7, H⟩ := bindA H
 obtain ⟨t847, A8, H⟩ := bindA H
 obtain ⟨⟨t850, t851, t854⟩, A9, H⟩ := bindA H
 simp only [Option.some.injEq, Prod.mk.injEq] at H
 obtain ⟨rfl, rfl, rfl⟩ := H
 go_enter Try.func32, Try.ntmps32
 try go_wp2_with (first | ((with_reducible refine gate_dst (N := 2) rfl ?_); refine box_event rfl (N := 2) rfl (cs := #[.bool a0_0, .slice A0_1 l0_1.length c0_1, .slice A0_2 l0_2.length c0_2]) (t := 29) (by go_simp <;> rfl) ?_; intro gb826 hg w10 hbox hb; have BK826 := mk0 (hbox); have GE826 := geB hg HB; replace HB := hbS HB hb; clear hb hbox hg) | ((with_reducible refine gate_dst (N := 3) rfl ?_); refine box_event rfl (N := 3) rfl (cs := #[.bool a1_0, .slice A1_1 l1_1.length c1_1, .slice A1_2 l1_2.length c1_2]) (t := 29) (by go_simp <;> rfl) ?_; intro gb827 hg w11 hbox hb; have BK827 := mk0 (hbox); have GE827 := geB hg HB; replace HB := hbS HB hb; replace BK826 := bkB BK826 hb; clear hb hbox hg) | ((with_reducible refine gate_dst (N := 4) rfl ?_); refine box_event rfl (N := 4) rfl (cs := #[.bool false, .slice none 0 0, .slice none 0 0]) (t := 29) (by go_simp <;> rfl) ?_; intro gb828 hg w12 hbox hb; have BK828 := mk0 (hbox); have GE828 := geB hg HB; replace HB := hbS HB hb; have NB826_828 := nbA hg BK826; have NB828_826 := nbB hg BK826; replace BK826 := bkB BK826 hb; have NB827_828 := nbA hg BK827; have NB828_827 := nbB hg BK827; replace BK827 := bkB BK827 hb; clear hb hbox hg))
 replace BK826 := mk0 (blk_drew BK826.out)
 replace BK827 := mk0 (blk_drew BK827.out)
 replace BK828 := mk0 (blk_drew BK828.out)
 replace HB := mk0 (b1 HB.out)
 refine start_ (n := 12) (S := fun w' => w'.cell? ⟨gb826, 0, none⟩ = some (.bool a0_0) ∧ w'.cell? ⟨gb826, 1, none⟩ = some (.slice A0_1 l0_1.length c0_1) ∧ w'.cell? ⟨gb826, 2, none⟩ = some (.slice A0_2 l0_2.length c0_2) ∧ w'.cell? ⟨gb827, 0, none⟩ = some (.bool a1_0) ∧ w'.cell? ⟨gb827, 1, none⟩ = some (.slice A1_1 l1_1.length c1_1) ∧ w'.cell? ⟨gb827, 2, none⟩ = some (.slice A1_2 l1_2.length c1_2)) (ds := []) (bv 12 0) (by kernel_rfl) rfl rfl ⟨(blk_cell BK826.out 0).trans rfl, (blk_cell BK826.out 1).trans rfl, (blk_cell BK826.out 2).trans rfl, (blk_cell BK827.out 0).trans rfl, (blk_cell BK827.out 1).trans rfl, (blk_cell BK827.out 2).trans rfl⟩ (fun hHeld => ?_); refine with_tabW examboardref03_Mul.tab1 examboardref03_Mul.bits1 (fun HT_ HW_ => ?_)
 generalize w12.drew = w13 at BK826 BK827 BK828 HB hHeld ⊢
 refine take_ (i := 0) (N := some 5) (v := ?_) (a' := ?_) (bv 12 1) rfl rfl (take_ofW HT_.out HW_.out (by kernel_rfl)) (fun _ _ _ h => h) (Or.inl ⟨by rfl, ?_⟩) hHeld ?_ ?_; rotate_left; (rintro w' ⟨s0, s1, s2, s3, s4, s5⟩; go_simp; with_reducible rfl); rotate_left; (simp only [Act.put, sA, sZ, sS, i64_w, i32_w]; rfl)
 refine take_ (i := 2) (N := some 7) (v := ?_) (a' := ?_) (bv 12 5) rfl rfl (take_ofW HT_.out HW_.out (by kernel_rfl)) (fun _ _ _ h => h) (Or.inl ⟨by rfl, ?_⟩) hHeld ?_ ?_; rotate_left; (rintro w' ⟨s0, s1, s2, s3, s4, s5⟩; go_simp; with_reducible rfl); rotate_left; (simp only [Act.put, sA, sZ, sS, i64_w, i32_w]; rfl)
 refine take_ (i := 5) (N := some 10) (v := ?_) (a' := ?_) (bv 12 37) rfl rfl (take_ofW HT_.out HW_.out (by kernel_rfl)) (fun _ _ _ h => h) (Or.inl ⟨by rfl, ?_⟩) hHeld ?_ ?_; rotate_left; (rintro w' ⟨s0, s1, s2, s3, s4, s5⟩; go_simp; with_reducible rfl); rotate_left; (simp only [Act.put, sA, sZ, sS, i64_w, i32_w]; rfl)
 refine take_ (i := 7) (N := some 12) (v := ?_) (a' := ?_) (bv 12 165) rfl rfl (take_ofW HT_.out HW_.out (by kernel_rfl)) (fun _ _ _ h => h) (Or.inl ⟨by rfl, ?_⟩) hHeld ?_ ?_; rotate_left; (rintro w' ⟨s0, s1, s2, s3, s4, s5⟩; go_simp; with_reducible rfl); rotate_left; (simp only [Act.put, sA, sZ, sS, i64_w, i32_w]; rfl)
 refine one_ (i := 1) (N := some 6) (bv 12 167) rfl rfl (one_of HT_.out (by kernel_rfl)) (by decide) (fun K hK => ?_)
 refine goes_ Try.func59 (by kernel_rfl) rfl #[.agg #[.bool a0_0, .slice A0_1 l0_1.length c0_1, .slice A0_2 l0_2.length c0_2]] (by rfl) rfl rfl (by go_simp <;> rfl) ?_
 with_reducible refine (examboardref03_top.calls k a0_0 _ _ l0_1 _ _ l0_2 t829 t830 _ ?side1 ?side2 ?side3 ?side4 A3.out).mono ?_
 (case side1 => exact (Cb HR0_1.out HB.out))
 (case side2 => exact HC0_1.out)
 (case side3 => exact (Cb HR0_2.out HB.out))
 (case side4 => exact HC0_2.out)
 rintro e w14 ⟨v831, rfl, ho0, hb⟩
 refine ⟨_, rfl, ?_⟩
 have HO832 := mk0 (Rl ho0 (bZ HB.out))
 replace BK826 := bkB BK826 hb
 replace BK827 := bkB BK827 hb
 replace BK828 := bkB BK828 hb
 replace HB := mk0 (below_step HB.out hb)
 refine hK.out _ _ ⟨(blk_cell BK826.out 0).trans rfl, (blk_cell BK826.out 1).trans rfl, (blk_cell BK826.out 2).trans rfl, (blk_cell BK827.out 0).trans rfl, (blk_cell BK827.out 1).trans rfl, (blk_cell BK827.out 2).trans rfl⟩ (fun hHeld => ?_)
 clear hK K
 refine norm_ (a' := ?_) ?_ ?_
 rotate_left
 ·show Act.put _ (some 6) _ = _
  simp only [Act.put, sA, sZ, sS, i64_w, i32_w]
  rfl
 refine one_ (i := 3) (N := some 8) (bv 12 175) rfl rfl (one_of HT_.out (by kernel_rfl)) (by decide) (fun K hK => ?_)
 refine goes_ Try.func59 (by kernel_rfl) rfl #[.agg #[.bool a1_0, .slice A1_1 l1_1.length c1_1, .slice A1_2 l1_2.length c1_2]] (by rfl) rfl rfl (by go_simp <;> rfl) ?_
 with_reducible refine (examboardref03_top.calls k a1_0 _ _ l1_1 _ _ l1_2 t833 t834 _ ?side1 ?side2 ?side3 ?side4 A4.out).mono ?_
 (case side1 => exact (Cb HR1_1.out HB.out))
 (case side2 => exact HC1_1.out)
 (case side3 => exact (Cb HR1_2.out HB.out))
 (case side4 => exact HC1_2.out)
 rintro e w15 ⟨v835, rfl, ho0, hb⟩
 refine ⟨_, rfl, ?_⟩
 have HO836 := mk0 (Rl (Rn ho0 (Rq HO832.out)) (bZ HB.out))
 replace HO832 := mk0 (Re HO832.out (Rs ho0) hb)
 replace BK826 := bkB BK826 hb
 replace BK827 := bkB BK827 hb
 replace BK828 := bkB BK828 hb
 replace HB := mk0 (below_step HB.out hb)
 obtain ⟨Ao16, co16, eo16⟩ := Kd.R_slice HO832.out
 (first | subst eo16 | (injection eo16 with f1_ f2_ f3_; have f4_ := f1_.symm; have f5_ := f3_.symm; clear f1_ f2_ f3_; subst f4_; subst f5_))
 obtain ⟨Ao17, co17, eo17⟩ := Kd.R_slice HO836.out
 (first | subst eo17 | (injection eo17 with f1_ f2_ f3_; have f4_ := f1_.symm; have f5_ := f3_.symm; clear f1_ f2_ f3_; subst f4_; subst f5_))
 refine hK.out _ _ ⟨(blk_cell BK826.out 0).trans rfl, (blk_cell BK826.out 1).trans rfl, (blk_cell BK826.out 2).trans rfl, (blk_cell BK827.out 0).trans rfl, (blk_cell BK827.out 1).trans rfl, (blk_cell BK827.out 2).trans rfl⟩ (fun hHeld => ?_)
 clear hK K
 refine norm_ (a' := ?_) ?_ ?_
 rotate_left
 ·show Act.put _ (some 8) _ = _
  simp only [Act.put, sA, sZ, sS, i64_w, i32_w]
  rfl
 refine one_ (i := 4) (N := some 9) (bv 12 191) rfl rfl (one_of HT_.out (by kernel_rfl)) (by decide) (fun K hK => ?_)
 refine goes_ Try.func58 (by kernel_rfl) rfl #[.agg #[.bool t829, .slice Ao16 t830.length co16], .agg #[.bool t833, .slice Ao17 t834.length co17]] (by rfl) rfl rfl (by go_simp <;> rfl) ?_
 with_reducible refine (examboardref02_Mul.calls k t829 _ _ t830 t833 _ _ t834 t837 t838 _ ?side1 ?side2 ?side3 ?side4 A5.out).mono ?_
 (case side1 => exact (Kd.R_reads' HO832.out).2.2)
 (case side2 => exact (Kd.R_reads' HO832.out).2.1)
 (case side3 => exact (Kd.R_reads' HO836.out).2.2)
 (case side4 => exact (Kd.R_reads' HO836.out).2.1)
 rintro e w18 ⟨v839, rfl, ho0, hb⟩
 refine ⟨_, rfl, ?_⟩
 have HO840 := mk0 (Rl (Rn (Rn ho0 (Rq HO832.out)) (Rq HO836.out)) (bZ HB.out))
 replace HO832 := mk0 (Re HO832.out (Rs ho0) hb)
 replace HO836 := mk0 (Re HO836.out (Rs ho0) hb)
 replace BK826 := bkB BK826 hb
 replace BK827 := bkB BK827 hb
 replace BK828 := bkB BK828 hb
 replace HB := mk0 (below_step HB.out hb)
 refine hK.out _ _ ⟨(blk_cell BK826.out 0).trans rfl, (blk_cell BK826.out 1).trans rfl, (blk_cell BK826.out 2).trans rfl, (blk_cell BK827.out 0).trans rfl, (blk_cell BK827.out 1).trans rfl, (blk_cell BK827.out 2).trans rfl⟩ (fun hHeld => ?_)
 clear hK K
 refine norm_ (a' := ?_) ?_ ?_
 rotate_left
 ·show Act.put _ (some 9) _ = _
  simp only [Act.put, sA, sZ, sS, i64_w, i32_w]
  rfl
 refine one_ (i := 6) (N := some 11) (bv 12 255) rfl rfl (one_of HT_.out (by kernel_rfl)) (by decide) (fun K hK => ?_)
 refine goes_ Try.func61 (by kernel_rfl) rfl #[.agg #[.bool a0_0, .slice A0_1 l0_1.length c0_1, .slice A0_2 l0_2.length c0_2]] (by rfl) rfl rfl (by go_simp <;> rfl) ?_
 with_reducible refine (examboardref03_low.calls k a0_0 _ _ l0_1 _ _ l0_2 t841 _ ?side1 ?side2 ?side3 ?side4 A6.out).mono ?_
 (case side1 => exact (Cb HR0_1.out HB.out))
 (case side2 => exact HC0_1.out)
 (case side3 => exact (Cb HR0_2.out HB.out))
 (case side4 => exact HC0_2.out)
 rintro e w19 ⟨v842, rfl, ho0, hb⟩
 refine ⟨_, rfl, ?_⟩
 have HO843 := mk0 (Rl (Rn (Rn (Rn ho0 (Rq HO832.out)) (Rq HO836.out)) (Rq HO840.out)) (bZ HB.out))
 replace HO832 := mk0 (Re HO832.out (Rs ho0) hb)
 replace HO836 := mk0 (Re HO836.out (Rs ho0) hb)
 replace HO840 := mk0 (Re HO840.out (Rs ho0) hb)
 replace BK826 := bkB BK826 hb
 replace BK827 := bkB BK827 hb
 replace BK828 := bkB BK828 hb
 replace HB := mk0 (below_step HB.out hb)
 refine hK.out _ _ ⟨(blk_cell BK826.out 0).trans rfl, (blk_cell BK826.out 1).trans rfl, (blk_cell BK826.out 2).trans rfl, (blk_cell BK827.out 0).trans rfl, (blk_cell BK827.out 1).trans rfl, (blk_cell BK827.out 2).trans rfl⟩ (fun hHeld => ?_)
 clear hK K
 refine norm_ (a' := ?_) ?_ ?_
 rotate_left
 ·show Act.put _ (some 11) _ = _
  simp only [Act.put, sA, sZ, sS, i64_w, i32_w]
  rfl
 refine one_ (i := 8) (N := some 13) (bv 12 511) rfl rfl (one_of HT_.out (by kernel_rfl)) (by decide) (fun K hK => ?_)
 refine goes_ Try.func61 (by kernel_rfl) rfl #[.agg #[.bool a1_0, .slice A1_1 l1_1.length c1_1, .slice A1_2 l1_2.length c1_2]] (by rfl) rfl rfl (by go_simp <;> rfl) ?_
 with_reducible refine (examboardref03_low.calls k a1_0 _ _ l1_1 _ _ l1_2 t844 _ ?side1 ?side2 ?side3 ?side4 A7.out).mono ?_
 (case side1 => exact (Cb HR1_1.out HB.out))
 (case side2 => exact HC1_1.out)
 (case side3 => exact (Cb HR1_2.out HB.out))
 (case side4 => exact HC1_2.out)
 rintro e w20 ⟨v845, rfl, ho0, hb⟩
 refine ⟨_, rfl, ?_⟩
 have HO846 := mk0 (Rl (Rn (Rn (Rn (Rn ho0 (Rq HO832.out)) (Rq HO836.out)) (Rq HO840.out)) (Rq HO843.out)) (bZ HB.out))
 replace HO832 := mk0 (Re HO832.out (Rs ho0) hb)
 replace HO836 := mk0 (Re HO836.out (Rs ho0) hb)
 replace HO840 := mk0 (Re HO840.out (Rs ho0) hb)
 replace HO843 := mk0 (Re HO843.out (Rs ho0) hb)
 replace BK826 := bkB BK826 hb
 replace BK827 := bkB BK827 hb
 replace BK828 := bkB BK828 hb
 replace HB := mk0 (below_step HB.out hb)
 obtain ⟨Ao21, co21, eo21⟩ := Kd.R_slice HO843.out
 (first | subst eo21 | (injection eo21 with f1_ f2_ f3_; have f4_ := f1_.symm; have f5_ := f3_.symm; clear f1_ f2_ f3_; subst f4_; subst f5_))
 obtain ⟨Ao22, co22, eo22⟩ := Kd.R_slice HO846.out
 (first | subst eo22 | (injection eo22 with f1_ f2_ f3_; have f4_ := f1_.symm; have f5_ := f3_.symm; clear f1_ f2_ f3_; subst f4_; subst f5_))
 refine hK.out _ _ ⟨(blk_cell BK826.out 0).trans rfl, (blk_cell BK826.out 1).trans rfl, (blk_cell BK826.out 2).trans rfl, (blk_cell BK827.out 0).trans rfl, (blk_cell BK827.out 1).trans rfl, (blk_cell BK827.out 2).trans rfl⟩ (fun hHeld => ?_)
 clear hK K
 refine norm_ (a' := ?_) ?_ ?_
 rotate_left
 ·show Act.put _ (some 13) _ = _
  simp only [Act.put, sA, sZ, sS, i64_w, i32_w]
  rfl
 refine one_ (i := 9) (N := some 14) (bv 12 1023) rfl rfl (one_of HT_.out (by kernel_rfl)) (by decide) (fun K hK => ?_)
 refine goes_ Try.func60 (by kernel_rfl) rfl #[.slice Ao21 t841.length co21, .slice Ao22 t844.length co22] (by rfl) rfl rfl (by go_simp <;> rfl) ?_
 with_reducible refine (examboardref01_Mul.calls k _ _ t841 _ _ t844 t847 _ ?side1 ?side2 ?side3 ?side4 A8.out).mono ?_
 (case side1 => exact (Kd.R_reads' HO843.out).2.2)
 (case side2 => exact (Kd.R_reads' HO843.out).2.1)
 (case side3 => exact (Kd.R_reads' HO846.out).2.2)
 (case side4 => exact (Kd.R_reads' HO846.out).2.1)
 rintro e w23 ⟨v848, rfl, ho0, hb⟩
 refine ⟨_, rfl, ?_⟩
 have HO849 := mk0 (Rl (Rn (Rn (Rn (Rn (Rn ho0 (Rq HO832.out)) (Rq HO836.out)) (Rq HO840.out)) (Rq HO843.out)) (Rq HO846.out)) (bZ HB.out))
 replace HO832 := mk0 (Re HO832.out (Rs ho0) hb)
 replace HO836 := mk0 (Re HO836.out (Rs ho0) hb)
 replace HO840 := mk0 (Re HO840.out (Rs ho0) hb)
 replace HO843 := mk0 (Re HO843.out (Rs ho0) hb)
 replace HO846 := mk0 (Re HO846.out (Rs ho0) hb)
 replace BK826 := bkB BK826 hb
 replace BK827 := bkB BK827 hb
 replace BK828 := bkB BK828 hb
 replace HB := mk0 (below_step HB.out hb)
 obtain ⟨Ao24, co24, eo24⟩ := Kd.R_slice HO840.out
 (first | subst eo24 | (injection eo24 with f1_ f2_ f3_; have f4_ := f1_.symm; have f5_ := f3_.symm; clear f1_ f2_ f3_; subst f4_; subst f5_))
 obtain ⟨Ao25, co25, eo25⟩ := Kd.R_slice HO849.out
 (first | subst eo25 | (injection eo25 with f1_ f2_ f3_; have f4_ := f1_.symm; have f5_ := f3_.symm; clear f1_ f2_ f3_; subst f4_; subst f5_))
 refine hK.out _ _ ⟨(blk_cell BK826.out 0).trans rfl, (blk_cell BK826.out 1).trans rfl, (blk_cell BK826.out 2).trans rfl, (blk_cell BK827.out 0).trans rfl, (blk_cell BK827.out 1).trans rfl, (blk_cell BK827.out 2).trans rfl⟩ (fun hHeld => ?_)
 clear hK K
 refine norm_ (a' := ?_) ?_ ?_
 rotate_left
 ·show Act.put _ (some 14) _ = _
  simp only [Act.put, sA, sZ, sS, i64_w, i32_w]
  rfl
 refine one_ (i := 10) (N := some 15) (bv 12 2047) rfl rfl (one_of HT_.out (by kernel_rfl)) (by decide) (fun K hK => ?_)
 refine goes_ Try.func57 (by kernel_rfl) rfl #[.agg #[.bool t837, .slice Ao24 t838.length co24], .slice Ao25 t847.length co25] (by rfl) rfl rfl (by go_simp <;> rfl) ?_
 with_reducible refine (examboardref03_reduce.calls k t837 _ _ t838 _ _ t847 t850 t851 t854 _ ?side1 ?side2 ?side3 ?side4 A9.out).mono ?_
 (case side1 => exact (Kd.R_reads' HO840.out).2.2)
 (case side2 => exact (Kd.R_reads' HO840.out).2.1)
 (case side3 => exact (Kd.R_reads' HO849.out).2.2)
 (case side4 => exact (Kd.R_reads' HO849.out).2.1)
 rintro e w26 ⟨v852, v855, rfl, ho0, ho1, hb⟩
 refine ⟨_, rfl, ?_⟩
 have HO853 := mk0 (Rl (Rn (Rn (Rn (Rn (Rn (Rn ho0 (Rq HO832.out)) (Rq HO836.out)) (Rq HO840.out)) (Rq HO843.out)) (Rq HO846.out)) (Rq HO849.out)) (bZ HB.out))
 have HO856 := mk0 (Rl (Rn (Rn (Rn (Rn (Rn (Rn ho1 (Rq HO832.out)) (Rq HO836.out)) (Rq HO840.out)) (Rq HO843.out)) (Rq HO846.out)) (Rq HO849.out)) (bZ HB.out))
 replace HO832 := mk0 (Rm (Kd.R_told (Kd.R_told (Kd.R_old HO832.out hb) (Rs ho0)) (Rs ho1)) (fun _ h_ => h_.1))
 replace HO836 := mk0 (Rm (Kd.R_told (Kd.R_told (Kd.R_old HO836.out hb) (Rs ho0)) (Rs ho1)) (fun _ h_ => h_.1))
 replace HO840 := mk0 (Rm (Kd.R_told (Kd.R_told (Kd.R_old HO840.out hb) (Rs ho0)) (Rs ho1)) (fun _ h_ => h_.1))
 replace HO843 := mk0 (Rm (Kd.R_told (Kd.R_told (Kd.R_old HO843.out hb) (Rs ho0)) (Rs ho1)) (fun _ h_ => h_.1))
 replace HO846 := mk0 (Rm (Kd.R_told (Kd.R_told (Kd.R_old HO846.out hb) (Rs ho0)) (Rs ho1)) (fun _ h_ => h_.1))
 replace HO849 := mk0 (Rm (Kd.R_told (Kd.R_told (Kd.R_old HO849.out hb) (Rs ho0)) (Rs ho1)) (fun _ h_ => h_.1))
 replace BK826 := bkB BK826 hb
 replace BK827 := bkB BK827 hb
 replace BK828 := bkB BK828 hb
 replace HB := mk0 (below_step HB.out hb)
 obtain ⟨Ao28, co28, eo28⟩ := Kd.R_slice HO853.out
 (first | subst eo28 | (injection eo28 with f1_ f2_ f3_; have f4_ := f1_.symm; have f5_ := f3_.symm; clear f1_ f2_ f3_; subst f4_; subst f5_))
 obtain ⟨Ao30, co30, eo30⟩ := Kd.R_slice HO856.out
 (first | subst eo30 | (injection eo30 with f1_ f2_ f3_; have f4_ := f1_.symm; have f5_ := f3_.symm; clear f1_ f2_ f3_; subst f4_; subst f5_))
 refine hK.out _ _ ⟨(blk_cell BK826.out 0).trans rfl, (blk_cell BK826.out 1).trans rfl, (blk_cell BK826.out 2).trans rfl, (blk_cell BK827.out 0).trans rfl, (blk_cell BK827.out 1).trans rfl, (blk_cell BK827.out 2).trans rfl⟩ (fun hHeld => ?_)
 clear hK K
 refine norm_ (a' := ?_) ?_ ?_
 rotate_left
 ·show Act.put _ (some 15) _ = _
  simp only [Act.put, sA, sZ, sS, i64_w, i32_w]
  rfl
 refine one_ (i := 11) (N := none) (bv 12 4095) rfl rfl (one_of HT_.out (by kernel_rfl)) (by decide) (fun K hK => ?_)
 have hs27 : w26.cell? ⟨gb828, 0, none⟩ = some (.bool false) := (blk_cell BK828.out 0).trans rfl
 have hfs27 := blk_frozen BK828.out 0
 have hns27_0 := NB826_828.out
 have hns27_1 := NB827_828.out
 have hms27_0 := NB828_826.out
 have hms27_1 := NB828_827.out
 have hs29 : w26.cell? ⟨gb828, 1, none⟩ = some (.slice none 0 0) := (blk_cell BK828.out 1).trans rfl
 have hfs29 := blk_frozen BK828.out 1
 have hns29_0 := NB826_828.out
 have hns29_1 := NB827_828.out
 have hms29_0 := NB828_826.out
 have hms29_1 := NB828_827.out
 have hs31 : w26.cell? ⟨gb828, 2, none⟩ = some (.slice none 0 0) := (blk_cell BK828.out 2).trans rfl
 have hfs31 := blk_frozen BK828.out 2
 have hns31_0 := NB826_828.out
 have hns31_1 := NB827_828.out
 have hms31_0 := NB828_826.out
 have hms31_1 := NB828_827.out
 refine skip_ (w1 := ?_) (by rfl) rfl ?_ ?_
 rotate_left
 ·go_simp
  rfl
 refine hK.out _ _ ⟨((cell_far (p := ⟨gb828, _, none⟩) NB826_828.out _).trans (((cell_far (p := ⟨gb828, _, none⟩) NB826_828.out _).trans (((cell_far (p := ⟨gb828, _, none⟩) NB826_828.out _).trans (hHeld.1)))))), ((cell_far (p := ⟨gb828, _, none⟩) NB826_828.out _).trans (((cell_far (p := ⟨gb828, _, none⟩) NB826_828.out _).trans (((cell_far (p := ⟨gb828, _, none⟩) NB826_828.out _).trans (hHeld.2.1)))))), ((cell_far (p := ⟨gb828, _, none⟩) NB826_828.out _).trans (((cell_far (p := ⟨gb828, _, none⟩) NB826_828.out _).trans (((cell_far (p := ⟨gb828, _, none⟩) NB826_828.out _).trans (hHeld.2.2.1)))))), ((cell_far (p := ⟨gb828, _, none⟩) NB827_828.out _).trans (((cell_far (p := ⟨gb828, _, none⟩) NB827_828.out _).trans (((cell_far (p := ⟨gb828, _, none⟩) NB827_828.out _).trans (hHeld.2.2.2.1)))))), ((cell_far (p := ⟨gb828, _, none⟩) NB827_828.out _).trans (((cell_far (p := ⟨gb828, _, none⟩) NB827_828.out _).trans (((cell_far (p := ⟨gb828, _, none⟩) NB827_828.out _).trans (hHeld.2.2.2.2.1)))))), ((cell_far (p := ⟨gb828, _, none⟩) NB827_828.out _).trans (((cell_far (p := ⟨gb828, _, none⟩) NB827_828.out _).trans (((cell_far (p := ⟨gb828, _, none⟩) NB827_828.out _).trans (hHeld.2.2.2.2.2))))))⟩ (fun hHeld => ?_)
 clear hK K
 refine done_ (done_of HT_.out (by kernel_rfl)) ?_
 try go_wp2
 refine bodyPost_ret (results_cell_row rfl _ _ gb828 29 #[.bool t850, .slice Ao28 t851.length co28, .slice Ao30 t854.length co30] (0, 0) _ rfl (by refine blk_put (cs := #[.bool t850, .slice Ao28 t851.length co28, .slice none 0 0]) ?_ 2 _ rfl; refine blk_put (cs := #[.bool t850, .slice none 0 0, .slice none 0 0]) ?_ 1 _ rfl; refine blk_put (cs := #[.bool false, .slice none 0 0, .slice none 0 0]) ?_ 0 _ rfl; exact BK828.out) Try.underlying29 rfl (by kernel_rfl)) rfl ?_
 exact ⟨_, _, by first | rfl | (simp [errW_none, errW_some] <;> rfl) | (simp [*, errW_none, errW_some] <;> rfl), Rm (Rg 2 (Rg 1 (Rg 0 (Rt HO853.out BK828.out (by decide)) (.bool t850)) (.slice Ao28 t851.length co28)) (.slice Ao30 t854.length co30)) (fun _ hk => hk.1.1.1.1.1.1.1), Rm (Rg 2 (Rg 1 (Rg 0 (Rt HO856.out BK828.out (by decide)) (.bool t850)) (.slice Ao28 t851.length co28)) (.slice Ao30 t854.length co30)) (fun _ hk => hk.1.1.1.1.1.1.1), by repeat (first | exact HB.out | apply bN | apply b1 | apply bA | refine bS ?_ GE826.out | refine bS ?_ GE827.out | refine bS ?_ GE828.out)⟩
set_option maxHeartbeats 8000000 in
set_option maxRecDepth 100000 in
theorem examboardref02_Neg.calls (k : Nat) (a0_0 : Bool) (A0_1 : Option Addr) (c0_1 : Nat) (l0_1 : List Int) (r1 : Bool) (r2 : List Int) (w : World) (hr0_1 : Kd.C (Kd.int .u32) w A0_1 l0_1.length l0_1) (hc0_1 : l0_1.length ≤ c0_1) (h : examboardref02_Neg.f k a0_0 l0_1 = some (r1, r2)) :
  Calls Try.prog 94 #[.agg #[.bool a0_0, .slice A0_1 l0_1.length c0_1]] w fun e w' => ∃ v1_ : Value, e = .returned (.agg #[.bool r1, v1_]) ∧ Kd.R (Kd.int .u32) 87 w' w.heap.size (fun _ => True) v1_ r2 ∧ Below w.heap.size w w' := by
 have hu27 := Try.underlying27
 have HR0_1 := mk0 hr0_1
 have HC0_1 := mk0 hc0_1
 clear hr0_1 hc0_1
 have HB := mk0 (Below.refl w.heap.size w)
 have H : ((examboardref02_Make.f k (!a0_0) l0_1).bind fun bt859 => (some (bt859.1, bt859.2))) = some (r1, r2) := h
 clear h
 obtain ⟨⟨t859, t860⟩, A2, H⟩ := bindA H
 simp only [Option.some.injEq, Prod.mk.injEq] at H
 obtain ⟨rfl, rfl⟩ := H
 go_enter Try.func94, Try.ntmps94
 go_wp2_with (first | ((with_reducible refine gate_dst (N := 1) rfl ?_); refine box_event rfl (N := 1) rfl (cs := #[.bool a0_0, .slice A0_1 l0_1.length c0_1]) (t := 27) (by go_simp <;> rfl) ?_; intro gb857 hg w3 hbox hb; have BK857 := mk0 (hbox); have GE857 := geB hg HB; replace HB := hbS HB hb; clear hb hbox hg) | ((with_reducible refine gate_dst (N := 2) rfl ?_); refine box_event rfl (N := 2) rfl (cs := #[.bool false, .slice none 0 0]) (t := 27) (by go_simp <;> rfl) ?_; intro gb858 hg w4 hbox hb; have BK858 := mk0 (hbox); have GE858 := geB hg HB; replace HB := hbS HB hb; have NB857_858 := nbA hg BK857; have NB858_857 := nbB hg BK857; replace BK857 := bkB BK857 hb; clear hb hbox hg; have hnb5 := NB857_858.out; have hnc5 := NB858_857.out; obtain ⟨hcz6_0, hcz6_1, hfz6_0, hfz6_1⟩ := cz2 BK857) | ((with_reducible refine gate_callee (f := 62) rfl ?_); refine goA 8 Try.func62 #[.bool (!a0_0), .slice A0_1 l0_1.length c0_1] ?_; (with_reducible refine (examboardref02_Make.calls k (!a0_0) _ _ l0_1 t859 t860 _ (by exact Cb HR0_1.out HB.out) HC0_1.out A2.out).mono ?_); rintro e w7 ⟨v861, rfl, ho0, hb⟩; refine ⟨_, rfl, ?_⟩; have HO862 := mk0 (Rl ho0 (bZ HB.out)); replace BK857 := bkB BK857 hb; replace BK858 := bkB BK858 hb; replace HB := hbS HB hb; obtain ⟨hcz8_0, hcz8_1, hfz8_0, hfz8_1⟩ := cz2 BK858; obtain ⟨Ao9, co9, eo9⟩ := Kd.R_slice HO862.out; subst eo9))
 refine bodyPost_ret (results_cell_row rfl _ _ gb858 27 #[.bool t859, .slice Ao9 t860.length co9] (0, 0) _ rfl (by refine blk_put (cs := #[.bool t859, .slice none 0 0]) ?_ 1 _ rfl; refine blk_put (cs := #[.bool false, .slice none 0 0]) ?_ 0 _ rfl; exact BK858.out) Try.underlying27 rfl (by kernel_rfl)) rfl ?_
 exact ⟨_, by first | rfl | (simp [errW_none, errW_some] <;> rfl) | (simp [*, errW_none, errW_some] <;> rfl), Rm (Rf (p := ⟨gb858, 1, none⟩) (Rf (p := ⟨gb858, 0, none⟩) (Rt HO862.out BK858.out (by decide)) (fun _ hk => hk.2) (.bool t859)) (fun _ hk => hk.2) (.slice Ao9 t860.length co9)) tv, by repeat (first | exact HB.out | apply bN | apply b1 | apply bA | refine bS ?_ GE857.out | refine bS ?_ GE858.out)⟩
set_option maxHeartbeats 8000000 in
set_option maxRecDepth 100000 in
theorem examboardref03_Make.calls (k : Nat) (a0_0 : Bool) (A0_1 : Option Addr) (c0_1 : Nat) (l0_1 : List Int) (a1_0 : Bool) (A1_1 : Option Addr) (c1_1 : Nat) (l1_1 : List Int) (r1 : Bool) (r2 : List Int) (r3 : List Int) (r4 : Bool) (w : World) (hr0_1 : Kd.C (Kd.int .u32) w A0_1 l0_1.length l0_1) (hc0_1 : l0_1.length ≤ c0_1) (hr1_1 : Kd.C (Kd.int .u32) w A1_1 l1_1.length l1_1) (hc1_1 : l1_1.length ≤ c1_1) (h : examboardref03_Make.f k a0_0 l0_1 a1_0 l1_1 = some (r1, r2, r3, r4)) :
  Calls Try.prog 68 #[.agg #[.bool a0_0, .slice A0_1 l0_1.length c0_1], .agg #[.bool a1_0, .slice A1_1 l1_1.length c1_1]] w fun e w' => ∃ v1_ v2_ : Value, e = .returned (.tuple #[.agg #[.bool r1, v1_, v2_], .bool r4]) ∧ Kd.R (Kd.int .u32) 87 w' w.heap.size (fun k_ => some k_ ≠ (v2_ : Value).ownBlock) v1_ r2 ∧ Kd.R (Kd.int .u32) 87 w' w.heap.size (fun k_ => some k_ ≠ (v1_ : Value).ownBlock) v2_ r3 ∧ Below w.heap.size w w' := by
 have hu27 := Try.underlying27
 have hu29 := Try.underlying29
 have HR0_1 := mk0 hr0_1
 have HC0_1 := mk0 hc0_1
 clear hr0_1 hc0_1
 have HR1_1 := mk0 hr1_1
 have HC1_1 := mk0 hc1_1
 clear hr1_1 hc1_1
 have HB := mk0 (Below.refl w.heap.size w)
 have H : ((examboardref02_Norm.f k a1_0 l1_1).bind fun bt866 => ((examboardref01_Bits.f k bt866.2).bind fun t871 => (if t871 = 0 then ((examboardref03_zero.f k).bind fun bt872 => (some (bt872.1, bt872.2.1, bt872.2.2, false))) else ((examboardref02_Norm.f k a0_0 l0_1).bind fun bt879 => (if bt866.1 = true then ((examboardref02_Neg.f k bt879.1 bt879.2).bind fun bt884 => ((examboardref03_reduce.f k bt884.1 bt884.2 bt866.2).bind fun bt888 => (some (bt888.1, bt888.2.1, bt888.2.2, true)))) else ((examboardref03_reduce.f k bt879.1 bt879.2 bt866.2).bind fun bt895 => (some (bt895.1, bt895.2.1, bt895.2.2, true)))))))) = some (r1, r2, r3, r4) := h
 clear h
 obtain ⟨⟨t866, t867⟩, A3, H⟩ := bindA H
 obtain ⟨t871, A4, H⟩ := bindA H
 by_cases c5 : t871 = 0
 ·rw [if_pos c5] at H
  have c5b0 : (t871 == 0) = true := beq_iff_eq.mpr c5
  have c5b1 : (t871 != 0) = false := bne_eq_false_iff_eq.mpr c5
  clear c5
  obtain ⟨⟨t872, t873, t876⟩, A6, H⟩ := bindA H
  simp only [Option.some.injEq, Prod.mk.injEq] at H
  obtain ⟨rfl, rfl, rfl, rfl⟩ := H
  go_enter Try.func68, Try.ntmps68
  go_wp2_with (first | ((refine gate_dst (N := 2) rfl ?_); refine box_event rfl (N := 2) rfl (cs := #[.bool a0_0, .slice A0_1 l0_1.length c0_1]) (t := 27) (by go_simp <;> rfl) ?_; intro gb863 hg w7 hbox hb; have BK863 := mk0 (hbox); have GE863 := geB hg HB; replace HB := hbS HB hb; clear hb hbox hg) | ((refine gate_dst (N := 3) rfl ?_); refine box_event rfl (N := 3) rfl (cs := #[.bool a1_0, .slice A1_1 l1_1.length c1_1]) (t := 27) (by go_simp <;> rfl) ?_; intro gb864 hg w8 hbox hb; have BK864 := mk0 (hbox); have GE864 := geB hg HB; replace HB := hbS HB hb; have NB863_864 := nbA hg BK863; have NB864_863 := nbB hg BK863; replace BK863 := bkB BK863 hb; clear hb hbox hg) | ((refine gate_dst (N := 4) rfl ?_); refine box_event rfl (N := 4) rfl (cs := #[.bool false, .slice none 0 0, .slice none 0 0]) (t := 29) (by go_simp <;> rfl) ?_; intro gb865 hg w9 hbox hb; have BK865 := mk0 (hbox); have GE865 := geB hg HB; replace HB := hbS HB hb; have NB863_865 := nbA hg BK863; have NB865_863 := nbB hg BK863; replace BK863 := bkB BK863 hb; have NB864_865 := nbA hg BK864; have NB865_864 := nbB hg BK864; replace BK864 := bkB BK864 hb; clear hb hbox hg; have hnb10 := NB864_863.out; have hnc10 := NB863_864.out; have hnb11 := NB864_865.out; have hnc11 := NB865_864.out; obtain ⟨hcz12_0, hcz12_1, hfz12_0, hfz12_1⟩ := cz2 BK864) | ((refine gate_callee (f := 84) rfl ?_); refine goA 9 Try.func84 #[.agg #[.bool a1_0, .slice A1_1 l1_1.length c1_1]] ?_; (with_reducible refine (examboardref02_Norm.calls k a1_0 _ _ l1_1 t866 t867 _ (by exact Cb HR1_1.out HB.out) HC1_1.out A3.out).mono ?_); rintro e w13 ⟨v868, rfl, ho0, hb⟩; refine ⟨_, rfl, ?_⟩; have HO869 := mk0 (Rl ho0 (bZ HB.out)); replace BK863 := bkB BK863 hb; replace BK864 := bkB BK864 hb; replace BK865 := bkB BK865 hb; replace HB := hbS HB hb) | ((refine gate_dst (N := 6) rfl ?_); refine box_event rfl (N := 6) rfl (cs := #[.bool false, .slice none 0 0]) (t := 27) (by go_simp <;> rfl) ?_; intro gb870 hg w14 hbox hb; replace HO869 := rB HO869 hb; have BK870 := mk0 (hbox); have GE870 := geB hg HB; replace HB := hbS HB hb; have NB863_870 := nbA hg BK863; have NB870_863 := nbB hg BK863; replace BK863 := bkB BK863 hb; have NB864_870 := nbA hg BK864; have NB870_864 := nbB hg BK864; replace BK864 := bkB BK864 hb; have NB865_870 := nbA hg BK865; have NB870_865 := nbB hg BK865; replace BK865 := bkB BK865 hb; clear hb hbox hg; have hnb15 := NB870_863.out; have hnc15 := NB863_870.out; have hnb16 := NB870_864.out; have hnc16 := NB864_870.out; have hnb17 := NB870_865.out; have hnc17 := NB865_870.out; obtain ⟨hcz18_0, hcz18_1, hfz18_0, hfz18_1⟩ := cz2 BK870; obtain ⟨Ao19, co19, eo19⟩ := Kd.R_slice HO869.out; subst eo19) | ((refine gate_callee (f := 85) rfl ?_); refine goA 12 Try.func85 #[.slice Ao19 t867.length co19] ?_; (with_reducible refine (examboardref01_Bits.calls k _ _ t867 t871 _ (by refine (Kd.R_reads' (e := 87) (base := w.heap.size) (ok := fun k_ => True) (n := t867.length) (c := co19) ?_).2.2; exact ((Rm (Rg 1 (Rg 0 (Rd HO869.out BK870) (.bool t866)) (.slice Ao19 t867.length co19)) (fun _ h_ => h_.1)))) (by exact (Kd.R_reads' HO869.out).2.1) A4.out).mono ?_); rintro e w20 ⟨rfl, hb⟩; refine ⟨_, rfl, ?_⟩; replace HO869 := mk0 (Rb ((Rm (Rg 1 (Rg 0 (Rd HO869.out BK870) (.bool t866)) (.slice Ao19 t867.length co19)) (fun _ h_ => h_.1))) hb); replace BK863 := mk0 (blk_below (o := .cells #[.bool a0_0, .slice A0_1 l0_1.length c0_1] 27 (0, 0)) (by refine blk_far ?_ NB863_870.out _; refine blk_far ?_ NB863_870.out _; exact BK863.out) hb); replace BK864 := mk0 (blk_below (o := .cells #[.bool a1_0, .slice A1_1 l1_1.length c1_1] 27 (0, 0)) (by refine blk_far ?_ NB864_870.out _; refine blk_far ?_ NB864_870.out _; exact BK864.out) hb); replace BK865 := mk0 (blk_below (o := .cells #[.bool false, .slice none 0 0, .slice none 0 0] 29 (0, 0)) (by refine blk_far ?_ NB865_870.out _; refine blk_far ?_ NB865_870.out _; exact BK865.out) hb); replace BK870 := mk0 (blk_below (o := .cells #[.bool t866, .slice Ao19 t867.length co19] 27 (0, 0)) (by refine blk_put (cs := #[.bool t866, .slice none 0 0]) ?_ 1 _ rfl; refine blk_put (cs := #[.bool false, .slice none 0 0]) ?_ 0 _ rfl; exact BK870.out) hb); replace HB := mk0 (below_step (by repeat (first | exact HB.out | refine bS ?_ GE865.out | refine bS ?_ GE870.out)) hb)) | ((refine gate_callee (f := 86) rfl ?_); refine goA 14 Try.func86 #[] ?_; (with_reducible refine (examboardref03_zero.calls k  t872 t873 t876 _ A6.out).mono ?_); rintro e w21 ⟨v874, v877, rfl, ho0, ho1, hb⟩; refine ⟨_, rfl, ?_⟩; have HO875 := mk0 (Rl (Rn ho0 (Rq HO869.out)) (bZ HB.out)); have HO878 := mk0 (Rl (Rn ho1 (Rq HO869.out)) (bZ HB.out)); replace HO869 := mk0 (Rm (Kd.R_told (Kd.R_told (Kd.R_old HO869.out hb) (Rs ho0)) (Rs ho1)) (fun _ h_ => h_.1)); replace BK863 := bkB BK863 hb; replace BK864 := bkB BK864 hb; replace BK865 := bkB BK865 hb; replace BK870 := bkB BK870 hb; replace HB := hbS HB hb; have hnb22 := NB865_863.out; have hnc22 := NB863_865.out; obtain ⟨hcz23_0, hcz23_1, hcz23_2, hfz23_0, hfz23_1, hfz23_2⟩ := cz3 BK865; obtain ⟨Ao24, co24, eo24⟩ := Kd.R_slice HO875.out; subst eo24; obtain ⟨Ao25, co25, eo25⟩ := Kd.R_slice HO878.out; subst eo25))
  refine bodyPost_ret (results_ct rfl _ _ gb865 29 #[.bool t872, .slice Ao24 t873.length co24, .slice Ao25 t876.length co25] (0, 0) _ rfl (by refine blk_put (cs := #[.bool t872, .slice Ao24 t873.length co24, .slice none 0 0]) ?_ 2 _ rfl; refine blk_put (cs := #[.bool t872, .slice none 0 0, .slice none 0 0]) ?_ 1 _ rfl; refine blk_put (cs := #[.bool false, .slice none 0 0, .slice none 0 0]) ?_ 0 _ rfl; exact BK865.out) Try.underlying29 rfl (by kernel_rfl)) rfl ?_
  exact ⟨_, _, rfl, Rm (Rg 2 (Rg 1 (Rg 0 (Rd HO875.out BK865) (.bool t872)) (.slice Ao24 t873.length co24)) (.slice Ao25 t876.length co25)) (fun _ hk => hk.1.1), Rm (Rg 2 (Rg 1 (Rg 0 (Rd HO878.out BK865) (.bool t872)) (.slice Ao24 t873.length co24)) (.slice Ao25 t876.length co25)) (fun _ hk => hk.1.1), by repeat (first | exact HB.out | apply bN | apply b1 | apply bA | refine bS ?_ GE863.out | refine bS ?_ GE864.out | refine bS ?_ GE865.out | refine bS ?_ GE870.out)⟩
 ·rw [if_neg c5] at H
  have c5b0 : (t871 == 0) = false := beq_eq_false_iff_ne.mpr c5
  have c5b1 : (t871 != 0) = true := bne_iff_ne.mpr c5
  obtain ⟨⟨t879, t880⟩, A26, H⟩ := bindA H
  by_cases c27 : t866 = true
  ·subst c27
   have H1 : ((examboardref02_Neg.f k t879 t880).bind fun bt884 => ((examboardref03_reduce.f k bt884.1 bt884.2 t867).bind fun bt888 => (some (bt888.1, bt888.2.1, bt888.2.2, true)))) = some (r1, r2, r3, r4) := by rw [if_pos rfl] at H; exact H
   clear H
   have H := H1
   clear H1
   obtain ⟨⟨t884, t885⟩, A28, H⟩ := bindA H
   obtain ⟨⟨t888, t889, t892⟩, A29, H⟩ := bindA H
   simp only [Option.some.injEq, Prod.mk.injEq] at H
   obtain ⟨rfl, rfl, rfl, rfl⟩ := H
   go_enter Try.func68, Try.ntmps68
   go_wp2_with (first | ((refine gate_dst (N := 2) rfl ?_); refine box_event rfl (N := 2) rfl (cs := #[.bool a0_0, .slice A0_1 l0_1.length c0_1]) (t := 27) (by go_simp <;> rfl) ?_; intro gb863 hg w30 hbox hb; have BK863 := mk0 (hbox); have GE863 := geB hg HB; replace HB := hbS HB hb; clear hb hbox hg) | ((refine gate_dst (N := 3) rfl ?_); refine box_event rfl (N := 3) rfl (cs := #[.bool a1_0, .slice A1_1 l1_1.length c1_1]) (t := 27) (by go_simp <;> rfl) ?_; intro gb864 hg w31 hbox hb; have BK864 := mk0 (hbox); have GE864 := geB hg HB; replace HB := hbS HB hb; have NB863_864 := nbA hg BK863; have NB864_863 := nbB hg BK863; replace BK863 := bkB BK863 hb; clear hb hbox hg) | ((refine gate_dst (N := 4) rfl ?_); refine box_event rfl (N := 4) rfl (cs := #[.bool false, .slice none 0 0, .slice none 0 0]) (t := 29) (by go_simp <;> rfl) ?_; intro gb865 hg w32 hbox hb; have BK865 := mk0 (hbox); have GE865 := geB hg HB; replace HB := hbS HB hb; have NB863_865 := nbA hg BK863; have NB865_863 := nbB hg BK863; replace BK863 := bkB BK863 hb; have NB864_865 := nbA hg BK864; have NB865_864 := nbB hg BK864; replace BK864 := bkB BK864 hb; clear hb hbox hg; have hnb33 := NB864_863.out; have hnc33 := NB863_864.out; have hnb34 := NB864_865.out; have hnc34 := NB865_864.out; obtain ⟨hcz35_0, hcz35_1, hfz35_0, hfz35_1⟩ := cz2 BK864) | ((refine gate_callee (f := 84) rfl ?_); refine goA 9 Try.func84 #[.agg #[.bool a1_0, .slice A1_1 l1_1.length c1_1]] ?_; (with_reducible refine (examboardref02_Norm.calls k a1_0 _ _ l1_1 true t867 _ (by exact Cb HR1_1.out HB.out) HC1_1.out A3.out).mono ?_); rintro e w36 ⟨v868, rfl, ho0, hb⟩; refine ⟨_, rfl, ?_⟩; have HO869 := mk0 (Rl ho0 (bZ HB.out)); replace BK863 := bkB BK863 hb; replace BK864 := bkB BK864 hb; replace BK865 := bkB BK865 hb; replace HB := hbS HB hb) | ((refine gate_dst (N := 6) rfl ?_); refine box_event rfl (N := 6) rfl (cs := #[.bool false, .slice none 0 0]) (t := 27) (by go_simp <;> rfl) ?_; intro gb870 hg w37 hbox hb; replace HO869 := rB HO869 hb; have BK870 := mk0 (hbox); have GE870 := geB hg HB; replace HB := hbS HB hb; have NB863_870 := nbA hg BK863; have NB870_863 := nbB hg BK863; replace BK863 := bkB BK863 hb; have NB864_870 := nbA hg BK864; have NB870_864 := nbB hg BK864; replace BK864 := bkB BK864 hb; have NB865_870 := nbA hg BK865; have NB870_865 := nbB hg BK865; replace BK865 := bkB BK865 hb; clear hb hbox hg; have hnb38 := NB870_863.out; have hnc38 := NB863_870.out; have hnb39 := NB870_864.out; have hnc39 := NB864_870.out; have hnb40 := NB870_865.out; have hnc40 := NB865_870.out; obtain ⟨hcz41_0, hcz41_1, hfz41_0, hfz41_1⟩ := cz2 BK870; obtain ⟨Ao42, co42, eo42⟩ := Kd.R_slice HO869.out; subst eo42) | ((refine gate_callee (f := 85) rfl ?_); refine goA 12 Try.func85 #[.slice Ao42 t867.length co42] ?_; (with_reducible refine (examboardref01_Bits.calls k _ _ t867 t871 _ (by refine (Kd.R_reads' (e := 87) (base := w.heap.size) (ok := fun k_ => True) (n := t867.length) (c := co42) ?_).2.2; exact ((Rm (Rg 1 (Rg 0 (Rd HO869.out BK870) (.bool true)) (.slice Ao42 t867.length co42)) (fun _ h_ => h_.1)))) (by exact (Kd.R_reads' HO869.out).2.1) A4.out).mono ?_); rintro e w43 ⟨rfl, hb⟩; refine ⟨_, rfl, ?_⟩; replace HO869 := mk0 (Rb ((Rm (Rg 1 (Rg 0 (Rd HO869.out BK870) (.bool true)) (.slice Ao42 t867.length co42)) (fun _ h_ => h_.1))) hb); replace BK863 := mk0 (blk_below (o := .cells #[.bool a0_0, .slice A0_1 l0_1.length c0_1] 27 (0, 0)) (by refine blk_far ?_ NB863_870.out _; refine blk_far ?_ NB863_870.out _; exact BK863.out) hb); replace BK864 := mk0 (blk_below (o := .cells #[.bool a1_0, .slice A1_1 l1_1.length c1_1] 27 (0, 0)) (by refine blk_far ?_ NB864_870.out _; refine blk_far ?_ NB864_870.out _; exact BK864.out) hb); replace BK865 := mk0 (blk_below (o := .cells #[.bool false, .slice none 0 0, .slice none 0 0] 29 (0, 0)) (by refine blk_far ?_ NB865_870.out _; refine blk_far ?_ NB865_870.out _; exact BK865.out) hb); replace BK870 := mk0 (blk_below (o := .cells #[.bool true, .slice Ao42 t867.length co42] 27 (0, 0)) (by refine blk_put (cs := #[.bool true, .slice none 0 0]) ?_ 1 _ rfl; refine blk_put (cs := #[.bool false, .slice none 0 0]) ?_ 0 _ rfl; exact BK870.out) hb); replace HB := mk0 (below_step (by repeat (first | exact HB.out | refine bS ?_ GE865.out | refine bS ?_ GE870.out)) hb); have hnb44 := NB863_865.out; have hnc44 := NB865_863.out; obtain ⟨hcz45_0, hcz45_1, hfz45_0, hfz45_1⟩ := cz2 BK863) | ((refine gate_callee (f := 84) rfl ?_); refine goA 16 Try.func84 #[.agg #[.bool a0_0, .slice A0_1 l0_1.length c0_1]] ?_; (with_reducible refine (examboardref02_Norm.calls k a0_0 _ _ l0_1 t879 t880 _ (by exact Cb HR0_1.out HB.out) HC0_1.out A26.out).mono ?_); rintro e w46 ⟨v881, rfl, ho0, hb⟩; refine ⟨_, rfl, ?_⟩; have HO882 := mk0 (Rl (Rn ho0 (Rq HO869.out)) (bZ HB.out)); replace HO869 := mk0 (Re HO869.out (Rs ho0) hb); replace BK863 := bkB BK863 hb; replace BK864 := bkB BK864 hb; replace BK865 := bkB BK865 hb; replace BK870 := bkB BK870 hb; replace HB := hbS HB hb) | ((refine gate_dst (N := 7) rfl ?_); refine box_event rfl (N := 7) rfl (cs := #[.bool false, .slice none 0 0]) (t := 27) (by go_simp <;> rfl) ?_; intro gb883 hg w47 hbox hb; replace HO869 := rB HO869 hb; replace HO882 := rB HO882 hb; have BK883 := mk0 (hbox); have GE883 := geB hg HB; replace HB := hbS HB hb; have NB863_883 := nbA hg BK863; have NB883_863 := nbB hg BK863; replace BK863 := bkB BK863 hb; have NB864_883 := nbA hg BK864; have NB883_864 := nbB hg BK864; replace BK864 := bkB BK864 hb; have NB865_883 := nbA hg BK865; have NB883_865 := nbB hg BK865; replace BK865 := bkB BK865 hb; have NB870_883 := nbA hg BK870; have NB883_870 := nbB hg BK870; replace BK870 := bkB BK870 hb; clear hb hbox hg; have hnb48 := NB883_863.out; have hnc48 := NB863_883.out; have hnb49 := NB883_864.out; have hnc49 := NB864_883.out; have hnb50 := NB883_865.out; have hnc50 := NB865_883.out; have hnb51 := NB883_870.out; have hnc51 := NB870_883.out; obtain ⟨hcz52_0, hcz52_1, hfz52_0, hfz52_1⟩ := cz2 BK883; obtain ⟨Ao53, co53, eo53⟩ := Kd.R_slice HO882.out; subst eo53; obtain ⟨hcz54_0, hcz54_1, hfz54_0, hfz54_1⟩ := cz2 BK870) | ((refine gate_callee (f := 94) rfl ?_); refine goA 20 Try.func94 #[.agg #[.bool t879, .slice Ao53 t880.length co53]] ?_; (with_reducible refine (examboardref02_Neg.calls k t879 _ _ t880 t884 t885 _ (by refine (Kd.R_reads' (e := 87) (base := w.heap.size) (ok := fun k_ => (True ∧ some k_ ≠ (.slice Ao42 t867.length co42 : Value).ownBlock)) (n := t880.length) (c := co53) ?_).2.2; exact ((Rm (Rg 1 (Rg 0 (Rd HO882.out BK883) (.bool t879)) (.slice Ao53 t880.length co53)) (fun _ h_ => h_.1)))) (by exact (Kd.R_reads' HO882.out).2.1) A28.out).mono ?_); rintro e w55 ⟨v886, rfl, ho0, hb⟩; refine ⟨_, rfl, ?_⟩; have HO887 := mk0 (Rl (Rn (Rn ho0 (Rq ((Rm (Rg 1 (Rg 0 (Rd HO869.out BK883) (.bool t879)) (.slice Ao53 t880.length co53)) (fun _ h_ => h_.1))))) (Rq ((Rm (Rg 1 (Rg 0 (Rd HO882.out BK883) (.bool t879)) (.slice Ao53 t880.length co53)) (fun _ h_ => h_.1))))) (bZ (by repeat (first | exact HB.out | refine bS ?_ GE865.out | refine bS ?_ GE870.out | refine bS ?_ GE883.out)))); replace HO869 := mk0 (Re ((Rm (Rg 1 (Rg 0 (Rd HO869.out BK883) (.bool t879)) (.slice Ao53 t880.length co53)) (fun _ h_ => h_.1))) (Rs ho0) hb); replace HO882 := mk0 (Re ((Rm (Rg 1 (Rg 0 (Rd HO882.out BK883) (.bool t879)) (.slice Ao53 t880.length co53)) (fun _ h_ => h_.1))) (Rs ho0) hb); replace BK863 := mk0 (blk_below (o := .cells #[.bool a0_0, .slice A0_1 l0_1.length c0_1] 27 (0, 0)) (by refine blk_far ?_ NB863_883.out _; refine blk_far ?_ NB863_883.out _; exact BK863.out) hb); replace BK864 := mk0 (blk_below (o := .cells #[.bool a1_0, .slice A1_1 l1_1.length c1_1] 27 (0, 0)) (by refine blk_far ?_ NB864_883.out _; refine blk_far ?_ NB864_883.out _; exact BK864.out) hb); replace BK865 := mk0 (blk_below (o := .cells #[.bool false, .slice none 0 0, .slice none 0 0] 29 (0, 0)) (by refine blk_far ?_ NB865_883.out _; refine blk_far ?_ NB865_883.out _; exact BK865.out) hb); replace BK870 := mk0 (blk_below (o := .cells #[.bool true, .slice Ao42 t867.length co42] 27 (0, 0)) (by refine blk_far ?_ NB870_883.out _; refine blk_far ?_ NB870_883.out _; exact BK870.out) hb); replace BK883 := mk0 (blk_below (o := .cells #[.bool t879, .slice Ao53 t880.length co53] 27 (0, 0)) (by refine blk_put (cs := #[.bool t879, .slice none 0 0]) ?_ 1 _ rfl; refine blk_put (cs := #[.bool false, .slice none 0 0]) ?_ 0 _ rfl; exact BK883.out) hb); replace HB := mk0 (below_step (by repeat (first | exact HB.out | refine bS ?_ GE865.out | refine bS ?_ GE870.out | refine bS ?_ GE883.out)) hb); obtain ⟨hcz56_0, hcz56_1, hfz56_0, hfz56_1⟩ := cz2 BK883; obtain ⟨Ao57, co57, eo57⟩ := Kd.R_slice HO887.out; subst eo57; obtain ⟨hcz58_0, hcz58_1, hfz58_0, hfz58_1⟩ := cz2 BK870) | ((refine gate_callee (f := 57) rfl ?_); refine goA 24 Try.func57 #[.agg #[.bool t884, .slice Ao57 t885.length co57], .slice Ao42 t867.length co42] ?_; (with_reducible refine (examboardref03_reduce.calls k t884 _ _ t885 _ _ t867 t888 t889 t892 _ (by refine (Kd.R_reads' (e := 87) (base := w.heap.size) (ok := fun k_ => ((True ∧ some k_ ≠ (.slice Ao42 t867.length co42 : Value).ownBlock) ∧ some k_ ≠ (.slice Ao53 t880.length co53 : Value).ownBlock)) (n := t885.length) (c := co57) ?_).2.2; exact ((Rm (Rg 1 (Rg 0 (Rd HO887.out BK883) (.bool t884)) (.slice Ao57 t885.length co57)) (fun _ h_ => h_.1)))) (by exact (Kd.R_reads' HO887.out).2.1) (by refine (Kd.R_reads' (e := 87) (base := w.heap.size) (ok := fun k_ => ((True ∧ some k_ ≠ (.slice Ao53 t880.length co53 : Value).ownBlock) ∧ some k_ ≠ (.slice Ao57 t885.length co57 : Value).ownBlock)) (n := t867.length) (c := co42) ?_).2.2; exact ((Rm (Rg 1 (Rg 0 (Rd HO869.out BK883) (.bool t884)) (.slice Ao57 t885.length co57)) (fun _ h_ => h_.1)))) (by exact (Kd.R_reads' HO869.out).2.1) A29.out).mono ?_); rintro e w59 ⟨v890, v893, rfl, ho0, ho1, hb⟩; refine ⟨_, rfl, ?_⟩; have HO891 := mk0 (Rl (Rn (Rn (Rn ho0 (Rq ((Rm (Rg 1 (Rg 0 (Rd HO869.out BK883) (.bool t884)) (.slice Ao57 t885.length co57)) (fun _ h_ => h_.1))))) (Rq ((Rm (Rg 1 (Rg 0 (Rd HO882.out BK883) (.bool t884)) (.slice Ao57 t885.length co57)) (fun _ h_ => h_.1))))) (Rq ((Rm (Rg 1 (Rg 0 (Rd HO887.out BK883) (.bool t884)) (.slice Ao57 t885.length co57)) (fun _ h_ => h_.1))))) (bZ (by repeat (first | exact HB.out | refine bS ?_ GE865.out | refine bS ?_ GE870.out | refine bS ?_ GE883.out)))); have HO894 := mk0 (Rl (Rn (Rn (Rn ho1 (Rq ((Rm (Rg 1 (Rg 0 (Rd HO869.out BK883) (.bool t884)) (.slice Ao57 t885.length co57)) (fun _ h_ => h_.1))))) (Rq ((Rm (Rg 1 (Rg 0 (Rd HO882.out BK883) (.bool t884)) (.slice Ao57 t885.length co57)) (fun _ h_ => h_.1))))) (Rq ((Rm (Rg 1 (Rg 0 (Rd HO887.out BK883) (.bool t884)) (.slice Ao57 t885.length co57)) (fun _ h_ => h_.1))))) (bZ (by repeat (first | exact HB.out | refine bS ?_ GE865.out | refine bS ?_ GE870.out | refine bS ?_ GE883.out)))); replace HO869 := mk0 (Rm (Kd.R_told (Kd.R_told (Kd.R_old ((Rm (Rg 1 (Rg 0 (Rd HO869.out BK883) (.bool t884)) (.slice Ao57 t885.length co57)) (fun _ h_ => h_.1))) hb) (Rs ho0)) (Rs ho1)) (fun _ h_ => h_.1)); replace HO882 := mk0 (Rm (Kd.R_told (Kd.R_told (Kd.R_old ((Rm (Rg 1 (Rg 0 (Rd HO882.out BK883) (.bool t884)) (.slice Ao57 t885.length co57)) (fun _ h_ => h_.1))) hb) (Rs ho0)) (Rs ho1)) (fun _ h_ => h_.1)); replace HO887 := mk0 (Rm (Kd.R_told (Kd.R_told (Kd.R_old ((Rm (Rg 1 (Rg 0 (Rd HO887.out BK883) (.bool t884)) (.slice Ao57 t885.length co57)) (fun _ h_ => h_.1))) hb) (Rs ho0)) (Rs ho1)) (fun _ h_ => h_.1)); replace BK863 := mk0 (blk_below (o := .cells #[.bool a0_0, .slice A0_1 l0_1.length c0_1] 27 (0, 0)) (by refine blk_far ?_ NB863_883.out _; refine blk_far ?_ NB863_883.out _; exact BK863.out) hb); replace BK864 := mk0 (blk_below (o := .cells #[.bool a1_0, .slice A1_1 l1_1.length c1_1] 27 (0, 0)) (by refine blk_far ?_ NB864_883.out _; refine blk_far ?_ NB864_883.out _; exact BK864.out) hb); replace BK865 := mk0 (blk_below (o := .cells #[.bool false, .slice none 0 0, .slice none 0 0] 29 (0, 0)) (by refine blk_far ?_ NB865_883.out _; refine blk_far ?_ NB865_883.out _; exact BK865.out) hb); replace BK870 := mk0 (blk_below (o := .cells #[.bool true, .slice Ao42 t867.length co42] 27 (0, 0)) (by refine blk_far ?_ NB870_883.out _; refine blk_far ?_ NB870_883.out _; exact BK870.out) hb); replace BK883 := mk0 (blk_below (o := .cells #[.bool t884, .slice Ao57 t885.length co57] 27 (0, 0)) (by refine blk_put (cs := #[.bool t884, .slice Ao53 t880.length co53]) ?_ 1 _ rfl; refine blk_put (cs := #[.bool t879, .slice Ao53 t880.length co53]) ?_ 0 _ rfl; exact BK883.out) hb); replace HB := mk0 (below_step (by repeat (first | exact HB.out | refine bS ?_ GE865.out | refine bS ?_ GE870.out | refine bS ?_ GE883.out)) hb); obtain ⟨hcz60_0, hcz60_1, hcz60_2, hfz60_0, hfz60_1, hfz60_2⟩ := cz3 BK865; obtain ⟨Ao61, co61, eo61⟩ := Kd.R_slice HO891.out; subst eo61; obtain ⟨Ao62, co62, eo62⟩ := Kd.R_slice HO894.out; subst eo62))
   refine bodyPost_ret (results_ct rfl _ _ gb865 29 #[.bool t888, .slice Ao61 t889.length co61, .slice Ao62 t892.length co62] (0, 0) _ rfl (by refine blk_put (cs := #[.bool t888, .slice Ao61 t889.length co61, .slice none 0 0]) ?_ 2 _ rfl; refine blk_put (cs := #[.bool t888, .slice none 0 0, .slice none 0 0]) ?_ 1 _ rfl; refine blk_put (cs := #[.bool false, .slice none 0 0, .slice none 0 0]) ?_ 0 _ rfl; exact BK865.out) Try.underlying29 rfl (by kernel_rfl)) rfl ?_
   exact ⟨_, _, rfl, Rm (Rg 2 (Rg 1 (Rg 0 (Rd HO891.out BK865) (.bool t888)) (.slice Ao61 t889.length co61)) (.slice Ao62 t892.length co62)) (fun _ hk => hk.1.1.1.1), Rm (Rg 2 (Rg 1 (Rg 0 (Rd HO894.out BK865) (.bool t888)) (.slice Ao61 t889.length co61)) (.slice Ao62 t892.length co62)) (fun _ hk => hk.1.1.1.1), by repeat (first | exact HB.out | apply bN | apply b1 | apply bA | refine bS ?_ GE863.out | refine bS ?_ GE864.out | refine bS ?_ GE865.out | refine bS ?_ GE870.out | refine bS ?_ GE883.out)⟩
  ·replace c27 := Bool.eq_false_iff.mpr c27
   subst c27
   have H1 : ((examboardref03_reduce.f k t879 t880 t867).bind fun bt895 => (some (bt895.1, bt895.2.1, bt895.2.2, true))) = some (r1, r2, r3, r4) := by rw [if_neg (show ¬ (false = true) by decide)] at H; exact H
   clear H
   have H := H1
   clear H1
   obtain ⟨⟨t895, t896, t899⟩, A63, H⟩ := bindA H
   simp only [Option.some.injEq, Prod.mk.injEq] at H
   obtain ⟨rfl, rfl, rfl, rfl⟩ := H
   go_enter Try.func68, Try.ntmps68
   go_wp2_with (first | ((refine gate_dst (N := 2) rfl ?_); refine box_event rfl (N := 2) rfl (cs := #[.bool a0_0, .slice A0_1 l0_1.length c0_1]) (t := 27) (by go_simp <;> rfl) ?_; intro gb863 hg w64 hbox hb; have BK863 := mk0 (hbox); have GE863 := geB hg HB; replace HB := hbS HB hb; clear hb hbox hg) | ((refine gate_dst (N := 3) rfl ?_); refine box_event rfl (N := 3) rfl (cs := #[.bool a1_0, .slice A1_1 l1_1.length c1_1]) (t := 27) (by go_simp <;> rfl) ?_; intro gb864 hg w65 hbox hb; have BK864 := mk0 (hbox); have GE864 := geB hg HB; replace HB := hbS HB hb; have NB863_864 := nbA hg BK863; have NB864_863 := nbB hg BK863; replace BK863 := bkB BK863 hb; clear hb hbox hg) | ((refine gate_dst (N := 4) rfl ?_); refine box_event rfl (N := 4) rfl (cs := #[.bool false, .slice none 0 0, .slice none 0 0]) (t := 29) (by go_simp <;> rfl) ?_; intro gb865 hg w66 hbox hb; have BK865 := mk0 (hbox); have GE865 := geB hg HB; replace HB := hbS HB hb; have NB863_865 := nbA hg BK863; have NB865_863 := nbB hg BK863; replace BK863 := bkB BK863 hb; have NB864_865 := nbA hg BK864; have NB865_864 := nbB hg BK864; replace BK864 := bkB BK864 hb; clear hb hbox hg; have hnb67 := NB864_863.out; have hnc67 := NB863_864.out; have hnb68 := NB864_865.out; have hnc68 := NB865_864.out; obtain ⟨hcz69_0, hcz69_1, hfz69_0, hfz69_1⟩ := cz2 BK864) | ((refine gate_callee (f := 84) rfl ?_); refine goA 9 Try.func84 #[.agg #[.bool a1_0, .slice A1_1 l1_1.length c1_1]] ?_; (with_reducible refine (examboardref02_Norm.calls k a1_0 _ _ l1_1 false t867 _ (by exact Cb HR1_1.out HB.out) HC1_1.out A3.out).mono ?_); rintro e w70 ⟨v868, rfl, ho0, hb⟩; refine ⟨_, rfl, ?_⟩; have HO869 := mk0 (Rl ho0 (bZ HB.out)); replace BK863 := bkB BK863 hb; replace BK864 := bkB BK864 hb; replace BK865 := bkB BK865 hb; replace HB := hbS HB hb) | ((refine gate_dst (N := 6) rfl ?_); refine box_event rfl (N := 6) rfl (cs := #[.bool false, .slice none 0 0]) (t := 27) (by go_simp <;> rfl) ?_; intro gb870 hg w71 hbox hb; replace HO869 := rB HO869 hb; have BK870 := mk0 (hbox); have GE870 := geB hg HB; replace HB := hbS HB hb; have NB863_870 := nbA hg BK863; have NB870_863 := nbB hg BK863; replace BK863 := bkB BK863 hb; have NB864_870 := nbA hg BK864; have NB870_864 := nbB hg BK864; replace BK864 := bkB BK864 hb; have NB865_870 := nbA hg BK865; have NB870_865 := nbB hg BK865; replace BK865 := bkB BK865 hb; clear hb hbox hg; have hnb72 := NB870_863.out; have hnc72 := NB863_870.out; have hnb73 := NB870_864.out; have hnc73 := NB864_870.out; have hnb74 := NB870_865.out; have hnc74 := NB865_870.out; obtain ⟨hcz75_0, hcz75_1, hfz75_0, hfz75_1⟩ := cz2 BK870; obtain ⟨Ao76, co76, eo76⟩ := Kd.R_slice HO869.out; subst eo76) | ((refine gate_callee (f := 85) rfl ?_); refine goA 12 Try.func85 #[.slice Ao76 t867.length co76] ?_; (with_reducible refine (examboardref01_Bits.calls k _ _ t867 t871 _ (by refine (Kd.R_reads' (e := 87) (base := w.heap.size) (ok := fun k_ => True) (n := t867.length) (c := co76) ?_).2.2; exact ((Rm (Rg 1 (Rg 0 (Rd HO869.out BK870) (.bool false)) (.slice Ao76 t867.length co76)) (fun _ h_ => h_.1)))) (by exact (Kd.R_reads' HO869.out).2.1) A4.out).mono ?_); rintro e w77 ⟨rfl, hb⟩; refine ⟨_, rfl, ?_⟩; replace HO869 := mk0 (Rb ((Rm (Rg 1 (Rg 0 (Rd HO869.out BK870) (.bool false)) (.slice Ao76 t867.length co76)) (fun _ h_ => h_.1))) hb); replace BK863 := mk0 (blk_below (o := .cells #[.bool a0_0, .slice A0_1 l0_1.length c0_1] 27 (0, 0)) (by refine blk_far ?_ NB863_870.out _; refine blk_far ?_ NB863_870.out _; exact BK863.out) hb); replace BK864 := mk0 (blk_below (o := .cells #[.bool a1_0, .slice A1_1 l1_1.length c1_1] 27 (0, 0)) (by refine blk_far ?_ NB864_870.out _; refine blk_far ?_ NB864_870.out _; exact BK864.out) hb); replace BK865 := mk0 (blk_below (o := .cells #[.bool false, .slice none 0 0, .slice none 0 0] 29 (0, 0)) (by refine blk_far ?_ NB865_870.out _; refine blk_far ?_ NB865_870.out _; exact BK865.out) hb); replace BK870 := mk0 (blk_below (o := .cells #[.bool false, .slice Ao76 t867.length co76] 27 (0, 0)) (by refine blk_put (cs := #[.bool false, .slice none 0 0]) ?_ 1 _ rfl; refine blk_put (cs := #[.bool false, .slice none 0 0]) ?_ 0 _ rfl; exact BK870.out) hb); replace HB := mk0 (below_step (by repeat (first | exact HB.out | refine bS ?_ GE865.out | refine bS ?_ GE870.out)) hb); have hnb78 := NB863_865.out; have hnc78 := NB865_863.out; obtain ⟨hcz79_0, hcz79_1, hfz79_0, hfz79_1⟩ := cz2 BK863) | ((refine gate_callee (f := 84) rfl ?_); refine goA 16 Try.func84 #[.agg #[.bool a0_0, .slice A0_1 l0_1.length c0_1]] ?_; (with_reducible refine (examboardref02_Norm.calls k a0_0 _ _ l0_1 t879 t880 _ (by exact Cb HR0_1.out HB.out) HC0_1.out A26.out).mono ?_); rintro e w80 ⟨v881, rfl, ho0, hb⟩; refine ⟨_, rfl, ?_⟩; have HO882 := mk0 (Rl (Rn ho0 (Rq HO869.out)) (bZ HB.out)); replace HO869 := mk0 (Re HO869.out (Rs ho0) hb); replace BK863 := bkB BK863 hb; replace BK864 := bkB BK864 hb; replace BK865 := bkB BK865 hb; replace BK870 := bkB BK870 hb; replace HB := hbS HB hb) | ((refine gate_dst (N := 7) rfl ?_); refine box_event rfl (N := 7) rfl (cs := #[.bool false, .slice none 0 0]) (t := 27) (by go_simp <;> rfl) ?_; intro gb883 hg w81 hbox hb; replace HO869 := rB HO869 hb; replace HO882 := rB HO882 hb; have BK883 := mk0 (hbox); have GE883 := geB hg HB; replace HB := hbS HB hb; have NB863_883 := nbA hg BK863; have NB883_863 := nbB hg BK863; replace BK863 := bkB BK863 hb; have NB864_883 := nbA hg BK864; have NB883_864 := nbB hg BK864; replace BK864 := bkB BK864 hb; have NB865_883 := nbA hg BK865; have NB883_865 := nbB hg BK865; replace BK865 := bkB BK865 hb; have NB870_883 := nbA hg BK870; have NB883_870 := nbB hg BK870; replace BK870 := bkB BK870 hb; clear hb hbox hg; have hnb82 := NB883_863.out; have hnc82 := NB863_883.out; have hnb83 := NB883_864.out; have hnc83 := NB864_883.out; have hnb84 := NB883_865.out; have hnc84 := NB865_883.out; have hnb85 := NB883_870.out; have hnc85 := NB870_883.out; obtain ⟨hcz86_0, hcz86_1, hfz86_0, hfz86_1⟩ := cz2 BK883; obtain ⟨Ao87, co87, eo87⟩ := Kd.R_slice HO882.out; subst eo87; obtain ⟨hcz88_0, hcz88_1, hfz88_0, hfz88_1⟩ := cz2 BK870) | ((refine gate_callee (f := 57) rfl ?_); refine goA 24 Try.func57 #[.agg #[.bool t879, .slice Ao87 t880.length co87], .slice Ao76 t867.length co76] ?_; (with_reducible refine (examboardref03_reduce.calls k t879 _ _ t880 _ _ t867 t895 t896 t899 _ (by refine (Kd.R_reads' (e := 87) (base := w.heap.size) (ok := fun k_ => (True ∧ some k_ ≠ (.slice Ao76 t867.length co76 : Value).ownBlock)) (n := t880.length) (c := co87) ?_).2.2; exact ((Rm (Rg 1 (Rg 0 (Rd HO882.out BK883) (.bool t879)) (.slice Ao87 t880.length co87)) (fun _ h_ => h_.1)))) (by exact (Kd.R_reads' HO882.out).2.1) (by refine (Kd.R_reads' (e := 87) (base := w.heap.size) (ok := fun k_ => (True ∧ some k_ ≠ (.slice Ao87 t880.length co87 : Value).ownBlock)) (n := t867.length) (c := co76) ?_).2.2; exact ((Rm (Rg 1 (Rg 0 (Rd HO869.out BK883) (.bool t879)) (.slice Ao87 t880.length co87)) (fun _ h_ => h_.1)))) (by exact (Kd.R_reads' HO869.out).2.1) A63.out).mono ?_); rintro e w89 ⟨v897, v900, rfl, ho0, ho1, hb⟩; refine ⟨_, rfl, ?_⟩; have HO898 := mk0 (Rl (Rn (Rn ho0 (Rq ((Rm (Rg 1 (Rg 0 (Rd HO869.out BK883) (.bool t879)) (.slice Ao87 t880.length co87)) (fun _ h_ => h_.1))))) (Rq ((Rm (Rg 1 (Rg 0 (Rd HO882.out BK883) (.bool t879)) (.slice Ao87 t880.length co87)) (fun _ h_ => h_.1))))) (bZ (by repeat (first | exact HB.out | refine bS ?_ GE865.out | refine bS ?_ GE870.out | refine bS ?_ GE883.out)))); have HO901 := mk0 (Rl (Rn (Rn ho1 (Rq ((Rm (Rg 1 (Rg 0 (Rd HO869.out BK883) (.bool t879)) (.slice Ao87 t880.length co87)) (fun _ h_ => h_.1))))) (Rq ((Rm (Rg 1 (Rg 0 (Rd HO882.out BK883) (.bool t879)) (.slice Ao87 t880.length co87)) (fun _ h_ => h_.1))))) (bZ (by repeat (first | exact HB.out | refine bS ?_ GE865.out | refine bS ?_ GE870.out | refine bS ?_ GE883.out)))); replace HO869 := mk0 (Rm (Kd.R_told (Kd.R_told (Kd.R_old ((Rm (Rg 1 (Rg 0 (Rd HO869.out BK883) (.bool t879)) (.slice Ao87 t880.length co87)) (fun _ h_ => h_.1))) hb) (Rs ho0)) (Rs ho1)) (fun _ h_ => h_.1)); replace HO882 := mk0 (Rm (Kd.R_told (Kd.R_told (Kd.R_old ((Rm (Rg 1 (Rg 0 (Rd HO882.out BK883) (.bool t879)) (.slice Ao87 t880.length co87)) (fun _ h_ => h_.1))) hb) (Rs ho0)) (Rs ho1)) (fun _ h_ => h_.1)); replace BK863 := mk0 (blk_below (o := .cells #[.bool a0_0, .slice A0_1 l0_1.length c0_1] 27 (0, 0)) (by refine blk_far ?_ NB863_883.out _; refine blk_far ?_ NB863_883.out _; exact BK863.out) hb); replace BK864 := mk0 (blk_below (o := .cells #[.bool a1_0, .slice A1_1 l1_1.length c1_1] 27 (0, 0)) (by refine blk_far ?_ NB864_883.out _; refine blk_far ?_ NB864_883.out _; exact BK864.out) hb); replace BK865 := mk0 (blk_below (o := .cells #[.bool false, .slice none 0 0, .slice none 0 0] 29 (0, 0)) (by refine blk_far ?_ NB865_883.out _; refine blk_far ?_ NB865_883.out _; exact BK865.out) hb); replace BK870 := mk0 (blk_below (o := .cells #[.bool false, .slice Ao76 t867.length co76] 27 (0, 0)) (by refine blk_far ?_ NB870_883.out _; refine blk_far ?_ NB870_883.out _; exact BK870.out) hb); replace BK883 := mk0 (blk_below (o := .cells #[.bool t879, .slice Ao87 t880.length co87] 27 (0, 0)) (by refine blk_put (cs := #[.bool t879, .slice none 0 0]) ?_ 1 _ rfl; refine blk_put (cs := #[.bool false, .slice none 0 0]) ?_ 0 _ rfl; exact BK883.out) hb); replace HB := mk0 (below_step (by repeat (first | exact HB.out | refine bS ?_ GE865.out | refine bS ?_ GE870.out | refine bS ?_ GE883.out)) hb); obtain ⟨hcz90_0, hcz90_1, hcz90_2, hfz90_0, hfz90_1, hfz90_2⟩ := cz3 BK865; obtain ⟨Ao91, co91, eo91⟩ := Kd.R_slice HO898.out; subst eo91; obtain ⟨Ao92, co92, eo92⟩ := Kd.R_slice HO901.out; subst eo92))
   refine bodyPost_ret (results_ct rfl _ _ gb865 29 #[.bool t895, .slice Ao91 t896.length co91, .slice Ao92 t899.length co92] (0, 0) _ rfl (by refine blk_put (cs := #[.bool t895, .slice Ao91 t896.length co91, .slice none 0 0]) ?_ 2 _ rfl; refine blk_put (cs := #[.bool t895, .slice none 0 0, .slice none 0 0]) ?_ 1 _ rfl; refine blk_put (cs := #[.bool false, .slice none 0 0, .slice none 0 0]) ?_ 0 _ rfl; exact BK865.out) Try.underlying29 rfl (by kernel_rfl)) rfl ?_
   exact ⟨_, _, rfl, Rm (Rg 2 (Rg 1 (Rg 0 (Rd HO898.out BK865) (.bool t895)) (.slice Ao91 t896.length co91)) (.slice Ao92 t899.length co92)) (fun _ hk => hk.1.1.1), Rm (Rg 2 (Rg 1 (Rg 0 (Rd HO901.out BK865) (.bool t895)) (.slice Ao91 t896.length co91)) (.slice Ao92 t899.length co92)) (fun _ hk => hk.1.1.1), by repeat (first | exact HB.out | apply bN | apply b1 | apply bA | refine bS ?_ GE863.out | refine bS ?_ GE864.out | refine bS ?_ GE865.out | refine bS ?_ GE870.out | refine bS ?_ GE883.out)⟩
set_option maxHeartbeats 8000000 in
set_option maxRecDepth 100000 in
theorem examboardref03_Of.calls (k : Nat) (a0 : Int) (a1 : Int) (r1 : Bool) (r2 : List Int) (r3 : List Int) (r4 : Bool) (w : World) (h : examboardref03_Of.f k a0 a1 = some (r1, r2, r3, r4)) :
  Calls Try.prog 40 #[.int .i64 a0, .int .i64 a1] w fun e w' => ∃ v1_ v2_ : Value, e = .returned (.tuple #[.agg #[.bool r1, v1_, v2_], .bool r4]) ∧ Kd.R (Kd.int .u32) 87 w' w.heap.size (fun k_ => some k_ ≠ (v2_ : Value).ownBlock) v1_ r2 ∧ Kd.R (Kd.int .u32) 87 w' w.heap.size (fun k_ => some k_ ≠ (v1_ : Value).ownBlock) v2_ r3 ∧ Below w.heap.size w w' := by
 have hu29 := Try.underlying29
 have HB := mk0 (Below.refl w.heap.size w)
 have H : ((examboardref02_Of.f k a0).bind fun bt903 => ((examboardref02_Of.f k a1).bind fun bt907 => ((examboardref03_Make.f k bt903.1 bt903.2 bt907.1 bt907.2).bind fun bt911 => (some (bt911.1, bt911.2.1, bt911.2.2.1, bt911.2.2.2))))) = some (r1, r2, r3, r4) := h
 clear h
 obtain ⟨⟨t903, t904⟩, A3, H⟩ := bindA H
 obtain ⟨⟨t907, t908⟩, A4, H⟩ := bindA H
 obtain ⟨⟨t911, t912, t915, t918⟩, A5, H⟩ := bindA H
 simp only [Option.some.injEq, Prod.mk.injEq] at H
 obtain ⟨rfl, rfl, rfl, rfl⟩ := H
 go_enter Try.func40, Try.ntmps40
 go_wp2_with (first | ((with_reducible refine gate_dst (N := 4) rfl ?_); refine box_event rfl (N := 4) rfl (cs := #[.bool false, .slice none 0 0, .slice none 0 0]) (t := 29) (by go_simp <;> rfl) ?_; intro gb902 hg w6 hbox hb; have BK902 := mk0 (hbox); have GE902 := geB hg HB; replace HB := hbS HB hb; clear hb hbox hg) | ((with_reducible refine gate_callee (f := 69) rfl ?_); refine goA 7 Try.func69 #[.int .i64 a0] ?_; (with_reducible refine (examboardref02_Of.calls k a0 t903 t904 _ A3.out).mono ?_); rintro e w7 ⟨v905, rfl, ho0, hb⟩; refine ⟨_, rfl, ?_⟩; have HO906 := mk0 (Rl ho0 (bZ HB.out)); replace BK902 := bkB BK902 hb; replace HB := hbS HB hb) | ((with_reducible refine gate_callee (f := 69) rfl ?_); refine goA 9 Try.func69 #[.int .i64 a1] ?_; (with_reducible refine (examboardref02_Of.calls k a1 t907 t908 _ A4.out).mono ?_); rintro e w8 ⟨v909, rfl, ho0, hb⟩; refine ⟨_, rfl, ?_⟩; have HO910 := mk0 (Rl (Rn ho0 (Rq HO906.out)) (bZ HB.out)); replace HO906 := mk0 (Re HO906.out (Rs ho0) hb); replace BK902 := bkB BK902 hb; replace HB := hbS HB hb; obtain ⟨Ao9, co9, eo9⟩ := Kd.R_slice HO906.out; subst eo9; obtain ⟨Ao10, co10, eo10⟩ := Kd.R_slice HO910.out; subst eo10) | ((with_reducible refine gate_callee (f := 68) rfl ?_); refine goA 10 Try.func68 #[.agg #[.bool t903, .slice Ao9 t904.length co9], .agg #[.bool t907, .slice Ao10 t908.length co10]] ?_; (with_reducible refine (examboardref03_Make.calls k t903 _ _ t904 t907 _ _ t908 t911 t912 t915 t918 _ (by exact (Kd.R_reads' HO906.out).2.2) (by exact (Kd.R_reads' HO906.out).2.1) (by exact (Kd.R_reads' HO910.out).2.2) (by exact (Kd.R_reads' HO910.out).2.1) A5.out).mono ?_); rintro e w11 ⟨v913, v916, rfl, ho0, ho1, hb⟩; refine ⟨_, rfl, ?_⟩; have HO914 := mk0 (Rl (Rn (Rn ho0 (Rq HO906.out)) (Rq HO910.out)) (bZ HB.out)); have HO917 := mk0 (Rl (Rn (Rn ho1 (Rq HO906.out)) (Rq HO910.out)) (bZ HB.out)); replace HO906 := mk0 (Rm (Kd.R_told (Kd.R_told (Kd.R_old HO906.out hb) (Rs ho0)) (Rs ho1)) (fun _ h_ => h_.1)); replace HO910 := mk0 (Rm (Kd.R_told (Kd.R_told (Kd.R_old HO910.out hb) (Rs ho0)) (Rs ho1)) (fun _ h_ => h_.1)); replace BK902 := bkB BK902 hb; replace HB := hbS HB hb; obtain ⟨hcz12_0, hcz12_1, hcz12_2, hfz12_0, hfz12_1, hfz12_2⟩ := cz3 BK902; obtain ⟨Ao13, co13, eo13⟩ := Kd.R_slice HO914.out; subst eo13; obtain ⟨Ao14, co14, eo14⟩ := Kd.R_slice HO917.out; subst eo14))
 refine bodyPost_ret (results_ct rfl _ _ gb902 29 #[.bool t911, .slice Ao13 t912.length co13, .slice Ao14 t915.length co14] (0, 0) _ rfl (by refine blk_put (cs := #[.bool t911, .slice Ao13 t912.length co13, .slice none 0 0]) ?_ 2 _ rfl; refine blk_put (cs := #[.bool t911, .slice none 0 0, .slice none 0 0]) ?_ 1 _ rfl; refine blk_put (cs := #[.bool false, .slice none 0 0, .slice none 0 0]) ?_ 0 _ rfl; exact BK902.out) Try.underlying29 rfl (by kernel_rfl)) rfl ?_
 exact ⟨_, _, by first | rfl | (simp [errW_none, errW_some] <;> rfl) | (simp [*, errW_none, errW_some] <;> rfl), Rm (Rg 2 (Rg 1 (Rg 0 (Rt HO914.out BK902.out (by decide)) (.bool t911)) (.slice Ao13 t912.length co13)) (.slice Ao14 t915.length co14)) (fun _ hk => hk.1.1.1), Rm (Rg 2 (Rg 1 (Rg 0 (Rt HO917.out BK902.out (by decide)) (.bool t911)) (.slice Ao13 t912.length co13)) (.slice Ao14 t915.length co14)) (fun _ hk => hk.1.1.1), by repeat (first | exact HB.out | apply bN | apply b1 | apply bA | refine bS ?_ GE902.out)⟩
set_option maxHeartbeats 8000000 in
set_option maxRecDepth 100000 in
theorem examboardref37_whole.calls (k : Nat) (a0 : Int) (r1 : Bool) (r2 : List Int) (r3 : List Int) (w : World) (h : examboardref37_whole.f k a0 = some (r1, r2, r3)) :
  Calls Try.prog 33 #[.int .i64 a0] w fun e w' => ∃ v1_ v2_ : Value, e = .returned (.agg #[.bool r1, v1_, v2_]) ∧ Kd.R (Kd.int .u32) 87 w' w.heap.size (fun k_ => some k_ ≠ (v2_ : Value).ownBlock) v1_ r2 ∧ Kd.R (Kd.int .u32) 87 w' w.heap.size (fun k_ => some k_ ≠ (v1_ : Value).ownBlock) v2_ r3 ∧ Below w.heap.size w w' := by
 have hu29 := Try.underlying29
 have HB := mk0 (Below.refl w.heap.size w)
 have H : ((examboardref03_Of.f k a0 1).bind fun bt920 => (some (bt920.1, bt920.2.1, bt920.2.2.1))) = some (r1, r2, r3) := h
 clear h
 obtain ⟨⟨t920, t921, t924, t927⟩, A2, H⟩ := bindA H
 simp only [Option.some.injEq, Prod.mk.injEq] at H
 obtain ⟨rfl, rfl, rfl⟩ := H
 go_enter Try.func33, Try.ntmps33
 go_wp2_with (first | ((with_reducible refine gate_dst (N := 2) rfl ?_); refine box_event rfl (N := 2) rfl (cs := #[.bool false, .slice none 0 0, .slice none 0 0]) (t := 29) (by go_simp <;> rfl) ?_; intro gb919 hg w3 hbox hb; have BK919 := mk0 (hbox); have GE919 := mk0 ((by rw [hg]; exact (bZ (by repeat (first | (with_reducible first | exact HB.out | apply bA | apply bN | apply b1) | exact HB.out))) : w.heap.size ≤ gb919)); replace HB := mk0 (below_step (by repeat (first | (with_reducible first | exact HB.out | apply bA | apply bN | apply b1) | exact HB.out)) hb); clear hb hbox hg) | ((with_reducible refine gate_callee (f := 40) rfl ?_); refine goesL_ (some 7) rfl rfl Try.func40 (by kernel_rfl) rfl #[.int .i64 a0, .int .i64 1] rfl (by (try simp only [mA, mC, mN]); first | done | rfl | (simp only [lD, lT]; rfl)) ?_; (with_reducible refine (examboardref03_Of.calls k a0 1 t920 t921 t924 t927 _ A2.out).mono ?_); rintro e w4 ⟨v922, v925, rfl, ho0, ho1, hb⟩; refine ⟨_, rfl, ?_⟩; have HO923 := mk0 (Rl ho0 (bZ (by repeat (first | (with_reducible first | exact HB.out | apply bA | apply bN | apply b1 | refine bS ?_ GE919.out) | exact HB.out)))); have HO926 := mk0 (Rl ho1 (bZ (by repeat (first | (with_reducible first | exact HB.out | apply bA | apply bN | apply b1 | refine bS ?_ GE919.out) | exact HB.out)))); replace BK919 := mk0 (blk_below (g := gb919) BK919.out hb); replace HB := mk0 (below_step (by repeat (first | (with_reducible first | exact HB.out | apply bA | apply bN | apply b1 | refine bS ?_ GE919.out) | exact HB.out)) hb)) | ((with_reducible refine gate_dst (N := 3) rfl ?_); refine box_event rfl (N := 3) rfl (cs := #[.bool false, .slice none 0 0, .slice none 0 0]) (t := 29) (by go_simp <;> rfl) ?_; intro gb928 hg w5 hbox hb; replace HO923 := mk0 (Rb HO923.out hb); replace HO926 := mk0 (Rb HO926.out hb); have BK928 := mk0 (hbox); have GE928 := mk0 ((by rw [hg]; exact (bZ (by repeat (first | (with_reducible first | exact HB.out | apply bA | apply bN | apply b1 | refine bS ?_ GE919.out) | exact HB.out))) : w.heap.size ≤ gb928)); replace HB := mk0 (below_step (by repeat (first | (with_reducible first | exact HB.out | apply bA | apply bN | apply b1 | refine bS ?_ GE919.out) | exact HB.out)) hb); have NB919_928 := mk0 ((by rw [hg]; exact Nat.ne_of_lt (blk_lt (g := gb919) BK919.out) : gb919 ≠ gb928)); have NB928_919 := mk0 ((by rw [hg]; exact Nat.ne_of_gt (blk_lt (g := gb919) BK919.out) : gb928 ≠ gb919)); replace BK919 := mk0 (blk_below (g := gb919) BK919.out hb); clear hb hbox hg; have hnb6 := NB928_919.out; have hnc6 := NB919_928.out; obtain ⟨hcz7_0, hcz7_1, hcz7_2, hfz7_0, hfz7_1, hfz7_2⟩ := cz3 BK928; obtain ⟨Ao8, co8, eo8⟩ := Kd.R_slice HO923.out; subst eo8; obtain ⟨Ao9, co9, eo9⟩ := Kd.R_slice HO926.out; subst eo9; obtain ⟨hcz10_0, hcz10_1, hcz10_2, hfz10_0, hfz10_1, hfz10_2⟩ := cz3 BK919))
 refine bodyPost_ret (results_cell_row rfl _ _ gb919 29 #[.bool t920, .slice Ao8 t921.length co8, .slice Ao9 t924.length co9] (0, 0) _ rfl (by (with_reducible repeat (first | refine blk_drewN ?_ _ | refine blk_drew ?_ | refine blk_alloc ?_ _)); refine blk_put (cs := #[.bool t920, .slice Ao8 t921.length co8, .slice none 0 0]) ?_ 2 _ rfl; (with_reducible repeat (first | refine blk_drewN ?_ _ | refine blk_drew ?_ | refine blk_alloc ?_ _)); refine blk_put (cs := #[.bool t920, .slice none 0 0, .slice none 0 0]) ?_ 1 _ rfl; (with_reducible repeat (first | refine blk_drewN ?_ _ | refine blk_drew ?_ | refine blk_alloc ?_ _)); refine blk_put (cs := #[.bool false, .slice none 0 0, .slice none 0 0]) ?_ 0 _ rfl; (with_reducible repeat (first | refine blk_drewN ?_ _ | refine blk_drew ?_ | refine blk_alloc ?_ _)); refine blk_far ?_ NB919_928.out _; (with_reducible repeat (first | refine blk_drewN ?_ _ | refine blk_drew ?_ | refine blk_alloc ?_ _)); refine blk_far ?_ NB919_928.out _; (with_reducible repeat (first | refine blk_drewN ?_ _ | refine blk_drew ?_ | refine blk_alloc ?_ _)); refine blk_far ?_ NB919_928.out _; (with_reducible repeat (first | refine blk_drewN ?_ _ | refine blk_drew ?_ | refine blk_alloc ?_ _)); exact BK919.out) Try.underlying29 rfl (by kernel_rfl)) rfl ?_
 exact ⟨_, _, by first | rfl | (simp [errW_none, errW_some] <;> rfl) | (simp [*, errW_none, errW_some] <;> rfl), by (with_reducible repeat (first | apply Kd.R_alloc | apply Kd.R_drewN | apply Kd.R_drew)); exact Rm (Rf (p := ⟨gb919, 2, none⟩) (Rf (p := ⟨gb919, 1, none⟩) (Rg 0 (Rf (p := ⟨gb928, 2, none⟩) (Rf (p := ⟨gb928, 1, none⟩) (Rf (p := ⟨gb928, 0, none⟩) (Rd (Rd HO923.out BK928) BK919) (fun _ hk => hk.1.2) (.bool t920)) (fun _ hk => hk.1.2) (.slice Ao8 t921.length co8)) (fun _ hk => hk.1.2) (.slice Ao9 t924.length co9)) (.bool t920)) (fun _ hk => hk.2) (.slice Ao8 t921.length co8)) (fun _ hk => hk.2) (.slice Ao9 t924.length co9)) (fun _ hk => hk.1.1), by (with_reducible repeat (first | apply Kd.R_alloc | apply Kd.R_drewN | apply Kd.R_drew)); exact Rm (Rf (p := ⟨gb919, 2, none⟩) (Rf (p := ⟨gb919, 1, none⟩) (Rg 0 (Rf (p := ⟨gb928, 2, none⟩) (Rf (p := ⟨gb928, 1, none⟩) (Rf (p := ⟨gb928, 0, none⟩) (Rd (Rd HO926.out BK928) BK919) (fun _ hk => hk.1.2) (.bool t920)) (fun _ hk => hk.1.2) (.slice Ao8 t921.length co8)) (fun _ hk => hk.1.2) (.slice Ao9 t924.length co9)) (.bool t920)) (fun _ hk => hk.2) (.slice Ao8 t921.length co8)) (fun _ hk => hk.2) (.slice Ao9 t924.length co9)) (fun _ hk => hk.1.1), by repeat (first | (with_reducible first | exact HB.out | apply bA | apply bN | apply b1 | refine bS ?_ GE919.out | refine bS ?_ GE928.out) | exact HB.out)⟩
set_option maxHeartbeats 8000000 in
set_option maxRecDepth 100000 in
theorem examboardref37_limited.calls (a0 : Int) (r : Int) (w : World) (h : examboardref37_limited.f a0 = some r) :
  Calls Try.prog 34 #[.int .i64 a0] w fun e w' => e = .returned (.int .i64 r) ∧ Drawn0 w w' := by
 have H : (if a0 < 0 then (some 0) else (if a0 > 1000000 then (some 1000000) else (some a0))) = some r := h
 clear h
 by_cases c2 : a0 < 0
 ·rw [if_pos c2] at H
  have c2b0 : decide (a0 < 0) = true := decide_eq_true c2
  clear c2
  obtain rfl := Option.some.inj H
  go_enter Try.func34, Try.ntmps34
  go_wp2
  go_ret
  exact ⟨by first | rfl | (simp; done) | (simp [*]; done), by repeat (first | exact Drawn0.refl _ | apply Drawn0.step)⟩
 ·rw [if_neg c2] at H
  have c2b0 : decide (a0 < 0) = false := decide_eq_false c2
  clear c2
  by_cases c3 : a0 > 1000000
  ·rw [if_pos c3] at H
   have c3b0 : decide (1000000 < a0) = true := decide_eq_true c3
   clear c3
   obtain rfl := Option.some.inj H
   go_enter Try.func34, Try.ntmps34
   go_wp2
   go_ret
   exact ⟨by first | rfl | (simp; done) | (simp [*]; done), by repeat (first | exact Drawn0.refl _ | apply Drawn0.step)⟩
  ·rw [if_neg c3] at H
   have c3b0 : decide (1000000 < a0) = false := decide_eq_false c3
   clear c3
   obtain rfl := Option.some.inj H
   go_enter Try.func34, Try.ntmps34
   go_wp2
   go_ret
   exact ⟨by first | rfl | (simp; done) | (simp [*]; done), by repeat (first | exact Drawn0.refl _ | apply Drawn0.step)⟩
set_option maxHeartbeats 8000000 in
set_option maxRecDepth 100000 in
theorem examboardref02_Sign.calls (k : Nat) (a0_0 : Bool) (A0_1 : Option Addr) (c0_1 : Nat) (l0_1 : List Int) (r : Int) (w : World) (hr0_1 : Kd.C (Kd.int .u32) w A0_1 l0_1.length l0_1) (hc0_1 : l0_1.length ≤ c0_1) (h : examboardref02_Sign.f k a0_0 l0_1 = some r) :
  Calls Try.prog 91 #[.agg #[.bool a0_0, .slice A0_1 l0_1.length c0_1]] w fun e w' => e = .returned (.int .i64 r) ∧ Below w.heap.size w w' := by
 have hu27 := Try.underlying27
 have HR0_1 := mk0 hr0_1
 have HC0_1 := mk0 hc0_1
 clear hr0_1 hc0_1
 have HB := mk0 (Below.refl w.heap.size w)
 have H : ((examboardref02_Norm.f k a0_0 l0_1).bind fun bt930 => (if (bt930.2.length : Int) = 0 then (some 0) else (if bt930.1 = true then (some (-1)) else (some 1)))) = some r := h
 clear h
 obtain ⟨⟨t930, t931⟩, A2, H⟩ := bindA H
 by_cases c3 : (t931.length : Int) = 0
 ·rw [if_pos c3] at H
  have c3b0 : ((t931.length : Int) == 0) = true := beq_iff_eq.mpr c3
  have c3b1 : ((t931.length : Int) != 0) = false := bne_eq_false_iff_eq.mpr c3
  clear c3
  obtain rfl := Option.some.inj H
  go_enter Try.func91, Try.ntmps91
  go_wp2_with (first | ((with_reducible refine gate_dst (N := 1) rfl ?_); refine box_event rfl (N := 1) rfl (cs := #[.bool a0_0, .slice A0_1 l0_1.length c0_1]) (t := 27) (by go_simp <;> rfl) ?_; intro gb929 hg w4 hbox hb; have BK929 := mk0 (hbox); have GE929 := geB hg HB; replace HB := hbS HB hb; clear hb hbox hg; obtain ⟨hcz5_0, hcz5_1, hfz5_0, hfz5_1⟩ := cz2 BK929) | ((with_reducible refine gate_callee (f := 84) rfl ?_); refine goA 5 Try.func84 #[.agg #[.bool a0_0, .slice A0_1 l0_1.length c0_1]] ?_; (with_reducible refine (examboardref02_Norm.calls k a0_0 _ _ l0_1 t930 t931 _ (by exact Cb HR0_1.out HB.out) HC0_1.out A2.out).mono ?_); rintro e w6 ⟨v932, rfl, ho0, hb⟩; refine ⟨_, rfl, ?_⟩; have HO933 := mk0 (Rl ho0 (bZ HB.out)); replace BK929 := bkB BK929 hb; replace HB := hbS HB hb) | ((with_reducible refine gate_dst (N := 3) rfl ?_); refine box_event rfl (N := 3) rfl (cs := #[.bool false, .slice none 0 0]) (t := 27) (by go_simp <;> rfl) ?_; intro gb934 hg w7 hbox hb; replace HO933 := rB HO933 hb; have BK934 := mk0 (hbox); have GE934 := geB hg HB; replace HB := hbS HB hb; have NB929_934 := nbA hg BK929; have NB934_929 := nbB hg BK929; replace BK929 := bkB BK929 hb; clear hb hbox hg; have hnb8 := NB934_929.out; have hnc8 := NB929_934.out; obtain ⟨hcz9_0, hcz9_1, hfz9_0, hfz9_1⟩ := cz2 BK934; obtain ⟨Ao10, co10, eo10⟩ := Kd.R_slice HO933.out; subst eo10))
  go_ret
  exact ⟨rfl, by repeat (first | exact HB.out | apply bN | apply b1 | apply bA | refine bS ?_ GE929.out | refine bS ?_ GE934.out)⟩
 ·rw [if_neg c3] at H
  have c3b0 : ((t931.length : Int) == 0) = false := beq_eq_false_iff_ne.mpr c3
  have c3b1 : ((t931.length : Int) != 0) = true := bne_iff_ne.mpr c3
  have c3b2 : ¬ (t931 = []) := fun h_ => c3 (by rw [h_]; rfl)
  by_cases c11 : t930 = true
  ·subst c11
   have H1 : (some (-1)) = some r := by rw [if_pos rfl] at H; exact H
   clear H
   have H := H1
   clear H1
   obtain rfl := Option.some.inj H
   go_enter Try.func91, Try.ntmps91
   go_wp2_with (first | ((with_reducible refine gate_dst (N := 1) rfl ?_); refine box_event rfl (N := 1) rfl (cs := #[.bool a0_0, .slice A0_1 l0_1.length c0_1]) (t := 27) (by go_simp <;> rfl) ?_; intro gb929 hg w12 hbox hb; have BK929 := mk0 (hbox); have GE929 := geB hg HB; replace HB := hbS HB hb; clear hb hbox hg; obtain ⟨hcz13_0, hcz13_1, hfz13_0, hfz13_1⟩ := cz2 BK929) | ((with_reducible refine gate_callee (f := 84) rfl ?_); refine goA 5 Try.func84 #[.agg #[.bool a0_0, .slice A0_1 l0_1.length c0_1]] ?_; (with_reducible refine (examboardref02_Norm.calls k a0_0 _ _ l0_1 true t931 _ (by exact Cb HR0_1.out HB.out) HC0_1.out A2.out).mono ?_); rintro e w14 ⟨v932, rfl, ho0, hb⟩; refine ⟨_, rfl, ?_⟩; have HO933 := mk0 (Rl ho0 (bZ HB.out)); replace BK929 := bkB BK929 hb; replace HB := hbS HB hb) | ((with_reducible refine gate_dst (N := 3) rfl ?_); refine box_event rfl (N := 3) rfl (cs := #[.bool false, .slice none 0 0]) (t := 27) (by go_simp <;> rfl) ?_; intro gb934 hg w15 hbox hb; replace HO933 := rB HO933 hb; have BK934 := mk0 (hbox); have GE934 := geB hg HB; replace HB := hbS HB hb; have NB929_934 := nbA hg BK929; have NB934_929 := nbB hg BK929; replace BK929 := bkB BK929 hb; clear hb hbox hg; have hnb16 := NB934_929.out; have hnc16 := NB929_934.out; obtain ⟨hcz17_0, hcz17_1, hfz17_0, hfz17_1⟩ := cz2 BK934; obtain ⟨Ao18, co18, eo18⟩ := Kd.R_slice HO933.out; subst eo18))
   go_ret
   exact ⟨rfl, by repeat (first | exact HB.out | apply bN | apply b1 | apply bA | refine bS ?_ GE929.out | refine bS ?_ GE934.out)⟩
  ·replace c11 := Bool.eq_false_iff.mpr c11
   subst c11
   have H1 : (some 1) = some r := by rw [if_neg (show ¬ (false = true) by decide)] at H; exact H
   clear H
   have H := H1
   clear H1
   obtain rfl := Option.some.inj H
   go_enter Try.func91, Try.ntmps91
   go_wp2_with (first | ((with_reducible refine gate_dst (N := 1) rfl ?_); refine box_event rfl (N := 1) rfl (cs := #[.bool a0_0, .slice A0_1 l0_1.length c0_1]) (t := 27) (by go_simp <;> rfl) ?_; intro gb929 hg w19 hbox hb; have BK929 := mk0 (hbox); have GE929 := geB hg HB; replace HB := hbS HB hb; clear hb hbox hg; obtain ⟨hcz20_0, hcz20_1, hfz20_0, hfz20_1⟩ := cz2 BK929) | ((with_reducible refine gate_callee (f := 84) rfl ?_); refine goA 5 Try.func84 #[.agg #[.bool a0_0, .slice A0_1 l0_1.length c0_1]] ?_; (with_reducible refine (examboardref02_Norm.calls k a0_0 _ _ l0_1 false t931 _ (by exact Cb HR0_1.out HB.out) HC0_1.out A2.out).mono ?_); rintro e w21 ⟨v932, rfl, ho0, hb⟩; refine ⟨_, rfl, ?_⟩; have HO933 := mk0 (Rl ho0 (bZ HB.out)); replace BK929 := bkB BK929 hb; replace HB := hbS HB hb) | ((with_reducible refine gate_dst (N := 3) rfl ?_); refine box_event rfl (N := 3) rfl (cs := #[.bool false, .slice none 0 0]) (t := 27) (by go_simp <;> rfl) ?_; intro gb934 hg w22 hbox hb; replace HO933 := rB HO933 hb; have BK934 := mk0 (hbox); have GE934 := geB hg HB; replace HB := hbS HB hb; have NB929_934 := nbA hg BK929; have NB934_929 := nbB hg BK929; replace BK929 := bkB BK929 hb; clear hb hbox hg; have hnb23 := NB934_929.out; have hnc23 := NB929_934.out; obtain ⟨hcz24_0, hcz24_1, hfz24_0, hfz24_1⟩ := cz2 BK934; obtain ⟨Ao25, co25, eo25⟩ := Kd.R_slice HO933.out; subst eo25))
   go_ret
   exact ⟨rfl, by repeat (first | exact HB.out | apply bN | apply b1 | apply bA | refine bS ?_ GE929.out | refine bS ?_ GE934.out)⟩
set_option maxHeartbeats 8000000 in
set_option maxRecDepth 100000 in
theorem examboardref02_Cmp.calls (k : Nat) (a0_0 : Bool) (A0_1 : Option Addr) (c0_1 : Nat) (l0_1 : List Int) (a1_0 : Bool) (A1_1 : Option Addr) (c1_1 : Nat) (l1_1 : List Int) (r : Int) (w : World) (hr0_1 : Kd.C (Kd.int .u32) w A0_1 l0_1.length l0_1) (hc0_1 : l0_1.length ≤ c0_1) (hr1_1 : Kd.C (Kd.int .u32) w A1_1 l1_1.length l1_1) (hc1_1 : l1_1.length ≤ c1_1) (h : examboardref02_Cmp.f k a0_0 l0_1 a1_0 l1_1 = some r) :
  Calls Try.prog 63 #[.agg #[.bool a0_0, .slice A0_1 l0_1.length c0_1], .agg #[.bool a1_0, .slice A1_1 l1_1.length c1_1]] w fun e w' => e = .returned (.int .i64 r) ∧ Below w.heap.size w w' := by
 have hu27 := Try.underlying27
 have HR0_1 := mk0 hr0_1
 have HC0_1 := mk0 hc0_1
 clear hr0_1 hc0_1
 have HR1_1 := mk0 hr1_1
 have HC1_1 := mk0 hc1_1
 clear hr1_1 hc1_1
 have HB := mk0 (Below.refl w.heap.size w)
 have H : ((examboardref02_Sign.f k a0_0 l0_1).bind fun t937 => ((examboardref02_Sign.f k a1_0 l1_1).bind fun t938 => (if t937 < t938 then (some (-1)) else (if t937 > t938 then (some 1) else (if t937 < 0 then ((examboardref01_Cmp.f k l1_1 l0_1).bind fun t939 => (some t939)) else ((examboardref01_Cmp.f k l0_1 l1_1).bind fun t940 => (some t940))))))) = some r := h
 clear h
 obtain ⟨t937, A3, H⟩ := bindA H
 obtain ⟨t938, A4, H⟩ := bindA H
 by_cases c5 : t937 < t938
 ·rw [if_pos c5] at H
  have c5b0 := decide_eq_true c5
  clear c5
  obtain rfl := Option.some.inj H
  go_enter Try.func63, Try.ntmps63
  go_wp2_with (first | ((refine gate_dst (N := 2) rfl ?_); refine box_event rfl (N := 2) rfl (cs := #[.bool a0_0, .slice A0_1 l0_1.length c0_1]) (t := 27) (by go_simp <;> rfl) ?_; intro gb935 hg w6 hbox hb; have BK935 := mk0 (hbox); have GE935 := geB hg HB; replace HB := hbS HB hb; clear hb hbox hg) | ((refine gate_dst (N := 3) rfl ?_); refine box_event rfl (N := 3) rfl (cs := #[.bool a1_0, .slice A1_1 l1_1.length c1_1]) (t := 27) (by go_simp <;> rfl) ?_; intro gb936 hg w7 hbox hb; have BK936 := mk0 (hbox); have GE936 := geB hg HB; replace HB := hbS HB hb; have NB935_936 := nbA hg BK935; have NB936_935 := nbB hg BK935; replace BK935 := bkB BK935 hb; clear hb hbox hg; have hnb8 := NB935_936.out; have hnc8 := NB936_935.out; obtain ⟨hcz9_0, hcz9_1, hfz9_0, hfz9_1⟩ := cz2 BK935) | ((refine gate_callee (f := 91) rfl ?_); refine goA 8 Try.func91 #[.agg #[.bool a0_0, .slice A0_1 l0_1.length c0_1]] ?_; (with_reducible refine (examboardref02_Sign.calls k a0_0 _ _ l0_1 t937 _ (by exact Cb HR0_1.out HB.out) HC0_1.out A3.out).mono ?_); rintro e w10 ⟨rfl, hb⟩; refine ⟨_, rfl, ?_⟩; replace BK935 := bkB BK935 hb; replace BK936 := bkB BK936 hb; replace HB := hbS HB hb; obtain ⟨hcz11_0, hcz11_1, hfz11_0, hfz11_1⟩ := cz2 BK936) | ((refine gate_callee (f := 91) rfl ?_); refine goA 10 Try.func91 #[.agg #[.bool a1_0, .slice A1_1 l1_1.length c1_1]] ?_; (with_reducible refine (examboardref02_Sign.calls k a1_0 _ _ l1_1 t938 _ (by exact Cb HR1_1.out HB.out) HC1_1.out A4.out).mono ?_); rintro e w12 ⟨rfl, hb⟩; refine ⟨_, rfl, ?_⟩; replace BK935 := bkB BK935 hb; replace BK936 := bkB BK936 hb; replace HB := hbS HB hb))
  go_ret
  exact ⟨rfl, by repeat (first | exact HB.out | apply bN | apply b1 | apply bA | refine bS ?_ GE935.out | refine bS ?_ GE936.out)⟩
 ·rw [if_neg c5] at H
  have c5b0 := decide_eq_false c5
  clear c5
  by_cases c13 : t937 > t938
  ·rw [if_pos c13] at H
   have c13b0 := decide_eq_true c13
   clear c13
   obtain rfl := Option.some.inj H
   go_enter Try.func63, Try.ntmps63
   go_wp2_with (first | ((refine gate_dst (N := 2) rfl ?_); refine box_event rfl (N := 2) rfl (cs := #[.bool a0_0, .slice A0_1 l0_1.length c0_1]) (t := 27) (by go_simp <;> rfl) ?_; intro gb935 hg w14 hbox hb; have BK935 := mk0 (hbox); have GE935 := geB hg HB; replace HB := hbS HB hb; clear hb hbox hg) | ((refine gate_dst (N := 3) rfl ?_); refine box_event rfl (N := 3) rfl (cs := #[.bool a1_0, .slice A1_1 l1_1.length c1_1]) (t := 27) (by go_simp <;> rfl) ?_; intro gb936 hg w15 hbox hb; have BK936 := mk0 (hbox); have GE936 := geB hg HB; replace HB := hbS HB hb; have NB935_936 := nbA hg BK935; have NB936_935 := nbB hg BK935; replace BK935 := bkB BK935 hb; clear hb hbox hg; have hnb16 := NB935_936.out; have hnc16 := NB936_935.out; obtain ⟨hcz17_0, hcz17_1, hfz17_0, hfz17_1⟩ := cz2 BK935) | ((refine gate_callee (f := 91) rfl ?_); refine goA 8 Try.func91 #[.agg #[.bool a0_0, .slice A0_1 l0_1.length c0_1]] ?_; (with_reducible refine (examboardref02_Sign.calls k a0_0 _ _ l0_1 t937 _ (by exact Cb HR0_1.out HB.out) HC0_1.out A3.out).mono ?_); rintro e w18 ⟨rfl, hb⟩; refine ⟨_, rfl, ?_⟩; replace BK935 := bkB BK935 hb; replace BK936 := bkB BK936 hb; replace HB := hbS HB hb; obtain ⟨hcz19_0, hcz19_1, hfz19_0, hfz19_1⟩ := cz2 BK936) | ((refine gate_callee (f := 91) rfl ?_); refine goA 10 Try.func91 #[.agg #[.bool a1_0, .slice A1_1 l1_1.length c1_1]] ?_; (with_reducible refine (examboardref02_Sign.calls k a1_0 _ _ l1_1 t938 _ (by exact Cb HR1_1.out HB.out) HC1_1.out A4.out).mono ?_); rintro e w20 ⟨rfl, hb⟩; refine ⟨_, rfl, ?_⟩; replace BK935 := bkB BK935 hb; replace BK936 := bkB BK936 hb; replace HB := hbS HB hb))
   go_ret
   exact ⟨rfl, by repeat (first | exact HB.out | apply bN | apply b1 | apply bA | refine bS ?_ GE935.out | refine bS ?_ GE936.out)⟩
  ·rw [if_neg c13] at H
   have c13b0 := decide_eq_false c13
   clear c13
   by_cases c21 : t937 < 0
   ·rw [if_pos c21] at H
    have c21b0 := decide_eq_true c21
    clear c21
    obtain ⟨t939, A22, H⟩ := bindA H
    obtain rfl := Option.some.inj H
    go_enter Try.func63, Try.ntmps63
    go_wp2_with (first | ((refine gate_dst (N := 2) rfl ?_); refine box_event rfl (N := 2) rfl (cs := #[.bool a0_0, .slice A0_1 l0_1.length c0_1]) (t := 27) (by go_simp <;> rfl) ?_; intro gb935 hg w23 hbox hb; have BK935 := mk0 (hbox); have GE935 := geB hg HB; replace HB := hbS HB hb; clear hb hbox hg) | ((refine gate_dst (N := 3) rfl ?_); refine box_event rfl (N := 3) rfl (cs := #[.bool a1_0, .slice A1_1 l1_1.length c1_1]) (t := 27) (by go_simp <;> rfl) ?_; intro gb936 hg w24 hbox hb; have BK936 := mk0 (hbox); have GE936 := geB hg HB; replace HB := hbS HB hb; have NB935_936 := nbA hg BK935; have NB936_935 := nbB hg BK935; replace BK935 := bkB BK935 hb; clear hb hbox hg; have hnb25 := NB935_936.out; have hnc25 := NB936_935.out; obtain ⟨hcz26_0, hcz26_1, hfz26_0, hfz26_1⟩ := cz2 BK935) | ((refine gate_callee (f := 91) rfl ?_); refine goA 8 Try.func91 #[.agg #[.bool a0_0, .slice A0_1 l0_1.length c0_1]] ?_; (with_reducible refine (examboardref02_Sign.calls k a0_0 _ _ l0_1 t937 _ (by exact Cb HR0_1.out HB.out) HC0_1.out A3.out).mono ?_); rintro e w27 ⟨rfl, hb⟩; refine ⟨_, rfl, ?_⟩; replace BK935 := bkB BK935 hb; replace BK936 := bkB BK936 hb; replace HB := hbS HB hb; obtain ⟨hcz28_0, hcz28_1, hfz28_0, hfz28_1⟩ := cz2 BK936) | ((refine gate_callee (f := 91) rfl ?_); refine goA 10 Try.func91 #[.agg #[.bool a1_0, .slice A1_1 l1_1.length c1_1]] ?_; (with_reducible refine (examboardref02_Sign.calls k a1_0 _ _ l1_1 t938 _ (by exact Cb HR1_1.out HB.out) HC1_1.out A4.out).mono ?_); rintro e w29 ⟨rfl, hb⟩; refine ⟨_, rfl, ?_⟩; replace BK935 := bkB BK935 hb; replace BK936 := bkB BK936 hb; replace HB := hbS HB hb; obtain ⟨hcz30_0, hcz30_1, hfz30_0, hfz30_1⟩ := cz2 BK936; obtain ⟨hcz31_0, hcz31_1, hfz31_0, hfz31_1⟩ := cz2 BK935) | ((refine gate_callee (f := 92) rfl ?_); refine goA 23 Try.func92 #[.slice A1_1 l1_1.length c1_1, .slice A0_1 l0_1.length c0_1] ?_; (with_reducible refine (examboardref01_Cmp.calls k _ _ l1_1 _ _ l0_1 t939 _ (by exact Cb HR1_1.out HB.out) HC1_1.out (by exact Cb HR0_1.out HB.out) HC0_1.out A22.out).mono ?_); rintro e w32 ⟨rfl, hb⟩; refine ⟨_, rfl, ?_⟩; replace BK935 := bkB BK935 hb; replace BK936 := bkB BK936 hb; replace HB := hbS HB hb))
    go_ret
    exact ⟨rfl, by repeat (first | exact HB.out | apply bN | apply b1 | apply bA | refine bS ?_ GE935.out | refine bS ?_ GE936.out)⟩
   ·rw [if_neg c21] at H
    have c21b0 := decide_eq_false c21
    clear c21
    obtain ⟨t940, A33, H⟩ := bindA H
    obtain rfl := Option.some.inj H
    go_enter Try.func63, Try.ntmps63
    go_wp2_with (first | ((refine gate_dst (N := 2) rfl ?_); refine box_event rfl (N := 2) rfl (cs := #[.bool a0_0, .slice A0_1 l0_1.length c0_1]) (t := 27) (by go_simp <;> rfl) ?_; intro gb935 hg w34 hbox hb; have BK935 := mk0 (hbox); have GE935 := geB hg HB; replace HB := hbS HB hb; clear hb hbox hg) | ((refine gate_dst (N := 3) rfl ?_); refine box_event rfl (N := 3) rfl (cs := #[.bool a1_0, .slice A1_1 l1_1.length c1_1]) (t := 27) (by go_simp <;> rfl) ?_; intro gb936 hg w35 hbox hb; have BK936 := mk0 (hbox); have GE936 := geB hg HB; replace HB := hbS HB hb; have NB935_936 := nbA hg BK935; have NB936_935 := nbB hg BK935; replace BK935 := bkB BK935 hb; clear hb hbox hg; have hnb36 := NB935_936.out; have hnc36 := NB936_935.out; obtain ⟨hcz37_0, hcz37_1, hfz37_0, hfz37_1⟩ := cz2 BK935) | ((refine gate_callee (f := 91) rfl ?_); refine goA 8 Try.func91 #[.agg #[.bool a0_0, .slice A0_1 l0_1.length c0_1]] ?_; (with_reducible refine (examboardref02_Sign.calls k a0_0 _ _ l0_1 t937 _ (by exact Cb HR0_1.out HB.out) HC0_1.out A3.out).mono ?_); rintro e w38 ⟨rfl, hb⟩; refine ⟨_, rfl, ?_⟩; replace BK935 := bkB BK935 hb; replace BK936 := bkB BK936 hb; replace HB := hbS HB hb; obtain ⟨hcz39_0, hcz39_1, hfz39_0, hfz39_1⟩ := cz2 BK936) | ((refine gate_callee (f := 91) rfl ?_); refine goA 10 Try.func91 #[.agg #[.bool a1_0, .slice A1_1 l1_1.length c1_1]] ?_; (with_reducible refine (examboardref02_Sign.calls k a1_0 _ _ l1_1 t938 _ (by exact Cb HR1_1.out HB.out) HC1_1.out A4.out).mono ?_); rintro e w40 ⟨rfl, hb⟩; refine ⟨_, rfl, ?_⟩; replace BK935 := bkB BK935 hb; replace BK936 := bkB BK936 hb; replace HB := hbS HB hb; obtain ⟨hcz41_0, hcz41_1, hfz41_0, hfz41_1⟩ := cz2 BK935; obtain ⟨hcz42_0, hcz42_1, hfz42_0, hfz42_1⟩ := cz2 BK936) | ((refine gate_callee (f := 92) rfl ?_); refine goA 28 Try.func92 #[.slice A0_1 l0_1.length c0_1, .slice A1_1 l1_1.length c1_1] ?_; (with_reducible refine (examboardref01_Cmp.calls k _ _ l0_1 _ _ l1_1 t940 _ (by exact Cb HR0_1.out HB.out) HC0_1.out (by exact Cb HR1_1.out HB.out) HC1_1.out A33.out).mono ?_); rintro e w43 ⟨rfl, hb⟩; refine ⟨_, rfl, ?_⟩; replace BK935 := bkB BK935 hb; replace BK936 := bkB BK936 hb; replace HB := hbS HB hb))
    go_ret
    exact ⟨rfl, by repeat (first | exact HB.out | apply bN | apply b1 | apply bA | refine bS ?_ GE935.out | refine bS ?_ GE936.out)⟩
def examboardref03_Cmp.T1 : Bool × List (List Nat × List Nat) := (true, [([], []), ([0], [0]), ([], []), ([2, 1], [2]), ([3, 3], [3]), ([1, 4, 4], [1, 4]), ([], []), ([6, 5, 5, 0, 1, 2, 3, 4, 5, 6], [5, 6])])
def examboardref03_Cmp.B1 : List Nat := [0, 1, 0, 7, 15, 31, 0, 127]
theorem examboardref03_Cmp.tab1 : rtab .any (opsOf Try.f35 1) = examboardref03_Cmp.T1 := by kernel_rfl
theorem examboardref03_Cmp.bits1 : waitsOk examboardref03_Cmp.T1.2 examboardref03_Cmp.B1 = true := by kernel_rfl
def examboardref03_Cmp.T2 : Bool × List (List Nat × List Nat) := (true, [([], []), ([0], [0]), ([], []), ([2, 1], [2]), ([3, 3], [3]), ([1, 4, 4], [1, 4]), ([], []), ([6, 5, 5, 0, 1, 2, 3, 4, 5, 6], [5, 6])])
def examboardref03_Cmp.B2 : List Nat := [0, 1, 0, 7, 15, 31, 0, 127]
theorem examboardref03_Cmp.tab2 : rtab .any (opsOf Try.f35 2) = examboardref03_Cmp.T2 := by kernel_rfl
theorem examboardref03_Cmp.bits2 : waitsOk examboardref03_Cmp.T2.2 examboardref03_Cmp.B2 = true := by kernel_rfl
set_option maxHeartbeats 8000000 in
set_option maxRecDepth 100000 in
theorem examboardref03_Cmp.calls (k : Nat) (a0_0 : Bool) (A0_1 : Option Addr) (c0_1 : Nat) (l0_1 : List Int) (A0_2 : Option Addr) (c0_2 : Nat) (l0_2 : List Int) (a1_0 : Bool) (A1_1 : Option Addr) (c1_1 : Nat) (l1_1 : List Int) (A1_2 : Option Addr) (c1_2 : Nat) (l1_2 : List Int) (r : Int) (w : World) (hr0_1 : Kd.C (Kd.int .u32) w A0_1 l0_1.length l0_1) (hc0_1 : l0_1.length ≤ c0_1) (hr0_2 : Kd.C (Kd.int .u32) w A0_2 l0_2.length l0_2) (hc0_2 : l0_2.length ≤ c0_2) (hr1_1 : Kd.C (Kd.int .u32) w A1_1 l1_1.length l1_1) (hc1_1 : l1_1.length ≤ c1_1) (hr1_2 : Kd.C (Kd.int .u32) w A1_2 l1_2.length l1_2) (hc1_2 : l1_2.length ≤ c1_2) (h : examboardref03_Cmp.f k a0_0 l0_1 l0_2 a1_0 l1_1 l1_2 = some r) :
  Calls Try.prog 35 #[.agg #[.bool a0_0, .slice A0_1 l0_1.length c0_1, .slice A0_2 l0_2.length c0_2], .agg #[.bool a1_0, .slice A1_1 l1_1.length c1_1, .slice A1_2 l1_2.length c1_2]] w fun e w' => e = .returned (.int .i64 r) ∧ Below w.heap.size w w' := by
 have hu29 := Try.underlying29
 have hu27 := Try.underlying27
 have HR0_1 := mk0 hr0_1
 have HC0_1 := mk0 hc0_1
 clear hr0_1 hc0_1
 have HR0_2 := mk0 hr0_2
 have HC0_2 := mk0 hc0_2
 clear hr0_2 hc0_2
 have HR1_1 := mk0 hr1_1
 have HC1_1 := mk0 hc1_1
 clear hr1_1 hc1_1
 have HR1_2 := mk0 hr1_2
 have HC1_2 := mk0 hc1_2
 clear hr1_2 hc1_2
 have HB := mk0 (Below.refl w.heap.size w)
 have H : ((examboardref03_top.f k a0_0 l0_1 l0_2).bind fun bt679 => ((examboardref03_low.f k a1_0 l1_1 l1_2).bind fun t683 => ((examboardref02_Make.f k false t683).bind fun bt686 => ((examboardref02_Mul.f k bt679.1 bt679.2 bt686.1 bt686.2).bind fun bt690 => ((examboardref03_top.f k a1_0 l1_1 l1_2).bind fun bt695 => ((examboardref03_low.f k a0_0 l0_1 l0_2).bind fun t699 => ((examboardref02_Make.f k false t699).bind fun bt702 => ((examboardref02_Mul.f k bt695.1 bt695.2 bt702.1 bt702.2).bind fun bt706 => ((examboardref02_Cmp.f k bt690.1 bt690.2 bt706.1 bt706.2).bind fun t711 => (some t711)))))))))) = some r := h
 clear h
 obtain ⟨⟨t679, t680⟩, A3, H⟩ := bindA H
 obtain ⟨t683, A4, H⟩ := bindA H
 obtain ⟨⟨t686, t687⟩, A5, H⟩ := bindA H
 obtain ⟨⟨t690, t691⟩, A6, H⟩ := bindA H
 obtain ⟨⟨t695, t696⟩, A7, H⟩ := bindA H
 obtain ⟨t699, A8, H⟩ := bindA H
 obtain ⟨⟨t702, t703⟩, A9, H⟩ := bindA H
 obtain ⟨⟨t706, t707⟩, A10, H⟩ := bindA H
 obtain ⟨t711, A11, H⟩ := bindA H
 obtain rfl := Option.some.inj H
 go_enter Try.func35, Try.ntmps35
 try go_wp2_with (first | ((with_reducible refine gate_dst (N := 2) rfl ?_); refine box_event rfl (N := 2) rfl (cs := #[.bool a0_0, .slice A0_1 l0_1.length c0_1, .slice A0_2 l0_2.length c0_2]) (t := 29) (by go_simp <;> rfl) ?_; intro gb677 hg w12 hbox hb; have BK677 := mk0 (hbox); have GE677 := geB hg HB; replace HB := hbS HB hb; clear hb hbox hg) | ((with_reducible refine gate_dst (N := 3) rfl ?_); refine box_event rfl (N := 3) rfl (cs := #[.bool a1_0, .slice A1_1 l1_1.length c1_1, .slice A1_2 l1_2.length c1_2]) (t := 29) (by go_simp <;> rfl) ?_; intro gb678 hg w13 hbox hb; have BK678 := mk0 (hbox); have GE678 := geB hg HB; replace HB := hbS HB hb; replace BK677 := bkB BK677 hb; clear hb hbox hg))
 replace BK677 := mk0 (blk_drew BK677.out)
 replace BK678 := mk0 (blk_drew BK678.out)
 replace HB := mk0 (b1 HB.out)
 refine start_ (n := 8) (S := fun w' => True) (ds := []) (bv 8 0) (by kernel_rfl) rfl rfl trivial (fun hHeld => ?_); refine with_tabW examboardref03_Cmp.tab1 examboardref03_Cmp.bits1 (fun HT_ HW_ => ?_)
 generalize w13.drew = w14 at BK677 BK678 HB hHeld ⊢
 refine inv_at [0, 1, 2, 3, 4, 5, 6, 7] (fun a0_ b a w' => ∃ (v681 : Value) (v684 : Value) (v688 : Value) (v692 : Value) (gb694 : Nat) (m1_ : Value) (m4_ : Value) (m5_ : Value) (m6_ : Value), a = putSel a0_ b [(0, 7, .agg #[.bool a0_0, .slice A0_1 l0_1.length c0_1, .slice A0_2 l0_2.length c0_2]), (1, 8, m1_), (2, 9, .agg #[.bool a1_0, .slice A1_1 l1_1.length c1_1, .slice A1_2 l1_2.length c1_2]), (3, 10, v684), (4, 11, m4_), (5, 12, m5_), (6, 5, m6_)] ∧ (w'.heap[gb677]? = some (.cells #[.bool a0_0, .slice A0_1 l0_1.length c0_1, .slice A0_2 l0_2.length c0_2] 29 (0, 0))) ∧ (w'.heap[gb678]? = some (.cells #[.bool a1_0, .slice A1_1 l1_1.length c1_1, .slice A1_2 l1_2.length c1_2] 29 (0, 0))) ∧ (Below w.heap.size w w') ∧ (b 1 = true → Kd.R (Kd.int .u32) 87 w' w.heap.size (fun _ => True) v681 t680) ∧ (b 3 = true → Kd.R (Kd.int .u32) 87 w' w.heap.size (fun _ => True) v684 t683) ∧ (b 4 = true → Kd.R (Kd.int .u32) 87 w' w.heap.size (fun _ => True) v688 t687) ∧ (b 5 = true → Kd.R (Kd.int .u32) 87 w' w.heap.size (fun _ => True) v692 t691) ∧ (b 6 = true → b 7 = false → w'.heap[gb694]? = some (.cells #[.bool false, .slice none 0 0] 27 (0, 0))) ∧ (b 6 = true → w.heap.size ≤ gb694) ∧ (b 6 = true → w.heap.size ≤ gb694) ∧ (b 6 = true → gb677 ≠ gb694) ∧ (b 6 = true → gb694 ≠ gb677) ∧ (b 6 = true → gb678 ≠ gb694) ∧ (b 6 = true → gb694 ≠ gb678) ∧ (b 7 = true → w'.heap[gb694]? = some (.cells #[.bool t690, v692] 27 (0, 0))) ∧ (b 1 = true → (m1_ : Value) = .agg #[.bool t679, v681]) ∧ (b 4 = true → (m4_ : Value) = .agg #[.bool t686, v688]) ∧ (b 5 = true → (m5_ : Value) = .agg #[.bool t690, v692]) ∧ (b 6 = true → (m6_ : Value) = .pointer (some ⟨gb694, 0, none⟩))) HT_.out HW_.out (by kernel_rfl) (by kernel_rfl) ?_ ?_ ?_
 ·exact ⟨.bool false, .bool false, .bool false, .bool false, 0, .bool false, .bool false, .bool false, .bool false, by simp only [putSel, Bool.false_eq_true, if_false], BK677.out, BK678.out, HB.out, fun h_ => absurd h_ (by decide), fun h_ => absurd h_ (by decide), fun h_ => absurd h_ (by decide), fun h_ => absurd h_ (by decide), fun h_ => absurd h_ (by decide), fun h_ => absurd h_ (by decide), fun h_ => absurd h_ (by decide), fun h_ => absurd h_ (by decide), fun h_ => absurd h_ (by decide), fun h_ => absurd h_ (by decide), fun h_ => absurd h_ (by decide), fun h_ => absurd h_ (by decide), fun h_ => absurd h_ (by decide), fun h_ => absurd h_ (by decide), fun h_ => absurd h_ (by decide), fun h_ => absurd h_ (by decide)⟩
 ·skip
  clear BK677 BK678 HB
  refine steps_cons ?_ ?_
  ·rintro b a w' ⟨v681, v684, v688, v692, gb694, m1_, m4_, m5_, m6_, ha, Q_BK677, Q_BK678, Q_HB, Q_HO682, Q_HO685, Q_HO689, Q_HO693, Q_BK694, Q_GW694, Q_GE694, Q_NB677_694, Q_NB694_677, Q_NB678_694, Q_NB694_678, Q_BK694_e7, Q_X1_, Q_X4_, Q_X5_, Q_X6_⟩ hb_ hon hoff
   refine ⟨_, rfl, fun K hK => ?_⟩
   have e2 : a.tmps[2]? = some (.pointer (some ⟨gb677, 0, none⟩)) := by rw [ha]; exact (putSel_off rfl).trans rfl
   replace ha := mk0 ha
   have BK677 := mk0 Q_BK677
   have BK678 := mk0 Q_BK678
   have HB := mk0 Q_HB
   have hc0_ : w'.cell? ⟨gb677, 0, none⟩ = some (.bool a0_0) := (blk_cell BK677.out 0).trans rfl
   have hc1_ : w'.cell? ⟨gb677, 1, none⟩ = some (.slice A0_1 l0_1.length c0_1) := (blk_cell BK677.out 1).trans rfl
   have hc2_ : w'.cell? ⟨gb677, 2, none⟩ = some (.slice A0_2 l0_2.length c0_2) := (blk_cell BK677.out 2).trans rfl
   refine value_ (w1 := w') (v := .agg #[.bool a0_0, .slice A0_1 l0_1.length c0_1, .slice A0_2 l0_2.length c0_2]) (by rfl) rfl ?_ ?_
   ·go_simp
    (try simp only [i64_w])
    try rfl
   refine hK.out _ _ ⟨v681, v684, v688, v692, gb694, m1_, m4_, m5_, m6_, (by rw [ha.out]; exact putSel_upk 0 hb_ rfl rfl rfl), Q_BK677, Q_BK678, Q_HB, fun h0_ => absurd ((hoff 1 (by kernel_rfl)).symm.trans h0_) (by decide), fun h0_ => absurd ((hoff 3 (by kernel_rfl)).symm.trans h0_) (by decide), fun h0_ => absurd ((hoff 4 (by kernel_rfl)).symm.trans h0_) (by decide), fun h0_ => absurd ((hoff 5 (by kernel_rfl)).symm.trans h0_) (by decide), Q_BK694, Q_GW694, Q_GE694, Q_NB677_694, Q_NB694_677, Q_NB678_694, Q_NB694_678, fun h0_ => absurd ((hoff 7 (by kernel_rfl)).symm.trans h0_) (by decide), fun h0_ => absurd ((hoff 1 (by kernel_rfl)).symm.trans h0_) (by decide), fun h0_ => absurd ((hoff 4 (by kernel_rfl)).symm.trans h0_) (by decide), fun h0_ => absurd ((hoff 5 (by kernel_rfl)).symm.trans h0_) (by decide), Q_X6_⟩
  refine steps_cons ?_ ?_
  ·rintro b a w' ⟨v681, v684, v688, v692, gb694, m1_, m4_, m5_, m6_, ha, Q_BK677, Q_BK678, Q_HB, Q_HO682, Q_HO685, Q_HO689, Q_HO693, Q_BK694, Q_GW694, Q_GE694, Q_NB677_694, Q_NB694_677, Q_NB678_694, Q_NB694_678, Q_BK694_e7, Q_X1_, Q_X4_, Q_X5_, Q_X6_⟩ hb_ hon hoff
   refine ⟨_, rfl, fun K hK => ?_⟩
   have e7 : a.tmps[7]? = some (.agg #[.bool a0_0, .slice A0_1 l0_1.length c0_1, .slice A0_2 l0_2.length c0_2]) := by rw [ha]; exact putSel_on (e := (0, 7, .agg #[.bool a0_0, .slice A0_1 l0_1.length c0_1, .slice A0_2 l0_2.length c0_2])) 0 rfl rfl (hon 0 (by kernel_rfl)) rfl
   replace ha := mk0 ha
   have BK677 := mk0 Q_BK677
   have BK678 := mk0 Q_BK678
   have HB := mk0 Q_HB
   refine goes_ Try.func59 (by kernel_rfl) rfl #[.agg #[.bool a0_0, .slice A0_1 l0_1.length c0_1, .slice A0_2 l0_2.length c0_2]] (by rfl) rfl rfl (by first | (simp only [mA, mC, mN, Act.eval, Array.getD_eq_getD_getElem?, Option.getD_some, e7]; done) | (simp only [mA, mC, mN, Act.eval, Array.getD_eq_getD_getElem?, Option.getD_some, e7]; rfl)) ?_
   with_reducible refine (examboardref03_top.calls k a0_0 _ _ l0_1 _ _ l0_2 t679 t680 _ ?side1 ?side2 ?side3 ?side4 A3.out).mono ?_
   (case side1 => exact (Cb HR0_1.out HB.out))
   (case side2 => exact HC0_1.out)
   (case side3 => exact (Cb HR0_2.out HB.out))
   (case side4 => exact HC0_2.out)
   rintro e w15 ⟨v681, rfl, ho0, hb⟩
   refine ⟨_, rfl, ?_⟩
   have n0_ := mk0 (Rl ho0 (bZ HB.out))
   have n1_ := bkB BK677 hb
   have n2_ := bkB BK678 hb
   have n3_ := mk0 (below_step HB.out hb)
   have z_BK694 := fun (h0_ : b 6 = true) (h1_ : b 7 = false) => (show w15.heap[gb694]? = some (.cells #[.bool false, .slice none 0 0] 27 (0, 0)) from by first | exact (blk_below (g := gb694) ((Q_BK694 h0_ h1_)) hb))
   clear BK677
   clear BK678
   clear HB
   have HO682 := n0_
   have BK677 := n1_
   have BK678 := n2_
   have HB := n3_
   clear n0_ n1_ n2_ n3_
   refine hK.out _ _ ⟨v681, v684, v688, v692, gb694, (.agg #[.bool t679, v681]), m4_, m5_, m6_, (by rw [ha.out]; exact putSel_upk 1 hb_ rfl rfl rfl), BK677.out, BK678.out, HB.out, fun _ => HO682.out, fun h0_ => absurd ((hoff 3 (by kernel_rfl)).symm.trans h0_) (by decide), fun h0_ => absurd ((hoff 4 (by kernel_rfl)).symm.trans h0_) (by decide), fun h0_ => absurd ((hoff 5 (by kernel_rfl)).symm.trans h0_) (by decide), z_BK694, Q_GW694, Q_GE694, Q_NB677_694, Q_NB694_677, Q_NB678_694, Q_NB694_678, fun h0_ => absurd ((hoff 7 (by kernel_rfl)).symm.trans h0_) (by decide), fun _ => rfl, fun h0_ => absurd ((hoff 4 (by kernel_rfl)).symm.trans h0_) (by decide), fun h0_ => absurd ((hoff 5 (by kernel_rfl)).symm.trans h0_) (by decide), Q_X6_⟩
  refine steps_cons ?_ ?_
  ·rintro b a w' ⟨v681, v684, v688, v692, gb694, m1_, m4_, m5_, m6_, ha, Q_BK677, Q_BK678, Q_HB, Q_HO682, Q_HO685, Q_HO689, Q_HO693, Q_BK694, Q_GW694, Q_GE694, Q_NB677_694, Q_NB694_677, Q_NB678_694, Q_NB694_678, Q_BK694_e7, Q_X1_, Q_X4_, Q_X5_, Q_X6_⟩ hb_ hon hoff
   refine ⟨_, rfl, fun K hK => ?_⟩
   have e3 : a.tmps[3]? = some (.pointer (some ⟨gb678, 0, none⟩)) := by rw [ha]; exact (putSel_off rfl).trans rfl
   replace ha := mk0 ha
   have BK677 := mk0 Q_BK677
   have BK678 := mk0 Q_BK678
   have HB := mk0 Q_HB
   have hc0_ : w'.cell? ⟨gb678, 0, none⟩ = some (.bool a1_0) := (blk_cell BK678.out 0).trans rfl
   have hc1_ : w'.cell? ⟨gb678, 1, none⟩ = some (.slice A1_1 l1_1.length c1_1) := (blk_cell BK678.out 1).trans rfl
   have hc2_ : w'.cell? ⟨gb678, 2, none⟩ = some (.slice A1_2 l1_2.length c1_2) := (blk_cell BK678.out 2).trans rfl
   refine value_ (w1 := w') (v := .agg #[.bool a1_0, .slice A1_1 l1_1.length c1_1, .slice A1_2 l1_2.length c1_2]) (by rfl) rfl ?_ ?_
   ·go_simp
    (try simp only [i64_w])
    try rfl
   refine hK.out _ _ ⟨v681, v684, v688, v692, gb694, m1_, m4_, m5_, m6_, (by rw [ha.out]; exact putSel_upk 2 hb_ rfl rfl rfl), Q_BK677, Q_BK678, Q_HB, Q_HO682, fun h0_ => absurd ((hoff 3 (by kernel_rfl)).symm.trans h0_) (by decide), fun h0_ => absurd ((hoff 4 (by kernel_rfl)).symm.trans h0_) (by decide), fun h0_ => absurd ((hoff 5 (by kernel_rfl)).symm.trans h0_) (by decide), Q_BK694, Q_GW694, Q_GE694, Q_NB677_694, Q_NB694_677, Q_NB678_694, Q_NB694_678, fun h0_ => absurd ((hoff 7 (by kernel_rfl)).symm.trans h0_) (by decide), Q_X1_, fun h0_ => absurd ((hoff 4 (by kernel_rfl)).symm.trans h0_) (by decide), fun h0_ => absurd ((hoff 5 (by kernel_rfl)).symm.trans h0_) (by decide), Q_X6_⟩
  refine steps_cons ?_ ?_
  ·rintro b a w' ⟨v681, v684, v688, v692, gb694, m1_, m4_, m5_, m6_, ha, Q_BK677, Q_BK678, Q_HB, Q_HO682, Q_HO685, Q_HO689, Q_HO693, Q_BK694, Q_GW694, Q_GE694, Q_NB677_694, Q_NB694_677, Q_NB678_694, Q_NB694_678, Q_BK694_e7, Q_X1_, Q_X4_, Q_X5_, Q_X6_⟩ hb_ hon hoff
   refine ⟨_, rfl, fun K hK => ?_⟩
   have e9 : a.tmps[9]? = some (.agg #[.bool a1_0, .slice A1_1 l1_1.length c1_1, .slice A1_2 l1_2.length c1_2]) := by rw [ha]; exact putSel_on (e := (2, 9, .agg #[.bool a1_0, .slice A1_1 l1_1.length c1_1, .slice A1_2 l1_2.length c1_2])) 2 rfl rfl (hon 2 (by kernel_rfl)) rfl
   replace ha := mk0 ha
   have BK677 := mk0 Q_BK677
   have BK678 := mk0 Q_BK678
   have HB := mk0 Q_HB
   have HO682 := mk0 (Q_HO682 (hon 1 (by kernel_rfl)))
   refine goes_ Try.func61 (by kernel_rfl) rfl #[.agg #[.bool a1_0, .slice A1_1 l1_1.length c1_1, .slice A1_2 l1_2.length c1_2]] (by rfl) rfl rfl (by first | (simp only [mA, mC, mN, Act.eval, Array.getD_eq_getD_getElem?, Option.getD_some, e9]; done) | (simp only [mA, mC, mN, Act.eval, Array.getD_eq_getD_getElem?, Option.getD_some, e9]; rfl)) ?_
   with_reducible refine (examboardref03_low.calls k a1_0 _ _ l1_1 _ _ l1_2 t683 _ ?side1 ?side2 ?side3 ?side4 A4.out).mono ?_
   (case side1 => exact (Cb HR1_1.out HB.out))
   (case side2 => exact HC1_1.out)
   (case side3 => exact (Cb HR1_2.out HB.out))
   (case side4 => exact HC1_2.out)
   rintro e w17 ⟨v684, rfl, ho0, hb⟩
   refine ⟨_, rfl, ?_⟩
   have n0_ := mk0 (Re HO682.out (Rs ho0) hb)
   have n1_ := mk0 (Rl (Rn ho0 (Rq HO682.out)) (bZ HB.out))
   have n2_ := bkB BK677 hb
   have n3_ := bkB BK678 hb
   have n4_ := mk0 (below_step HB.out hb)
   have z_BK694 := fun (h0_ : b 6 = true) (h1_ : b 7 = false) => (show w17.heap[gb694]? = some (.cells #[.bool false, .slice none 0 0] 27 (0, 0)) from by first | exact (blk_below (g := gb694) ((Q_BK694 h0_ h1_)) hb))
   clear HO682
   clear BK677
   clear BK678
   clear HB
   have HO682 := n0_
   have HO685 := n1_
   have BK677 := n2_
   have BK678 := n3_
   have HB := n4_
   clear n0_ n1_ n2_ n3_ n4_
   refine hK.out _ _ ⟨v681, v684, v688, v692, gb694, m1_, m4_, m5_, m6_, (by rw [ha.out]; exact putSel_upk 3 hb_ rfl rfl rfl), BK677.out, BK678.out, HB.out, fun _ => (Rm HO682.out tv), fun _ => (Rm HO685.out tv), fun h0_ => absurd ((hoff 4 (by kernel_rfl)).symm.trans h0_) (by decide), fun h0_ => absurd ((hoff 5 (by kernel_rfl)).symm.trans h0_) (by decide), z_BK694, Q_GW694, Q_GE694, Q_NB677_694, Q_NB694_677, Q_NB678_694, Q_NB694_678, fun h0_ => absurd ((hoff 7 (by kernel_rfl)).symm.trans h0_) (by decide), Q_X1_, fun h0_ => absurd ((hoff 4 (by kernel_rfl)).symm.trans h0_) (by decide), fun h0_ => absurd ((hoff 5 (by kernel_rfl)).symm.trans h0_) (by decide), Q_X6_⟩
  refine steps_cons ?_ ?_
  ·rintro b a w' ⟨v681, v684, v688, v692, gb694, m1_, m4_, m5_, m6_, ha, Q_BK677, Q_BK678, Q_HB, Q_HO682, Q_HO685, Q_HO689, Q_HO693, Q_BK694, Q_GW694, Q_GE694, Q_NB677_694, Q_NB694_677, Q_NB678_694, Q_NB694_678, Q_BK694_e7, Q_X1_, Q_X4_, Q_X5_, Q_X6_⟩ hb_ hon hoff
   refine ⟨_, rfl, fun K hK => ?_⟩
   have e10 : a.tmps[10]? = some (v684) := by rw [ha]; exact putSel_on (e := (3, 10, v684)) 3 rfl rfl (hon 3 (by kernel_rfl)) rfl
   replace ha := mk0 ha
   have BK677 := mk0 Q_BK677
   have BK678 := mk0 Q_BK678
   have HB := mk0 Q_HB
   have HO682 := mk0 (Q_HO682 (hon 1 (by kernel_rfl)))
   have HO685 := mk0 (Q_HO685 (hon 3 (by kernel_rfl)))
   obtain ⟨Ao18, co18, eo18⟩ := Kd.R_slice HO685.out
   (first | subst eo18 | (injection eo18 with f1_ f2_ f3_; have f4_ := f1_.symm; have f5_ := f3_.symm; clear f1_ f2_ f3_; subst f4_; subst f5_))
   refine goes_ Try.func62 (by kernel_rfl) rfl #[.bool false, .slice Ao18 t683.length co18] (by rfl) rfl rfl (by first | (simp only [mA, mC, mN, Act.eval, Array.getD_eq_getD_getElem?, Option.getD_some, e10]; done) | (simp only [mA, mC, mN, Act.eval, Array.getD_eq_getD_getElem?, Option.getD_some, e10]; rfl)) ?_
   with_reducible refine (examboardref02_Make.calls k false _ _ t683 t686 t687 _ ?side1 ?side2 A5.out).mono ?_
   (case side1 => exact (Kd.R_reads' HO685.out).2.2)
   (case side2 => exact (Kd.R_reads' HO685.out).2.1)
   rintro e w19 ⟨v688, rfl, ho0, hb⟩
   refine ⟨_, rfl, ?_⟩
   have n0_ := mk0 (Re HO682.out (Rs ho0) hb)
   have n1_ := mk0 (Re HO685.out (Rs ho0) hb)
   have n2_ := mk0 (Rl (Rn (Rn ho0 (Rq HO682.out)) (Rq HO685.out)) (bZ HB.out))
   have n3_ := bkB BK677 hb
   have n4_ := bkB BK678 hb
   have n5_ := mk0 (below_step HB.out hb)
   have z_BK694 := fun (h0_ : b 6 = true) (h1_ : b 7 = false) => (show w19.heap[gb694]? = some (.cells #[.bool false, .slice none 0 0] 27 (0, 0)) from by first | exact (blk_below (g := gb694) ((Q_BK694 h0_ h1_)) hb))
   clear HO682
   clear HO685
   clear BK677
   clear BK678
   clear HB
   have HO682 := n0_
   have HO685 := n1_
   have HO689 := n2_
   have BK677 := n3_
   have BK678 := n4_
   have HB := n5_
   clear n0_ n1_ n2_ n3_ n4_ n5_
   refine hK.out _ _ ⟨v681, .slice Ao18 t683.length co18, v688, v692, gb694, m1_, (.agg #[.bool t686, v688]), m5_, m6_, (by rw [ha.out]; exact putSel_upk 4 hb_ rfl rfl rfl), BK677.out, BK678.out, HB.out, fun _ => (Rm HO682.out tv), fun _ => (Rm HO685.out tv), fun _ => (Rm HO689.out tv), fun h0_ => absurd ((hoff 5 (by kernel_rfl)).symm.trans h0_) (by decide), z_BK694, Q_GW694, Q_GE694, Q_NB677_694, Q_NB694_677, Q_NB678_694, Q_NB694_678, fun h0_ => absurd ((hoff 7 (by kernel_rfl)).symm.trans h0_) (by decide), Q_X1_, fun _ => rfl, fun h0_ => absurd ((hoff 5 (by kernel_rfl)).symm.trans h0_) (by decide), Q_X6_⟩
  refine steps_cons ?_ ?_
  ·rintro b a w' ⟨v681, v684, v688, v692, gb694, m1_, m4_, m5_, m6_, ha, Q_BK677, Q_BK678, Q_HB, Q_HO682, Q_HO685, Q_HO689, Q_HO693, Q_BK694, Q_GW694, Q_GE694, Q_NB677_694, Q_NB694_677, Q_NB678_694, Q_NB694_678, Q_BK694_e7, Q_X1_, Q_X4_, Q_X5_, Q_X6_⟩ hb_ hon hoff
   refine ⟨_, rfl, fun K hK => ?_⟩
   have e8 : a.tmps[8]? = some (m1_) := by rw [ha]; exact putSel_on (e := (1, 8, m1_)) 1 rfl rfl (hon 1 (by kernel_rfl)) rfl
   rw [Q_X1_ (hon 1 (by kernel_rfl))] at e8
   have e11 : a.tmps[11]? = some (m4_) := by rw [ha]; exact putSel_on (e := (4, 11, m4_)) 4 rfl rfl (hon 4 (by kernel_rfl)) rfl
   rw [Q_X4_ (hon 4 (by kernel_rfl))] at e11
   replace ha := mk0 ha
   have BK677 := mk0 Q_BK677
   have BK678 := mk0 Q_BK678
   have HB := mk0 Q_HB
   have HO682 := mk0 (Q_HO682 (hon 1 (by kernel_rfl)))
   have HO685 := mk0 (Q_HO685 (hon 3 (by kernel_rfl)))
   have HO689 := mk0 (Q_HO689 (hon 4 (by kernel_rfl)))
   obtain ⟨Ao20, co20, eo20⟩ := Kd.R_slice HO682.out
   (first | subst eo20 | (injection eo20 with f1_ f2_ f3_; have f4_ := f1_.symm; have f5_ := f3_.symm; clear f1_ f2_ f3_; subst f4_; subst f5_))
   obtain ⟨Ao21, co21, eo21⟩ := Kd.R_slice HO689.out
   (first | subst eo21 | (injection eo21 with f1_ f2_ f3_; have f4_ := f1_.symm; have f5_ := f3_.symm; clear f1_ f2_ f3_; subst f4_; subst f5_))
   refine goes_ Try.func58 (by kernel_rfl) rfl #[.agg #[.bool t679, .slice Ao20 t680.length co20], .agg #[.bool t686, .slice Ao21 t687.length co21]] (by rfl) rfl rfl (by first | (simp only [mA, mC, mN, Act.eval, Array.getD_eq_getD_getElem?, Option.getD_some, e8, e11]; done) | (simp only [mA, mC, mN, Act.eval, Array.getD_eq_getD_getElem?, Option.getD_some, e8, e11]; rfl)) ?_
   with_reducible refine (examboardref02_Mul.calls k t679 _ _ t680 t686 _ _ t687 t690 t691 _ ?side1 ?side2 ?side3 ?side4 A6.out).mono ?_
   (case side1 => exact (Kd.R_reads' HO682.out).2.2)
   (case side2 => exact (Kd.R_reads' HO682.out).2.1)
   (case side3 => exact (Kd.R_reads' HO689.out).2.2)
   (case side4 => exact (Kd.R_reads' HO689.out).2.1)
   rintro e w22 ⟨v692, rfl, ho0, hb⟩
   refine ⟨_, rfl, ?_⟩
   have n0_ := mk0 (Re HO682.out (Rs ho0) hb)
   have n1_ := mk0 (Re HO685.out (Rs ho0) hb)
   have n2_ := mk0 (Re HO689.out (Rs ho0) hb)
   have n3_ := mk0 (Rl (Rn (Rn (Rn ho0 (Rq HO682.out)) (Rq HO685.out)) (Rq HO689.out)) (bZ (by repeat (first | exact HB.out | apply bN | apply b1 | apply bA | refine bS ?_ GE677.out | refine bS ?_ GE678.out))))
   have n4_ := bkB BK677 hb
   have n5_ := bkB BK678 hb
   have n6_ := mk0 (below_step (by repeat (first | exact HB.out | apply bN | apply b1 | apply bA | refine bS ?_ GE677.out | refine bS ?_ GE678.out)) hb)
   have z_BK694 := fun (h0_ : b 6 = true) (h1_ : b 7 = false) => (show w22.heap[gb694]? = some (.cells #[.bool false, .slice none 0 0] 27 (0, 0)) from by first | exact (blk_below (g := gb694) ((Q_BK694 h0_ h1_)) hb))
   clear HO682
   clear HO685
   clear HO689
   clear BK677
   clear BK678
   clear HB
   have HO682 := n0_
   have HO685 := n1_
   have HO689 := n2_
   have HO693 := n3_
   have BK677 := n4_
   have BK678 := n5_
   have HB := n6_
   clear n0_ n1_ n2_ n3_ n4_ n5_ n6_
   refine hK.out _ _ ⟨.slice Ao20 t680.length co20, v684, .slice Ao21 t687.length co21, v692, gb694, m1_, m4_, (.agg #[.bool t690, v692]), m6_, (by rw [ha.out]; exact putSel_upk 5 hb_ rfl rfl rfl), BK677.out, BK678.out, (by repeat (first | exact HB.out | apply bN | apply b1 | apply bA | refine bS ?_ GE677.out | refine bS ?_ GE678.out)), fun _ => (Rm HO682.out tv), fun _ => (Rm HO685.out tv), fun _ => (Rm HO689.out tv), fun _ => (Rm HO693.out tv), z_BK694, Q_GW694, Q_GE694, Q_NB677_694, Q_NB694_677, Q_NB678_694, Q_NB694_678, fun h0_ => absurd ((hoff 7 (by kernel_rfl)).symm.trans h0_) (by decide), Q_X1_, Q_X4_, fun _ => rfl, Q_X6_⟩
  refine steps_cons ?_ ?_
  ·rintro b a w' ⟨v681, v684, v688, v692, gb694, m1_, m4_, m5_, m6_, ha, Q_BK677, Q_BK678, Q_HB, Q_HO682, Q_HO685, Q_HO689, Q_HO693, Q_BK694, Q_GW694, Q_GE694, Q_NB677_694, Q_NB694_677, Q_NB678_694, Q_NB694_678, Q_BK694_e7, Q_X1_, Q_X4_, Q_X5_, Q_X6_⟩ hb_ hon hoff
   refine ⟨_, rfl, fun K hK => ?_⟩
   replace ha := mk0 ha
   have BK677 := mk0 Q_BK677
   have BK678 := mk0 Q_BK678
   have HB := mk0 Q_HB
   refine box_step ?hg (N := 5) ?hd (cs := #[.bool false, .slice none 0 0]) (t := 27) ?hr ?_; (case hd => rfl); (case hg => rfl); (case hr => go_simp <;> rfl)
   intro gb694 hg w15 hbox hb
   have n0_ := bkB BK677 hb
   have n1_ := bkB BK678 hb
   have n2_ := mk0 (below_step (by repeat (first | exact HB.out | apply bN | apply b1 | apply bA | refine bS ?_ GE677.out | refine bS ?_ GE678.out)) hb)
   have n3_ := mk0 (hbox)
   have n4_ := mk0 ((by rw [hg]; exact (bZ (by repeat (first | exact HB.out | apply bN | apply b1 | apply bA | refine bS ?_ GE677.out | refine bS ?_ GE678.out))) : w.heap.size ≤ gb694))
   have n5_ := mk0 ((by rw [hg]; exact (bZ (by repeat (first | exact HB.out | apply bN | apply b1 | apply bA | refine bS ?_ GE677.out | refine bS ?_ GE678.out))) : w.heap.size ≤ gb694))
   have n6_ := nbA hg BK677
   have n7_ := nbB hg BK677
   have n8_ := nbA hg BK678
   have n9_ := nbB hg BK678
   have z_HO682 := fun (h0_ : b 1 = true) => (show Kd.R (Kd.int .u32) 87 w15 w.heap.size (fun _ => True) v681 t680 from by first | exact (Rb ((Q_HO682 h0_)) hb) | exact Rm (Rb ((Q_HO682 h0_)) hb) tv)
   have z_HO685 := fun (h0_ : b 3 = true) => (show Kd.R (Kd.int .u32) 87 w15 w.heap.size (fun _ => True) v684 t683 from by first | exact (Rb ((Q_HO685 h0_)) hb) | exact Rm (Rb ((Q_HO685 h0_)) hb) tv)
   have z_HO689 := fun (h0_ : b 4 = true) => (show Kd.R (Kd.int .u32) 87 w15 w.heap.size (fun _ => True) v688 t687 from by first | exact (Rb ((Q_HO689 h0_)) hb) | exact Rm (Rb ((Q_HO689 h0_)) hb) tv)
   have z_HO693 := fun (h0_ : b 5 = true) => (show Kd.R (Kd.int .u32) 87 w15 w.heap.size (fun _ => True) v692 t691 from by first | exact (Rb ((Q_HO693 h0_)) hb) | exact Rm (Rb ((Q_HO693 h0_)) hb) tv)
   clear BK677
   clear BK678
   clear HB
   have BK677 := n0_
   have BK678 := n1_
   have HB := n2_
   have BK694 := n3_
   have GW694 := n4_
   have GE694 := n5_
   have NB677_694 := n6_
   have NB694_677 := n7_
   have NB678_694 := n8_
   have NB694_678 := n9_
   clear n0_ n1_ n2_ n3_ n4_ n5_ n6_ n7_ n8_ n9_
   clear hb hbox hg
   refine hK.out _ _ ⟨v681, v684, v688, v692, gb694, m1_, m4_, m5_, (.pointer (some ⟨gb694, 0, none⟩)), (by rw [ha.out]; exact putSel_upk 6 hb_ rfl rfl rfl), BK677.out, BK678.out, (by repeat (first | exact HB.out | apply bN | apply b1 | apply bA | refine bS ?_ GE677.out | refine bS ?_ GE678.out | refine bS ?_ GE694.out)), z_HO682, z_HO685, z_HO689, z_HO693, fun _ _ => BK694.out, fun _ => GW694.out, fun _ => GE694.out, fun _ => NB677_694.out, fun _ => NB694_677.out, fun _ => NB678_694.out, fun _ => NB694_678.out, fun h0_ => absurd ((hoff 7 (by kernel_rfl)).symm.trans h0_) (by decide), Q_X1_, Q_X4_, Q_X5_, fun _ => rfl⟩
  refine steps_cons ?_ ?_
  ·rintro b a w' ⟨v681, v684, v688, v692, gb694, m1_, m4_, m5_, m6_, ha, Q_BK677, Q_BK678, Q_HB, Q_HO682, Q_HO685, Q_HO689, Q_HO693, Q_BK694, Q_GW694, Q_GE694, Q_NB677_694, Q_NB694_677, Q_NB678_694, Q_NB694_678, Q_BK694_e7, Q_X1_, Q_X4_, Q_X5_, Q_X6_⟩ hb_ hon hoff
   refine ⟨_, rfl, fun K hK => ?_⟩
   have e5 : a.tmps[5]? = some (m6_) := by rw [ha]; exact putSel_on (e := (6, 5, m6_)) 6 rfl rfl (hon 6 (by kernel_rfl)) rfl
   rw [Q_X6_ (hon 6 (by kernel_rfl))] at e5
   have e12 : a.tmps[12]? = some (m5_) := by rw [ha]; exact putSel_on (e := (5, 12, m5_)) 5 rfl rfl (hon 5 (by kernel_rfl)) rfl
   rw [Q_X5_ (hon 5 (by kernel_rfl))] at e12
   replace ha := mk0 ha
   have BK677 := mk0 Q_BK677
   have BK678 := mk0 Q_BK678
   have HB := mk0 Q_HB
   have HO682 := mk0 (Q_HO682 (hon 1 (by kernel_rfl)))
   have HO685 := mk0 (Q_HO685 (hon 3 (by kernel_rfl)))
   have HO689 := mk0 (Q_HO689 (hon 4 (by kernel_rfl)))
   have HO693 := mk0 (Q_HO693 (hon 5 (by kernel_rfl)))
   have BK694 := mk0 (Q_BK694 (hon 6 (by kernel_rfl)) hb_)
   have GW694 := mk0 (Q_GW694 (hon 6 (by kernel_rfl)))
   have GE694 := mk0 (Q_GE694 (hon 6 (by kernel_rfl)))
   have NB677_694 := mk0 (Q_NB677_694 (hon 6 (by kernel_rfl)))
   have NB694_677 := mk0 (Q_NB694_677 (hon 6 (by kernel_rfl)))
   have NB678_694 := mk0 (Q_NB678_694 (hon 6 (by kernel_rfl)))
   have NB694_678 := mk0 (Q_NB694_678 (hon 6 (by kernel_rfl)))
   obtain ⟨Ao25, co25, eo25⟩ := Kd.R_slice HO693.out
   (first | subst eo25 | (injection eo25 with f1_ f2_ f3_; have f4_ := f1_.symm; have f5_ := f3_.symm; clear f1_ f2_ f3_; subst f4_; subst f5_))
   have hs24 : w'.cell? ⟨gb694, 0, none⟩ = some (.bool false) := (blk_cell BK694.out 0).trans rfl
   have hfs24 := blk_frozen BK694.out 0
   have hns24_0 := NB677_694.out
   have hns24_1 := NB678_694.out
   have hms24_0 := NB694_677.out
   have hms24_1 := NB694_678.out
   have hs26 : w'.cell? ⟨gb694, 1, none⟩ = some (.slice none 0 0) := (blk_cell BK694.out 1).trans rfl
   have hfs26 := blk_frozen BK694.out 1
   have hns26_0 := NB677_694.out
   have hns26_1 := NB678_694.out
   have hms26_0 := NB694_677.out
   have hms26_1 := NB694_678.out
   refine skip_ (w1 := ?_) (by rfl) rfl ?_ ?_
   rotate_left
   ·go_simp
    rfl
   refine hK.out _ _ ⟨v681, v684, v688, .slice Ao25 t691.length co25, gb694, m1_, m4_, m5_, m6_, (by rw [ha.out]; exact putSel_none (v := undef) rfl), (by refine blk_far ?_ NB677_694.out _; refine blk_far ?_ NB677_694.out _; exact BK677.out), (by refine blk_far ?_ NB678_694.out _; refine blk_far ?_ NB678_694.out _; exact BK678.out), (by repeat (first | exact HB.out | apply bN | apply b1 | apply bA | refine bS ?_ GE677.out | refine bS ?_ GE678.out | refine bS ?_ GE694.out)), fun _ => (Rm (Rg 1 (Rg 0 (Rd HO682.out BK694) (.bool t690)) (.slice Ao25 t691.length co25)) tv), fun _ => (Rm (Rg 1 (Rg 0 (Rd HO685.out BK694) (.bool t690)) (.slice Ao25 t691.length co25)) tv), fun _ => (Rm (Rg 1 (Rg 0 (Rd HO689.out BK694) (.bool t690)) (.slice Ao25 t691.length co25)) tv), fun _ => (Rm (Rg 1 (Rg 0 (Rd HO693.out BK694) (.bool t690)) (.slice Ao25 t691.length co25)) tv), fun _ h1_ => absurd ((up_self b 7).symm.trans h1_) (by decide), fun _ => GW694.out, fun _ => GE694.out, fun _ => NB677_694.out, fun _ => NB694_677.out, fun _ => NB678_694.out, fun _ => NB694_678.out, fun _ => (by refine blk_put (cs := #[.bool t690, .slice none 0 0]) ?_ 1 _ rfl; refine blk_put (cs := #[.bool false, .slice none 0 0]) ?_ 0 _ rfl; exact BK694.out), Q_X1_, Q_X4_, Q_X5_, Q_X6_⟩
  exact steps_nil
 rintro b a w26 hall ⟨v681, v684, v688, v692, gb694, m1_, m4_, m5_, m6_, ha, Q_BK677, Q_BK678, Q_HB, Q_HO682, Q_HO685, Q_HO689, Q_HO693, Q_BK694, Q_GW694, Q_GE694, Q_NB677_694, Q_NB694_677, Q_NB678_694, Q_NB694_678, Q_BK694_e7, Q_X1_, Q_X4_, Q_X5_, Q_X6_⟩
 clear BK677 BK678 HB
 have hb0_ := hall 0 (by kernel_rfl)
 have hb1_ := hall 1 (by kernel_rfl)
 have hb2_ := hall 2 (by kernel_rfl)
 have hb3_ := hall 3 (by kernel_rfl)
 have hb4_ := hall 4 (by kernel_rfl)
 have hb5_ := hall 5 (by kernel_rfl)
 have hb6_ := hall 6 (by kernel_rfl)
 have hb7_ := hall 7 (by kernel_rfl)
 subst ha
 obtain rfl := Q_X1_ hb1_
 obtain rfl := Q_X4_ hb4_
 obtain rfl := Q_X5_ hb5_
 obtain rfl := Q_X6_ hb6_
 simp only [putSel, hb0_, hb1_, hb2_, hb3_, hb4_, hb5_, hb6_, hb7_, if_true, Act.put, sA, sZ, sS]
 have BK677 := mk0 Q_BK677
 clear Q_BK677
 have BK678 := mk0 Q_BK678
 clear Q_BK678
 have HB := mk0 Q_HB
 clear Q_HB
 have HO682 := mk0 (Q_HO682 hb1_)
 clear Q_HO682
 have HO685 := mk0 (Q_HO685 hb3_)
 clear Q_HO685
 have HO689 := mk0 (Q_HO689 hb4_)
 clear Q_HO689
 have HO693 := mk0 (Q_HO693 hb5_)
 clear Q_HO693
 clear Q_BK694
 have GW694 := mk0 (Q_GW694 hb6_)
 clear Q_GW694
 have GE694 := mk0 (Q_GE694 hb6_)
 clear Q_GE694
 have NB677_694 := mk0 (Q_NB677_694 hb6_)
 clear Q_NB677_694
 have NB694_677 := mk0 (Q_NB694_677 hb6_)
 clear Q_NB694_677
 have NB678_694 := mk0 (Q_NB678_694 hb6_)
 clear Q_NB678_694
 have NB694_678 := mk0 (Q_NB694_678 hb6_)
 clear Q_NB694_678
 have BK694 := mk0 (Q_BK694_e7 hb7_)
 clear Q_BK694_e7
 clear hall hb0_ hb1_ hb2_ hb3_ hb4_ hb5_ hb6_ hb7_
 try go_wp2
 replace HO682 := mk0 (Kd.R_drew HO682.out)
 replace HO685 := mk0 (Kd.R_drew HO685.out)
 replace HO689 := mk0 (Kd.R_drew HO689.out)
 replace HO693 := mk0 (Kd.R_drew HO693.out)
 replace BK677 := mk0 (blk_drew BK677.out)
 replace BK678 := mk0 (blk_drew BK678.out)
 replace BK694 := mk0 (blk_drew BK694.out)
 replace HB := mk0 (b1 HB.out)
 refine start_ (n := 8) (S := fun w' => True) (ds := []) (bv 8 0) (by kernel_rfl) rfl rfl trivial (fun hHeld => ?_); refine with_tabW examboardref03_Cmp.tab2 examboardref03_Cmp.bits2 (fun HT_ HW_ => ?_)
 generalize w26.drew = w27 at HO682 HO685 HO689 HO693 BK677 BK678 BK694 HB hHeld ⊢
 refine inv_at [0, 1, 2, 3, 4, 5, 6, 7] (fun a0_ b a w' => ∃ (v697 : Value) (v700 : Value) (v704 : Value) (v708 : Value) (gb710 : Nat) (m1_ : Value) (m4_ : Value) (m5_ : Value) (m6_ : Value), a = putSel a0_ b [(0, 13, .agg #[.bool a1_0, .slice A1_1 l1_1.length c1_1, .slice A1_2 l1_2.length c1_2]), (1, 14, m1_), (2, 15, .agg #[.bool a0_0, .slice A0_1 l0_1.length c0_1, .slice A0_2 l0_2.length c0_2]), (3, 16, v700), (4, 17, m4_), (5, 18, m5_), (6, 6, m6_)] ∧ (Kd.R (Kd.int .u32) 87 w' w.heap.size (fun _ => True) v681 t680) ∧ (Kd.R (Kd.int .u32) 87 w' w.heap.size (fun _ => True) v684 t683) ∧ (Kd.R (Kd.int .u32) 87 w' w.heap.size (fun _ => True) v688 t687) ∧ (Kd.R (Kd.int .u32) 87 w' w.heap.size (fun _ => True) v692 t691) ∧ (w'.heap[gb677]? = some (.cells #[.bool a0_0, .slice A0_1 l0_1.length c0_1, .slice A0_2 l0_2.length c0_2] 29 (0, 0))) ∧ (w'.heap[gb678]? = some (.cells #[.bool a1_0, .slice A1_1 l1_1.length c1_1, .slice A1_2 l1_2.length c1_2] 29 (0, 0))) ∧ (w'.heap[gb694]? = some (.cells #[.bool t690, v692] 27 (0, 0))) ∧ (Below w.heap.size w w') ∧ (b 1 = true → Kd.R (Kd.int .u32) 87 w' w.heap.size (fun _ => True) v697 t696) ∧ (b 3 = true → Kd.R (Kd.int .u32) 87 w' w.heap.size (fun _ => True) v700 t699) ∧ (b 4 = true → Kd.R (Kd.int .u32) 87 w' w.heap.size (fun _ => True) v704 t703) ∧ (b 5 = true → Kd.R (Kd.int .u32) 87 w' w.heap.size (fun _ => True) v708 t707) ∧ (b 6 = true → b 7 = false → w'.heap[gb710]? = some (.cells #[.bool false, .slice none 0 0] 27 (0, 0))) ∧ (b 6 = true → w.heap.size ≤ gb710) ∧ (b 6 = true → w.heap.size ≤ gb710) ∧ (b 6 = true → gb677 ≠ gb710) ∧ (b 6 = true → gb710 ≠ gb677) ∧ (b 6 = true → gb678 ≠ gb710) ∧ (b 6 = true → gb710 ≠ gb678) ∧ (b 6 = true → gb694 ≠ gb710) ∧ (b 6 = true → gb710 ≠ gb694) ∧ (b 7 = true → w'.heap[gb710]? = some (.cells #[.bool t706, v708] 27 (0, 0))) ∧ (b 1 = true → (m1_ : Value) = .agg #[.bool t695, v697]) ∧ (b 4 = true → (m4_ : Value) = .agg #[.bool t702, v704]) ∧ (b 5 = true → (m5_ : Value) = .agg #[.bool t706, v708]) ∧ (b 6 = true → (m6_ : Value) = .pointer (some ⟨gb710, 0, none⟩))) HT_.out HW_.out (by kernel_rfl) (by kernel_rfl) ?_ ?_ ?_
 ·exact ⟨.bool false, .bool false, .bool false, .bool false, 0, .bool false, .bool false, .bool false, .bool false, by simp only [putSel, Bool.false_eq_true, if_false], HO682.out, HO685.out, HO689.out, HO693.out, BK677.out, BK678.out, BK694.out, HB.out, fun h_ => absurd h_ (by decide), fun h_ => absurd h_ (by decide), fun h_ => absurd h_ (by decide), fun h_ => absurd h_ (by decide), fun h_ => absurd h_ (by decide), fun h_ => absurd h_ (by decide), fun h_ => absurd h_ (by decide), fun h_ => absurd h_ (by decide), fun h_ => absurd h_ (by decide), fun h_ => absurd h_ (by decide), fun h_ => absurd h_ (by decide), fun h_ => absurd h_ (by decide), fun h_ => absurd h_ (by decide), fun h_ => absurd h_ (by decide), fun h_ => absurd h_ (by decide), fun h_ => absurd h_ (by decide), fun h_ => absurd h_ (by decide), fun h_ => absurd h_ (by decide)⟩
 ·skip
  clear BK677 BK678 BK694 HB HO682 HO685 HO689 HO693
  refine steps_cons ?_ ?_
  ·rintro b a w' ⟨v697, v700, v704, v708, gb710, m1_, m4_, m5_, m6_, ha, Q_HO682, Q_HO685, Q_HO689, Q_HO693, Q_BK677, Q_BK678, Q_BK694, Q_HB, Q_HO698, Q_HO701, Q_HO705, Q_HO709, Q_BK710, Q_GW710, Q_GE710, Q_NB677_710, Q_NB710_677, Q_NB678_710, Q_NB710_678, Q_NB694_710, Q_NB710_694, Q_BK710_e7, Q_X1_, Q_X4_, Q_X5_, Q_X6_⟩ hb_ hon hoff
   refine ⟨_, rfl, fun K hK => ?_⟩
   have e3 : a.tmps[3]? = some (.pointer (some ⟨gb678, 0, none⟩)) := by rw [ha]; exact (putSel_off rfl).trans rfl
   replace ha := mk0 ha
   have HO682 := mk0 Q_HO682
   have HO685 := mk0 Q_HO685
   have HO689 := mk0 Q_HO689
   have HO693 := mk0 Q_HO693
   have BK677 := mk0 Q_BK677
   have BK678 := mk0 Q_BK678
   have BK694 := mk0 Q_BK694
   have HB := mk0 Q_HB
   have hc0_ : w'.cell? ⟨gb678, 0, none⟩ = some (.bool a1_0) := (blk_cell BK678.out 0).trans rfl
   have hc1_ : w'.cell? ⟨gb678, 1, none⟩ = some (.slice A1_1 l1_1.length c1_1) := (blk_cell BK678.out 1).trans rfl
   have hc2_ : w'.cell? ⟨gb678, 2, none⟩ = some (.slice A1_2 l1_2.length c1_2) := (blk_cell BK678.out 2).trans rfl
   refine value_ (w1 := w') (v := .agg #[.bool a1_0, .slice A1_1 l1_1.length c1_1, .slice A1_2 l1_2.length c1_2]) (by rfl) rfl ?_ ?_
   ·go_simp
    (try simp only [i64_w])
    try rfl
   refine hK.out _ _ ⟨v697, v700, v704, v708, gb710, m1_, m4_, m5_, m6_, (by rw [ha.out]; exact putSel_upk 0 hb_ rfl rfl rfl), Q_HO682, Q_HO685, Q_HO689, Q_HO693, Q_BK677, Q_BK678, Q_BK694, Q_HB, fun h0_ => absurd ((hoff 1 (by kernel_rfl)).symm.trans h0_) (by decide), fun h0_ => absurd ((hoff 3 (by kernel_rfl)).symm.trans h0_) (by decide), fun h0_ => absurd ((hoff 4 (by kernel_rfl)).symm.trans h0_) (by decide), fun h0_ => absurd ((hoff 5 (by kernel_rfl)).symm.trans h0_) (by decide), Q_BK710, Q_GW710, Q_GE710, Q_NB677_710, Q_NB710_677, Q_NB678_710, Q_NB710_678, Q_NB694_710, Q_NB710_694, fun h0_ => absurd ((hoff 7 (by kernel_rfl)).symm.trans h0_) (by decide), fun h0_ => absurd ((hoff 1 (by kernel_rfl)).symm.trans h0_) (by decide), fun h0_ => absurd ((hoff 4 (by kernel_rfl)).symm.trans h0_) (by decide), fun h0_ => absurd ((hoff 5 (by kernel_rfl)).symm.trans h0_) (by decide), Q_X6_⟩
  refine steps_cons ?_ ?_
  ·rintro b a w' ⟨v697, v700, v704, v708, gb710, m1_, m4_, m5_, m6_, ha, Q_HO682, Q_HO685, Q_HO689, Q_HO693, Q_BK677, Q_BK678, Q_BK694, Q_HB, Q_HO698, Q_HO701, Q_HO705, Q_HO709, Q_BK710, Q_GW710, Q_GE710, Q_NB677_710, Q_NB710_677, Q_NB678_710, Q_NB710_678, Q_NB694_710, Q_NB710_694, Q_BK710_e7, Q_X1_, Q_X4_, Q_X5_, Q_X6_⟩ hb_ hon hoff
   refine ⟨_, rfl, fun K hK => ?_⟩
   have e13 : a.tmps[13]? = some (.agg #[.bool a1_0, .slice A1_1 l1_1.length c1_1, .slice A1_2 l1_2.length c1_2]) := by rw [ha]; exact putSel_on (e := (0, 13, .agg #[.bool a1_0, .slice A1_1 l1_1.length c1_1, .slice A1_2 l1_2.length c1_2])) 0 rfl rfl (hon 0 (by kernel_rfl)) rfl
   replace ha := mk0 ha
   have HO682 := mk0 Q_HO682
   have HO685 := mk0 Q_HO685
   have HO689 := mk0 Q_HO689
   have HO693 := mk0 Q_HO693
   have BK677 := mk0 Q_BK677
   have BK678 := mk0 Q_BK678
   have BK694 := mk0 Q_BK694
   have HB := mk0 Q_HB
   refine goes_ Try.func59 (by kernel_rfl) rfl #[.agg #[.bool a1_0, .slice A1_1 l1_1.length c1_1, .slice A1_2 l1_2.length c1_2]] (by rfl) rfl rfl (by first | (simp only [mA, mC, mN, Act.eval, Array.getD_eq_getD_getElem?, Option.getD_some, e13]; done) | (simp only [mA, mC, mN, Act.eval, Array.getD_eq_getD_getElem?, Option.getD_some, e13]; rfl)) ?_
   with_reducible refine (examboardref03_top.calls k a1_0 _ _ l1_1 _ _ l1_2 t695 t696 _ ?side1 ?side2 ?side3 ?side4 A7.out).mono ?_
   (case side1 => exact (Cb HR1_1.out HB.out))
   (case side2 => exact HC1_1.out)
   (case side3 => exact (Cb HR1_2.out HB.out))
   (case side4 => exact HC1_2.out)
   rintro e w28 ⟨v697, rfl, ho0, hb⟩
   refine ⟨_, rfl, ?_⟩
   have n0_ := mk0 (Re HO682.out (Rs ho0) hb)
   have n1_ := mk0 (Re HO685.out (Rs ho0) hb)
   have n2_ := mk0 (Re HO689.out (Rs ho0) hb)
   have n3_ := mk0 (Re HO693.out (Rs ho0) hb)
   have n4_ := mk0 (Rl (Rn (Rn (Rn (Rn ho0 (Rq HO682.out)) (Rq HO685.out)) (Rq HO689.out)) (Rq HO693.out)) (bZ HB.out))
   have n5_ := bkB BK677 hb
   have n6_ := bkB BK678 hb
   have n7_ := bkB BK694 hb
   have n8_ := mk0 (below_step HB.out hb)
   have z_BK710 := fun (h0_ : b 6 = true) (h1_ : b 7 = false) => (show w28.heap[gb710]? = some (.cells #[.bool false, .slice none 0 0] 27 (0, 0)) from by first | exact (blk_below (g := gb710) ((Q_BK710 h0_ h1_)) hb))
   clear HO682
   clear HO685
   clear HO689
   clear HO693
   clear BK677
   clear BK678
   clear BK694
   clear HB
   have HO682 := n0_
   have HO685 := n1_
   have HO689 := n2_
   have HO693 := n3_
   have HO698 := n4_
   have BK677 := n5_
   have BK678 := n6_
   have BK694 := n7_
   have HB := n8_
   clear n0_ n1_ n2_ n3_ n4_ n5_ n6_ n7_ n8_
   refine hK.out _ _ ⟨v697, v700, v704, v708, gb710, (.agg #[.bool t695, v697]), m4_, m5_, m6_, (by rw [ha.out]; exact putSel_upk 1 hb_ rfl rfl rfl), (Rm HO682.out tv), (Rm HO685.out tv), (Rm HO689.out tv), (Rm HO693.out tv), BK677.out, BK678.out, BK694.out, HB.out, fun _ => (Rm HO698.out tv), fun h0_ => absurd ((hoff 3 (by kernel_rfl)).symm.trans h0_) (by decide), fun h0_ => absurd ((hoff 4 (by kernel_rfl)).symm.trans h0_) (by decide), fun h0_ => absurd ((hoff 5 (by kernel_rfl)).symm.trans h0_) (by decide), z_BK710, Q_GW710, Q_GE710, Q_NB677_710, Q_NB710_677, Q_NB678_710, Q_NB710_678, Q_NB694_710, Q_NB710_694, fun h0_ => absurd ((hoff 7 (by kernel_rfl)).symm.trans h0_) (by decide), fun _ => rfl, fun h0_ => absurd ((hoff 4 (by kernel_rfl)).symm.trans h0_) (by decide), fun h0_ => absurd ((hoff 5 (by kernel_rfl)).symm.trans h0_) (by decide), Q_X6_⟩
  refine steps_cons ?_ ?_
  ·rintro b a w' ⟨v697, v700, v704, v708, gb710, m1_, m4_, m5_, m6_, ha, Q_HO682, Q_HO685, Q_HO689, Q_HO693, Q_BK677, Q_BK678, Q_BK694, Q_HB, Q_HO698, Q_HO701, Q_HO705, Q_HO709, Q_BK710, Q_GW710, Q_GE710, Q_NB677_710, Q_NB710_677, Q_NB678_710, Q_NB710_678, Q_NB694_710, Q_NB710_694, Q_BK710_e7, Q_X1_, Q_X4_, Q_X5_, Q_X6_⟩ hb_ hon hoff
   refine ⟨_, rfl, fun K hK => ?_⟩
   have e2 : a.tmps[2]? = some (.pointer (some ⟨gb677, 0, none⟩)) := by rw [ha]; exact (putSel_off rfl).trans rfl
   replace ha := mk0 ha
   have HO682 := mk0 Q_HO682
   have HO685 := mk0 Q_HO685
   have HO689 := mk0 Q_HO689
   have HO693 := mk0 Q_HO693
   have BK677 := mk0 Q_BK677
   have BK678 := mk0 Q_BK678
   have BK694 := mk0 Q_BK694
   have HB := mk0 Q_HB
   have hc0_ : w'.cell? ⟨gb677, 0, none⟩ = some (.bool a0_0) := (blk_cell BK677.out 0).trans rfl
   have hc1_ : w'.cell? ⟨gb677, 1, none⟩ = some (.slice A0_1 l0_1.length c0_1) := (blk_cell BK677.out 1).trans rfl
   have hc2_ : w'.cell? ⟨gb677, 2, none⟩ = some (.slice A0_2 l0_2.length c0_2) := (blk_cell BK677.out 2).trans rfl
   refine value_ (w1 := w') (v := .agg #[.bool a0_0, .slice A0_1 l0_1.length c0_1, .slice A0_2 l0_2.length c0_2]) (by rfl) rfl ?_ ?_
   ·go_simp
    (try simp only [i64_w])
    try rfl
   refine hK.out _ _ ⟨v697, v700, v704, v708, gb710, m1_, m4_, m5_, m6_, (by rw [ha.out]; exact putSel_upk 2 hb_ rfl rfl rfl), Q_HO682, Q_HO685, Q_HO689, Q_HO693, Q_BK677, Q_BK678, Q_BK694, Q_HB, Q_HO698, fun h0_ => absurd ((hoff 3 (by kernel_rfl)).symm.trans h0_) (by decide), fun h0_ => absurd ((hoff 4 (by kernel_rfl)).symm.trans h0_) (by decide), fun h0_ => absurd ((hoff 5 (by kernel_rfl)).symm.trans h0_) (by decide), Q_BK710, Q_GW710, Q_GE710, Q_NB677_710, Q_NB710_677, Q_NB678_710, Q_NB710_678, Q_NB694_710, Q_NB710_694, fun h0_ => absurd ((hoff 7 (by kernel_rfl)).symm.trans h0_) (by decide), Q_X1_, fun h0_ => absurd ((hoff 4 (by kernel_rfl)).symm.trans h0_) (by decide), fun h0_ => absurd ((hoff 5 (by kernel_rfl)).symm.trans h0_) (by decide), Q_X6_⟩
  refine steps_cons ?_ ?_
  ·rintro b a w' ⟨v697, v700, v704, v708, gb710, m1_, m4_, m5_, m6_, ha, Q_HO682, Q_HO685, Q_HO689, Q_HO693, Q_BK677, Q_BK678, Q_BK694, Q_HB, Q_HO698, Q_HO701, Q_HO705, Q_HO709, Q_BK710, Q_GW710, Q_GE710, Q_NB677_710, Q_NB710_677, Q_NB678_710, Q_NB710_678, Q_NB694_710, Q_NB710_694, Q_BK710_e7, Q_X1_, Q_X4_, Q_X5_, Q_X6_⟩ hb_ hon hoff
   refine ⟨_, rfl, fun K hK => ?_⟩
   have e15 : a.tmps[15]? = some (.agg #[.bool a0_0, .slice A0_1 l0_1.length c0_1, .slice A0_2 l0_2.length c0_2]) := by rw [ha]; exact putSel_on (e := (2, 15, .agg #[.bool a0_0, .slice A0_1 l0_1.length c0_1, .slice A0_2 l0_2.length c0_2])) 2 rfl rfl (hon 2 (by kernel_rfl)) rfl
   replace ha := mk0 ha
   have HO682 := mk0 Q_HO682
   have HO685 := mk0 Q_HO685
   have HO689 := mk0 Q_HO689
   have HO693 := mk0 Q_HO693
   have BK677 := mk0 Q_BK677
   have BK678 := mk0 Q_BK678
   have BK694 := mk0 Q_BK694
   have HB := mk0 Q_HB
   have HO698 := mk0 (Q_HO698 (hon 1 (by kernel_rfl)))
   refine goes_ Try.func61 (by kernel_rfl) rfl #[.agg #[.bool a0_0, .slice A0_1 l0_1.length c0_1, .slice A0_2 l0_2.length c0_2]] (by rfl) rfl rfl (by first | (simp only [mA, mC, mN, Act.eval, Array.getD_eq_getD_getElem?, Option.getD_some, e15]; done) | (simp only [mA, mC, mN, Act.eval, Array.getD_eq_getD_getElem?, Option.getD_some, e15]; rfl)) ?_
   with_reducible refine (examboardref03_low.calls k a0_0 _ _ l0_1 _ _ l0_2 t699 _ ?side1 ?side2 ?side3 ?side4 A8.out).mono ?_
   (case side1 => exact (Cb HR0_1.out HB.out))
   (case side2 => exact HC0_1.out)
   (case side3 => exact (Cb HR0_2.out HB.out))
   (case side4 => exact HC0_2.out)
   rintro e w30 ⟨v700, rfl, ho0, hb⟩
   refine ⟨_, rfl, ?_⟩
   have n0_ := mk0 (Re HO682.out (Rs ho0) hb)
   have n1_ := mk0 (Re HO685.out (Rs ho0) hb)
   have n2_ := mk0 (Re HO689.out (Rs ho0) hb)
   have n3_ := mk0 (Re HO693.out (Rs ho0) hb)
   have n4_ := mk0 (Re HO698.out (Rs ho0) hb)
   have n5_ := mk0 (Rl (Rn (Rn (Rn (Rn (Rn ho0 (Rq HO682.out)) (Rq HO685.out)) (Rq HO689.out)) (Rq HO693.out)) (Rq HO698.out)) (bZ HB.out))
   have n6_ := bkB BK677 hb
   have n7_ := bkB BK678 hb
   have n8_ := bkB BK694 hb
   have n9_ := mk0 (below_step HB.out hb)
   have z_BK710 := fun (h0_ : b 6 = true) (h1_ : b 7 = false) => (show w30.heap[gb710]? = some (.cells #[.bool false, .slice none 0 0] 27 (0, 0)) from by first | exact (blk_below (g := gb710) ((Q_BK710 h0_ h1_)) hb))
   clear HO682
   clear HO685
   clear HO689
   clear HO693
   clear HO698
   clear BK677
   clear BK678
   clear BK694
   clear HB
   have HO682 := n0_
   have HO685 := n1_
   have HO689 := n2_
   have HO693 := n3_
   have HO698 := n4_
   have HO701 := n5_
   have BK677 := n6_
   have BK678 := n7_
   have BK694 := n8_
   have HB := n9_
   clear n0_ n1_ n2_ n3_ n4_ n5_ n6_ n7_ n8_ n9_
   refine hK.out _ _ ⟨v697, v700, v704, v708, gb710, m1_, m4_, m5_, m6_, (by rw [ha.out]; exact putSel_upk 3 hb_ rfl rfl rfl), (Rm HO682.out tv), (Rm HO685.out tv), (Rm HO689.out tv), (Rm HO693.out tv), BK677.out, BK678.out, BK694.out, HB.out, fun _ => (Rm HO698.out tv), fun _ => (Rm HO701.out tv), fun h0_ => absurd ((hoff 4 (by kernel_rfl)).symm.trans h0_) (by decide), fun h0_ => absurd ((hoff 5 (by kernel_rfl)).symm.trans h0_) (by decide), z_BK710, Q_GW710, Q_GE710, Q_NB677_710, Q_NB710_677, Q_NB678_710, Q_NB710_678, Q_NB694_710, Q_NB710_694, fun h0_ => absurd ((hoff 7 (by kernel_rfl)).symm.trans h0_) (by decide), Q_X1_, fun h0_ => absurd ((hoff 4 (by kernel_rfl)).symm.trans h0_) (by decide), fun h0_ => absurd ((hoff 5 (by kernel_rfl)).symm.trans h0_) (by decide), Q_X6_⟩
  refine steps_cons ?_ ?_
  ·rintro b a w' ⟨v697, v700, v704, v708, gb710, m1_, m4_, m5_, m6_, ha, Q_HO682, Q_HO685, Q_HO689, Q_HO693, Q_BK677, Q_BK678, Q_BK694, Q_HB, Q_HO698, Q_HO701, Q_HO705, Q_HO709, Q_BK710, Q_GW710, Q_GE710, Q_NB677_710, Q_NB710_677, Q_NB678_710, Q_NB710_678, Q_NB694_710, Q_NB710_694, Q_BK710_e7, Q_X1_, Q_X4_, Q_X5_, Q_X6_⟩ hb_ hon hoff
   refine ⟨_, rfl, fun K hK => ?_⟩
   have e16 : a.tmps[16]? = some (v700) := by rw [ha]; exact putSel_on (e := (3, 16, v700)) 3 rfl rfl (hon 3 (by kernel_rfl)) rfl
   replace ha := mk0 ha
   have HO682 := mk0 Q_HO682
   have HO685 := mk0 Q_HO685
   have HO689 := mk0 Q_HO689
   have HO693 := mk0 Q_HO693
   have BK677 := mk0 Q_BK677
   have BK678 := mk0 Q_BK678
   have BK694 := mk0 Q_BK694
   have HB := mk0 Q_HB
   have HO698 := mk0 (Q_HO698 (hon 1 (by kernel_rfl)))
   have HO701 := mk0 (Q_HO701 (hon 3 (by kernel_rfl)))
   obtain ⟨Ao31, co31, eo31⟩ := Kd.R_slice HO701.out
   (first | subst eo31 | (injection eo31 with f1_ f2_ f3_; have f4_ := f1_.symm; have f5_ := f3_.symm; clear f1_ f2_ f3_; subst f4_; subst f5_))
   refine goes_ Try.func62 (by kernel_rfl) rfl #[.bool false, .slice Ao31 t699.length co31] (by rfl) rfl rfl (by first | (simp only [mA, mC, mN, Act.eval, Array.getD_eq_getD_getElem?, Option.getD_some, e16]; done) | (simp only [mA, mC, mN, Act.eval, Array.getD_eq_getD_getElem?, Option.getD_some, e16]; rfl)) ?_
   with_reducible refine (examboardref02_Make.calls k false _ _ t699 t702 t703 _ ?side1 ?side2 A9.out).mono ?_
   (case side1 => exact (Kd.R_reads' HO701.out).2.2)
   (case side2 => exact (Kd.R_reads' HO701.out).2.1)
   rintro e w32 ⟨v704, rfl, ho0, hb⟩
   refine ⟨_, rfl, ?_⟩
   have n0_ := mk0 (Re HO682.out (Rs ho0) hb)
   have n1_ := mk0 (Re HO685.out (Rs ho0) hb)
   have n2_ := mk0 (Re HO689.out (Rs ho0) hb)
   have n3_ := mk0 (Re HO693.out (Rs ho0) hb)
   have n4_ := mk0 (Re HO698.out (Rs ho0) hb)
   have n5_ := mk0 (Re HO701.out (Rs ho0) hb)
   have n6_ := mk0 (Rl (Rn (Rn (Rn (Rn (Rn (Rn ho0 (Rq HO682.out)) (Rq HO685.out)) (Rq HO689.out)) (Rq HO693.out)) (Rq HO698.out)) (Rq HO701.out)) (bZ HB.out))
   have n7_ := bkB BK677 hb
   have n8_ := bkB BK678 hb
   have n9_ := bkB BK694 hb
   have n10_ := mk0 (below_step HB.out hb)
   have z_BK710 := fun (h0_ : b 6 = true) (h1_ : b 7 = false) => (show w32.heap[gb710]? = some (.cells #[.bool false, .slice none 0 0] 27 (0, 0)) from by first | exact (blk_below (g := gb710) ((Q_BK710 h0_ h1_)) hb))
   clear HO682
   clear HO685
   clear HO689
   clear HO693
   clear HO698
   clear HO701
   clear BK677
   clear BK678
   clear BK694
   clear HB
   have HO682 := n0_
   have HO685 := n1_
   have HO689 := n2_
   have HO693 := n3_
   have HO698 := n4_
   have HO701 := n5_
   have HO705 := n6_
   have BK677 := n7_
   have BK678 := n8_
   have BK694 := n9_
   have HB := n10_
   clear n0_ n1_ n2_ n3_ n4_ n5_ n6_ n7_ n8_ n9_ n10_
   refine hK.out _ _ ⟨v697, .slice Ao31 t699.length co31, v704, v708, gb710, m1_, (.agg #[.bool t702, v704]), m5_, m6_, (by rw [ha.out]; exact putSel_upk 4 hb_ rfl rfl rfl), (Rm HO682.out tv), (Rm HO685.out tv), (Rm HO689.out tv), (Rm HO693.out tv), BK677.out, BK678.out, BK694.out, HB.out, fun _ => (Rm HO698.out tv), fun _ => (Rm HO701.out tv), fun _ => (Rm HO705.out tv), fun h0_ => absurd ((hoff 5 (by kernel_rfl)).symm.trans h0_) (by decide), z_BK710, Q_GW710, Q_GE710, Q_NB677_710, Q_NB710_677, Q_NB678_710, Q_NB710_678, Q_NB694_710, Q_NB710_694, fun h0_ => absurd ((hoff 7 (by kernel_rfl)).symm.trans h0_) (by decide), Q_X1_, fun _ => rfl, fun h0_ => absurd ((hoff 5 (by kernel_rfl)).symm.trans h0_) (by decide), Q_X6_⟩
  refine steps_cons ?_ ?_
  ·rintro b a w' ⟨v697, v700, v704, v708, gb710, m1_, m4_, m5_, m6_, ha, Q_HO682, Q_HO685, Q_HO689, Q_HO693, Q_BK677, Q_BK678, Q_BK694, Q_HB, Q_HO698, Q_HO701, Q_HO705, Q_HO709, Q_BK710, Q_GW710, Q_GE710, Q_NB677_710, Q_NB710_677, Q_NB678_710, Q_NB710_678, Q_NB694_710, Q_NB710_694, Q_BK710_e7, Q_X1_, Q_X4_, Q_X5_, Q_X6_⟩ hb_ hon hoff
   refine ⟨_, rfl, fun K hK => ?_⟩
   have e14 : a.tmps[14]? = some (m1_) := by rw [ha]; exact putSel_on (e := (1, 14, m1_)) 1 rfl rfl (hon 1 (by kernel_rfl)) rfl
   rw [Q_X1_ (hon 1 (by kernel_rfl))] at e14
   have e17 : a.tmps[17]? = some (m4_) := by rw [ha]; exact putSel_on (e := (4, 17, m4_)) 4 rfl rfl (hon 4 (by kernel_rfl)) rfl
   rw [Q_X4_ (hon 4 (by kernel_rfl))] at e17
   replace ha := mk0 ha
   have HO682 := mk0 Q_HO682
   have HO685 := mk0 Q_HO685
   have HO689 := mk0 Q_HO689
   have HO693 := mk0 Q_HO693
   have BK677 := mk0 Q_BK677
   have BK678 := mk0 Q_BK678
   have BK694 := mk0 Q_BK694
   have HB := mk0 Q_HB
   have HO698 := mk0 (Q_HO698 (hon 1 (by kernel_rfl)))
   have HO701 := mk0 (Q_HO701 (hon 3 (by kernel_rfl)))
   have HO705 := mk0 (Q_HO705 (hon 4 (by kernel_rfl)))
   obtain ⟨Ao33, co33, eo33⟩ := Kd.R_slice HO698.out
   (first | subst eo33 | (injection eo33 with f1_ f2_ f3_; have f4_ := f1_.symm; have f5_ := f3_.symm; clear f1_ f2_ f3_; subst f4_; subst f5_))
   obtain ⟨Ao34, co34, eo34⟩ := Kd.R_slice HO705.out
   (first | subst eo34 | (injection eo34 with f1_ f2_ f3_; have f4_ := f1_.symm; have f5_ := f3_.symm; clear f1_ f2_ f3_; subst f4_; subst f5_))
   refine goes_ Try.func58 (by kernel_rfl) rfl #[.agg #[.bool t695, .slice Ao33 t696.length co33], .agg #[.bool t702, .slice Ao34 t703.length co34]] (by rfl) rfl rfl (by first | (simp only [mA, mC, mN, Act.eval, Array.getD_eq_getD_getElem?, Option.getD_some, e14, e17]; done) | (simp only [mA, mC, mN, Act.eval, Array.getD_eq_getD_getElem?, Option.getD_some, e14, e17]; rfl)) ?_
   with_reducible refine (examboardref02_Mul.calls k t695 _ _ t696 t702 _ _ t703 t706 t707 _ ?side1 ?side2 ?side3 ?side4 A10.out).mono ?_
   (case side1 => exact (Kd.R_reads' HO698.out).2.2)
   (case side2 => exact (Kd.R_reads' HO698.out).2.1)
   (case side3 => exact (Kd.R_reads' HO705.out).2.2)
   (case side4 => exact (Kd.R_reads' HO705.out).2.1)
   rintro e w35 ⟨v708, rfl, ho0, hb⟩
   refine ⟨_, rfl, ?_⟩
   have n0_ := mk0 (Re HO682.out (Rs ho0) hb)
   have n1_ := mk0 (Re HO685.out (Rs ho0) hb)
   have n2_ := mk0 (Re HO689.out (Rs ho0) hb)
   have n3_ := mk0 (Re HO693.out (Rs ho0) hb)
   have n4_ := mk0 (Re HO698.out (Rs ho0) hb)
   have n5_ := mk0 (Re HO701.out (Rs ho0) hb)
   have n6_ := mk0 (Re HO705.out (Rs ho0) hb)
   have n7_ := mk0 (Rl (Rn (Rn (Rn (Rn (Rn (Rn (Rn ho0 (Rq HO682.out)) (Rq HO685.out)) (Rq HO689.out)) (Rq HO693.out)) (Rq HO698.out)) (Rq HO701.out)) (Rq HO705.out)) (bZ (by repeat (first | exact HB.out | apply bN | apply b1 | apply bA | refine bS ?_ GE677.out | refine bS ?_ GE678.out | refine bS ?_ GE694.out))))
   have n8_ := bkB BK677 hb
   have n9_ := bkB BK678 hb
   have n10_ := bkB BK694 hb
   have n11_ := mk0 (below_step (by repeat (first | exact HB.out | apply bN | apply b1 | apply bA | refine bS ?_ GE677.out | refine bS ?_ GE678.out | refine bS ?_ GE694.out)) hb)
   have z_BK710 := fun (h0_ : b 6 = true) (h1_ : b 7 = false) => (show w35.heap[gb710]? = some (.cells #[.bool false, .slice none 0 0] 27 (0, 0)) from by first | exact (blk_below (g := gb710) ((Q_BK710 h0_ h1_)) hb))
   clear HO682
   clear HO685
   clear HO689
   clear HO693
   clear HO698
   clear HO701
   clear HO705
   clear BK677
   clear BK678
   clear BK694
   clear HB
   have HO682 := n0_
   have HO685 := n1_
   have HO689 := n2_
   have HO693 := n3_
   have HO698 := n4_
   have HO701 := n5_
   have HO705 := n6_
   have HO709 := n7_
   have BK677 := n8_
   have BK678 := n9_
   have BK694 := n10_
   have HB := n11_
   clear n0_ n1_ n2_ n3_ n4_ n5_ n6_ n7_ n8_ n9_ n10_ n11_
   refine hK.out _ _ ⟨.slice Ao33 t696.length co33, v700, .slice Ao34 t703.length co34, v708, gb710, m1_, m4_, (.agg #[.bool t706, v708]), m6_, (by rw [ha.out]; exact putSel_upk 5 hb_ rfl rfl rfl), (Rm HO682.out tv), (Rm HO685.out tv), (Rm HO689.out tv), (Rm HO693.out tv), BK677.out, BK678.out, BK694.out, (by repeat (first | exact HB.out | apply bN | apply b1 | apply bA | refine bS ?_ GE677.out | refine bS ?_ GE678.out | refine bS ?_ GE694.out)), fun _ => (Rm HO698.out tv), fun _ => (Rm HO701.out tv), fun _ => (Rm HO705.out tv), fun _ => (Rm HO709.out tv), z_BK710, Q_GW710, Q_GE710, Q_NB677_710, Q_NB710_677, Q_NB678_710, Q_NB710_678, Q_NB694_710, Q_NB710_694, fun h0_ => absurd ((hoff 7 (by kernel_rfl)).symm.trans h0_) (by decide), Q_X1_, Q_X4_, fun _ => rfl, Q_X6_⟩
  refine steps_cons ?_ ?_
  ·rintro b a w' ⟨v697, v700, v704, v708, gb710, m1_, m4_, m5_, m6_, ha, Q_HO682, Q_HO685, Q_HO689, Q_HO693, Q_BK677, Q_BK678, Q_BK694, Q_HB, Q_HO698, Q_HO701, Q_HO705, Q_HO709, Q_BK710, Q_GW710, Q_GE710, Q_NB677_710, Q_NB710_677, Q_NB678_710, Q_NB710_678, Q_NB694_710, Q_NB710_694, Q_BK710_e7, Q_X1_, Q_X4_, Q_X5_, Q_X6_⟩ hb_ hon hoff
   refine ⟨_, rfl, fun K hK => ?_⟩
   replace ha := mk0 ha
   have HO682 := mk0 Q_HO682
   have HO685 := mk0 Q_HO685
   have HO689 := mk0 Q_HO689
   have HO693 := mk0 Q_HO693
   have BK677 := mk0 Q_BK677
   have BK678 := mk0 Q_BK678
   have BK694 := mk0 Q_BK694
   have HB := mk0 Q_HB
   refine box_step ?hg (N := 6) ?hd (cs := #[.bool false, .slice none 0 0]) (t := 27) ?hr ?_; (case hd => rfl); (case hg => rfl); (case hr => go_simp <;> rfl)
   intro gb710 hg w28 hbox hb
   have n0_ := rB HO682 hb
   have n1_ := rB HO685 hb
   have n2_ := rB HO689 hb
   have n3_ := rB HO693 hb
   have n4_ := bkB BK677 hb
   have n5_ := bkB BK678 hb
   have n6_ := bkB BK694 hb
   have n7_ := mk0 (below_step (by repeat (first | exact HB.out | apply bN | apply b1 | apply bA | refine bS ?_ GE677.out | refine bS ?_ GE678.out | refine bS ?_ GE694.out)) hb)
   have n8_ := mk0 (hbox)
   have n9_ := mk0 ((by rw [hg]; exact (bZ (by repeat (first | exact HB.out | apply bN | apply b1 | apply bA | refine bS ?_ GE677.out | refine bS ?_ GE678.out | refine bS ?_ GE694.out))) : w.heap.size ≤ gb710))
   have n10_ := mk0 ((by rw [hg]; exact (bZ (by repeat (first | exact HB.out | apply bN | apply b1 | apply bA | refine bS ?_ GE677.out | refine bS ?_ GE678.out | refine bS ?_ GE694.out))) : w.heap.size ≤ gb710))
   have n11_ := nbA hg BK677
   have n12_ := nbB hg BK677
   have n13_ := nbA hg BK678
   have n14_ := nbB hg BK678
   have n15_ := nbA hg BK694
   have n16_ := nbB hg BK694
   have z_HO698 := fun (h0_ : b 1 = true) => (show Kd.R (Kd.int .u32) 87 w28 w.heap.size (fun _ => True) v697 t696 from by first | exact (Rb ((Q_HO698 h0_)) hb) | exact Rm (Rb ((Q_HO698 h0_)) hb) tv)
   have z_HO701 := fun (h0_ : b 3 = true) => (show Kd.R (Kd.int .u32) 87 w28 w.heap.size (fun _ => True) v700 t699 from by first | exact (Rb ((Q_HO701 h0_)) hb) | exact Rm (Rb ((Q_HO701 h0_)) hb) tv)
   have z_HO705 := fun (h0_ : b 4 = true) => (show Kd.R (Kd.int .u32) 87 w28 w.heap.size (fun _ => True) v704 t703 from by first | exact (Rb ((Q_HO705 h0_)) hb) | exact Rm (Rb ((Q_HO705 h0_)) hb) tv)
   have z_HO709 := fun (h0_ : b 5 = true) => (show Kd.R (Kd.int .u32) 87 w28 w.heap.size (fun _ => True) v708 t707 from by first | exact (Rb ((Q_HO709 h0_)) hb) | exact Rm (Rb ((Q_HO709 h0_)) hb) tv)
   clear HO682
   clear HO685
   clear HO689
   clear HO693
   clear BK677
   clear BK678
   clear BK694
   clear HB
   have HO682 := n0_
   have HO685 := n1_
   have HO689 := n2_
   have HO693 := n3_
   have BK677 := n4_
   have BK678 := n5_
   have BK694 := n6_
   have HB := n7_
   have BK710 := n8_
   have GW710 := n9_
   have GE710 := n10_
   have NB677_710 := n11_
   have NB710_677 := n12_
   have NB678_710 := n13_
   have NB710_678 := n14_
   have NB694_710 := n15_
   have NB710_694 := n16_
   clear n0_ n1_ n2_ n3_ n4_ n5_ n6_ n7_ n8_ n9_ n10_ n11_ n12_ n13_ n14_ n15_ n16_
   clear hb hbox hg
   refine hK.out _ _ ⟨v697, v700, v704, v708, gb710, m1_, m4_, m5_, (.pointer (some ⟨gb710, 0, none⟩)), (by rw [ha.out]; exact putSel_upk 6 hb_ rfl rfl rfl), HO682.out, HO685.out, HO689.out, HO693.out, BK677.out, BK678.out, BK694.out, (by repeat (first | exact HB.out | apply bN | apply b1 | apply bA | refine bS ?_ GE677.out | refine bS ?_ GE678.out | refine bS ?_ GE694.out | refine bS ?_ GE710.out)), z_HO698, z_HO701, z_HO705, z_HO709, fun _ _ => BK710.out, fun _ => GW710.out, fun _ => GE710.out, fun _ => NB677_710.out, fun _ => NB710_677.out, fun _ => NB678_710.out, fun _ => NB710_678.out, fun _ => NB694_710.out, fun _ => NB710_694.out, fun h0_ => absurd ((hoff 7 (by kernel_rfl)).symm.trans h0_) (by decide), Q_X1_, Q_X4_, Q_X5_, fun _ => rfl⟩
  refine steps_cons ?_ ?_
  ·rintro b a w' ⟨v697, v700, v704, v708, gb710, m1_, m4_, m5_, m6_, ha, Q_HO682, Q_HO685, Q_HO689, Q_HO693, Q_BK677, Q_BK678, Q_BK694, Q_HB, Q_HO698, Q_HO701, Q_HO705, Q_HO709, Q_BK710, Q_GW710, Q_GE710, Q_NB677_710, Q_NB710_677, Q_NB678_710, Q_NB710_678, Q_NB694_710, Q_NB710_694, Q_BK710_e7, Q_X1_, Q_X4_, Q_X5_, Q_X6_⟩ hb_ hon hoff
   refine ⟨_, rfl, fun K hK => ?_⟩
   have e6 : a.tmps[6]? = some (m6_) := by rw [ha]; exact putSel_on (e := (6, 6, m6_)) 6 rfl rfl (hon 6 (by kernel_rfl)) rfl
   rw [Q_X6_ (hon 6 (by kernel_rfl))] at e6
   have e18 : a.tmps[18]? = some (m5_) := by rw [ha]; exact putSel_on (e := (5, 18, m5_)) 5 rfl rfl (hon 5 (by kernel_rfl)) rfl
   rw [Q_X5_ (hon 5 (by kernel_rfl))] at e18
   replace ha := mk0 ha
   have HO682 := mk0 Q_HO682
   have HO685 := mk0 Q_HO685
   have HO689 := mk0 Q_HO689
   have HO693 := mk0 Q_HO693
   have BK677 := mk0 Q_BK677
   have BK678 := mk0 Q_BK678
   have BK694 := mk0 Q_BK694
   have HB := mk0 Q_HB
   have HO698 := mk0 (Q_HO698 (hon 1 (by kernel_rfl)))
   have HO701 := mk0 (Q_HO701 (hon 3 (by kernel_rfl)))
   have HO705 := mk0 (Q_HO705 (hon 4 (by kernel_rfl)))
   have HO709 := mk0 (Q_HO709 (hon 5 (by kernel_rfl)))
   have BK710 := mk0 (Q_BK710 (hon 6 (by kernel_rfl)) hb_)
   have GW710 := mk0 (Q_GW710 (hon 6 (by kernel_rfl)))
   have GE710 := mk0 (Q_GE710 (hon 6 (by kernel_rfl)))
   have NB677_710 := mk0 (Q_NB677_710 (hon 6 (by kernel_rfl)))
   have NB710_677 := mk0 (Q_NB710_677 (hon 6 (by kernel_rfl)))
   have NB678_710 := mk0 (Q_NB678_710 (hon 6 (by kernel_rfl)))
   have NB710_678 := mk0 (Q_NB710_678 (hon 6 (by kernel_rfl)))
   have NB694_710 := mk0 (Q_NB694_710 (hon 6 (by kernel_rfl)))
   have NB710_694 := mk0 (Q_NB710_694 (hon 6 (by kernel_rfl)))
   obtain ⟨Ao38, co38, eo38⟩ := Kd.R_slice HO709.out
   (first | subst eo38 | (injection eo38 with f1_ f2_ f3_; have f4_ := f1_.symm; have f5_ := f3_.symm; clear f1_ f2_ f3_; subst f4_; subst f5_))
   have hs37 : w'.cell? ⟨gb710, 0, none⟩ = some (.bool false) := (blk_cell BK710.out 0).trans rfl
   have hfs37 := blk_frozen BK710.out 0
   have hns37_0 := NB677_710.out
   have hns37_1 := NB678_710.out
   have hns37_2 := NB694_710.out
   have hms37_0 := NB710_677.out
   have hms37_1 := NB710_678.out
   have hms37_2 := NB710_694.out
   have hs39 : w'.cell? ⟨gb710, 1, none⟩ = some (.slice none 0 0) := (blk_cell BK710.out 1).trans rfl
   have hfs39 := blk_frozen BK710.out 1
   have hns39_0 := NB677_710.out
   have hns39_1 := NB678_710.out
   have hns39_2 := NB694_710.out
   have hms39_0 := NB710_677.out
   have hms39_1 := NB710_678.out
   have hms39_2 := NB710_694.out
   refine skip_ (w1 := ?_) (by rfl) rfl ?_ ?_
   rotate_left
   ·go_simp
    rfl
   refine hK.out _ _ ⟨v697, v700, v704, .slice Ao38 t707.length co38, gb710, m1_, m4_, m5_, m6_, (by rw [ha.out]; exact putSel_none (v := undef) rfl), (Rm (Rg 1 (Rg 0 (Rd HO682.out BK710) (.bool t706)) (.slice Ao38 t707.length co38)) tv), (Rm (Rg 1 (Rg 0 (Rd HO685.out BK710) (.bool t706)) (.slice Ao38 t707.length co38)) tv), (Rm (Rg 1 (Rg 0 (Rd HO689.out BK710) (.bool t706)) (.slice Ao38 t707.length co38)) tv), (Rm (Rg 1 (Rg 0 (Rd HO693.out BK710) (.bool t706)) (.slice Ao38 t707.length co38)) tv), (by refine blk_far ?_ NB677_710.out _; refine blk_far ?_ NB677_710.out _; exact BK677.out), (by refine blk_far ?_ NB678_710.out _; refine blk_far ?_ NB678_710.out _; exact BK678.out), (by refine blk_far ?_ NB694_710.out _; refine blk_far ?_ NB694_710.out _; exact BK694.out), (by repeat (first | exact HB.out | apply bN | apply b1 | apply bA | refine bS ?_ GE677.out | refine bS ?_ GE678.out | refine bS ?_ GE694.out | refine bS ?_ GE710.out)), fun _ => (Rm (Rg 1 (Rg 0 (Rd HO698.out BK710) (.bool t706)) (.slice Ao38 t707.length co38)) tv), fun _ => (Rm (Rg 1 (Rg 0 (Rd HO701.out BK710) (.bool t706)) (.slice Ao38 t707.length co38)) tv), fun _ => (Rm (Rg 1 (Rg 0 (Rd HO705.out BK710) (.bool t706)) (.slice Ao38 t707.length co38)) tv), fun _ => (Rm (Rg 1 (Rg 0 (Rd HO709.out BK710) (.bool t706)) (.slice Ao38 t707.length co38)) tv), fun _ h1_ => absurd ((up_self b 7).symm.trans h1_) (by decide), fun _ => GW710.out, fun _ => GE710.out, fun _ => NB677_710.out, fun _ => NB710_677.out, fun _ => NB678_710.out, fun _ => NB710_678.out, fun _ => NB694_710.out, fun _ => NB710_694.out, fun _ => (by refine blk_put (cs := #[.bool t706, .slice none 0 0]) ?_ 1 _ rfl; refine blk_put (cs := #[.bool false, .slice none 0 0]) ?_ 0 _ rfl; exact BK710.out), Q_X1_, Q_X4_, Q_X5_, Q_X6_⟩
  exact steps_nil
 rintro b a w39 hall ⟨v697, v700, v704, v708, gb710, m1_, m4_, m5_, m6_, ha, Q_HO682, Q_HO685, Q_HO689, Q_HO693, Q_BK677, Q_BK678, Q_BK694, Q_HB, Q_HO698, Q_HO701, Q_HO705, Q_HO709, Q_BK710, Q_GW710, Q_GE710, Q_NB677_710, Q_NB710_677, Q_NB678_710, Q_NB710_678, Q_NB694_710, Q_NB710_694, Q_BK710_e7, Q_X1_, Q_X4_, Q_X5_, Q_X6_⟩
 clear BK677 BK678 BK694 HB HO682 HO685 HO689 HO693
 have hb0_ := hall 0 (by kernel_rfl)
 have hb1_ := hall 1 (by kernel_rfl)
 have hb2_ := hall 2 (by kernel_rfl)
 have hb3_ := hall 3 (by kernel_rfl)
 have hb4_ := hall 4 (by kernel_rfl)
 have hb5_ := hall 5 (by kernel_rfl)
 have hb6_ := hall 6 (by kernel_rfl)
 have hb7_ := hall 7 (by kernel_rfl)
 subst ha
 obtain rfl := Q_X1_ hb1_
 obtain rfl := Q_X4_ hb4_
 obtain rfl := Q_X5_ hb5_
 obtain rfl := Q_X6_ hb6_
 simp only [putSel, hb0_, hb1_, hb2_, hb3_, hb4_, hb5_, hb6_, hb7_, if_true, Act.put, sA, sZ, sS]
 have HO682 := mk0 Q_HO682
 clear Q_HO682
 have HO685 := mk0 Q_HO685
 clear Q_HO685
 have HO689 := mk0 Q_HO689
 clear Q_HO689
 have HO693 := mk0 Q_HO693
 clear Q_HO693
 have BK677 := mk0 Q_BK677
 clear Q_BK677
 have BK678 := mk0 Q_BK678
 clear Q_BK678
 have BK694 := mk0 Q_BK694
 clear Q_BK694
 have HB := mk0 Q_HB
 clear Q_HB
 have HO698 := mk0 (Q_HO698 hb1_)
 clear Q_HO698
 have HO701 := mk0 (Q_HO701 hb3_)
 clear Q_HO701
 have HO705 := mk0 (Q_HO705 hb4_)
 clear Q_HO705
 have HO709 := mk0 (Q_HO709 hb5_)
 clear Q_HO709
 clear Q_BK710
 have GW710 := mk0 (Q_GW710 hb6_)
 clear Q_GW710
 have GE710 := mk0 (Q_GE710 hb6_)
 clear Q_GE710
 have NB677_710 := mk0 (Q_NB677_710 hb6_)
 clear Q_NB677_710
 have NB710_677 := mk0 (Q_NB710_677 hb6_)
 clear Q_NB710_677
 have NB678_710 := mk0 (Q_NB678_710 hb6_)
 clear Q_NB678_710
 have NB710_678 := mk0 (Q_NB710_678 hb6_)
 clear Q_NB710_678
 have NB694_710 := mk0 (Q_NB694_710 hb6_)
 clear Q_NB694_710
 have NB710_694 := mk0 (Q_NB710_694 hb6_)
 clear Q_NB710_694
 have BK710 := mk0 (Q_BK710_e7 hb7_)
 clear Q_BK710_e7
 clear hall hb0_ hb1_ hb2_ hb3_ hb4_ hb5_ hb6_ hb7_
 have hnb40 := NB694_677.out
 have hnc40 := NB677_694.out
 have hnb41 := NB694_678.out
 have hnc41 := NB678_694.out
 have hnb42 := NB694_710.out
 have hnc42 := NB710_694.out
 obtain ⟨hcz43_0, hcz43_1, hfz43_0, hfz43_1⟩ := cz2 BK694
 have hnb44 := NB710_677.out
 have hnc44 := NB677_710.out
 have hnb45 := NB710_678.out
 have hnc45 := NB678_710.out
 obtain ⟨hcz46_0, hcz46_1, hfz46_0, hfz46_1⟩ := cz2 BK710
 obtain ⟨Ao47, co47, eo47⟩ := Kd.R_slice HO693.out
 subst eo47
 obtain ⟨Ao48, co48, eo48⟩ := Kd.R_slice HO709.out
 subst eo48
 try go_wp2_with (first | ((with_reducible refine gate_callee (f := 63) rfl ?_); refine goA 21 Try.func63 #[.agg #[.bool t690, .slice Ao47 t691.length co47], .agg #[.bool t706, .slice Ao48 t707.length co48]] ?_; (with_reducible refine (examboardref02_Cmp.calls k t690 _ _ t691 t706 _ _ t707 t711 _ (by exact (Kd.R_reads' HO693.out).2.2) (by exact (Kd.R_reads' HO693.out).2.1) (by exact (Kd.R_reads' HO709.out).2.2) (by exact (Kd.R_reads' HO709.out).2.1) A11.out).mono ?_); rintro e w49 ⟨rfl, hb⟩; refine ⟨_, rfl, ?_⟩; replace HO682 := rB HO682 hb; replace HO685 := rB HO685 hb; replace HO689 := rB HO689 hb; replace HO693 := rB HO693 hb; replace HO698 := rB HO698 hb; replace HO701 := rB HO701 hb; replace HO705 := rB HO705 hb; replace HO709 := rB HO709 hb; replace BK677 := bkB BK677 hb; replace BK678 := bkB BK678 hb; replace BK694 := bkB BK694 hb; replace BK710 := bkB BK710 hb; replace HB := hbS HB hb))
 go_ret
 exact ⟨by first | rfl | (simp [errW_none, errW_some] <;> rfl) | (simp [*, errW_none, errW_some] <;> rfl), by repeat (first | exact HB.out | apply bN | apply b1 | apply bA | refine bS ?_ GE677.out | refine bS ?_ GE678.out | refine bS ?_ GE694.out | refine bS ?_ GE710.out)⟩
def examboardref37_Eligible.T1 : Bool × List (List Nat × List Nat) := (true, [([], []), ([], []), ([1], [1]), ([2], [2]), ([], []), ([4, 2], [4]), ([3, 5], [3, 5]), ([6, 5], [6]), ([0, 7, 7], [0, 7]), ([], []), ([9, 8, 8, 0, 1, 2, 3, 4, 5, 6, 7, 8, 9], [8, 9])])
def examboardref37_Eligible.B1 : List Nat := [0, 0, 2, 6, 0, 22, 62, 126, 255, 0, 1023]
theorem examboardref37_Eligible.tab1 : rtab .any (opsOf Try.f14 1) = examboardref37_Eligible.T1 := by kernel_rfl
theorem examboardref37_Eligible.bits1 : waitsOk examboardref37_Eligible.T1.2 examboardref37_Eligible.B1 = true := by kernel_rfl
def examboardref37_Eligible.T2 : Bool × List (List Nat × List Nat) := (true, [([], []), ([0], [0]), ([1], [1]), ([2, 1], [2]), ([], []), ([3, 4, 3], [3, 4]), ([5], [5]), ([6, 5, 0, 1, 2, 3, 4, 5, 6], [6])])
def examboardref37_Eligible.B2 : List Nat := [0, 1, 3, 7, 0, 31, 63, 127]
theorem examboardref37_Eligible.tab2 : rtab .any (opsOf Try.f14 2) = examboardref37_Eligible.T2 := by kernel_rfl
theorem examboardref37_Eligible.bits2 : waitsOk examboardref37_Eligible.T2.2 examboardref37_Eligible.B2 = true := by kernel_rfl
set_option maxHeartbeats 8000000 in
set_option maxRecDepth 100000 in
theorem examboardref37_Eligible.calls (k : Nat) (a0 : Int) (a1 : Int) (a2_0 : Bool) (A2_1 : Option Addr) (c2_1 : Nat) (l2_1 : List Int) (A2_2 : Option Addr) (c2_2 : Nat) (l2_2 : List Int) (a3 : Int) (r : Bool) (w : World) (hr2_1 : Kd.C (Kd.int .u32) w A2_1 l2_1.length l2_1) (hc2_1 : l2_1.length ≤ c2_1) (hr2_2 : Kd.C (Kd.int .u32) w A2_2 l2_2.length l2_2) (hc2_2 : l2_2.length ≤ c2_2) (h : examboardref37_Eligible.f k a0 a1 a2_0 l2_1 l2_2 a3 = some r) :
  Calls Try.prog 14 #[.int .i64 a0, .int .i64 a1, .agg #[.bool a2_0, .slice A2_1 l2_1.length c2_1, .slice A2_2 l2_2.length c2_2], .int .i64 a3] w fun e w' => e = .returned (.bool r) ∧ Below w.heap.size w w' := by
 have hu29 := Try.underlying29
 have HR2_1 := mk0 hr2_1
 have HC2_1 := mk0 hc2_1
 clear hr2_1 hc2_1
 have HR2_2 := mk0 hr2_2
 have HC2_2 := mk0 hc2_2
 clear hr2_2 hc2_2
 have HB := mk0 (Below.refl w.heap.size w)
 have H : ((examboardref37_limited.f a1).bind fun t898 => ((examboardref37_limited.f a3).bind fun t899 => ((examboardref37_whole.f k (wrap64 ((wrap64 (t898 + 1)) + t899))).bind fun bt900 => ((examboardref03_Mul.f k a2_0 l2_1 l2_2 bt900.1 bt900.2.1 bt900.2.2).bind fun bt907 => ((examboardref37_limited.f a0).bind fun t915 => ((examboardref37_whole.f k (wrap64 (t915 + 1))).bind fun bt916 => ((examboardref03_Cmp.f k bt916.1 bt916.2.1 bt916.2.2 bt907.1 bt907.2.1 bt907.2.2).bind fun t923 => (some (decide (t923 ≤ 0)))))))))) = some r := h
 clear h
 obtain ⟨t898, A5, H⟩ := bindA H
 obtain ⟨t899, A6, H⟩ := bindA H
 obtain ⟨⟨t900, t901, t904⟩, A7, H⟩ := bindA H
 obtain ⟨⟨t907, t908, t911⟩, A8, H⟩ := bindA H
 obtain ⟨t915, A9, H⟩ := bindA H
 obtain ⟨⟨t916, t917, t920⟩, A10, H⟩ := bindA H
 obtain ⟨t923, A11, H⟩ := bindA H
 obtain rfl := Option.some.inj H
 go_enter Try.func14, Try.ntmps14
 try go_wp2_with (first | ((with_reducible refine gate_dst (N := 6) rfl ?_); refine box_event rfl (N := 6) rfl (cs := #[.bool a2_0, .slice A2_1 l2_1.length c2_1, .slice A2_2 l2_2.length c2_2]) (t := 29) (by go_simp <;> rfl) ?_; intro gb897 hg w12 hbox hb; have BK897 := mk0 (hbox); have GE897 := geB hg HB; replace HB := (by first | exact hbS HB hb | exact hbD HB hb); clear hb hbox hg))
 replace BK897 := mk0 (blk_drew BK897.out)
 replace HB := mk0 (b1 HB.out)
 refine start_ (n := 11) (S := fun w' => w'.cell? ⟨gb897, 0, none⟩ = some (.bool a2_0) ∧ w'.cell? ⟨gb897, 1, none⟩ = some (.slice A2_1 l2_1.length c2_1) ∧ w'.cell? ⟨gb897, 2, none⟩ = some (.slice A2_2 l2_2.length c2_2)) (ds := []) (bv 11 0) (by kernel_rfl) rfl rfl ⟨(blk_cell BK897.out 0).trans rfl, (blk_cell BK897.out 1).trans rfl, (blk_cell BK897.out 2).trans rfl⟩ (fun hHeld => ?_); refine with_tabW examboardref37_Eligible.tab1 examboardref37_Eligible.bits1 (fun HT_ HW_ => ?_)
 generalize w12.drew = w13 at BK897 HB hHeld ⊢
 refine puA (i := 1) (N := 11) (v := ?_) (a' := ?_) (bv 11 2) HT_ ?_ ?_ ?_; rotate_left; (intro w'; go_simp; with_reducible rfl); rotate_left; (simp only [Act.put, sA, sZ, sS, i64_w, i32_w]; rfl)
 refine puA (i := 4) (N := 14) (v := ?_) (a' := ?_) (bv 11 18) HT_ ?_ ?_ ?_; rotate_left; (intro w'; go_simp; with_reducible rfl); rotate_left; (simp only [Act.put, sA, sZ, sS, i64_w, i32_w]; rfl)
 refine take_ (i := 0) (N := some 10) (v := ?_) (a' := ?_) (bv 11 19) rfl rfl (take_ofW HT_.out HW_.out (by kernel_rfl)) (fun _ _ _ h => h) (Or.inl ⟨by rfl, ?_⟩) hHeld ?_ ?_; rotate_left; (rintro w' ⟨s0, s1, s2⟩; go_simp; with_reducible rfl); rotate_left; (simp only [Act.put, sA, sZ, sS, i64_w, i32_w]; rfl)
 refine join_ (σ := Value × Value × Value × Value × Nat) 1 (bv 11 1023) (fun s_ => [(12, .int .i64 t898), (15, .int .i64 t899), (17, .agg #[.bool t900, s_.1, s_.2.1]), (18, .agg #[.bool t907, s_.2.2.1, s_.2.2.2.1]), (9, .pointer (some ⟨s_.2.2.2.2, 0, none⟩)), (13, .int .i64 (wrap64 (t898 + 1))), (16, .int .i64 (wrap64 ((wrap64 (t898 + 1)) + t899)))]) (fun s_ w' => (w'.cell? ⟨gb897, 0, none⟩ = some (.bool a2_0) ∧ w'.cell? ⟨gb897, 1, none⟩ = some (.slice A2_1 l2_1.length c2_1) ∧ w'.cell? ⟨gb897, 2, none⟩ = some (.slice A2_2 l2_2.length c2_2)) ∧ (Kd.R (Kd.int .u32) 87 w' w.heap.size (fun k_ => some k_ ≠ (s_.2.1 : Value).ownBlock ∧ some k_ ≠ (s_.2.2.1 : Value).ownBlock ∧ some k_ ≠ (s_.2.2.2.1 : Value).ownBlock) s_.1 t901) ∧ (Kd.R (Kd.int .u32) 87 w' w.heap.size (fun k_ => some k_ ≠ (s_.1 : Value).ownBlock ∧ some k_ ≠ (s_.2.2.1 : Value).ownBlock ∧ some k_ ≠ (s_.2.2.2.1 : Value).ownBlock) s_.2.1 t904) ∧ (Kd.R (Kd.int .u32) 87 w' w.heap.size (fun k_ => some k_ ≠ (s_.1 : Value).ownBlock ∧ some k_ ≠ (s_.2.1 : Value).ownBlock ∧ some k_ ≠ (s_.2.2.2.1 : Value).ownBlock) s_.2.2.1 t908) ∧ (Kd.R (Kd.int .u32) 87 w' w.heap.size (fun k_ => some k_ ≠ (s_.1 : Value).ownBlock ∧ some k_ ≠ (s_.2.1 : Value).ownBlock ∧ some k_ ≠ (s_.2.2.1 : Value).ownBlock) s_.2.2.2.1 t911) ∧ (w'.heap[gb897]? = some (.cells #[.bool a2_0, .slice A2_1 l2_1.length c2_1, .slice A2_2 l2_2.length c2_2] 29 (0, 0))) ∧ (w'.heap[s_.2.2.2.2]? = some (.cells #[.bool false, .slice none 0 0, .slice none 0 0] 29 (0, 0))) ∧ (w.heap.size ≤ s_.2.2.2.2) ∧ (w.heap.size ≤ s_.2.2.2.2) ∧ (gb897 ≠ s_.2.2.2.2) ∧ (s_.2.2.2.2 ≠ gb897) ∧ (Below w.heap.size w w')) ?_ ?_
 rotate_left
 ·intro hJ2_5_7_8_9
  refine join_ (σ := Value × Value × Value × Value) 2 (bv 11 511) (fun s_ => [(12, .int .i64 t898), (15, .int .i64 t899), (17, .agg #[.bool t900, s_.1, s_.2.1]), (18, .agg #[.bool t907, s_.2.2.1, s_.2.2.2]), (13, .int .i64 (wrap64 (t898 + 1))), (16, .int .i64 (wrap64 ((wrap64 (t898 + 1)) + t899)))]) (fun s_ w' => (w'.cell? ⟨gb897, 0, none⟩ = some (.bool a2_0) ∧ w'.cell? ⟨gb897, 1, none⟩ = some (.slice A2_1 l2_1.length c2_1) ∧ w'.cell? ⟨gb897, 2, none⟩ = some (.slice A2_2 l2_2.length c2_2)) ∧ (Kd.R (Kd.int .u32) 87 w' w.heap.size (fun k_ => some k_ ≠ (s_.2.1 : Value).ownBlock ∧ some k_ ≠ (s_.2.2.1 : Value).ownBlock ∧ some k_ ≠ (s_.2.2.2 : Value).ownBlock) s_.1 t901) ∧ (Kd.R (Kd.int .u32) 87 w' w.heap.size (fun k_ => some k_ ≠ (s_.1 : Value).ownBlock ∧ some k_ ≠ (s_.2.2.1 : Value).ownBlock ∧ some k_ ≠ (s_.2.2.2 : Value).ownBlock) s_.2.1 t904) ∧ (Kd.R (Kd.int .u32) 87 w' w.heap.size (fun k_ => some k_ ≠ (s_.1 : Value).ownBlock ∧ some k_ ≠ (s_.2.1 : Value).ownBlock ∧ some k_ ≠ (s_.2.2.2 : Value).ownBlock) s_.2.2.1 t908) ∧ (Kd.R (Kd.int .u32) 87 w' w.heap.size (fun k_ => some k_ ≠ (s_.1 : Value).ownBlock ∧ some k_ ≠ (s_.2.1 : Value).ownBlock ∧ some k_ ≠ (s_.2.2.1 : Value).ownBlock) s_.2.2.2 t911) ∧ (w'.heap[gb897]? = some (.cells #[.bool a2_0, .slice A2_1 l2_1.length c2_1, .slice A2_2 l2_2.length c2_2] 29 (0, 0))) ∧ (Below w.heap.size w w')) ?_ ?_
  rotate_left
  ·intro hJ2_5_7_8
   refine join_ (σ := Value × Value × Nat) 2 (bv 11 767) (fun s_ => [(12, .int .i64 t898), (15, .int .i64 t899), (17, .agg #[.bool t900, s_.1, s_.2.1]), (9, .pointer (some ⟨s_.2.2, 0, none⟩)), (13, .int .i64 (wrap64 (t898 + 1))), (16, .int .i64 (wrap64 ((wrap64 (t898 + 1)) + t899)))]) (fun s_ w' => (w'.cell? ⟨gb897, 0, none⟩ = some (.bool a2_0) ∧ w'.cell? ⟨gb897, 1, none⟩ = some (.slice A2_1 l2_1.length c2_1) ∧ w'.cell? ⟨gb897, 2, none⟩ = some (.slice A2_2 l2_2.length c2_2)) ∧ (Kd.R (Kd.int .u32) 87 w' w.heap.size (fun k_ => some k_ ≠ (s_.2.1 : Value).ownBlock) s_.1 t901) ∧ (Kd.R (Kd.int .u32) 87 w' w.heap.size (fun k_ => some k_ ≠ (s_.1 : Value).ownBlock) s_.2.1 t904) ∧ (w'.heap[gb897]? = some (.cells #[.bool a2_0, .slice A2_1 l2_1.length c2_1, .slice A2_2 l2_2.length c2_2] 29 (0, 0))) ∧ (w'.heap[s_.2.2]? = some (.cells #[.bool false, .slice none 0 0, .slice none 0 0] 29 (0, 0))) ∧ (w.heap.size ≤ s_.2.2) ∧ (w.heap.size ≤ s_.2.2) ∧ (gb897 ≠ s_.2.2) ∧ (s_.2.2 ≠ gb897) ∧ (Below w.heap.size w w')) ?_ ?_
   rotate_left
   ·intro hJ2_5_7_9
    refine join_ (σ := Value × Value) 3 (bv 11 255) (fun s_ => [(12, .int .i64 t898), (15, .int .i64 t899), (17, .agg #[.bool t900, s_.1, s_.2]), (13, .int .i64 (wrap64 (t898 + 1))), (16, .int .i64 (wrap64 ((wrap64 (t898 + 1)) + t899)))]) (fun s_ w' => (w'.cell? ⟨gb897, 0, none⟩ = some (.bool a2_0) ∧ w'.cell? ⟨gb897, 1, none⟩ = some (.slice A2_1 l2_1.length c2_1) ∧ w'.cell? ⟨gb897, 2, none⟩ = some (.slice A2_2 l2_2.length c2_2)) ∧ (Kd.R (Kd.int .u32) 87 w' w.heap.size (fun k_ => some k_ ≠ (s_.2 : Value).ownBlock) s_.1 t901) ∧ (Kd.R (Kd.int .u32) 87 w' w.heap.size (fun k_ => some k_ ≠ (s_.1 : Value).ownBlock) s_.2 t904) ∧ (w'.heap[gb897]? = some (.cells #[.bool a2_0, .slice A2_1 l2_1.length c2_1, .slice A2_2 l2_2.length c2_2] 29 (0, 0))) ∧ (Below w.heap.size w w')) ?_ ?_
    rotate_left
    ·intro hJ2_5_7
     refine join_ (σ := Nat) 3 (bv 11 639) (fun s_ => [(12, .int .i64 t898), (15, .int .i64 t899), (9, .pointer (some ⟨s_, 0, none⟩)), (13, .int .i64 (wrap64 (t898 + 1))), (16, .int .i64 (wrap64 ((wrap64 (t898 + 1)) + t899)))]) (fun s_ w' => (w'.cell? ⟨gb897, 0, none⟩ = some (.bool a2_0) ∧ w'.cell? ⟨gb897, 1, none⟩ = some (.slice A2_1 l2_1.length c2_1) ∧ w'.cell? ⟨gb897, 2, none⟩ = some (.slice A2_2 l2_2.length c2_2)) ∧ (w'.heap[gb897]? = some (.cells #[.bool a2_0, .slice A2_1 l2_1.length c2_1, .slice A2_2 l2_2.length c2_2] 29 (0, 0))) ∧ (w'.heap[s_]? = some (.cells #[.bool false, .slice none 0 0, .slice none 0 0] 29 (0, 0))) ∧ (w.heap.size ≤ s_) ∧ (w.heap.size ≤ s_) ∧ (gb897 ≠ s_) ∧ (s_ ≠ gb897) ∧ (Below w.heap.size w w')) ?_ ?_
     rotate_left
     ·intro hJ2_5_9
      refine join_ (σ := Unit) 4 (bv 11 127) (fun s_ => [(12, .int .i64 t898), (15, .int .i64 t899), (13, .int .i64 (wrap64 (t898 + 1))), (16, .int .i64 (wrap64 ((wrap64 (t898 + 1)) + t899)))]) (fun s_ w' => (w'.cell? ⟨gb897, 0, none⟩ = some (.bool a2_0) ∧ w'.cell? ⟨gb897, 1, none⟩ = some (.slice A2_1 l2_1.length c2_1) ∧ w'.cell? ⟨gb897, 2, none⟩ = some (.slice A2_2 l2_2.length c2_2)) ∧ (w'.heap[gb897]? = some (.cells #[.bool a2_0, .slice A2_1 l2_1.length c2_1, .slice A2_2 l2_2.length c2_2] 29 (0, 0))) ∧ (Below w.heap.size w w')) ?_ ?_
      rotate_left
      ·intro hJ2_5
       refine join_ (σ := Nat) 5 (bv 11 543) (fun s_ => [(12, .int .i64 t898), (9, .pointer (some ⟨s_, 0, none⟩)), (13, .int .i64 (wrap64 (t898 + 1)))]) (fun s_ w' => (w'.cell? ⟨gb897, 0, none⟩ = some (.bool a2_0) ∧ w'.cell? ⟨gb897, 1, none⟩ = some (.slice A2_1 l2_1.length c2_1) ∧ w'.cell? ⟨gb897, 2, none⟩ = some (.slice A2_2 l2_2.length c2_2)) ∧ (w'.heap[gb897]? = some (.cells #[.bool a2_0, .slice A2_1 l2_1.length c2_1, .slice A2_2 l2_2.length c2_2] 29 (0, 0))) ∧ (w'.heap[s_]? = some (.cells #[.bool false, .slice none 0 0, .slice none 0 0] 29 (0, 0))) ∧ (w.heap.size ≤ s_) ∧ (w.heap.size ≤ s_) ∧ (gb897 ≠ s_) ∧ (s_ ≠ gb897) ∧ (Below w.heap.size w w')) ?_ ?_
       rotate_left
       ·intro hJ2_9
        refine join_ (σ := Unit) 6 (bv 11 31) (fun s_ => [(12, .int .i64 t898), (13, .int .i64 (wrap64 (t898 + 1)))]) (fun s_ w' => (w'.cell? ⟨gb897, 0, none⟩ = some (.bool a2_0) ∧ w'.cell? ⟨gb897, 1, none⟩ = some (.slice A2_1 l2_1.length c2_1) ∧ w'.cell? ⟨gb897, 2, none⟩ = some (.slice A2_2 l2_2.length c2_2)) ∧ (w'.heap[gb897]? = some (.cells #[.bool a2_0, .slice A2_1 l2_1.length c2_1, .slice A2_2 l2_2.length c2_2] 29 (0, 0))) ∧ (Below w.heap.size w w')) ?_ ?_
        rotate_left
        ·intro hJ2
         refine join_ (σ := Nat) 7 (bv 11 531) (fun s_ => [(9, .pointer (some ⟨s_, 0, none⟩))]) (fun s_ w' => (w'.cell? ⟨gb897, 0, none⟩ = some (.bool a2_0) ∧ w'.cell? ⟨gb897, 1, none⟩ = some (.slice A2_1 l2_1.length c2_1) ∧ w'.cell? ⟨gb897, 2, none⟩ = some (.slice A2_2 l2_2.length c2_2)) ∧ (w'.heap[gb897]? = some (.cells #[.bool a2_0, .slice A2_1 l2_1.length c2_1, .slice A2_2 l2_2.length c2_2] 29 (0, 0))) ∧ (w'.heap[s_]? = some (.cells #[.bool false, .slice none 0 0, .slice none 0 0] 29 (0, 0))) ∧ (w.heap.size ≤ s_) ∧ (w.heap.size ≤ s_) ∧ (gb897 ≠ s_) ∧ (s_ ≠ gb897) ∧ (Below w.heap.size w w')) ?_ ?_
         rotate_left
         ·intro hJ9
          refine two_ (i := 2) (j := 9) (Ni := some 12) (Nj := some 9) (bv 11 23) (bv 11 531) rfl rfl rfl rfl (two_of HT_.out (by kernel_rfl)) (by decide) (by decide) (fun K hK => ?_) (fun K hK => ?_)
          ·skip
           refine goes_ Try.func34 (by kernel_rfl) rfl #[.int .i64 a1] (by rfl) rfl rfl (by go_simp <;> rfl) ?_
           with_reducible refine (examboardref37_limited.calls a1 t898 _ A5.out).mono ?_
           rintro e w' ⟨rfl, ⟨nd, rfl⟩⟩
           refine ⟨_, rfl, ?_⟩
           refine hK.out _ _ ⟨(blk_cell BK897.out 0).trans rfl, (blk_cell BK897.out 1).trans rfl, (blk_cell BK897.out 2).trans rfl⟩ (fun hHeld => ?_)
           clear hK K
           refine norm_ (a' := ?_) ?_ ?_
           rotate_left
           ·show Act.put _ (some 12) _ = _
            simp only [Act.put, sA, sZ, sS, i64_w, i32_w]
            rfl
           refine puA (i := 3) (N := 13) (v := ?_) (a' := ?_) (bv 11 31) HT_ ?_ ?_ ?_; rotate_left; (intro w'; go_simp; with_reducible rfl); rotate_left; (simp only [Act.put, sA, sZ, sS, i64_w, i32_w]; rfl)
           exact norm_ (by first | (simp only [putAll, Act.put, sA, sZ, sS]; done) | (simp only [putAll, Act.put, sA, sZ, sS]; rfl)) (hJ2 () _ ⟨hHeld, (by (with_reducible repeat refine blk_drewN ?_ _); exact BK897.out), (by repeat (first | exact HB.out | apply bN | apply b1 | apply bA | refine bS ?_ GE897.out))⟩)
          ·skip
           refine box_step ?hg (N := 9) ?hd (cs := #[.bool false, .slice none 0 0, .slice none 0 0]) (t := 29) ?hr ?_; (case hd => rfl); (case hg => rfl); (case hr => go_simp <;> rfl)
           intro gb914 hg w14 hbox hb
           have BK914 := mk0 (hbox)
           have GW914 := mk0 ((by rw [hg]; exact (bZ (by repeat (first | exact HB.out | apply bN | apply b1 | apply bA | refine bS ?_ GE897.out))) : w.heap.size ≤ gb914))
           have GE914 := mk0 ((by rw [hg]; exact (bZ (by repeat (first | exact HB.out | apply bN | apply b1 | apply bA | refine bS ?_ GE897.out))) : w.heap.size ≤ gb914))
           replace HB := mk0 (below_step (by repeat (first | exact HB.out | apply bN | apply b1 | apply bA | refine bS ?_ GE897.out)) hb)
           have NB897_914 := nbA hg BK897
           have NB914_897 := nbB hg BK897
           replace BK897 := (by first | exact bkB BK897 hb | exact bkD BK897 hb)
           clear hb hbox hg
           refine hK.out _ _ ⟨(blk_cell BK897.out 0).trans rfl, (blk_cell BK897.out 1).trans rfl, (blk_cell BK897.out 2).trans rfl⟩ (fun hHeld => ?_)
           clear hK K
           refine norm_ (a' := ?_) ?_ ?_
           rotate_left
           ·show Act.put _ (some 9) _ = _
            simp only [Act.put, sA, sZ, sS, i64_w, i32_w]
            rfl
           exact norm_ (by first | (simp only [putAll, Act.put, sA, sZ, sS]; done) | (simp only [putAll, Act.put, sA, sZ, sS]; rfl)) (hJ9 (gb914) _ ⟨hHeld, (by (with_reducible repeat refine blk_drewN ?_ _); exact BK897.out), (by (with_reducible repeat refine blk_drewN ?_ _); exact BK914.out), GW914.out, GE914.out, NB897_914.out, NB914_897.out, (by repeat (first | exact HB.out | apply bN | apply b1 | apply bA | refine bS ?_ GE897.out | refine bS ?_ GE914.out))⟩)
         ·skip
          rintro gb914 w15 ⟨hS_, h0_, h1_, h2_, h3_, h4_, h5_, h6_⟩
          replace BK897 : Aside0 (w15.heap[gb897]? = some (.cells #[.bool a2_0, .slice A2_1 l2_1.length c2_1, .slice A2_2 l2_2.length c2_2] 29 (0, 0))) := ⟨h0_⟩
          have BK914 : Aside0 (w15.heap[gb914]? = some (.cells #[.bool false, .slice none 0 0, .slice none 0 0] 29 (0, 0))) := ⟨h1_⟩
          have GW914 : Aside0 (w.heap.size ≤ gb914) := ⟨h2_⟩
          have GE914 : Aside0 (w.heap.size ≤ gb914) := ⟨h3_⟩
          have NB897_914 : Aside0 (gb897 ≠ gb914) := ⟨h4_⟩
          have NB914_897 : Aside0 (gb914 ≠ gb897) := ⟨h5_⟩
          replace HB : Aside0 (Below w.heap.size w w15) := ⟨h6_⟩
          clear h0_ h1_ h2_ h3_ h4_ h5_ h6_
          have hHeld : w15.cell? ⟨gb897, 0, none⟩ = some (.bool a2_0) ∧ w15.cell? ⟨gb897, 1, none⟩ = some (.slice A2_1 l2_1.length c2_1) ∧ w15.cell? ⟨gb897, 2, none⟩ = some (.slice A2_2 l2_2.length c2_2) := hS_
          refine norm_ (a' := ?_) ?_ ?_
          rotate_left
          ·simp only [putAll, Act.put, sA, sZ, sS]
           rfl
          refine one_ (i := 2) (N := some 12) (bv 11 535) rfl rfl (one_of HT_.out (by kernel_rfl)) (by decide) (fun K hK => ?_)
          refine goes_ Try.func34 (by kernel_rfl) rfl #[.int .i64 a1] (by rfl) rfl rfl (by go_simp <;> rfl) ?_
          with_reducible refine (examboardref37_limited.calls a1 t898 _ A5.out).mono ?_
          rintro e w' ⟨rfl, ⟨nd, rfl⟩⟩
          refine ⟨_, rfl, ?_⟩
          refine hK.out _ _ ⟨(blk_cell BK897.out 0).trans rfl, (blk_cell BK897.out 1).trans rfl, (blk_cell BK897.out 2).trans rfl⟩ (fun hHeld => ?_)
          clear hK K
          refine norm_ (a' := ?_) ?_ ?_
          rotate_left
          ·show Act.put _ (some 12) _ = _
           simp only [Act.put, sA, sZ, sS, i64_w, i32_w]
           rfl
          refine puA (i := 3) (N := 13) (v := ?_) (a' := ?_) (bv 11 543) HT_ ?_ ?_ ?_; rotate_left; (intro w'; go_simp; with_reducible rfl); rotate_left; (simp only [Act.put, sA, sZ, sS, i64_w, i32_w]; rfl)
          exact norm_ (by first | (simp only [putAll, Act.put, sA, sZ, sS]; done) | (simp only [putAll, Act.put, sA, sZ, sS]; rfl)) (hJ2_9 (gb914) _ ⟨hHeld, (by (with_reducible repeat refine blk_drewN ?_ _); exact BK897.out), (by (with_reducible repeat refine blk_drewN ?_ _); exact BK914.out), GW914.out, GE914.out, NB897_914.out, NB914_897.out, (by repeat (first | exact HB.out | apply bN | apply b1 | apply bA | refine bS ?_ GE897.out | refine bS ?_ GE914.out))⟩)
        ·skip
         rintro _ w14 ⟨hS_, h0_, h1_⟩
         replace BK897 : Aside0 (w14.heap[gb897]? = some (.cells #[.bool a2_0, .slice A2_1 l2_1.length c2_1, .slice A2_2 l2_2.length c2_2] 29 (0, 0))) := ⟨h0_⟩
         replace HB : Aside0 (Below w.heap.size w w14) := ⟨h1_⟩
         clear h0_ h1_
         have hHeld : w14.cell? ⟨gb897, 0, none⟩ = some (.bool a2_0) ∧ w14.cell? ⟨gb897, 1, none⟩ = some (.slice A2_1 l2_1.length c2_1) ∧ w14.cell? ⟨gb897, 2, none⟩ = some (.slice A2_2 l2_2.length c2_2) := hS_
         refine norm_ (a' := ?_) ?_ ?_
         rotate_left
         ·simp only [putAll, Act.put, sA, sZ, sS]
          rfl
         refine two_ (i := 5) (j := 9) (Ni := some 15) (Nj := some 9) (bv 11 63) (bv 11 543) rfl rfl rfl rfl (two_of HT_.out (by kernel_rfl)) (by decide) (by decide) (fun K hK => ?_) (fun K hK => ?_)
         ·skip
          refine goes_ Try.func34 (by kernel_rfl) rfl #[.int .i64 a3] (by rfl) rfl rfl (by go_simp <;> rfl) ?_
          with_reducible refine (examboardref37_limited.calls a3 t899 _ A6.out).mono ?_
          rintro e w' ⟨rfl, ⟨nd, rfl⟩⟩
          refine ⟨_, rfl, ?_⟩
          refine hK.out _ _ ⟨(blk_cell BK897.out 0).trans rfl, (blk_cell BK897.out 1).trans rfl, (blk_cell BK897.out 2).trans rfl⟩ (fun hHeld => ?_)
          clear hK K
          refine norm_ (a' := ?_) ?_ ?_
          rotate_left
          ·show Act.put _ (some 15) _ = _
           simp only [Act.put, sA, sZ, sS, i64_w, i32_w]
           rfl
          refine puA (i := 6) (N := 16) (v := ?_) (a' := ?_) (bv 11 127) HT_ ?_ ?_ ?_; rotate_left; (intro w'; go_simp; with_reducible rfl); rotate_left; (simp only [Act.put, sA, sZ, sS, i64_w, i32_w]; rfl)
          exact norm_ (by first | (simp only [putAll, Act.put, sA, sZ, sS]; done) | (simp only [putAll, Act.put, sA, sZ, sS]; rfl)) (hJ2_5 () _ ⟨hHeld, (by (with_reducible repeat refine blk_drewN ?_ _); exact BK897.out), (by repeat (first | exact HB.out | apply bN | apply b1 | apply bA | refine bS ?_ GE897.out))⟩)
         ·skip
          refine box_step ?hg (N := 9) ?hd (cs := #[.bool false, .slice none 0 0, .slice none 0 0]) (t := 29) ?hr ?_; (case hd => rfl); (case hg => rfl); (case hr => go_simp <;> rfl)
          intro gb914 hg w15 hbox hb
          have BK914 := mk0 (hbox)
          have GW914 := mk0 ((by rw [hg]; exact (bZ (by repeat (first | exact HB.out | apply bN | apply b1 | apply bA | refine bS ?_ GE897.out))) : w.heap.size ≤ gb914))
          have GE914 := mk0 ((by rw [hg]; exact (bZ (by repeat (first | exact HB.out | apply bN | apply b1 | apply bA | refine bS ?_ GE897.out))) : w.heap.size ≤ gb914))
          replace HB := mk0 (below_step (by repeat (first | exact HB.out | apply bN | apply b1 | apply bA | refine bS ?_ GE897.out)) hb)
          have NB897_914 := nbA hg BK897
          have NB914_897 := nbB hg BK897
          replace BK897 := (by first | exact bkB BK897 hb | exact bkD BK897 hb)
          clear hb hbox hg
          refine hK.out _ _ ⟨(blk_cell BK897.out 0).trans rfl, (blk_cell BK897.out 1).trans rfl, (blk_cell BK897.out 2).trans rfl⟩ (fun hHeld => ?_)
          clear hK K
          refine norm_ (a' := ?_) ?_ ?_
          rotate_left
          ·show Act.put _ (some 9) _ = _
           simp only [Act.put, sA, sZ, sS, i64_w, i32_w]
           rfl
          exact norm_ (by first | (simp only [putAll, Act.put, sA, sZ, sS]; done) | (simp only [putAll, Act.put, sA, sZ, sS]; rfl)) (hJ2_9 (gb914) _ ⟨hHeld, (by (with_reducible repeat refine blk_drewN ?_ _); exact BK897.out), (by (with_reducible repeat refine blk_drewN ?_ _); exact BK914.out), GW914.out, GE914.out, NB897_914.out, NB914_897.out, (by repeat (first | exact HB.out | apply bN | apply b1 | apply bA | refine bS ?_ GE897.out | refine bS ?_ GE914.out))⟩)
       ·skip
        rintro gb914 w15 ⟨hS_, h0_, h1_, h2_, h3_, h4_, h5_, h6_⟩
        replace BK897 : Aside0 (w15.heap[gb897]? = some (.cells #[.bool a2_0, .slice A2_1 l2_1.length c2_1, .slice A2_2 l2_2.length c2_2] 29 (0, 0))) := ⟨h0_⟩
        have BK914 : Aside0 (w15.heap[gb914]? = some (.cells #[.bool false, .slice none 0 0, .slice none 0 0] 29 (0, 0))) := ⟨h1_⟩
        have GW914 : Aside0 (w.heap.size ≤ gb914) := ⟨h2_⟩
        have GE914 : Aside0 (w.heap.size ≤ gb914) := ⟨h3_⟩
        have NB897_914 : Aside0 (gb897 ≠ gb914) := ⟨h4_⟩
        have NB914_897 : Aside0 (gb914 ≠ gb897) := ⟨h5_⟩
        replace HB : Aside0 (Below w.heap.size w w15) := ⟨h6_⟩
        clear h0_ h1_ h2_ h3_ h4_ h5_ h6_
        have hHeld : w15.cell? ⟨gb897, 0, none⟩ = some (.bool a2_0) ∧ w15.cell? ⟨gb897, 1, none⟩ = some (.slice A2_1 l2_1.length c2_1) ∧ w15.cell? ⟨gb897, 2, none⟩ = some (.slice A2_2 l2_2.length c2_2) := hS_
        refine norm_ (a' := ?_) ?_ ?_
        rotate_left
        ·simp only [putAll, Act.put, sA, sZ, sS]
         rfl
        refine one_ (i := 5) (N := some 15) (bv 11 575) rfl rfl (one_of HT_.out (by kernel_rfl)) (by decide) (fun K hK => ?_)
        refine goes_ Try.func34 (by kernel_rfl) rfl #[.int .i64 a3] (by rfl) rfl rfl (by go_simp <;> rfl) ?_
        with_reducible refine (examboardref37_limited.calls a3 t899 _ A6.out).mono ?_
        rintro e w' ⟨rfl, ⟨nd, rfl⟩⟩
        refine ⟨_, rfl, ?_⟩
        refine hK.out _ _ ⟨(blk_cell BK897.out 0).trans rfl, (blk_cell BK897.out 1).trans rfl, (blk_cell BK897.out 2).trans rfl⟩ (fun hHeld => ?_)
        clear hK K
        refine norm_ (a' := ?_) ?_ ?_
        rotate_left
        ·show Act.put _ (some 15) _ = _
         simp only [Act.put, sA, sZ, sS, i64_w, i32_w]
         rfl
        refine puA (i := 6) (N := 16) (v := ?_) (a' := ?_) (bv 11 639) HT_ ?_ ?_ ?_; rotate_left; (intro w'; go_simp; with_reducible rfl); rotate_left; (simp only [Act.put, sA, sZ, sS, i64_w, i32_w]; rfl)
        exact norm_ (by first | (simp only [putAll, Act.put, sA, sZ, sS]; done) | (simp only [putAll, Act.put, sA, sZ, sS]; rfl)) (hJ2_5_9 (gb914) _ ⟨hHeld, (by (with_reducible repeat refine blk_drewN ?_ _); exact BK897.out), (by (with_reducible repeat refine blk_drewN ?_ _); exact BK914.out), GW914.out, GE914.out, NB897_914.out, NB914_897.out, (by repeat (first | exact HB.out | apply bN | apply b1 | apply bA | refine bS ?_ GE897.out | refine bS ?_ GE914.out))⟩)
      ·skip
       rintro _ w14 ⟨hS_, h0_, h1_⟩
       replace BK897 : Aside0 (w14.heap[gb897]? = some (.cells #[.bool a2_0, .slice A2_1 l2_1.length c2_1, .slice A2_2 l2_2.length c2_2] 29 (0, 0))) := ⟨h0_⟩
       replace HB : Aside0 (Below w.heap.size w w14) := ⟨h1_⟩
       clear h0_ h1_
       have hHeld : w14.cell? ⟨gb897, 0, none⟩ = some (.bool a2_0) ∧ w14.cell? ⟨gb897, 1, none⟩ = some (.slice A2_1 l2_1.length c2_1) ∧ w14.cell? ⟨gb897, 2, none⟩ = some (.slice A2_2 l2_2.length c2_2) := hS_
       refine norm_ (a' := ?_) ?_ ?_
       rotate_left
       ·simp only [putAll, Act.put, sA, sZ, sS]
        rfl
       refine two_ (i := 7) (j := 9) (Ni := some 17) (Nj := some 9) (bv 11 255) (bv 11 639) rfl rfl rfl rfl (two_of HT_.out (by kernel_rfl)) (by decide) (by decide) (fun K hK => ?_) (fun K hK => ?_)
       ·skip
        refine goes_ Try.func33 (by kernel_rfl) rfl #[.int .i64 (wrap64 ((wrap64 (t898 + 1)) + t899))] (by rfl) rfl rfl (by go_simp <;> rfl) ?_
        with_reducible refine (examboardref37_whole.calls k (wrap64 ((wrap64 (t898 + 1)) + t899)) t900 t901 t904 _ A7.out).mono ?_
        rintro e w15 ⟨v902, v905, rfl, ho0, ho1, hb⟩
        refine ⟨_, rfl, ?_⟩
        have HO903 := mk0 (Rl ho0 (bZ (by repeat (first | exact HB.out | apply bN | apply b1 | apply bA | refine bS ?_ GE897.out))))
        have HO906 := mk0 (Rl ho1 (bZ (by repeat (first | exact HB.out | apply bN | apply b1 | apply bA | refine bS ?_ GE897.out))))
        replace BK897 := (by first | exact bkB BK897 hb | exact bkD BK897 hb)
        replace HB := mk0 (below_step (by repeat (first | exact HB.out | apply bN | apply b1 | apply bA | refine bS ?_ GE897.out)) hb)
        refine hK.out _ _ ⟨(blk_cell BK897.out 0).trans rfl, (blk_cell BK897.out 1).trans rfl, (blk_cell BK897.out 2).trans rfl⟩ (fun hHeld => ?_)
        clear hK K
        refine norm_ (a' := ?_) ?_ ?_
        rotate_left
        ·show Act.put _ (some 17) _ = _
         simp only [Act.put, sA, sZ, sS, i64_w, i32_w]
         rfl
        exact norm_ (by first | (simp only [putAll, Act.put, sA, sZ, sS]; done) | (simp only [putAll, Act.put, sA, sZ, sS]; rfl)) (hJ2_5_7 (v902, v905) _ ⟨hHeld, (by (with_reducible repeat apply Kd.R_drewN); exact HO903.out), (by (with_reducible repeat apply Kd.R_drewN); exact HO906.out), (by (with_reducible repeat refine blk_drewN ?_ _); exact BK897.out), (by repeat (first | exact HB.out | apply bN | apply b1 | apply bA | refine bS ?_ GE897.out))⟩)
       ·skip
        refine box_step ?hg (N := 9) ?hd (cs := #[.bool false, .slice none 0 0, .slice none 0 0]) (t := 29) ?hr ?_; (case hd => rfl); (case hg => rfl); (case hr => go_simp <;> rfl)
        intro gb914 hg w15 hbox hb
        have BK914 := mk0 (hbox)
        have GW914 := mk0 ((by rw [hg]; exact (bZ (by repeat (first | exact HB.out | apply bN | apply b1 | apply bA | refine bS ?_ GE897.out))) : w.heap.size ≤ gb914))
        have GE914 := mk0 ((by rw [hg]; exact (bZ HB.out) : w.heap.size ≤ gb914))
        replace HB := mk0 (below_step HB.out hb)
        have NB897_914 := nbA hg BK897
        have NB914_897 := nbB hg BK897
        replace BK897 := (by first | exact bkB BK897 hb | exact bkD BK897 hb)
        clear hb hbox hg
        refine hK.out _ _ ⟨(blk_cell BK897.out 0).trans rfl, (blk_cell BK897.out 1).trans rfl, (blk_cell BK897.out 2).trans rfl⟩ (fun hHeld => ?_)
        clear hK K
        refine norm_ (a' := ?_) ?_ ?_
        rotate_left
        ·show Act.put _ (some 9) _ = _
         simp only [Act.put, sA, sZ, sS, i64_w, i32_w]
         rfl
        exact norm_ (by first | (simp only [putAll, Act.put, sA, sZ, sS]; done) | (simp only [putAll, Act.put, sA, sZ, sS]; rfl)) (hJ2_5_9 (gb914) _ ⟨hHeld, (by (with_reducible repeat refine blk_drewN ?_ _); exact BK897.out), (by (with_reducible repeat refine blk_drewN ?_ _); exact BK914.out), GW914.out, GE914.out, NB897_914.out, NB914_897.out, HB.out⟩)
     ·skip
      rintro gb914 w15 ⟨hS_, h0_, h1_, h2_, h3_, h4_, h5_, h6_⟩
      replace BK897 : Aside0 (w15.heap[gb897]? = some (.cells #[.bool a2_0, .slice A2_1 l2_1.length c2_1, .slice A2_2 l2_2.length c2_2] 29 (0, 0))) := ⟨h0_⟩
      have BK914 : Aside0 (w15.heap[gb914]? = some (.cells #[.bool false, .slice none 0 0, .slice none 0 0] 29 (0, 0))) := ⟨h1_⟩
      have GW914 : Aside0 (w.heap.size ≤ gb914) := ⟨h2_⟩
      have GE914 : Aside0 (w.heap.size ≤ gb914) := ⟨h3_⟩
      have NB897_914 : Aside0 (gb897 ≠ gb914) := ⟨h4_⟩
      have NB914_897 : Aside0 (gb914 ≠ gb897) := ⟨h5_⟩
      replace HB : Aside0 (Below w.heap.size w w15) := ⟨h6_⟩
      clear h0_ h1_ h2_ h3_ h4_ h5_ h6_
      have hHeld : w15.cell? ⟨gb897, 0, none⟩ = some (.bool a2_0) ∧ w15.cell? ⟨gb897, 1, none⟩ = some (.slice A2_1 l2_1.length c2_1) ∧ w15.cell? ⟨gb897, 2, none⟩ = some (.slice A2_2 l2_2.length c2_2) := hS_
      refine norm_ (a' := ?_) ?_ ?_
      rotate_left
      ·simp only [putAll, Act.put, sA, sZ, sS]
       rfl
      refine one_ (i := 7) (N := some 17) (bv 11 767) rfl rfl (one_of HT_.out (by kernel_rfl)) (by decide) (fun K hK => ?_)
      refine goes_ Try.func33 (by kernel_rfl) rfl #[.int .i64 (wrap64 ((wrap64 (t898 + 1)) + t899))] (by rfl) rfl rfl (by go_simp <;> rfl) ?_
      with_reducible refine (examboardref37_whole.calls k (wrap64 ((wrap64 (t898 + 1)) + t899)) t900 t901 t904 _ A7.out).mono ?_
      rintro e w16 ⟨v902, v905, rfl, ho0, ho1, hb⟩
      refine ⟨_, rfl, ?_⟩
      have HO903 := mk0 (Rl ho0 (bZ HB.out))
      have HO906 := mk0 (Rl ho1 (bZ HB.out))
      replace BK897 := (by first | exact bkB BK897 hb | exact bkD BK897 hb)
      replace BK914 := (by first | exact bkB BK914 hb | exact bkD BK914 hb)
      replace HB := mk0 (below_step HB.out hb)
      refine hK.out _ _ ⟨(blk_cell BK897.out 0).trans rfl, (blk_cell BK897.out 1).trans rfl, (blk_cell BK897.out 2).trans rfl⟩ (fun hHeld => ?_)
      clear hK K
      refine norm_ (a' := ?_) ?_ ?_
      rotate_left
      ·show Act.put _ (some 17) _ = _
       simp only [Act.put, sA, sZ, sS, i64_w, i32_w]
       rfl
      exact norm_ (by first | (simp only [putAll, Act.put, sA, sZ, sS]; done) | (simp only [putAll, Act.put, sA, sZ, sS]; rfl)) (hJ2_5_7_9 (v902, v905, gb914) _ ⟨hHeld, (by (with_reducible repeat apply Kd.R_drewN); exact HO903.out), (by (with_reducible repeat apply Kd.R_drewN); exact HO906.out), (by (with_reducible repeat refine blk_drewN ?_ _); exact BK897.out), (by (with_reducible repeat refine blk_drewN ?_ _); exact BK914.out), GW914.out, GE914.out, NB897_914.out, NB914_897.out, HB.out⟩)
    ·skip
     rintro ⟨v902, v905⟩ w15 ⟨hS_, h0_, h1_, h2_, h3_⟩
     have HO903 : Aside0 (Kd.R (Kd.int .u32) 87 w15 w.heap.size (fun k_ => some k_ ≠ (v905 : Value).ownBlock) v902 t901) := ⟨h0_⟩
     have HO906 : Aside0 (Kd.R (Kd.int .u32) 87 w15 w.heap.size (fun k_ => some k_ ≠ (v902 : Value).ownBlock) v905 t904) := ⟨h1_⟩
     replace BK897 : Aside0 (w15.heap[gb897]? = some (.cells #[.bool a2_0, .slice A2_1 l2_1.length c2_1, .slice A2_2 l2_2.length c2_2] 29 (0, 0))) := ⟨h2_⟩
     replace HB : Aside0 (Below w.heap.size w w15) := ⟨h3_⟩
     clear h0_ h1_ h2_ h3_
     have hHeld : w15.cell? ⟨gb897, 0, none⟩ = some (.bool a2_0) ∧ w15.cell? ⟨gb897, 1, none⟩ = some (.slice A2_1 l2_1.length c2_1) ∧ w15.cell? ⟨gb897, 2, none⟩ = some (.slice A2_2 l2_2.length c2_2) := hS_
     obtain ⟨Ao16, co16, eo16⟩ := Kd.R_slice HO903.out
     (first | subst eo16 | (injection eo16 with f1_ f2_ f3_; have f4_ := f1_.symm; have f5_ := f3_.symm; clear f1_ f2_ f3_; subst f4_; subst f5_))
     obtain ⟨Ao17, co17, eo17⟩ := Kd.R_slice HO906.out
     (first | subst eo17 | (injection eo17 with f1_ f2_ f3_; have f4_ := f1_.symm; have f5_ := f3_.symm; clear f1_ f2_ f3_; subst f4_; subst f5_))
     refine norm_ (a' := ?_) ?_ ?_
     rotate_left
     ·simp only [putAll, Act.put, sA, sZ, sS]
      rfl
     refine two_ (i := 8) (j := 9) (Ni := some 18) (Nj := some 9) (bv 11 511) (bv 11 767) rfl rfl rfl rfl (two_of HT_.out (by kernel_rfl)) (by decide) (by decide) (fun K hK => ?_) (fun K hK => ?_)
     ·skip
      refine goes_ Try.func32 (by kernel_rfl) rfl #[.agg #[.bool a2_0, .slice A2_1 l2_1.length c2_1, .slice A2_2 l2_2.length c2_2], .agg #[.bool t900, .slice Ao16 t901.length co16, .slice Ao17 t904.length co17]] (by rfl) rfl rfl (by go_simp <;> rfl) ?_
      with_reducible refine (examboardref03_Mul.calls k a2_0 _ _ l2_1 _ _ l2_2 t900 _ _ t901 _ _ t904 t907 t908 t911 _ ?side1 ?side2 ?side3 ?side4 ?side5 ?side6 ?side7 ?side8 A8.out).mono ?_
      (case side1 => exact (Cb HR2_1.out HB.out))
      (case side2 => exact HC2_1.out)
      (case side3 => exact (Cb HR2_2.out HB.out))
      (case side4 => exact HC2_2.out)
      (case side5 => exact (Kd.R_reads' HO903.out).2.2)
      (case side6 => exact (Kd.R_reads' HO903.out).2.1)
      (case side7 => exact (Kd.R_reads' HO906.out).2.2)
      (case side8 => exact (Kd.R_reads' HO906.out).2.1)
      rintro e w18 ⟨v909, v912, rfl, ho0, ho1, hb⟩
      refine ⟨_, rfl, ?_⟩
      have HO910 := mk0 (Rl (Rn (Rn ho0 (Rq (by (with_reducible repeat apply Kd.R_drewN); exact HO903.out))) (Rq (by (with_reducible repeat apply Kd.R_drewN); exact HO906.out))) (bZ HB.out))
      have HO913 := mk0 (Rl (Rn (Rn ho1 (Rq (by (with_reducible repeat apply Kd.R_drewN); exact HO903.out))) (Rq (by (with_reducible repeat apply Kd.R_drewN); exact HO906.out))) (bZ HB.out))
      replace HO903 := mk0 (Rm (Kd.R_told (Kd.R_told (Kd.R_old (by (with_reducible repeat apply Kd.R_drewN); exact HO903.out) hb) (Rs ho0)) (Rs ho1)) (fun _ h_ => h_.1))
      replace HO906 := mk0 (Rm (Kd.R_told (Kd.R_told (Kd.R_old (by (with_reducible repeat apply Kd.R_drewN); exact HO906.out) hb) (Rs ho0)) (Rs ho1)) (fun _ h_ => h_.1))
      replace BK897 := (by first | exact bkB BK897 hb | exact bkD BK897 hb)
      replace HB := mk0 (below_step HB.out hb)
      refine hK.out _ _ ⟨(blk_cell BK897.out 0).trans rfl, (blk_cell BK897.out 1).trans rfl, (blk_cell BK897.out 2).trans rfl⟩ (fun hHeld => ?_)
      clear hK K
      refine norm_ (a' := ?_) ?_ ?_
      rotate_left
      ·show Act.put _ (some 18) _ = _
       simp only [Act.put, sA, sZ, sS, i64_w, i32_w]
       rfl
      exact norm_ (by first | (simp only [putAll, Act.put, sA, sZ, sS]; done) | (simp only [putAll, Act.put, sA, sZ, sS]; rfl)) (hJ2_5_7_8 (.slice Ao16 t901.length co16, .slice Ao17 t904.length co17, v909, v912) _ ⟨hHeld, (by (with_reducible repeat apply Kd.R_drewN); exact Rm HO903.out (fun _ hk => ⟨hk.1.1, ⟨hk.1.2, hk.2⟩⟩)), (by (with_reducible repeat apply Kd.R_drewN); exact Rm HO906.out (fun _ hk => ⟨hk.1.1, ⟨hk.1.2, hk.2⟩⟩)), (by (with_reducible repeat apply Kd.R_drewN); exact Rm HO910.out (fun _ hk => ⟨hk.1.2, ⟨hk.2, hk.1.1⟩⟩)), (by (with_reducible repeat apply Kd.R_drewN); exact Rm HO913.out (fun _ hk => ⟨hk.1.2, ⟨hk.2, hk.1.1⟩⟩)), (by (with_reducible repeat refine blk_drewN ?_ _); exact BK897.out), HB.out⟩)
     ·skip
      refine box_step ?hg (N := 9) ?hd (cs := #[.bool false, .slice none 0 0, .slice none 0 0]) (t := 29) ?hr ?_; (case hd => rfl); (case hg => rfl); (case hr => go_simp <;> rfl)
      intro gb914 hg w16 hbox hb
      replace HO903 := (by first | exact rB HO903 hb | exact rD HO903 hb)
      replace HO906 := (by first | exact rB HO906 hb | exact rD HO906 hb)
      have BK914 := mk0 (hbox)
      have GW914 := mk0 ((by rw [hg]; exact (bZ HB.out) : w.heap.size ≤ gb914))
      have GE914 := mk0 ((by rw [hg]; exact (bZ HB.out) : w.heap.size ≤ gb914))
      replace HB := mk0 (below_step HB.out hb)
      have NB897_914 := nbA hg BK897
      have NB914_897 := nbB hg BK897
      replace BK897 := (by first | exact bkB BK897 hb | exact bkD BK897 hb)
      clear hb hbox hg
      refine hK.out _ _ ⟨(blk_cell BK897.out 0).trans rfl, (blk_cell BK897.out 1).trans rfl, (blk_cell BK897.out 2).trans rfl⟩ (fun hHeld => ?_)
      clear hK K
      refine norm_ (a' := ?_) ?_ ?_
      rotate_left
      ·show Act.put _ (some 9) _ = _
       simp only [Act.put, sA, sZ, sS, i64_w, i32_w]
       rfl
      exact norm_ (by first | (simp only [putAll, Act.put, sA, sZ, sS]; done) | (simp only [putAll, Act.put, sA, sZ, sS]; rfl)) (hJ2_5_7_9 (_, _, gb914) _ ⟨hHeld, (by (with_reducible repeat apply Kd.R_drewN); exact HO903.out), (by (with_reducible repeat apply Kd.R_drewN); exact HO906.out), (by (with_reducible repeat refine blk_drewN ?_ _); exact BK897.out), (by (with_reducible repeat refine blk_drewN ?_ _); exact BK914.out), GW914.out, GE914.out, NB897_914.out, NB914_897.out, HB.out⟩)
   ·skip
    rintro ⟨v902, v905, gb914⟩ w16 ⟨hS_, h0_, h1_, h2_, h3_, h4_, h5_, h6_, h7_, h8_⟩
    have HO903 : Aside0 (Kd.R (Kd.int .u32) 87 w16 w.heap.size (fun k_ => some k_ ≠ (v905 : Value).ownBlock) v902 t901) := ⟨h0_⟩
    have HO906 : Aside0 (Kd.R (Kd.int .u32) 87 w16 w.heap.size (fun k_ => some k_ ≠ (v902 : Value).ownBlock) v905 t904) := ⟨h1_⟩
    replace BK897 : Aside0 (w16.heap[gb897]? = some (.cells #[.bool a2_0, .slice A2_1 l2_1.length c2_1, .slice A2_2 l2_2.length c2_2] 29 (0, 0))) := ⟨h2_⟩
    have BK914 : Aside0 (w16.heap[gb914]? = some (.cells #[.bool false, .slice none 0 0, .slice none 0 0] 29 (0, 0))) := ⟨h3_⟩
    have GW914 : Aside0 (w.heap.size ≤ gb914) := ⟨h4_⟩
    have GE914 : Aside0 (w.heap.size ≤ gb914) := ⟨h5_⟩
    have NB897_914 : Aside0 (gb897 ≠ gb914) := ⟨h6_⟩
    have NB914_897 : Aside0 (gb914 ≠ gb897) := ⟨h7_⟩
    replace HB : Aside0 (Below w.heap.size w w16) := ⟨h8_⟩
    clear h0_ h1_ h2_ h3_ h4_ h5_ h6_ h7_ h8_
    have hHeld : w16.cell? ⟨gb897, 0, none⟩ = some (.bool a2_0) ∧ w16.cell? ⟨gb897, 1, none⟩ = some (.slice A2_1 l2_1.length c2_1) ∧ w16.cell? ⟨gb897, 2, none⟩ = some (.slice A2_2 l2_2.length c2_2) := hS_
    obtain ⟨Ao17, co17, eo17⟩ := Kd.R_slice HO903.out
    (first | subst eo17 | (injection eo17 with f1_ f2_ f3_; have f4_ := f1_.symm; have f5_ := f3_.symm; clear f1_ f2_ f3_; subst f4_; subst f5_))
    obtain ⟨Ao18, co18, eo18⟩ := Kd.R_slice HO906.out
    (first | subst eo18 | (injection eo18 with f1_ f2_ f3_; have f4_ := f1_.symm; have f5_ := f3_.symm; clear f1_ f2_ f3_; subst f4_; subst f5_))
    refine norm_ (a' := ?_) ?_ ?_
    rotate_left
    ·simp only [putAll, Act.put, sA, sZ, sS]
     rfl
    refine one_ (i := 8) (N := some 18) (bv 11 1023) rfl rfl (one_of HT_.out (by kernel_rfl)) (by decide) (fun K hK => ?_)
    refine goes_ Try.func32 (by kernel_rfl) rfl #[.agg #[.bool a2_0, .slice A2_1 l2_1.length c2_1, .slice A2_2 l2_2.length c2_2], .agg #[.bool t900, .slice Ao17 t901.length co17, .slice Ao18 t904.length co18]] (by rfl) rfl rfl (by go_simp <;> rfl) ?_
    with_reducible refine (examboardref03_Mul.calls k a2_0 _ _ l2_1 _ _ l2_2 t900 _ _ t901 _ _ t904 t907 t908 t911 _ ?side1 ?side2 ?side3 ?side4 ?side5 ?side6 ?side7 ?side8 A8.out).mono ?_
    (case side1 => exact (Cb HR2_1.out HB.out))
    (case side2 => exact HC2_1.out)
    (case side3 => exact (Cb HR2_2.out HB.out))
    (case side4 => exact HC2_2.out)
    (case side5 => exact (Kd.R_reads' HO903.out).2.2)
    (case side6 => exact (Kd.R_reads' HO903.out).2.1)
    (case side7 => exact (Kd.R_reads' HO906.out).2.2)
    (case side8 => exact (Kd.R_reads' HO906.out).2.1)
    rintro e w19 ⟨v909, v912, rfl, ho0, ho1, hb⟩
    refine ⟨_, rfl, ?_⟩
    have HO910 := mk0 (Rl (Rn (Rn ho0 (Rq (by (with_reducible repeat apply Kd.R_drewN); exact HO903.out))) (Rq (by (with_reducible repeat apply Kd.R_drewN); exact HO906.out))) (bZ HB.out))
    have HO913 := mk0 (Rl (Rn (Rn ho1 (Rq (by (with_reducible repeat apply Kd.R_drewN); exact HO903.out))) (Rq (by (with_reducible repeat apply Kd.R_drewN); exact HO906.out))) (bZ HB.out))
    replace HO903 := mk0 (Rm (Kd.R_told (Kd.R_told (Kd.R_old (by (with_reducible repeat apply Kd.R_drewN); exact HO903.out) hb) (Rs ho0)) (Rs ho1)) (fun _ h_ => h_.1))
    replace HO906 := mk0 (Rm (Kd.R_told (Kd.R_told (Kd.R_old (by (with_reducible repeat apply Kd.R_drewN); exact HO906.out) hb) (Rs ho0)) (Rs ho1)) (fun _ h_ => h_.1))
    replace BK897 := (by first | exact bkB BK897 hb | exact bkD BK897 hb)
    replace BK914 := (by first | exact bkB BK914 hb | exact bkD BK914 hb)
    replace HB := mk0 (below_step HB.out hb)
    refine hK.out _ _ ⟨(blk_cell BK897.out 0).trans rfl, (blk_cell BK897.out 1).trans rfl, (blk_cell BK897.out 2).trans rfl⟩ (fun hHeld => ?_)
    clear hK K
    refine norm_ (a' := ?_) ?_ ?_
    rotate_left
    ·show Act.put _ (some 18) _ = _
     simp only [Act.put, sA, sZ, sS, i64_w, i32_w]
     rfl
    exact norm_ (by first | (simp only [putAll, Act.put, sA, sZ, sS]; done) | (simp only [putAll, Act.put, sA, sZ, sS]; rfl)) (hJ2_5_7_8_9 (.slice Ao17 t901.length co17, .slice Ao18 t904.length co18, v909, v912, gb914) _ ⟨hHeld, (by (with_reducible repeat apply Kd.R_drewN); exact Rm HO903.out (fun _ hk => ⟨hk.1.1, ⟨hk.1.2, hk.2⟩⟩)), (by (with_reducible repeat apply Kd.R_drewN); exact Rm HO906.out (fun _ hk => ⟨hk.1.1, ⟨hk.1.2, hk.2⟩⟩)), (by (with_reducible repeat apply Kd.R_drewN); exact Rm HO910.out (fun _ hk => ⟨hk.1.2, ⟨hk.2, hk.1.1⟩⟩)), (by (with_reducible repeat apply Kd.R_drewN); exact Rm HO913.out (fun _ hk => ⟨hk.1.2, ⟨hk.2, hk.1.1⟩⟩)), (by (with_reducible repeat refine blk_drewN ?_ _); exact BK897.out), (by (with_reducible repeat refine blk_drewN ?_ _); exact BK914.out), GW914.out, GE914.out, NB897_914.out, NB914_897.out, HB.out⟩)
  ·skip
   rintro ⟨v902, v905, v909, v912⟩ w18 ⟨hS_, h0_, h1_, h2_, h3_, h4_, h5_⟩
   have HO903 : Aside0 (Kd.R (Kd.int .u32) 87 w18 w.heap.size (fun k_ => some k_ ≠ (v905 : Value).ownBlock ∧ some k_ ≠ (v909 : Value).ownBlock ∧ some k_ ≠ (v912 : Value).ownBlock) v902 t901) := ⟨h0_⟩
   have HO906 : Aside0 (Kd.R (Kd.int .u32) 87 w18 w.heap.size (fun k_ => some k_ ≠ (v902 : Value).ownBlock ∧ some k_ ≠ (v909 : Value).ownBlock ∧ some k_ ≠ (v912 : Value).ownBlock) v905 t904) := ⟨h1_⟩
   have HO910 : Aside0 (Kd.R (Kd.int .u32) 87 w18 w.heap.size (fun k_ => some k_ ≠ (v902 : Value).ownBlock ∧ some k_ ≠ (v905 : Value).ownBlock ∧ some k_ ≠ (v912 : Value).ownBlock) v909 t908) := ⟨h2_⟩
   have HO913 : Aside0 (Kd.R (Kd.int .u32) 87 w18 w.heap.size (fun k_ => some k_ ≠ (v902 : Value).ownBlock ∧ some k_ ≠ (v905 : Value).ownBlock ∧ some k_ ≠ (v909 : Value).ownBlock) v912 t911) := ⟨h3_⟩
   replace BK897 : Aside0 (w18.heap[gb897]? = some (.cells #[.bool a2_0, .slice A2_1 l2_1.length c2_1, .slice A2_2 l2_2.length c2_2] 29 (0, 0))) := ⟨h4_⟩
   replace HB : Aside0 (Below w.heap.size w w18) := ⟨h5_⟩
   clear h0_ h1_ h2_ h3_ h4_ h5_
   have hHeld : w18.cell? ⟨gb897, 0, none⟩ = some (.bool a2_0) ∧ w18.cell? ⟨gb897, 1, none⟩ = some (.slice A2_1 l2_1.length c2_1) ∧ w18.cell? ⟨gb897, 2, none⟩ = some (.slice A2_2 l2_2.length c2_2) := hS_
   refine norm_ (a' := ?_) ?_ ?_
   rotate_left
   ·simp only [putAll, Act.put, sA, sZ, sS]
    rfl
   refine one_ (i := 9) (N := some 9) (bv 11 1023) rfl rfl (one_of HT_.out (by kernel_rfl)) (by decide) (fun K hK => ?_)
   refine box_step ?hg (N := 9) ?hd (cs := #[.bool false, .slice none 0 0, .slice none 0 0]) (t := 29) ?hr ?_; (case hd => rfl); (case hg => rfl); (case hr => go_simp <;> rfl)
   intro gb914 hg w19 hbox hb
   replace HO903 := (by first | exact rB HO903 hb | exact rD HO903 hb)
   replace HO906 := (by first | exact rB HO906 hb | exact rD HO906 hb)
   replace HO910 := (by first | exact rB HO910 hb | exact rD HO910 hb)
   replace HO913 := (by first | exact rB HO913 hb | exact rD HO913 hb)
   have BK914 := mk0 (hbox)
   have GW914 := mk0 ((by rw [hg]; exact (bZ HB.out) : w.heap.size ≤ gb914))
   have GE914 := mk0 ((by rw [hg]; exact (bZ HB.out) : w.heap.size ≤ gb914))
   replace HB := mk0 (below_step HB.out hb)
   have NB897_914 := nbA hg BK897
   have NB914_897 := nbB hg BK897
   replace BK897 := (by first | exact bkB BK897 hb | exact bkD BK897 hb)
   clear hb hbox hg
   refine hK.out _ _ ⟨(blk_cell BK897.out 0).trans rfl, (blk_cell BK897.out 1).trans rfl, (blk_cell BK897.out 2).trans rfl⟩ (fun hHeld => ?_)
   clear hK K
   refine norm_ (a' := ?_) ?_ ?_
   rotate_left
   ·show Act.put _ (some 9) _ = _
    simp only [Act.put, sA, sZ, sS, i64_w, i32_w]
    rfl
   exact norm_ (by first | (simp only [putAll, Act.put, sA, sZ, sS]; done) | (simp only [putAll, Act.put, sA, sZ, sS]; rfl)) (hJ2_5_7_8_9 (v902, v905, v909, v912, gb914) _ ⟨hHeld, (by (with_reducible repeat apply Kd.R_drewN); exact HO903.out), (by (with_reducible repeat apply Kd.R_drewN); exact HO906.out), (by (with_reducible repeat apply Kd.R_drewN); exact HO910.out), (by (with_reducible repeat apply Kd.R_drewN); exact HO913.out), (by (with_reducible repeat refine blk_drewN ?_ _); exact BK897.out), (by (with_reducible repeat refine blk_drewN ?_ _); exact BK914.out), GW914.out, GE914.out, NB897_914.out, NB914_897.out, (by repeat (first | exact HB.out | apply bN | apply b1 | apply bA | refine bS ?_ GE897.out | refine bS ?_ GE914.out))⟩)
 rintro ⟨v902, v905, v909, v912, gb914⟩ w19 ⟨hS_, h0_, h1_, h2_, h3_, h4_, h5_, h6_, h7_, h8_, h9_, h10_⟩
 have HO903 : Aside0 (Kd.R (Kd.int .u32) 87 w19 w.heap.size (fun k_ => some k_ ≠ (v905 : Value).ownBlock ∧ some k_ ≠ (v909 : Value).ownBlock ∧ some k_ ≠ (v912 : Value).ownBlock) v902 t901) := ⟨h0_⟩
 have HO906 : Aside0 (Kd.R (Kd.int .u32) 87 w19 w.heap.size (fun k_ => some k_ ≠ (v902 : Value).ownBlock ∧ some k_ ≠ (v909 : Value).ownBlock ∧ some k_ ≠ (v912 : Value).ownBlock) v905 t904) := ⟨h1_⟩
 have HO910 : Aside0 (Kd.R (Kd.int .u32) 87 w19 w.heap.size (fun k_ => some k_ ≠ (v902 : Value).ownBlock ∧ some k_ ≠ (v905 : Value).ownBlock ∧ some k_ ≠ (v912 : Value).ownBlock) v909 t908) := ⟨h2_⟩
 have HO913 : Aside0 (Kd.R (Kd.int .u32) 87 w19 w.heap.size (fun k_ => some k_ ≠ (v902 : Value).ownBlock ∧ some k_ ≠ (v905 : Value).ownBlock ∧ some k_ ≠ (v909 : Value).ownBlock) v912 t911) := ⟨h3_⟩
 replace BK897 : Aside0 (w19.heap[gb897]? = some (.cells #[.bool a2_0, .slice A2_1 l2_1.length c2_1, .slice A2_2 l2_2.length c2_2] 29 (0, 0))) := ⟨h4_⟩
 have BK914 : Aside0 (w19.heap[gb914]? = some (.cells #[.bool false, .slice none 0 0, .slice none 0 0] 29 (0, 0))) := ⟨h5_⟩
 have GW914 : Aside0 (w.heap.size ≤ gb914) := ⟨h6_⟩
 have GE914 : Aside0 (w.heap.size ≤ gb914) := ⟨h7_⟩
 have NB897_914 : Aside0 (gb897 ≠ gb914) := ⟨h8_⟩
 have NB914_897 : Aside0 (gb914 ≠ gb897) := ⟨h9_⟩
 replace HB : Aside0 (Below w.heap.size w w19) := ⟨h10_⟩
 clear h0_ h1_ h2_ h3_ h4_ h5_ h6_ h7_ h8_ h9_ h10_
 have hHeld : w19.cell? ⟨gb897, 0, none⟩ = some (.bool a2_0) ∧ w19.cell? ⟨gb897, 1, none⟩ = some (.slice A2_1 l2_1.length c2_1) ∧ w19.cell? ⟨gb897, 2, none⟩ = some (.slice A2_2 l2_2.length c2_2) := hS_
 obtain ⟨Ao21, co21, eo21⟩ := Kd.R_slice HO910.out
 (first | subst eo21 | (injection eo21 with f1_ f2_ f3_; have f4_ := f1_.symm; have f5_ := f3_.symm; clear f1_ f2_ f3_; subst f4_; subst f5_))
 obtain ⟨Ao23, co23, eo23⟩ := Kd.R_slice HO913.out
 (first | subst eo23 | (injection eo23 with f1_ f2_ f3_; have f4_ := f1_.symm; have f5_ := f3_.symm; clear f1_ f2_ f3_; subst f4_; subst f5_))
 refine norm_ (a' := ?_) ?_ ?_
 rotate_left
 ·simp only [putAll, Act.put, sA, sZ, sS]
  rfl
 refine one_ (i := 10) (N := none) (bv 11 2047) rfl rfl (one_of HT_.out (by kernel_rfl)) (by decide) (fun K hK => ?_)
 have hs20 : w19.cell? ⟨gb914, 0, none⟩ = some (.bool false) := (blk_cell BK914.out 0).trans rfl
 have hfs20 := blk_frozen BK914.out 0
 have hns20_0 := NB897_914.out
 have hms20_0 := NB914_897.out
 have hs22 : w19.cell? ⟨gb914, 1, none⟩ = some (.slice none 0 0) := (blk_cell BK914.out 1).trans rfl
 have hfs22 := blk_frozen BK914.out 1
 have hns22_0 := NB897_914.out
 have hms22_0 := NB914_897.out
 have hs24 : w19.cell? ⟨gb914, 2, none⟩ = some (.slice none 0 0) := (blk_cell BK914.out 2).trans rfl
 have hfs24 := blk_frozen BK914.out 2
 have hns24_0 := NB897_914.out
 have hms24_0 := NB914_897.out
 refine skip_ (w1 := ?_) (by rfl) rfl ?_ ?_
 rotate_left
 ·go_simp
  rfl
 refine hK.out _ _ ⟨((cell_far (p := ⟨gb914, _, none⟩) NB897_914.out _).trans (((cell_far (p := ⟨gb914, _, none⟩) NB897_914.out _).trans (((cell_far (p := ⟨gb914, _, none⟩) NB897_914.out _).trans (hHeld.1)))))), ((cell_far (p := ⟨gb914, _, none⟩) NB897_914.out _).trans (((cell_far (p := ⟨gb914, _, none⟩) NB897_914.out _).trans (((cell_far (p := ⟨gb914, _, none⟩) NB897_914.out _).trans (hHeld.2.1)))))), ((cell_far (p := ⟨gb914, _, none⟩) NB897_914.out _).trans (((cell_far (p := ⟨gb914, _, none⟩) NB897_914.out _).trans (((cell_far (p := ⟨gb914, _, none⟩) NB897_914.out _).trans (hHeld.2.2))))))⟩ (fun hHeld => ?_)
 clear hK K
 refine done_ (done_of HT_.out (by kernel_rfl)) ?_
 try go_wp2
 have n0_ : Aside0 (Kd.R (Kd.int .u32) 87 (((w19.setCell ⟨gb914, 0, none⟩ (.bool t907)).setCell ⟨gb914, 1, none⟩ (.slice Ao21 t908.length co21)).setCell ⟨gb914, 2, none⟩ (.slice Ao23 t911.length co23)) w.heap.size (fun k_ => some k_ ≠ (v905 : Value).ownBlock ∧ some k_ ≠ (.slice Ao21 t908.length co21 : Value).ownBlock ∧ some k_ ≠ (.slice Ao23 t911.length co23 : Value).ownBlock) v902 t901) := ⟨by (with_reducible repeat apply Kd.R_drewN); exact Rm (Rg 2 (Rg 1 (Rg 0 (Rd HO903.out BK914) (.bool t907)) (.slice Ao21 t908.length co21)) (.slice Ao23 t911.length co23)) (fun _ hk => ⟨hk.1.1, ⟨hk.1.2.1, hk.1.2.2⟩⟩)⟩
 have n1_ : Aside0 (Kd.R (Kd.int .u32) 87 (((w19.setCell ⟨gb914, 0, none⟩ (.bool t907)).setCell ⟨gb914, 1, none⟩ (.slice Ao21 t908.length co21)).setCell ⟨gb914, 2, none⟩ (.slice Ao23 t911.length co23)) w.heap.size (fun k_ => some k_ ≠ (v902 : Value).ownBlock ∧ some k_ ≠ (.slice Ao21 t908.length co21 : Value).ownBlock ∧ some k_ ≠ (.slice Ao23 t911.length co23 : Value).ownBlock) v905 t904) := ⟨by (with_reducible repeat apply Kd.R_drewN); exact Rm (Rg 2 (Rg 1 (Rg 0 (Rd HO906.out BK914) (.bool t907)) (.slice Ao21 t908.length co21)) (.slice Ao23 t911.length co23)) (fun _ hk => ⟨hk.1.1, ⟨hk.1.2.1, hk.1.2.2⟩⟩)⟩
 have n2_ : Aside0 (Kd.R (Kd.int .u32) 87 (((w19.setCell ⟨gb914, 0, none⟩ (.bool t907)).setCell ⟨gb914, 1, none⟩ (.slice Ao21 t908.length co21)).setCell ⟨gb914, 2, none⟩ (.slice Ao23 t911.length co23)) w.heap.size (fun k_ => some k_ ≠ (v902 : Value).ownBlock ∧ some k_ ≠ (v905 : Value).ownBlock ∧ some k_ ≠ (.slice Ao23 t911.length co23 : Value).ownBlock) (.slice Ao21 t908.length co21) t908) := ⟨by (with_reducible repeat apply Kd.R_drewN); exact Rm (Rg 2 (Rg 1 (Rg 0 (Rd HO910.out BK914) (.bool t907)) (.slice Ao21 t908.length co21)) (.slice Ao23 t911.length co23)) (fun _ hk => ⟨hk.1.1, ⟨hk.1.2.1, hk.1.2.2⟩⟩)⟩
 have n3_ : Aside0 (Kd.R (Kd.int .u32) 87 (((w19.setCell ⟨gb914, 0, none⟩ (.bool t907)).setCell ⟨gb914, 1, none⟩ (.slice Ao21 t908.length co21)).setCell ⟨gb914, 2, none⟩ (.slice Ao23 t911.length co23)) w.heap.size (fun k_ => some k_ ≠ (v902 : Value).ownBlock ∧ some k_ ≠ (v905 : Value).ownBlock ∧ some k_ ≠ (.slice Ao21 t908.length co21 : Value).ownBlock) (.slice Ao23 t911.length co23) t911) := ⟨by (with_reducible repeat apply Kd.R_drewN); exact Rm (Rg 2 (Rg 1 (Rg 0 (Rd HO913.out BK914) (.bool t907)) (.slice Ao21 t908.length co21)) (.slice Ao23 t911.length co23)) (fun _ hk => ⟨hk.1.1, ⟨hk.1.2.1, hk.1.2.2⟩⟩)⟩
 have n4_ : Aside0 ((((w19.setCell ⟨gb914, 0, none⟩ (.bool t907)).setCell ⟨gb914, 1, none⟩ (.slice Ao21 t908.length co21)).setCell ⟨gb914, 2, none⟩ (.slice Ao23 t911.length co23)).heap[gb897]? = some (.cells #[.bool a2_0, .slice A2_1 l2_1.length c2_1, .slice A2_2 l2_2.length c2_2] 29 (0, 0))) := ⟨by (with_reducible repeat refine blk_drewN ?_ _); refine blk_far ?_ NB897_914.out _; (with_reducible repeat refine blk_drewN ?_ _); refine blk_far ?_ NB897_914.out _; (with_reducible repeat refine blk_drewN ?_ _); refine blk_far ?_ NB897_914.out _; (with_reducible repeat refine blk_drewN ?_ _); exact BK897.out⟩
 have n5_ : Aside0 ((((w19.setCell ⟨gb914, 0, none⟩ (.bool t907)).setCell ⟨gb914, 1, none⟩ (.slice Ao21 t908.length co21)).setCell ⟨gb914, 2, none⟩ (.slice Ao23 t911.length co23)).heap[gb914]? = some (.cells #[.bool t907, .slice Ao21 t908.length co21, .slice Ao23 t911.length co23] 29 (0, 0))) := ⟨by (with_reducible repeat refine blk_drewN ?_ _); refine blk_put (cs := #[.bool t907, .slice Ao21 t908.length co21, .slice none 0 0]) ?_ 2 _ rfl; (with_reducible repeat refine blk_drewN ?_ _); refine blk_put (cs := #[.bool t907, .slice none 0 0, .slice none 0 0]) ?_ 1 _ rfl; (with_reducible repeat refine blk_drewN ?_ _); refine blk_put (cs := #[.bool false, .slice none 0 0, .slice none 0 0]) ?_ 0 _ rfl; (with_reducible repeat refine blk_drewN ?_ _); exact BK914.out⟩
 have n6_ : Aside0 (Below w.heap.size w (((w19.setCell ⟨gb914, 0, none⟩ (.bool t907)).setCell ⟨gb914, 1, none⟩ (.slice Ao21 t908.length co21)).setCell ⟨gb914, 2, none⟩ (.slice Ao23 t911.length co23))) := ⟨by repeat (first | exact HB.out | apply bN | apply b1 | apply bA | refine bS ?_ GE897.out | refine bS ?_ GE914.out)⟩
 (try clear HO903)
 (try clear HO906)
 (try clear HO910)
 (try clear HO913)
 (try clear BK897)
 (try clear BK914)
 (try clear HB)
 generalize (((w19.setCell ⟨gb914, 0, none⟩ (.bool t907)).setCell ⟨gb914, 1, none⟩ (.slice Ao21 t908.length co21)).setCell ⟨gb914, 2, none⟩ (.slice Ao23 t911.length co23)) = w25 at n0_ n1_ n2_ n3_ n4_ n5_ n6_ ⊢
 have HO903 := n0_
 have HO906 := n1_
 have HO910 := n2_
 have HO913 := n3_
 have BK897 := n4_
 have BK914 := n5_
 have HB := n6_
 clear n0_ n1_ n2_ n3_ n4_ n5_ n6_
 replace HO903 := mk0 (Kd.R_drew HO903.out)
 replace HO906 := mk0 (Kd.R_drew HO906.out)
 replace HO910 := mk0 (Kd.R_drew HO910.out)
 replace HO913 := mk0 (Kd.R_drew HO913.out)
 replace BK897 := mk0 (blk_drew BK897.out)
 replace BK914 := mk0 (blk_drew BK914.out)
 replace HB := mk0 (b1 HB.out)
 refine start_ (n := 8) (S := fun w' => w'.cell? ⟨gb914, 0, none⟩ = some (.bool t907) ∧ w'.cell? ⟨gb914, 1, none⟩ = some (.slice Ao21 t908.length co21) ∧ w'.cell? ⟨gb914, 2, none⟩ = some (.slice Ao23 t911.length co23)) (ds := []) (bv 8 0) (by kernel_rfl) rfl rfl ⟨(blk_cell BK914.out 0).trans rfl, (blk_cell BK914.out 1).trans rfl, (blk_cell BK914.out 2).trans rfl⟩ (fun hHeld => ?_); refine with_tabW examboardref37_Eligible.tab2 examboardref37_Eligible.bits2 (fun HT_ HW_ => ?_)
 generalize w25.drew = w26 at HO903 HO906 HO910 HO913 BK897 BK914 HB hHeld ⊢
 refine puA (i := 0) (N := 19) (v := ?_) (a' := ?_) (bv 8 1) HT_ ?_ ?_ ?_; rotate_left; (intro w'; go_simp; with_reducible rfl); rotate_left; (simp only [Act.put, sA, sZ, sS, i64_w, i32_w]; rfl)
 refine take_ (i := 4) (N := some 23) (v := ?_) (a' := ?_) (bv 8 17) rfl rfl (take_ofW HT_.out HW_.out (by kernel_rfl)) (fun _ _ _ h => h) (Or.inl ⟨by rfl, ?_⟩) hHeld ?_ ?_; rotate_left; (rintro w' ⟨s0, s1, s2⟩; go_simp; with_reducible rfl); rotate_left; (simp only [Act.put, sA, sZ, sS, i64_w, i32_w]; rfl)
 refine one_ (i := 1) (N := some 20) (bv 8 19) rfl rfl (one_of HT_.out (by kernel_rfl)) (by decide) (fun K hK => ?_)
 refine goes_ Try.func34 (by kernel_rfl) rfl #[.int .i64 a0] (by rfl) rfl rfl (by go_simp <;> rfl) ?_
 with_reducible refine (examboardref37_limited.calls a0 t915 _ A9.out).mono ?_
 rintro e w' ⟨rfl, ⟨nd, rfl⟩⟩
 refine ⟨_, rfl, ?_⟩
 refine hK.out _ _ ⟨(blk_cell BK914.out 0).trans rfl, (blk_cell BK914.out 1).trans rfl, (blk_cell BK914.out 2).trans rfl⟩ (fun hHeld => ?_)
 clear hK K
 refine norm_ (a' := ?_) ?_ ?_
 rotate_left
 ·show Act.put _ (some 20) _ = _
  simp only [Act.put, sA, sZ, sS, i64_w, i32_w]
  rfl
 refine puA (i := 2) (N := 21) (v := ?_) (a' := ?_) (bv 8 23) HT_ ?_ ?_ ?_; rotate_left; (intro w'; go_simp; with_reducible rfl); rotate_left; (simp only [Act.put, sA, sZ, sS, i64_w, i32_w]; rfl)
 refine one_ (i := 3) (N := some 22) (bv 8 31) rfl rfl (one_of HT_.out (by kernel_rfl)) (by decide) (fun K hK => ?_)
 refine goes_ Try.func33 (by kernel_rfl) rfl #[.int .i64 (wrap64 (t915 + 1))] (by rfl) rfl rfl (by go_simp <;> rfl) ?_
 with_reducible refine (examboardref37_whole.calls k (wrap64 (t915 + 1)) t916 t917 t920 _ A10.out).mono ?_
 rintro e w27 ⟨v918, v921, rfl, ho0, ho1, hb⟩
 refine ⟨_, rfl, ?_⟩
 have HO919 := mk0 (Rl (Rn (Rn (Rn (Rn ho0 (Rq (by (with_reducible repeat apply Kd.R_drewN); exact HO903.out))) (Rq (by (with_reducible repeat apply Kd.R_drewN); exact HO906.out))) (Rq (by (with_reducible repeat apply Kd.R_drewN); exact HO910.out))) (Rq (by (with_reducible repeat apply Kd.R_drewN); exact HO913.out))) (bZ (by repeat (first | exact HB.out | apply bN | apply b1 | apply bA | refine bS ?_ GE897.out | refine bS ?_ GE914.out))))
 have HO922 := mk0 (Rl (Rn (Rn (Rn (Rn ho1 (Rq (by (with_reducible repeat apply Kd.R_drewN); exact HO903.out))) (Rq (by (with_reducible repeat apply Kd.R_drewN); exact HO906.out))) (Rq (by (with_reducible repeat apply Kd.R_drewN); exact HO910.out))) (Rq (by (with_reducible repeat apply Kd.R_drewN); exact HO913.out))) (bZ (by repeat (first | exact HB.out | apply bN | apply b1 | apply bA | refine bS ?_ GE897.out | refine bS ?_ GE914.out))))
 replace HO903 := mk0 (Rm (Kd.R_told (Kd.R_told (Kd.R_old (by (with_reducible repeat apply Kd.R_drewN); exact HO903.out) hb) (Rs ho0)) (Rs ho1)) (fun _ h_ => h_.1))
 replace HO906 := mk0 (Rm (Kd.R_told (Kd.R_told (Kd.R_old (by (with_reducible repeat apply Kd.R_drewN); exact HO906.out) hb) (Rs ho0)) (Rs ho1)) (fun _ h_ => h_.1))
 replace HO910 := mk0 (Rm (Kd.R_told (Kd.R_told (Kd.R_old (by (with_reducible repeat apply Kd.R_drewN); exact HO910.out) hb) (Rs ho0)) (Rs ho1)) (fun _ h_ => h_.1))
 replace HO913 := mk0 (Rm (Kd.R_told (Kd.R_told (Kd.R_old (by (with_reducible repeat apply Kd.R_drewN); exact HO913.out) hb) (Rs ho0)) (Rs ho1)) (fun _ h_ => h_.1))
 replace BK897 := (by first | exact bkB BK897 hb | exact bkD BK897 hb)
 replace BK914 := (by first | exact bkB BK914 hb | exact bkD BK914 hb)
 replace HB := mk0 (below_step (by repeat (first | exact HB.out | apply bN | apply b1 | apply bA | refine bS ?_ GE897.out | refine bS ?_ GE914.out)) hb)
 obtain ⟨Ao28, co28, eo28⟩ := Kd.R_slice HO919.out
 (first | subst eo28 | (injection eo28 with f1_ f2_ f3_; have f4_ := f1_.symm; have f5_ := f3_.symm; clear f1_ f2_ f3_; subst f4_; subst f5_))
 obtain ⟨Ao29, co29, eo29⟩ := Kd.R_slice HO922.out
 (first | subst eo29 | (injection eo29 with f1_ f2_ f3_; have f4_ := f1_.symm; have f5_ := f3_.symm; clear f1_ f2_ f3_; subst f4_; subst f5_))
 refine hK.out _ _ ⟨(blk_cell BK914.out 0).trans rfl, (blk_cell BK914.out 1).trans rfl, (blk_cell BK914.out 2).trans rfl⟩ (fun hHeld => ?_)
 clear hK K
 refine norm_ (a' := ?_) ?_ ?_
 rotate_left
 ·show Act.put _ (some 22) _ = _
  simp only [Act.put, sA, sZ, sS, i64_w, i32_w]
  rfl
 refine one_ (i := 5) (N := some 24) (bv 8 63) rfl rfl (one_of HT_.out (by kernel_rfl)) (by decide) (fun K hK => ?_)
 refine goes_ Try.func35 (by kernel_rfl) rfl #[.agg #[.bool t916, .slice Ao28 t917.length co28, .slice Ao29 t920.length co29], .agg #[.bool t907, .slice Ao21 t908.length co21, .slice Ao23 t911.length co23]] (by rfl) rfl rfl (by go_simp <;> rfl) ?_
 with_reducible refine (examboardref03_Cmp.calls k t916 _ _ t917 _ _ t920 t907 _ _ t908 _ _ t911 t923 _ ?side1 ?side2 ?side3 ?side4 ?side5 ?side6 ?side7 ?side8 A11.out).mono ?_
 (case side1 => exact (Kd.R_reads' HO919.out).2.2)
 (case side2 => exact (Kd.R_reads' HO919.out).2.1)
 (case side3 => exact (Kd.R_reads' HO922.out).2.2)
 (case side4 => exact (Kd.R_reads' HO922.out).2.1)
 (case side5 => exact (Kd.R_reads' HO910.out).2.2)
 (case side6 => exact (Kd.R_reads' HO910.out).2.1)
 (case side7 => exact (Kd.R_reads' HO913.out).2.2)
 (case side8 => exact (Kd.R_reads' HO913.out).2.1)
 rintro e w30 ⟨rfl, hb⟩
 refine ⟨_, rfl, ?_⟩
 replace HO903 := (by first | exact rB HO903 hb | exact rD HO903 hb)
 replace HO906 := (by first | exact rB HO906 hb | exact rD HO906 hb)
 replace HO910 := (by first | exact rB HO910 hb | exact rD HO910 hb)
 replace HO913 := (by first | exact rB HO913 hb | exact rD HO913 hb)
 replace HO919 := (by first | exact rB HO919 hb | exact rD HO919 hb)
 replace HO922 := (by first | exact rB HO922 hb | exact rD HO922 hb)
 replace BK897 := (by first | exact bkB BK897 hb | exact bkD BK897 hb)
 replace BK914 := (by first | exact bkB BK914 hb | exact bkD BK914 hb)
 replace HB := mk0 (below_step (by repeat (first | exact HB.out | apply bN | apply b1 | apply bA | refine bS ?_ GE897.out | refine bS ?_ GE914.out)) hb)
 refine hK.out _ _ ⟨(blk_cell BK914.out 0).trans rfl, (blk_cell BK914.out 1).trans rfl, (blk_cell BK914.out 2).trans rfl⟩ (fun hHeld => ?_)
 clear hK K
 refine norm_ (a' := ?_) ?_ ?_
 rotate_left
 ·show Act.put _ (some 24) _ = _
  simp only [Act.put, sA, sZ, sS, i64_w, i32_w]
  rfl
 refine puA (i := 6) (N := 25) (v := ?_) (a' := ?_) (bv 8 127) HT_ ?_ ?_ ?_; rotate_left; (intro w'; go_simp; with_reducible rfl); rotate_left; (simp only [Act.put, sA, sZ, sS, i64_w, i32_w]; rfl)
 refine puA (i := 7) (N := 8) (v := ?_) (a' := ?_) (bv 8 255) HT_ ?_ ?_ ?_; rotate_left; (intro w'; go_simp; with_reducible rfl); rotate_left; (simp only [Act.put, sA, sZ, sS, i64_w, i32_w]; rfl)
 refine done_ (done_of HT_.out (by kernel_rfl)) ?_
 try go_wp2
 go_ret
 exact ⟨by first | rfl | (simp [errW_none, errW_some] <;> rfl) | (simp [*, errW_none, errW_some] <;> rfl), by repeat (first | exact HB.out | apply bN | apply b1 | apply bA | refine bS ?_ GE897.out | refine bS ?_ GE914.out)⟩
set_option maxHeartbeats 8000000 in
set_option maxRecDepth 100000 in
theorem examboardref37_Count.calls (k : Nat) (A0 : Option Addr) (c0 : Nat) (l0 : List (S50)) (a1 : Int) (r : Int) (w : World) (hr0 : Kd.C k50 w A0 l0.length l0) (hc0 : l0.length ≤ c0) (h : examboardref37_Count.f k l0 a1 = some r) :
  Calls Try.prog 20 #[.slice A0 l0.length c0, .int .i64 a1] w fun e w' => e = .returned (.int .i64 r) ∧ Drawn0 w w' := by
 have HR0 := mk0 hr0
 have HC0 := mk0 hc0
 clear hr0 hc0
 have H : (examboardref37_Count.l0 k l0 a1 0 0) = some r := h
 clear h
 have H' := mk0 H
 clear H
 go_enter Try.func20, Try.ntmps20
 go_wp2
 go_loopg [5, 6] k (fun kq v5 v6 w' => ∃ (x5_1 : Int) (x6_1 : Int), v5 = .int .i64 x5_1 ∧ v6 = .int .i64 x6_1 ∧ Aside0 (examboardref37_Count.l0 kq l0 a1 x5_1 x6_1 = some r) ∧ Aside0 (kq ≤ k) ∧ Drawn0 w w')
 case atStart => exact ⟨(0), (0), rfl, rfl, H', ⟨Nat.le_refl _⟩, by repeat (first | exact Drawn0.refl _ | apply Drawn0.step)⟩
 case round =>
  clear H'
  try clear c2
  try clear p2
  obtain ⟨x5_1, x6_1, rfl, rfl, HA, HK1, ⟨m1, rfl⟩⟩ := hrel
  cases gk with
  | zero => exact absurd HA.out (by simp [examboardref37_Count.l0])
  | succ k1 =>
   have H := HA.out
   clear HA
   simp only [examboardref37_Count.l0] at H
   by_cases c3 : x6_1 < (l0.length : Int)
   ·rw [if_pos c3] at H
    have c3b0 : decide (x6_1 < (l0.length : Int)) = true := decide_eq_true c3
    clear c3
    by_cases c4 : 0 ≤ x6_1
    ·rw [if_pos c4] at H
     have c4b0 : decide (0 ≤ x6_1) = true := decide_eq_true c4
     clear c4
     by_cases c5 : ((rd_T50 l0 x6_1).f0) = a1
     ·rw [if_pos c5] at H
      have c5b0 : (((rd_T50 l0 x6_1).f0) == a1) = true := beq_iff_eq.mpr c5
      have c5b1 : (((rd_T50 l0 x6_1).f0) != a1) = false := bne_eq_false_iff_eq.mpr c5
      clear c5
      obtain ⟨t1005, A6, H⟩ := bindA H
      obtain ⟨t1006, A7, H⟩ := bindA H
      have H' := mk0 H
      clear H
      have p1003 : 0 ≤ (x6_1 : Int) := of_decide_eq_true (by assumption)
      have q1003 : x6_1 < (l0.length : Int) := of_decide_eq_true (by assumption)
      obtain ⟨ad1003, e1003, hx1003_0, hx1003_1⟩ := at_T50 HR0.out x6_1 p1003 q1003
      cases e1003
      replace p1003 := eq_true p1003
      replace q1003 := eq_true q1003
      have p1004 : 0 ≤ (x6_1 : Int) := of_decide_eq_true (by assumption)
      have q1004 : x6_1 < (l0.length : Int) := of_decide_eq_true (by assumption)
      obtain ⟨ad1004, e1004, hx1004_0, hx1004_1⟩ := at_T50 HR0.out x6_1 p1004 q1004
      obtain rfl : ad1003 = ad1004 := (by injection e1004)
      replace p1004 := eq_true p1004
      replace q1004 := eq_true q1004
      go_wp2_with (first | ((with_reducible refine gate_callee (f := 34) rfl ?_); refine goA 26 Try.func34 #[.int .i64 ((rd_T50 l0 x6_1).f1)] ?_; (with_reducible refine (examboardref37_limited.calls ((rd_T50 l0 x6_1).f1) t1005 _ A6.out).mono ?_); rintro e w' ⟨rfl, ⟨nd, rfl⟩⟩; refine ⟨_, rfl, ?_⟩) | ((with_reducible refine gate_callee (f := 34) rfl ?_); refine goA 28 Try.func34 #[.int .i64 (wrap64 (x5_1 + t1005))] ?_; (with_reducible refine (examboardref37_limited.calls (wrap64 (x5_1 + t1005)) t1006 _ A7.out).mono ?_); rintro e w' ⟨rfl, ⟨nd, rfl⟩⟩; refine ⟨_, rfl, ?_⟩))
      go_roundg k1
      case measure => have := HK1.out; omega
      case rel => exact ⟨(t1006), (wrap64 (x6_1 + 1)), rfl, rfl, H', ⟨by have := HK1.out; omega⟩, by repeat (first | exact Drawn0.refl _ | apply Drawn0.step)⟩
     ·rw [if_neg c5] at H
      have c5b0 : (((rd_T50 l0 x6_1).f0) == a1) = false := beq_eq_false_iff_ne.mpr c5
      have c5b1 : (((rd_T50 l0 x6_1).f0) != a1) = true := bne_iff_ne.mpr c5
      have H' := mk0 H
      clear H
      have p1003 : 0 ≤ (x6_1 : Int) := of_decide_eq_true (by assumption)
      have q1003 : x6_1 < (l0.length : Int) := of_decide_eq_true (by assumption)
      obtain ⟨ad1003, e1003, hx1003_0, hx1003_1⟩ := at_T50 HR0.out x6_1 p1003 q1003
      cases e1003
      replace p1003 := eq_true p1003
      replace q1003 := eq_true q1003
      go_wp2
      go_roundg k1
      case measure => have := HK1.out; omega
      case rel => exact ⟨(x5_1), (wrap64 (x6_1 + 1)), rfl, rfl, H', ⟨by have := HK1.out; omega⟩, by repeat (first | exact Drawn0.refl _ | apply Drawn0.step)⟩
    ·rw [if_neg c4] at H
     exact absurd H (by simp)
   ·rw [if_neg c3] at H
    have c3b0 : decide (x6_1 < (l0.length : Int)) = false := decide_eq_false c3
    clear c3
    obtain rfl := Option.some.inj H
    go_wp2
    go_ret
    exact ⟨by first | rfl | (simp; done) | (simp [*]; done), by repeat (first | exact Drawn0.refl _ | apply Drawn0.step)⟩
end Go.Proofs.Ythamhjmhgcpdgaa.Q
end
