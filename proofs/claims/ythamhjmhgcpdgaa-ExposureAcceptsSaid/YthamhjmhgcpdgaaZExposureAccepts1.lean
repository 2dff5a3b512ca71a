/- Lemmas and contracts for the law ExposureAccepts: words of the print, contracts of the functions that the law reaches, and what these compute, as far as the law needs them; packed by a program of this session. -/
import Derived.Test.YthamhjmhgcpdgaaZExposureAccepts0
section
namespace Go.Proofs.Ythamhjmhgcpdgaa.Q
open Go.RowKit Go.Proofs.YthamhjmhgcpdgaaW.PrintWords Go.Proofs.YthamhjmhgcpdgaaW.PrintLast Go.Proofs.YthamhjmhgcpdgaaW.PrintMore Go.Proofs.Ythamhjmhgcpdgaa.MyWords
attribute [local go_sem] max2_int max_two
set_option linter.unusedVariables false
set_option linter.unusedSimpArgs false
set_option maxHeartbeats 8000000 in
set_option maxRecDepth 100000 in
theorem nat_addBack.calls (k : Nat) (P0_ : Nat → Prop) (u9000_ : Value) (l0 : List Int) (lo hi : Int) (A0 : Option Addr) (n0 c0 : Nat) (A1 : Option Addr) (c1 : Nat) (l1 : List Int) (r : List Int) (w0 w : World) (hB : Below w0.heap.size w0 w) (ho0 : Kd.R (Kd.int .u32) 87 w w0.heap.size P0_ u9000_ l0) (hw0 : ∀ Au nu cu, u9000_ = .slice Au nu cu → A0 = (if cu = lo.toNat then Au else Au.map (·.add (lo.toNat * 1)))) (hn0 : n0 = hi.toNat - lo.toNat) (hr1 : ∀ W_, Kept w W_ (fun k_ => P0_ k_) → Kd.C (Kd.int .u32) W_ A1 l1.length l1) (hc1 : l1.length ≤ c1) (h : nat_addBack.f k l0 lo hi l1 = some r) :
  Calls Try.prog 112 #[.slice A0 n0 c0, .slice A1 l1.length c1] w fun e w' => e = .returned (.tuple #[]) ∧ Kd.R (Kd.int .u32) 87 w' w0.heap.size (fun k_ => (P0_ k_ ∨ w.heap.size ≤ k_)) u9000_ r ∧ Below w0.heap.size w0 w' ∧ Kept w w' (fun k_ => P0_ k_) := by
 obtain ⟨h0, h⟩ : 0 ≤ lo ∧ (if lo < hi then (if hi ≤ (l0.length : Int) then (nat_addBack.g k ((l0.take hi.toNat).drop lo.toNat) l1).bind (fun t => some (l0.take lo.toNat ++ t ++ l0.drop hi.toNat)) else none) else none) = some r := by
  unfold nat_addBack.f at h
  by_cases h0 : 0 ≤ lo
  ·exact ⟨h0, by rw [if_pos h0] at h; exact h⟩
  ·rw [if_neg h0] at h; cases h
 obtain ⟨h1, h⟩ : lo < hi ∧ (if hi ≤ (l0.length : Int) then (nat_addBack.g k ((l0.take hi.toNat).drop lo.toNat) l1).bind (fun t => some (l0.take lo.toNat ++ t ++ l0.drop hi.toNat)) else none) = some r := by
  by_cases h1 : lo < hi
  ·exact ⟨h1, by rw [if_pos h1] at h; exact h⟩
  ·rw [if_neg h1] at h; cases h
 obtain ⟨h2, h⟩ : hi ≤ (l0.length : Int) ∧ (nat_addBack.g k ((l0.take hi.toNat).drop lo.toNat) l1).bind (fun t => some (l0.take lo.toNat ++ t ++ l0.drop hi.toNat)) = some r := by
  by_cases h2 : hi ≤ (l0.length : Int)
  ·exact ⟨h2, by rw [if_pos h2] at h; exact h⟩
  ·rw [if_neg h2] at h; cases h
 obtain ⟨t0, h3, h⟩ := Option.bind_eq_some_iff.mp h
 obtain ⟨go, co, eo, gb, gl, cl, HG⟩ := Kd.R_form ho0 (by omega)
 subst eo
 have hA := hw0 _ _ _ rfl
 have hco : l0.length ≤ co := (Kd.R_reads' ho0).2.1
 rw [if_neg (by omega)] at hA
 obtain ⟨lon, hlon⟩ : ∃ z, z = lo.toNat := ⟨_, rfl⟩
 have hA' : A0 = some ⟨go, lon, none⟩ := by rw [hA, hlon]; simp [add_plain]
 subst hA'
 clear hA hw0
 obtain ⟨x0, hx0⟩ : ∃ z, z = (l0.take hi.toNat).drop lo.toNat := ⟨_, rfl⟩
 rw [← hx0] at h3
 have hlen : x0.length = n0 := by rw [hx0, hn0, List.length_drop, List.length_take]; omega
 obtain ⟨pre, hpre⟩ : ∃ z, z = l0.take lo.toNat := ⟨_, rfl⟩
 obtain ⟨post, hpost⟩ : ∃ z, z = l0.drop hi.toNat := ⟨_, rfl⟩
 have hall : pre ++ x0 ++ post = l0 := by
  rw [hpre, hx0, hpost, List.append_assoc]
  have e1 : (l0.take hi.toNat).drop lo.toNat ++ l0.drop hi.toNat = l0.drop lo.toNat := by
   have e2 : l0.drop lo.toNat = ((l0.take hi.toNat) ++ l0.drop hi.toNat).drop lo.toNat := by rw [List.take_append_drop]
   rw [e2, List.drop_append_of_le_length (by rw [List.length_take]; omega)]
  rw [e1, List.take_append_drop]
 have HW := mk0 (show Win .u32 87 w w0.heap.size (fun k_ => (P0_ k_ ∨ w.heap.size ≤ k_)) go co lon n0 pre post x0 from ⟨by rw [hpre, hlon, List.length_take]; omega, hlen, by rw [hall]; exact Kd.R_mono ho0 (fun k_ hk => .inl hk)⟩)
 have HLN := mk0 (show (l0.length = (pre ++ x0 ++ post).length) from by rw [hall])
 have HQ0 := mk0 (show some r = some r from rfl)
 rw [← hpre, ← hpost] at h
 have HH := mk0 h
 have HR1 := mk0 hr1
 have HC1 := mk0 hc1
 have GB := mk0 gb
 have HN1 := mk0 (show (1 : Int) ≤ n0 from by omega)
 clear hr1 hc1 h hall hpre hpost hx0 hlen hn0 hlon h0 h1 h2 hco gb gl HG ho0
 have HK := mk0 (Kept.refl w (fun k_ => P0_ k_))
 have HW0 := mk0 hB.size
 have HB := mk0 hB
 clear hB
 have H' := mk0 (show nat_addBack.l0 k x0 l1 0 l1 (l1.length : Int) 0 = some t0 from h3)
 clear h3
 go_enter Try.func112, Try.ntmps112
 go_wp2
 go_loopg [4, 9] k (fun kq v4 v9 w' => ∃ (x0_1 : List Int) (x4_1 : Int) (x9_1 : Int), v4 = .int .u64 x4_1 ∧ v9 = .int .i64 x9_1 ∧ Aside0 (nat_addBack.l0 kq x0_1 l1 x4_1 l1 (l1.length : Int) x9_1 = some t0) ∧ Aside0 (kq ≤ k) ∧ Aside0 (Win .u32 87 w' w0.heap.size (fun k_ => (P0_ k_ ∨ w.heap.size ≤ k_)) go co lon n0 pre post x0_1) ∧ Aside0 (Kept w w' (fun k_ => P0_ k_)) ∧ Aside0 (Below w0.heap.size w0 w'))
 case atStart => exact ⟨x0, (0), (0), (by first | rfl | (simp; done) | (simp [*]; done)), (by first | rfl | (simp; done) | (simp [*]; done)), H', ⟨Nat.le_refl _⟩, ⟨HW.out⟩, ⟨HK.out⟩, ⟨HB.out⟩⟩
 case round =>
  obtain ⟨x0_1, x4_1, x9_1, rfl, rfl, HA, HK1, HO_0, HK, HB⟩ := hrel
  have HX := mk0 HO_0.out.2.1
  have HLNX := mk0 (show x0.length = x0_1.length by have a_ := HW.out.2.1; have b_ := HX.out; omega)
  cases gk with
  | zero => exact absurd HA.out (by simp [nat_addBack.l0])
  | succ k1 =>
   have H := HA.out
   clear HA
   simp only [nat_addBack.l0] at H
   by_cases c4 : x9_1 < (l1.length : Int)
   ·rw [if_pos c4] at H
    have c4b0 : decide (x9_1 < (l1.length : Int)) = true := decide_eq_true c4
    by_cases c5 : 0 ≤ x9_1
    ·rw [if_pos c5, if_pos c4] at H
     have c5b0 : decide (0 ≤ x9_1) = true := decide_eq_true c5
     by_cases c7 : x9_1 < (x0_1.length : Int)
     ·rw [if_pos c7] at H
      have HI0 := mk0 c5
      have HI1 := mk0 (show x9_1 < (n0 : Int) by have := HX.out; omega)
      have q166 : x9_1 < (l1.length : Int) := c4
      have p166 : 0 ≤ (x9_1 : Int) := c5
      obtain ⟨ad166, e166, hx166_0⟩ := Kd.at_int (Kd.C_kept_now HR1.out HK.out) x9_1 p166 q166
      cases e166
      have q167 : x9_1 < (n0 : Int) := HI1.out
      have q167b : decide (x9_1 < (n0 : Int)) = true := decide_eq_true q167
      clear c4 c5 c7
      have H' := mk0 H
      clear H
      obtain ⟨hx8_0, hf8_0⟩ := Win.at_ HO_0.out x9_1 HI0.out HI1.out
      replace p166 := eq_true p166
      replace q166 := eq_true q166
      replace q167 := eq_true q167
      have hp9_ := Win.put HO_0.out (x9_1) HI0.out HI1.out ((Go.bits .and .u64 (IntKind.u64.wrap (x4_1 + (IntKind.u64.wrap ((IntKind.u64.wrap (rd x0_1 x9_1)) + (IntKind.u64.wrap (rd l1 x9_1)))))) 4294967295) % 4294967296)
      have HMg := mk0 (show (P0_ go ∨ w.heap.size ≤ go) from Win.mine HO_0.out)
      have HP_ := mk0 hp9_
      clear hp9_
      go_wp2_with (first | ((with_reducible refine gate_store (t := 87) (p := 29) rfl ?_); refine store_event (t := 87) (p := 29) (v := ?vo_) (w1 := (wr.setCell ⟨go, lon + (x9_1 : Int).toNat, none⟩ (.int .u32 ((Go.bits .and .u64 (IntKind.u64.wrap (x4_1 + (IntKind.u64.wrap ((IntKind.u64.wrap (rd x0_1 x9_1)) + (IntKind.u64.wrap (rd l1 x9_1)))))) 4294967295) % 4294967296)))) ?hg ?ho ?hn ?hr ?_; (case ho => rfl); (case hg => rfl); (case hn => rfl); (case hr => first | (go_simp; done) | (go_simp; rfl)); intro w11 hw; have hg : wr.grownBy w11 (some go) := (by rw [hw]; exact HP_.out.2); have hp_ : Win .u32 87 w11 w0.heap.size (fun k_ => (P0_ k_ ∨ w.heap.size ≤ k_)) go co lon n0 pre post (x0_1.set (x9_1 : Int).toNat ((Go.bits .and .u64 (IntKind.u64.wrap (x4_1 + (IntKind.u64.wrap ((IntKind.u64.wrap (rd x0_1 x9_1)) + (IntKind.u64.wrap (rd l1 x9_1)))))) 4294967295) % 4294967296)) := (by rw [hw]; exact HP_.out.1); clear HP_; replace HO_0 := mk0 (hp_); replace HB := mk0 ((by rw [hw]; exact below_set (HB.out) GB.out : Below w0.heap.size w0 w11)); replace HK := mk0 (Kept.of_grown (S := (fun k_ => P0_ k_)) hg HK.out (fun k_ e_ => by cases e_; exact HMg.out)); clear hg hw hp_))
      go_roundg k1
      case measure => have := HK1.out; omega
      case rel => exact ⟨_, ((IntKind.u64.wrap (x4_1 + (IntKind.u64.wrap ((IntKind.u64.wrap (rd x0_1 x9_1)) + (IntKind.u64.wrap (rd l1 x9_1)))))) / 4294967296), (wrap64 (x9_1 + 1)), (by first | rfl | (simp; done) | (simp [*]; done)), (by first | rfl | (simp; done) | (simp [*]; done)), H', ⟨by have := HK1.out; omega⟩, ⟨HO_0.out⟩, ⟨HK.out⟩, ⟨HB.out⟩⟩
     ·rw [if_neg c7] at H
      exact absurd H (by simp)
    ·rw [if_neg c5] at H
     exact absurd H (by simp)
   ·rw [if_neg c4] at H
    have c4b0 : decide (x9_1 < (l1.length : Int)) = false := decide_eq_false c4
    clear c4
    by_cases c12 : 0 ≤ (l1.length : Int)
    ·rw [if_pos c12] at H
     have c12b0 : decide (0 ≤ (l1.length : Int)) = true := decide_eq_true c12
     have c12b1 : decide (0 ≤ l1.length) = true := decide_eq_true (by omega)
     by_cases c13 : (l1.length : Int) < (x0_1.length : Int)
     ·rw [if_pos c13] at H
      have HI0 := mk0 c12
      have HI1 := mk0 (show (l1.length : Int) < (n0 : Int) by have := HX.out; omega)
      have c13b0 : decide ((l1.length : Int) < (n0 : Int)) = true := decide_eq_true HI1.out
      have c13b1 : decide (l1.length < n0) = true := decide_eq_true (by have := HI1.out; omega)
      have q169 : (l1.length : Int) < (n0 : Int) := HI1.out
      clear c12 c13
      have HE := mk0 (Option.some.inj H)
      clear H
      obtain ⟨hx14_0, hf14_0⟩ := Win.at_ HO_0.out (l1.length : Int) HI0.out HI1.out
      (try simp only [Int.toNat_natCast] at hx14_0 hf14_0)
      replace q169 := eq_true q169
      have hp9_ := Win.put HO_0.out ((l1.length : Int)) HI0.out HI1.out ((rd x0_1 (l1.length : Int) + x4_1) % 4294967296)
      have HMg := mk0 (show (P0_ go ∨ w.heap.size ≤ go) from Win.mine HO_0.out)
      (try simp only [Int.toNat_natCast] at hp9_)
      have HP_ := mk0 hp9_
      clear hp9_
      go_wp2_with (first | ((with_reducible refine gate_store (t := 87) (p := 41) rfl ?_); refine store_event (t := 87) (p := 41) (v := ?vo_b) (w1 := (wr.setCell ⟨go, lon + l1.length, none⟩ (.int .u32 ((rd x0_1 (l1.length : Int) + x4_1) % 4294967296)))) ?hg ?ho ?hn ?hr ?_; (case ho => rfl); (case hg => rfl); (case hn => rfl); (case hr => first | (go_simp; done) | (go_simp; rfl)); intro w11 hw; have hg : wr.grownBy w11 (some go) := (by rw [hw]; exact HP_.out.2); have hp_ : Win .u32 87 w11 w0.heap.size (fun k_ => (P0_ k_ ∨ w.heap.size ≤ k_)) go co lon n0 pre post (x0_1.set l1.length ((rd x0_1 (l1.length : Int) + x4_1) % 4294967296)) := (by rw [hw]; exact HP_.out.1); clear HP_; replace HO_0 := mk0 (hp_); replace HB := mk0 ((by rw [hw]; exact below_set (HB.out) GB.out : Below w0.heap.size w0 w11)); replace HK := mk0 (Kept.of_grown (S := (fun k_ => P0_ k_)) hg HK.out (fun k_ e_ => by cases e_; exact HMg.out)); clear hg hw hp_))
      have HF := mk0 (show Kd.R (Kd.int .u32) 87 _ w0.heap.size (fun k_ => (P0_ k_ ∨ w.heap.size ≤ k_)) (.slice (some ⟨go, 0, none⟩) l0.length co) (pre ++ (x0_1.set l1.length ((rd x0_1 (l1.length : Int) + x4_1) % 4294967296)) ++ post) from by rw [HLN.out]; have z_ := HO_0.out.2.2; simpa [List.length_set, HLNX.out] using z_)
      first | go_end0 | ((try simp only [Exit.inBlock, Exit.then]); refine bodyPost_ret (results_none rfl _ _ _) rfl ?_)
      have hh := HH.out
      have he := HE.out
      simp only [Int.add_emod_emod, Int.toNat_natCast] at he
      subst he
      obtain rfl := Option.some.inj hh
      exact ⟨by first | rfl | (simp; done) | (simp [*]; done), HF.out, HB.out, HK.out⟩
     ·rw [if_neg c13] at H
      exact absurd H (by simp)
    ·rw [if_neg c12] at H
     exact absurd H (by simp)
set_option maxHeartbeats 8000000 in
set_option maxRecDepth 100000 in
theorem nat_shiftDown.calls (k : Nat) (A0 : Option Addr) (c0 : Nat) (l0 : List Int) (a1 : Int) (r : List Int) (w : World) (hr0 : Kd.C (Kd.int .u32) w A0 l0.length l0) (hc0 : l0.length ≤ c0) (h : nat_shiftDown.f k l0 a1 = some r) :
  Calls Try.prog 113 #[.slice A0 l0.length c0, .int .u64 a1] w fun e w' => ∃ v0_ : Value, e = .returned (v0_) ∧ Kd.V (Kd.int .u32) 87 w' w.heap.size (fun k_ => (w.heap.size ≤ k_)) v0_ r ∧ Below w.heap.size w w' := by
 have HR0 := mk0 hr0
 have HC0 := mk0 hc0
 clear hr0 hc0
 have HB := mk0 (Below.refl w.heap.size w)
 have H : (if 0 ≤ (l0.length : Int) then (if ((l0.length : Int) : Int).toNat ≤ 70368744177664 then (nat_shiftDown.l0 k l0 a1 (List.replicate ((l0.length : Int) : Int).toNat 0) (l0.length : Int) 0) else (none)) else (none)) = some r := h
 clear h
 by_cases c3 : 0 ≤ (l0.length : Int)
 ·rw [if_pos c3] at H
  have c3b0 := eq_true c3
  have c3b1 : decide (0 ≤ (l0.length : Int)) = true := decide_eq_true c3
  clear c3
  by_cases c4 : ((l0.length : Int) : Int).toNat ≤ 70368744177664
  ·rw [if_pos c4] at H
   have c4b0 := eq_true c4
   have c4b1 : decide (((l0.length : Int) : Int).toNat ≤ 70368744177664) = true := decide_eq_true c4
   clear c4
   obtain ⟨y166, hy166⟩ : ∃ y_ : List Int, y_ = (List.replicate ((l0.length : Int) : Int).toNat 0) := ⟨_, rfl⟩
   replace H : (nat_shiftDown.l0 k l0 a1 y166 (l0.length : Int) 0) = some r := by first | (rw [hy166]; with_reducible exact H) | (have H2_ := (Option.bind_some _ _).symm.trans H; rw [hy166]; with_reducible exact H2_) | (have H2_ := (Option.bind_some _ _).symm.trans H; with_reducible exact H2_) | with_reducible exact H | (rw [hy166]; exact H) | exact H
   have Ny166 := mk0 hy166
   clear hy166
   have H' := mk0 H
   clear H
   go_enter Try.func113, Try.ntmps113
   go_wp2_with (first | ((with_reducible refine gate_dst (N := 10) rfl ?_); refine Kd.R_make (Kd.int .u32) _ 87 rfl (N := 10) rfl 25 _ _ rfl (l0.length : Int) rfl rfl Try.underlying25 (.int .u32 0) 4 info87 rfl (by decide) (by omega) 0 (ok := fun _ => True) (okp := fun _ => True) rfl (fun _ hk => hk) trivial (of_decide_eq_true (by assumption)) (Nat.le_trans (Nat.mul_le_mul_right _ (of_decide_eq_true (by assumption) : (l0.length : Int).toNat ≤ 70368744177664)) (by omega)) (Below.refl _ _) (Nat.le_refl _) ?_; intro v167 w5 ho6 hb hg_ hnew_; clear hg_ hnew_; (first | rw [← Ny166.out] at ho6 | (simp only [Int.reduceToNat] at ho6; rw [← Ny166.out] at ho6)); have HO168 := mk0 (Kd.R_lower (Kd.R_newM (M := fun k_ => (w.heap.size ≤ k_)) ho6 (below_size HB.out) (fun k_ h_ => h_)) (below_size HB.out)); replace HB := hbS HB hb; clear hb ho6))
   go_loopg [13] k (fun kq v13 w' => ∃ (x5_1 : List Int) (x13_1 : Int), v13 = .int .i64 x13_1 ∧ Aside0 (nat_shiftDown.l0 kq l0 a1 x5_1 (l0.length : Int) x13_1 = some r) ∧ Aside0 (kq ≤ k) ∧ Aside0 (Kd.R (Kd.int .u32) 87 w' w.heap.size (fun k_ => (w.heap.size ≤ k_)) v167 x5_1) ∧ Aside0 (Below w.heap.size w w'))
   case atStart => exact ⟨(y166), (0), (by first | rfl | (simp; done) | (simp [*]; done)), H', ⟨Nat.le_refl _⟩, ⟨Kd.R_mono HO168.out (fun _ hk => hk.1)⟩, ⟨HB.out⟩⟩
   case round =>
    clear H'
    try clear c1
    try clear p2
    try clear c3
    try clear c3b0
    try clear c3b1
    try clear c4
    try clear c4b0
    try clear c4b1
    obtain ⟨x5_1, x13_1, rfl, HA, HK1, HO_5, HB⟩ := hrel
    cases gk with
    | zero => exact absurd HA.out (by simp [nat_shiftDown.l0])
    | succ k1 =>
     have H := HA.out
     clear HA
     simp only [nat_shiftDown.l0] at H
     by_cases c7 : x13_1 < (l0.length : Int)
     ·rw [if_pos c7] at H
      have c7b0 : decide (x13_1 < (l0.length : Int)) = true := decide_eq_true c7
      clear c7
      by_cases c8 : 0 ≤ x13_1
      ·rw [if_pos c8] at H
       have c8b0 : decide (0 ≤ x13_1) = true := decide_eq_true c8
       clear c8
       by_cases c9 : x13_1 < (l0.length : Int)
       ·rw [if_pos c9] at H
        have c9b0 : decide (x13_1 < (l0.length : Int)) = true := decide_eq_true c9
        clear c9
        by_cases c10 : (wrap64 (x13_1 + 1)) < (l0.length : Int)
        ·rw [if_pos c10] at H
         have c10b0 : decide ((wrap64 (x13_1 + 1)) < (l0.length : Int)) = true := decide_eq_true c10
         clear c10
         obtain ⟨ji11, hji11⟩ : ∃ j_ : Int, (wrap64 (x13_1 + 1)) = j_ := ⟨_, rfl⟩
         replace H : (if 0 ≤ (ji11) then (if 0 ≤ a1 then (if x13_1 < (x5_1.length : Int) then (nat_shiftDown.l0 k1 l0 a1 (x5_1.set (x13_1 : Int).toNat ((Go.bits .and .u64 (shr .u64 (Go.bits .or .u64 (IntKind.u64.wrap (rd l0 x13_1)) (IntKind.u64.wrap ((IntKind.u64.wrap (rd l0 (ji11))) * 4294967296))) a1) 4294967295) % 4294967296)) (l0.length : Int) ji11) else (none)) else (none)) else (none)) = some r := by first | (rw [hji11] at H; exact H) | (simp only [hji11] at H ⊢; exact H)
         (try rw [hji11] at c10b0)
         have hji11w : (IntKind.i64.wrap (x13_1 + 1)) = ji11 := (i64_w _).trans hji11
         by_cases c12 : 0 ≤ (ji11)
         ·rw [if_pos c12] at H
          have c12b0 : decide (0 ≤ (ji11)) = true := decide_eq_true c12
          clear c12
          by_cases c13 : 0 ≤ a1
          ·rw [if_pos c13] at H
           have c13b0 := eq_true c13
           have c13b1 : decide (0 ≤ a1) = true := decide_eq_true c13
           clear c13
           obtain ⟨ji14, hji14⟩ : ∃ j_ : Int, (shr .u64 (Go.bits .or .u64 (IntKind.u64.wrap (rd l0 x13_1)) (IntKind.u64.wrap ((IntKind.u64.wrap (rd l0 (ji11))) * 4294967296))) a1) = j_ := ⟨_, rfl⟩
           replace H : (if x13_1 < (x5_1.length : Int) then (nat_shiftDown.l0 k1 l0 a1 (x5_1.set (x13_1 : Int).toNat ((Go.bits .and .u64 (ji14) 4294967295) % 4294967296)) (l0.length : Int) ji11) else (none)) = some r := by first | (rw [hji14] at H; exact H) | (simp only [hji14] at H ⊢; exact H)
           have hji14_ : ((Go.bits .or .u64 (IntKind.u64.wrap (rd l0 x13_1)) (IntKind.u64.wrap ((IntKind.u64.wrap (rd l0 (ji11))) * 4294967296))) / 2 ^ min a1.toNat 64) = ji14 := hji14
           have hji14z : a1 ≤ 64 → ((Go.bits .or .u64 (IntKind.u64.wrap (rd l0 x13_1)) (IntKind.u64.wrap ((IntKind.u64.wrap (rd l0 (ji11))) * 4294967296))) / 2 ^ a1.toNat) = ji14 := shr_small hji14
           by_cases c15 : x13_1 < (x5_1.length : Int)
           ·rw [if_pos c15] at H
            have c15b0 : decide (x13_1 < (x5_1.length : Int)) = true := decide_eq_true c15
            clear c15
            obtain ⟨y171, hy171⟩ : ∃ y_ : List Int, y_ = (x5_1.set (x13_1 : Int).toNat ((Go.bits .and .u64 (ji14) 4294967295) % 4294967296)) := ⟨_, rfl⟩
            replace H : (nat_shiftDown.l0 k1 l0 a1 y171 (l0.length : Int) ji11) = some r := by first | (rw [hy171]; with_reducible exact H) | (have H2_ := (Option.bind_some _ _).symm.trans H; rw [hy171]; with_reducible exact H2_) | (have H2_ := (Option.bind_some _ _).symm.trans H; with_reducible exact H2_) | with_reducible exact H | (rw [hy171]; exact H) | exact H
            have Ny171 := mk0 hy171
            clear hy171
            have H' := mk0 H
            clear H
            have p169 : 0 ≤ (x13_1 : Int) := of_decide_eq_true (by assumption)
            have q169 : x13_1 < (l0.length : Int) := of_decide_eq_true (by assumption)
            obtain ⟨ad169, e169, hx169_0⟩ := Kd.at_int HR0.out x13_1 p169 q169
            cases e169
            replace hx169_0 := (HB.out.cell (World.block_lt_of_cell? w _ hx169_0)).trans hx169_0
            replace p169 := eq_true p169
            replace q169 := eq_true q169
            have p170 : 0 ≤ ((ji11) : Int) := of_decide_eq_true (by assumption)
            have q170 : (ji11) < (l0.length : Int) := of_decide_eq_true (by assumption)
            obtain ⟨ad170, e170, hx170_0⟩ := Kd.at_int HR0.out (ji11) p170 q170
            obtain rfl : ad169 = ad170 := (by injection e170)
            replace hx170_0 := (HB.out.cell (World.block_lt_of_cell? w _ hx170_0)).trans hx170_0
            replace p170 := eq_true p170
            replace q170 := eq_true q170
            have p16 : 0 ≤ (x13_1 : Int) := of_decide_eq_true (by assumption)
            have q16 : (x13_1 : Int) < ((x5_1.length : Int) : Int) := of_decide_eq_true (by assumption)
            obtain ⟨go16, co16, eo16, gb16, gl16, cl16, HG16⟩ := Kd.R_form HO_5.out (by omega)
            (first | cases eo16 | (injection eo16 with ea_ en_ ec_; (first | subst ea_ | (injection ea_ with ea_; subst ea_)); subst ec_; clear en_))
            have GB16 := mk0 gb16
            have GG16 := mk0 HG16
            clear gb16 gl16 HG16
            obtain ⟨hx16_0, hf16_0⟩ := Kd.R_celln 0 HO_5.out (x13_1 : Int) p16 q16
            replace p16 := eq_true p16
            replace q16 := eq_true q16
            have HP17 := Kd.R_putg HO_5.out (x13_1 : Int) ((Go.bits .and .u64 (ji14) 4294967295) % 4294967296)
            go_wp2_with (first | ((with_reducible refine gate_store (t := 87) (p := 42) rfl ?_); refine store_event (t := 87) (p := 42) (v := ?vo_w18) (w1 := (wr.setCell ⟨go16, (x13_1 : Int).toNat, none⟩ (.int .u32 ((Go.bits .and .u64 (ji14) 4294967295) % 4294967296)))) ?hg ?ho ?hn ?hr ?_; (case ho => rfl); (case hg => rfl); (case hn => rfl); (case hr => first | (go_simp; done) | (go_simp; rfl)); intro w18 hw; have hg : wr.grownBy w18 (some go16) := (by rw [hw]; exact HP17.2); have hp_ : Kd.R (Kd.int .u32) 87 w18 w.heap.size (fun k_ => (w.heap.size ≤ k_)) (.slice (some ⟨go16, 0, none⟩) x5_1.length co16) y171 := (by rw [hw, Ny171.out]; exact HP17.1); clear HP17; replace HO_5 := mk0 (hp_); replace HB := mk0 ((by rw [hw]; exact below_set (HB.out) GB16.out : Below w.heap.size w w18)); clear hg hw hp_))
            go_roundg k1
            case measure => have := HK1.out; omega
            case rel => exact ⟨(y171), (ji11), (by first | rfl | (simp; done) | (simp only [← hji11] <;> (first | rfl | simp)) | (simp [*]; done)), H', ⟨by have := HK1.out; omega⟩, ⟨HO_5.out⟩, ⟨HB.out⟩⟩
           ·rw [if_neg c15] at H
            exact absurd H (by simp)
          ·rw [if_neg c13] at H
           exact absurd H (by simp)
         ·rw [if_neg c12] at H
          exact absurd H (by simp)
        ·rw [if_neg c10] at H
         have c10b0 : decide ((wrap64 (x13_1 + 1)) < (l0.length : Int)) = false := decide_eq_false c10
         clear c10
         by_cases c19 : 0 ≤ a1
         ·rw [if_pos c19] at H
          have c19b0 := eq_true c19
          have c19b1 : decide (0 ≤ a1) = true := decide_eq_true c19
          clear c19
          obtain ⟨ji20, hji20⟩ : ∃ j_ : Int, (shr .u64 (IntKind.u64.wrap (rd l0 x13_1)) a1) = j_ := ⟨_, rfl⟩
          replace H : (if x13_1 < (x5_1.length : Int) then (nat_shiftDown.l0 k1 l0 a1 (x5_1.set (x13_1 : Int).toNat ((Go.bits .and .u64 (ji20) 4294967295) % 4294967296)) (l0.length : Int) (wrap64 (x13_1 + 1))) else (none)) = some r := by first | (rw [hji20] at H; exact H) | (simp only [hji20] at H ⊢; exact H)
          have hji20_ : ((IntKind.u64.wrap (rd l0 x13_1)) / 2 ^ min a1.toNat 64) = ji20 := hji20
          have hji20z : a1 ≤ 64 → ((IntKind.u64.wrap (rd l0 x13_1)) / 2 ^ a1.toNat) = ji20 := shr_small hji20
          by_cases c21 : x13_1 < (x5_1.length : Int)
          ·rw [if_pos c21] at H
           have c21b0 : decide (x13_1 < (x5_1.length : Int)) = true := decide_eq_true c21
           clear c21
           obtain ⟨y172, hy172⟩ : ∃ y_ : List Int, y_ = (x5_1.set (x13_1 : Int).toNat ((Go.bits .and .u64 (ji20) 4294967295) % 4294967296)) := ⟨_, rfl⟩
           replace H : (nat_shiftDown.l0 k1 l0 a1 y172 (l0.length : Int) (wrap64 (x13_1 + 1))) = some r := by first | (rw [hy172]; with_reducible exact H) | (have H2_ := (Option.bind_some _ _).symm.trans H; rw [hy172]; with_reducible exact H2_) | (have H2_ := (Option.bind_some _ _).symm.trans H; with_reducible exact H2_) | with_reducible exact H | (rw [hy172]; exact H) | exact H
           have Ny172 := mk0 hy172
           clear hy172
           have H' := mk0 H
           clear H
           have p169 : 0 ≤ (x13_1 : Int) := of_decide_eq_true (by assumption)
           have q169 : x13_1 < (l0.length : Int) := of_decide_eq_true (by assumption)
           obtain ⟨ad169, e169, hx169_0⟩ := Kd.at_int HR0.out x13_1 p169 q169
           cases e169
           replace hx169_0 := (HB.out.cell (World.block_lt_of_cell? w _ hx169_0)).trans hx169_0
           replace p169 := eq_true p169
           replace q169 := eq_true q169
           have p22 : 0 ≤ (x13_1 : Int) := of_decide_eq_true (by assumption)
           have q22 : (x13_1 : Int) < ((x5_1.length : Int) : Int) := of_decide_eq_true (by assumption)
           obtain ⟨go22, co22, eo22, gb22, gl22, cl22, HG22⟩ := Kd.R_form HO_5.out (by omega)
           (first | cases eo22 | (injection eo22 with ea_ en_ ec_; (first | subst ea_ | (injection ea_ with ea_; subst ea_)); subst ec_; clear en_))
           have GB22 := mk0 gb22
           have GG22 := mk0 HG22
           clear gb22 gl22 HG22
           obtain ⟨hx22_0, hf22_0⟩ := Kd.R_celln 0 HO_5.out (x13_1 : Int) p22 q22
           replace p22 := eq_true p22
           replace q22 := eq_true q22
           have HP23 := Kd.R_putg HO_5.out (x13_1 : Int) ((Go.bits .and .u64 (ji20) 4294967295) % 4294967296)
           go_wp2_with (first | ((with_reducible refine gate_store (t := 87) (p := 42) rfl ?_); refine store_event (t := 87) (p := 42) (v := ?vo_w24) (w1 := (wr.setCell ⟨go22, (x13_1 : Int).toNat, none⟩ (.int .u32 ((Go.bits .and .u64 (ji20) 4294967295) % 4294967296)))) ?hg ?ho ?hn ?hr ?_; (case ho => rfl); (case hg => rfl); (case hn => rfl); (case hr => first | (go_simp; done) | (go_simp; rfl)); intro w24 hw; have hg : wr.grownBy w24 (some go22) := (by rw [hw]; exact HP23.2); have hp_ : Kd.R (Kd.int .u32) 87 w24 w.heap.size (fun k_ => (w.heap.size ≤ k_)) (.slice (some ⟨go22, 0, none⟩) x5_1.length co22) y172 := (by rw [hw, Ny172.out]; exact HP23.1); clear HP23; replace HO_5 := mk0 (hp_); replace HB := mk0 ((by rw [hw]; exact below_set (HB.out) GB22.out : Below w.heap.size w w24)); clear hg hw hp_))
           go_roundg k1
           case measure => have := HK1.out; omega
           case rel => exact ⟨(y172), (wrap64 (x13_1 + 1)), (by first | rfl | (simp; done) | (simp [*]; done)), H', ⟨by have := HK1.out; omega⟩, ⟨HO_5.out⟩, ⟨HB.out⟩⟩
          ·rw [if_neg c21] at H
           exact absurd H (by simp)
         ·rw [if_neg c19] at H
          exact absurd H (by simp)
       ·rw [if_neg c9] at H
        exact absurd H (by simp)
      ·rw [if_neg c8] at H
       exact absurd H (by simp)
     ·rw [if_neg c7] at H
      have c7b0 : decide (x13_1 < (l0.length : Int)) = false := decide_eq_false c7
      clear c7
      obtain ⟨t173, A25, H⟩ := bindA H
      obtain rfl := Option.some.inj H
      obtain ⟨Ao26, co26, eo26⟩ := Kd.R_slice HO_5.out
      subst eo26
      go_wp2_with (first | ((with_reducible refine gate_callee (f := 81) rfl ?_); refine goesL_ (some 45) rfl rfl Try.func81 (by kernel_rfl) rfl #[.slice Ao26 x5_1.length co26] rfl (by first | (go_simp; done) | (go_simp; rfl)) ?_; (with_reducible refine (nat_trim.calls k1 (fun k_ => some k_ = (.slice Ao26 x5_1.length co26 : Value).ownBlock) _ _ x5_1 t173 _ (by exact Kd.R_V (Kd.R_tight rfl (HO_5.out))) A25.out).mono ?_); rintro e w27 ⟨v174, rfl, ho0, hb⟩; refine ⟨_, rfl, ?_⟩; have HO175 := mk0 (Kd.V_lower (Kd.V_mono (ok' := fun k_ => (w.heap.size ≤ k_)) ho0 (fun k_ hk_ => Or.elim hk_ (fun hs_ => ((HO_5.out).1 k_ hs_.symm)) (fun hn_ => (Nat.le_trans (below_size HB.out) hn_)))) (below_size HB.out)); replace HO_5 := rB HO_5 hb; replace HB := hbS HB hb))
      go_ret
      exact ⟨_, by first | rfl | (simp [errW_none, errW_some] <;> rfl) | (simp [*, errW_none, errW_some] <;> rfl), HO175.out, HB.out⟩
  ·rw [if_neg c4] at H
   exact absurd H (by simp)
 ·rw [if_neg c3] at H
  exact absurd H (by simp)
set_option maxHeartbeats 8000000 in
set_option maxRecDepth 100000 in
theorem nat_Cmp.calls (k : Nat) (A0 : Option Addr) (c0 : Nat) (l0 : List Int) (A1 : Option Addr) (c1 : Nat) (l1 : List Int) (r : Int) (w : World) (hr0 : Kd.C (Kd.int .u32) w A0 l0.length l0) (hc0 : l0.length ≤ c0) (hr1 : Kd.C (Kd.int .u32) w A1 l1.length l1) (hc1 : l1.length ≤ c1) (h : nat_Cmp.f k l0 l1 = some r) :
  Calls Try.prog 77 #[.slice A0 l0.length c0, .slice A1 l1.length c1] w fun e w' => e = .returned (.int .i64 r) ∧ Below w.heap.size w w' := by
 have HR0 := mk0 hr0
 have HC0 := mk0 hc0
 clear hr0 hc0
 have HR1 := mk0 hr1
 have HC1 := mk0 hc1
 clear hr1 hc1
 have HB := mk0 (Below.refl w.heap.size w)
 have H : ((nat_trim.f k l0).bind fun t141 => ((nat_trim.f k l1).bind fun t144 => (if (t141.length : Int) = (t144.length : Int) then (nat_Cmp.l0 k t141 t144 (wrap64 ((t141.length : Int) - 1))) else (if (t141.length : Int) < (t144.length : Int) then (some (-1)) else (some 1))))) = some r := h
 clear h
 obtain ⟨t141, A3, H⟩ := bindA H
 obtain ⟨t144, A4, H⟩ := bindA H
 by_cases c5 : (t141.length : Int) = (t144.length : Int)
 ·rw [if_pos c5] at H
  have c5b0 : ((t141.length : Int) == (t144.length : Int)) = true := beq_iff_eq.mpr c5
  have c5b1 : ((t141.length : Int) != (t144.length : Int)) = false := bne_eq_false_iff_eq.mpr c5
  have c5b2 : (t141.length == t144.length) = true := by first | simpa using c5 | (simp at c5 ⊢; omega)
  clear c5
  have H' := mk0 H
  clear H
  go_enter Try.func77, Try.ntmps77
  go_wp2_with (first | (go_at_call 81; (with_reducible refine (nat_trim.calls k (fun k_ => k_ < w.heap.size) _ _ l0 t141 _ (by exact Kd.V_mk HC0.out (Kd.F_below (Kd.C_F (Kd.heap_int .u32) HR0.out) (by repeat (first | (with_reducible first | exact HB.out | apply below_alloc | apply pw_below_drewN | apply below_drew1) | exact HB.out)))) A3.out).mono ?_); rintro e w6 ⟨v142, rfl, ho0, hb⟩; have HO143 := mk0 (Kd.V_lower (Kd.V_mono (ok' := fun k_ => True) ho0 (fun k_ hk_ => trivial)) (below_size (by repeat (first | (with_reducible first | exact HB.out | apply below_alloc | apply pw_below_drewN | apply below_drew1) | exact HB.out)))); replace HB := mk0 (below_step (by repeat (first | (with_reducible first | exact HB.out | apply below_alloc | apply pw_below_drewN | apply below_drew1) | exact HB.out)) hb)) | (go_at_call 81; (with_reducible refine (nat_trim.calls k (fun k_ => k_ < w.heap.size) _ _ l1 t144 _ (by exact Kd.V_mk HC1.out (Kd.F_below (Kd.C_F (Kd.heap_int .u32) HR1.out) (by repeat (first | (with_reducible first | exact HB.out | apply below_alloc | apply pw_below_drewN | apply below_drew1) | exact HB.out)))) A4.out).mono ?_); rintro e w7 ⟨v145, rfl, ho0, hb⟩; replace HO143 := mk0 (Kd.V_below (by (with_reducible repeat (first | apply Kd.V_alloc | apply Kd.V_drewN | apply Kd.V_drew)); exact HO143.out) hb); have HO146 := mk0 (Kd.V_lower (Kd.V_mono (ok' := fun k_ => True) ho0 (fun k_ hk_ => trivial)) (below_size (by repeat (first | (with_reducible first | exact HB.out | apply below_alloc | apply pw_below_drewN | apply below_drew1) | exact HB.out)))); replace HB := mk0 (below_step (by repeat (first | (with_reducible first | exact HB.out | apply below_alloc | apply pw_below_drewN | apply below_drew1) | exact HB.out)) hb); obtain ⟨Ao8, co8, eo8⟩ := Kd.V_slice HO143.out; subst eo8; obtain ⟨Ao9, co9, eo9⟩ := Kd.V_slice HO146.out; subst eo9))
  repeat (go_quiet (first | (go_at_call 81; (with_reducible refine (nat_trim.calls k (fun k_ => k_ < w.heap.size) _ _ l0 t141 _ (by exact Kd.V_mk HC0.out (Kd.F_below (Kd.C_F (Kd.heap_int .u32) HR0.out) (by repeat (first | (with_reducible first | exact HB.out | apply below_alloc | apply pw_below_drewN | apply below_drew1) | exact HB.out)))) A3.out).mono ?_); rintro e w6 ⟨v142, rfl, ho0, hb⟩; have HO143 := mk0 (Kd.V_lower (Kd.V_mono (ok' := fun k_ => True) ho0 (fun k_ hk_ => trivial)) (below_size (by repeat (first | (with_reducible first | exact HB.out | apply below_alloc | apply pw_below_drewN | apply below_drew1) | exact HB.out)))); replace HB := mk0 (below_step (by repeat (first | (with_reducible first | exact HB.out | apply below_alloc | apply pw_below_drewN | apply below_drew1) | exact HB.out)) hb)) | (go_at_call 81; (with_reducible refine (nat_trim.calls k (fun k_ => k_ < w.heap.size) _ _ l1 t144 _ (by exact Kd.V_mk HC1.out (Kd.F_below (Kd.C_F (Kd.heap_int .u32) HR1.out) (by repeat (first | (with_reducible first | exact HB.out | apply below_alloc | apply pw_below_drewN | apply below_drew1) | exact HB.out)))) A4.out).mono ?_); rintro e w7 ⟨v145, rfl, ho0, hb⟩; replace HO143 := mk0 (Kd.V_below (by (with_reducible repeat (first | apply Kd.V_alloc | apply Kd.V_drewN | apply Kd.V_drew)); exact HO143.out) hb); have HO146 := mk0 (Kd.V_lower (Kd.V_mono (ok' := fun k_ => True) ho0 (fun k_ hk_ => trivial)) (below_size (by repeat (first | (with_reducible first | exact HB.out | apply below_alloc | apply pw_below_drewN | apply below_drew1) | exact HB.out)))); replace HB := mk0 (below_step (by repeat (first | (with_reducible first | exact HB.out | apply below_alloc | apply pw_below_drewN | apply below_drew1) | exact HB.out)) hb); obtain ⟨Ao8, co8, eo8⟩ := Kd.V_slice HO143.out; subst eo8; obtain ⟨Ao9, co9, eo9⟩ := Kd.V_slice HO146.out; subst eo9)); try go_wp2_with (first | (go_at_call 81; (with_reducible refine (nat_trim.calls k (fun k_ => k_ < w.heap.size) _ _ l0 t141 _ (by exact Kd.V_mk HC0.out (Kd.F_below (Kd.C_F (Kd.heap_int .u32) HR0.out) (by repeat (first | (with_reducible first | exact HB.out | apply below_alloc | apply pw_below_drewN | apply below_drew1) | exact HB.out)))) A3.out).mono ?_); rintro e w6 ⟨v142, rfl, ho0, hb⟩; have HO143 := mk0 (Kd.V_lower (Kd.V_mono (ok' := fun k_ => True) ho0 (fun k_ hk_ => trivial)) (below_size (by repeat (first | (with_reducible first | exact HB.out | apply below_alloc | apply pw_below_drewN | apply below_drew1) | exact HB.out)))); replace HB := mk0 (below_step (by repeat (first | (with_reducible first | exact HB.out | apply below_alloc | apply pw_below_drewN | apply below_drew1) | exact HB.out)) hb)) | (go_at_call 81; (with_reducible refine (nat_trim.calls k (fun k_ => k_ < w.heap.size) _ _ l1 t144 _ (by exact Kd.V_mk HC1.out (Kd.F_below (Kd.C_F (Kd.heap_int .u32) HR1.out) (by repeat (first | (with_reducible first | exact HB.out | apply below_alloc | apply pw_below_drewN | apply below_drew1) | exact HB.out)))) A4.out).mono ?_); rintro e w7 ⟨v145, rfl, ho0, hb⟩; replace HO143 := mk0 (Kd.V_below (by (with_reducible repeat (first | apply Kd.V_alloc | apply Kd.V_drewN | apply Kd.V_drew)); exact HO143.out) hb); have HO146 := mk0 (Kd.V_lower (Kd.V_mono (ok' := fun k_ => True) ho0 (fun k_ hk_ => trivial)) (below_size (by repeat (first | (with_reducible first | exact HB.out | apply below_alloc | apply pw_below_drewN | apply below_drew1) | exact HB.out)))); replace HB := mk0 (below_step (by repeat (first | (with_reducible first | exact HB.out | apply below_alloc | apply pw_below_drewN | apply below_drew1) | exact HB.out)) hb); obtain ⟨Ao8, co8, eo8⟩ := Kd.V_slice HO143.out; subst eo8; obtain ⟨Ao9, co9, eo9⟩ := Kd.V_slice HO146.out; subst eo9)))
  go_loopg [7] k (fun kq v7 w' => ∃ (x7_1 : Int), v7 = .int .i64 x7_1 ∧ Aside0 (nat_Cmp.l0 kq t141 t144 x7_1 = some r) ∧ Aside0 (kq ≤ k) ∧ Aside0 (Kd.V (Kd.int .u32) 87 w' w.heap.size (fun _ => True) (.slice Ao8 t141.length co8) t141) ∧ Aside0 (Kd.V (Kd.int .u32) 87 w' w.heap.size (fun _ => True) (.slice Ao9 t144.length co9) t144) ∧ Aside0 (Below w.heap.size w w'))
  case atStart => exact ⟨(wrap64 ((t141.length : Int) - 1)), (by first | rfl | (simp; done) | (simp [*]; done)), H', ⟨Nat.le_refl _⟩, ⟨by (with_reducible repeat (first | apply Kd.V_alloc | apply Kd.V_drewN | apply Kd.V_drew)); exact HO143.out⟩, ⟨by (with_reducible repeat (first | apply Kd.V_alloc | apply Kd.V_drewN | apply Kd.V_drew)); exact HO146.out⟩, ⟨by repeat (first | (with_reducible first | exact HB.out | apply below_alloc | apply pw_below_drewN | apply below_drew1) | exact HB.out)⟩⟩
  case round =>
   clear H'
   try clear c1
   try clear p2
   try clear c5
   try clear c5b0
   try clear c5b1
   try clear c5b2
   try clear p6
   try clear c7
   obtain ⟨x7_1, rfl, HA, HK1, HO_5, HO_6, HB⟩ := hrel
   cases gk with
   | zero => exact absurd HA.out (by simp [nat_Cmp.l0])
   | succ k1 =>
    have H := HA.out
    clear HA
    simp only [nat_Cmp.l0] at H
    by_cases c10 : x7_1 ≥ 0
    ·rw [if_pos c10] at H
     have c10b0 : decide (0 ≤ x7_1) = true := decide_eq_true c10
     clear c10
     by_cases c11 : 0 ≤ x7_1
     ·rw [if_pos c11] at H
      have c11b0 : decide (0 ≤ x7_1) = true := decide_eq_true c11
      clear c11
      by_cases c12 : x7_1 < (t141.length : Int)
      ·rw [if_pos c12] at H
       have c12b0 : decide (x7_1 < (t141.length : Int)) = true := decide_eq_true c12
       clear c12
       by_cases c13 : x7_1 < (t144.length : Int)
       ·rw [if_pos c13] at H
        have c13b0 : decide (x7_1 < (t144.length : Int)) = true := decide_eq_true c13
        clear c13
        by_cases c14 : (rd t141 x7_1) < (rd t144 x7_1)
        ·rw [if_pos c14] at H
         have c14b0 : decide ((rd t141 x7_1) < (rd t144 x7_1)) = true := decide_eq_true c14
         clear c14
         obtain rfl := Option.some.inj H
         have p147 : 0 ≤ (x7_1 : Int) := of_decide_eq_true (by assumption)
         have q147 : x7_1 < (t141.length : Int) := of_decide_eq_true (by assumption)
         obtain ⟨ad147, e147, hx147_0⟩ := Kd.at_int (Kd.V_reads' HO_5.out).2.2 x7_1 p147 q147
         cases e147
         replace p147 := eq_true p147
         replace q147 := eq_true q147
         have p148 : 0 ≤ (x7_1 : Int) := of_decide_eq_true (by assumption)
         have q148 : x7_1 < (t144.length : Int) := of_decide_eq_true (by assumption)
         obtain ⟨ad148, e148, hx148_0⟩ := Kd.at_int (Kd.V_reads' HO_6.out).2.2 x7_1 p148 q148
         cases e148
         replace p148 := eq_true p148
         replace q148 := eq_true q148
         go_wp2
         repeat (go_quiet (fail); try go_wp2)
         go_ret
         exact ⟨by first | rfl | (simp [errW_none, errW_some] <;> rfl) | (simp [*, errW_none, errW_some] <;> rfl), by repeat (first | (with_reducible first | exact HB.out | apply below_alloc | apply pw_below_drewN | apply below_drew1) | exact HB.out)⟩
        ·rw [if_neg c14] at H
         have c14b0 : decide ((rd t141 x7_1) < (rd t144 x7_1)) = false := decide_eq_false c14
         clear c14
         by_cases c15 : (rd t141 x7_1) > (rd t144 x7_1)
         ·rw [if_pos c15] at H
          have c15b0 : decide ((rd t144 x7_1) < (rd t141 x7_1)) = true := decide_eq_true c15
          clear c15
          obtain rfl := Option.some.inj H
          have p147 : 0 ≤ (x7_1 : Int) := of_decide_eq_true (by assumption)
          have q147 : x7_1 < (t141.length : Int) := of_decide_eq_true (by assumption)
          obtain ⟨ad147, e147, hx147_0⟩ := Kd.at_int (Kd.V_reads' HO_5.out).2.2 x7_1 p147 q147
          cases e147
          replace p147 := eq_true p147
          replace q147 := eq_true q147
          have p148 : 0 ≤ (x7_1 : Int) := of_decide_eq_true (by assumption)
          have q148 : x7_1 < (t144.length : Int) := of_decide_eq_true (by assumption)
          obtain ⟨ad148, e148, hx148_0⟩ := Kd.at_int (Kd.V_reads' HO_6.out).2.2 x7_1 p148 q148
          cases e148
          replace p148 := eq_true p148
          replace q148 := eq_true q148
          have p149 : 0 ≤ (x7_1 : Int) := of_decide_eq_true (by assumption)
          have q149 : x7_1 < (t141.length : Int) := of_decide_eq_true (by assumption)
          obtain ⟨ad149, e149, hx149_0⟩ := Kd.at_int (Kd.V_reads' HO_5.out).2.2 x7_1 p149 q149
          obtain rfl : ad147 = ad149 := (by injection e149)
          replace p149 := eq_true p149
          replace q149 := eq_true q149
          have p150 : 0 ≤ (x7_1 : Int) := of_decide_eq_true (by assumption)
          have q150 : x7_1 < (t144.length : Int) := of_decide_eq_true (by assumption)
          obtain ⟨ad150, e150, hx150_0⟩ := Kd.at_int (Kd.V_reads' HO_6.out).2.2 x7_1 p150 q150
          obtain rfl : ad148 = ad150 := (by injection e150)
          replace p150 := eq_true p150
          replace q150 := eq_true q150
          go_wp2
          repeat (go_quiet (fail); try go_wp2)
          go_ret
          exact ⟨by first | rfl | (simp [errW_none, errW_some] <;> rfl) | (simp [*, errW_none, errW_some] <;> rfl), by repeat (first | (with_reducible first | exact HB.out | apply below_alloc | apply pw_below_drewN | apply below_drew1) | exact HB.out)⟩
         ·rw [if_neg c15] at H
          have c15b0 : decide ((rd t144 x7_1) < (rd t141 x7_1)) = false := decide_eq_false c15
          clear c15
          have H' := mk0 H
          clear H
          have p147 : 0 ≤ (x7_1 : Int) := of_decide_eq_true (by assumption)
          have q147 : x7_1 < (t141.length : Int) := of_decide_eq_true (by assumption)
          obtain ⟨ad147, e147, hx147_0⟩ := Kd.at_int (Kd.V_reads' HO_5.out).2.2 x7_1 p147 q147
          cases e147
          replace p147 := eq_true p147
          replace q147 := eq_true q147
          have p148 : 0 ≤ (x7_1 : Int) := of_decide_eq_true (by assumption)
          have q148 : x7_1 < (t144.length : Int) := of_decide_eq_true (by assumption)
          obtain ⟨ad148, e148, hx148_0⟩ := Kd.at_int (Kd.V_reads' HO_6.out).2.2 x7_1 p148 q148
          cases e148
          replace p148 := eq_true p148
          replace q148 := eq_true q148
          have p149 : 0 ≤ (x7_1 : Int) := of_decide_eq_true (by assumption)
          have q149 : x7_1 < (t141.length : Int) := of_decide_eq_true (by assumption)
          obtain ⟨ad149, e149, hx149_0⟩ := Kd.at_int (Kd.V_reads' HO_5.out).2.2 x7_1 p149 q149
          obtain rfl : ad147 = ad149 := (by injection e149)
          replace p149 := eq_true p149
          replace q149 := eq_true q149
          have p150 : 0 ≤ (x7_1 : Int) := of_decide_eq_true (by assumption)
          have q150 : x7_1 < (t144.length : Int) := of_decide_eq_true (by assumption)
          obtain ⟨ad150, e150, hx150_0⟩ := Kd.at_int (Kd.V_reads' HO_6.out).2.2 x7_1 p150 q150
          obtain rfl : ad148 = ad150 := (by injection e150)
          replace p150 := eq_true p150
          replace q150 := eq_true q150
          go_wp2
          repeat (go_quiet (fail); try go_wp2)
          go_roundg k1
          case measure => have := HK1.out; omega
          case rel => exact ⟨(wrap64 (x7_1 - 1)), (by first | rfl | (simp; done) | (simp [*]; done)), H', ⟨by have := HK1.out; omega⟩, ⟨by (with_reducible repeat (first | apply Kd.V_alloc | apply Kd.V_drewN | apply Kd.V_drew)); exact HO_5.out⟩, ⟨by (with_reducible repeat (first | apply Kd.V_alloc | apply Kd.V_drewN | apply Kd.V_drew)); exact HO_6.out⟩, ⟨by repeat (first | (with_reducible first | exact HB.out | apply below_alloc | apply pw_below_drewN | apply below_drew1) | exact HB.out)⟩⟩
       ·rw [if_neg c13] at H
        exact absurd H (by simp)
      ·rw [if_neg c12] at H
       exact absurd H (by simp)
     ·rw [if_neg c11] at H
      exact absurd H (by simp)
    ·rw [if_neg c10] at H
     have c10b0 : decide (0 ≤ x7_1) = false := decide_eq_false c10
     clear c10
     obtain rfl := Option.some.inj H
     go_wp2
     repeat (go_quiet (fail); try go_wp2)
     go_ret
     exact ⟨by first | rfl | (simp [errW_none, errW_some] <;> rfl) | (simp [*, errW_none, errW_some] <;> rfl), by repeat (first | (with_reducible first | exact HB.out | apply below_alloc | apply pw_below_drewN | apply below_drew1) | exact HB.out)⟩
 ·rw [if_neg c5] at H
  have c5b0 : ((t141.length : Int) == (t144.length : Int)) = false := beq_eq_false_iff_ne.mpr c5
  have c5b1 : ((t141.length : Int) != (t144.length : Int)) = true := bne_iff_ne.mpr c5
  have c5b2 : (t141.length == t144.length) = false := by first | simpa using c5 | (simp at c5 ⊢; omega)
  by_cases c16 : (t141.length : Int) < (t144.length : Int)
  ·rw [if_pos c16] at H
   have c16b0 : decide ((t141.length : Int) < (t144.length : Int)) = true := decide_eq_true c16
   have c16b1 : decide (t141.length < t144.length) = true := decide_eq_true (Int.ofNat_lt.mp c16)
   clear c16
   obtain rfl := Option.some.inj H
   go_enter Try.func77, Try.ntmps77
   go_wp2_with (first | (go_at_call 81; (with_reducible refine (nat_trim.calls k (fun k_ => k_ < w.heap.size) _ _ l0 t141 _ (by exact Kd.V_mk HC0.out (Kd.F_below (Kd.C_F (Kd.heap_int .u32) HR0.out) (by repeat (first | (with_reducible first | exact HB.out | apply below_alloc | apply pw_below_drewN | apply below_drew1) | exact HB.out)))) A3.out).mono ?_); rintro e w17 ⟨v142, rfl, ho0, hb⟩; have HO143 := mk0 (Kd.V_lower (Kd.V_mono (ok' := fun k_ => True) ho0 (fun k_ hk_ => trivial)) (below_size (by repeat (first | (with_reducible first | exact HB.out | apply below_alloc | apply pw_below_drewN | apply below_drew1) | exact HB.out)))); replace HB := mk0 (below_step (by repeat (first | (with_reducible first | exact HB.out | apply below_alloc | apply pw_below_drewN | apply below_drew1) | exact HB.out)) hb)) | (go_at_call 81; (with_reducible refine (nat_trim.calls k (fun k_ => k_ < w.heap.size) _ _ l1 t144 _ (by exact Kd.V_mk HC1.out (Kd.F_below (Kd.C_F (Kd.heap_int .u32) HR1.out) (by repeat (first | (with_reducible first | exact HB.out | apply below_alloc | apply pw_below_drewN | apply below_drew1) | exact HB.out)))) A4.out).mono ?_); rintro e w18 ⟨v145, rfl, ho0, hb⟩; replace HO143 := mk0 (Kd.V_below (by (with_reducible repeat (first | apply Kd.V_alloc | apply Kd.V_drewN | apply Kd.V_drew)); exact HO143.out) hb); have HO146 := mk0 (Kd.V_lower (Kd.V_mono (ok' := fun k_ => True) ho0 (fun k_ hk_ => trivial)) (below_size (by repeat (first | (with_reducible first | exact HB.out | apply below_alloc | apply pw_below_drewN | apply below_drew1) | exact HB.out)))); replace HB := mk0 (below_step (by repeat (first | (with_reducible first | exact HB.out | apply below_alloc | apply pw_below_drewN | apply below_drew1) | exact HB.out)) hb); obtain ⟨Ao19, co19, eo19⟩ := Kd.V_slice HO143.out; subst eo19; obtain ⟨Ao20, co20, eo20⟩ := Kd.V_slice HO146.out; subst eo20))
   repeat (go_quiet (first | (go_at_call 81; (with_reducible refine (nat_trim.calls k (fun k_ => k_ < w.heap.size) _ _ l0 t141 _ (by exact Kd.V_mk HC0.out (Kd.F_below (Kd.C_F (Kd.heap_int .u32) HR0.out) (by repeat (first | (with_reducible first | exact HB.out | apply below_alloc | apply pw_below_drewN | apply below_drew1) | exact HB.out)))) A3.out).mono ?_); rintro e w17 ⟨v142, rfl, ho0, hb⟩; have HO143 := mk0 (Kd.V_lower (Kd.V_mono (ok' := fun k_ => True) ho0 (fun k_ hk_ => trivial)) (below_size (by repeat (first | (with_reducible first | exact HB.out | apply below_alloc | apply pw_below_drewN | apply below_drew1) | exact HB.out)))); replace HB := mk0 (below_step (by repeat (first | (with_reducible first | exact HB.out | apply below_alloc | apply pw_below_drewN | apply below_drew1) | exact HB.out)) hb)) | (go_at_call 81; (with_reducible refine (nat_trim.calls k (fun k_ => k_ < w.heap.size) _ _ l1 t144 _ (by exact Kd.V_mk HC1.out (Kd.F_below (Kd.C_F (Kd.heap_int .u32) HR1.out) (by repeat (first | (with_reducible first | exact HB.out | apply below_alloc | apply pw_below_drewN | apply below_drew1) | exact HB.out)))) A4.out).mono ?_); rintro e w18 ⟨v145, rfl, ho0, hb⟩; replace HO143 := mk0 (Kd.V_below (by (with_reducible repeat (first | apply Kd.V_alloc | apply Kd.V_drewN | apply Kd.V_drew)); exact HO143.out) hb); have HO146 := mk0 (Kd.V_lower (Kd.V_mono (ok' := fun k_ => True) ho0 (fun k_ hk_ => trivial)) (below_size (by repeat (first | (with_reducible first | exact HB.out | apply below_alloc | apply pw_below_drewN | apply below_drew1) | exact HB.out)))); replace HB := mk0 (below_step (by repeat (first | (with_reducible first | exact HB.out | apply below_alloc | apply pw_below_drewN | apply below_drew1) | exact HB.out)) hb); obtain ⟨Ao19, co19, eo19⟩ := Kd.V_slice HO143.out; subst eo19; obtain ⟨Ao20, co20, eo20⟩ := Kd.V_slice HO146.out; subst eo20)); try go_wp2_with (first | (go_at_call 81; (with_reducible refine (nat_trim.calls k (fun k_ => k_ < w.heap.size) _ _ l0 t141 _ (by exact Kd.V_mk HC0.out (Kd.F_below (Kd.C_F (Kd.heap_int .u32) HR0.out) (by repeat (first | (with_reducible first | exact HB.out | apply below_alloc | apply pw_below_drewN | apply below_drew1) | exact HB.out)))) A3.out).mono ?_); rintro e w17 ⟨v142, rfl, ho0, hb⟩; have HO143 := mk0 (Kd.V_lower (Kd.V_mono (ok' := fun k_ => True) ho0 (fun k_ hk_ => trivial)) (below_size (by repeat (first | (with_reducible first | exact HB.out | apply below_alloc | apply pw_below_drewN | apply below_drew1) | exact HB.out)))); replace HB := mk0 (below_step (by repeat (first | (with_reducible first | exact HB.out | apply below_alloc | apply pw_below_drewN | apply below_drew1) | exact HB.out)) hb)) | (go_at_call 81; (with_reducible refine (nat_trim.calls k (fun k_ => k_ < w.heap.size) _ _ l1 t144 _ (by exact Kd.V_mk HC1.out (Kd.F_below (Kd.C_F (Kd.heap_int .u32) HR1.out) (by repeat (first | (with_reducible first | exact HB.out | apply below_alloc | apply pw_below_drewN | apply below_drew1) | exact HB.out)))) A4.out).mono ?_); rintro e w18 ⟨v145, rfl, ho0, hb⟩; replace HO143 := mk0 (Kd.V_below (by (with_reducible repeat (first | apply Kd.V_alloc | apply Kd.V_drewN | apply Kd.V_drew)); exact HO143.out) hb); have HO146 := mk0 (Kd.V_lower (Kd.V_mono (ok' := fun k_ => True) ho0 (fun k_ hk_ => trivial)) (below_size (by repeat (first | (with_reducible first | exact HB.out | apply below_alloc | apply pw_below_drewN | apply below_drew1) | exact HB.out)))); replace HB := mk0 (below_step (by repeat (first | (with_reducible first | exact HB.out | apply below_alloc | apply pw_below_drewN | apply below_drew1) | exact HB.out)) hb); obtain ⟨Ao19, co19, eo19⟩ := Kd.V_slice HO143.out; subst eo19; obtain ⟨Ao20, co20, eo20⟩ := Kd.V_slice HO146.out; subst eo20)))
   go_ret
   exact ⟨by first | rfl | (simp [errW_none, errW_some] <;> rfl) | (simp [*, errW_none, errW_some] <;> rfl), by repeat (first | (with_reducible first | exact HB.out | apply below_alloc | apply pw_below_drewN | apply below_drew1) | exact HB.out)⟩
  ·rw [if_neg c16] at H
   have c16b0 : decide ((t141.length : Int) < (t144.length : Int)) = false := decide_eq_false c16
   have c16b1 : decide (t141.length < t144.length) = false := decide_eq_false (fun h => c16 (Int.ofNat_lt.mpr h))
   clear c16
   obtain rfl := Option.some.inj H
   go_enter Try.func77, Try.ntmps77
   go_wp2_with (first | (go_at_call 81; (with_reducible refine (nat_trim.calls k (fun k_ => k_ < w.heap.size) _ _ l0 t141 _ (by exact Kd.V_mk HC0.out (Kd.F_below (Kd.C_F (Kd.heap_int .u32) HR0.out) (by repeat (first | (with_reducible first | exact HB.out | apply below_alloc | apply pw_below_drewN | apply below_drew1) | exact HB.out)))) A3.out).mono ?_); rintro e w21 ⟨v142, rfl, ho0, hb⟩; have HO143 := mk0 (Kd.V_lower (Kd.V_mono (ok' := fun k_ => True) ho0 (fun k_ hk_ => trivial)) (below_size (by repeat (first | (with_reducible first | exact HB.out | apply below_alloc | apply pw_below_drewN | apply below_drew1) | exact HB.out)))); replace HB := mk0 (below_step (by repeat (first | (with_reducible first | exact HB.out | apply below_alloc | apply pw_below_drewN | apply below_drew1) | exact HB.out)) hb)) | (go_at_call 81; (with_reducible refine (nat_trim.calls k (fun k_ => k_ < w.heap.size) _ _ l1 t144 _ (by exact Kd.V_mk HC1.out (Kd.F_below (Kd.C_F (Kd.heap_int .u32) HR1.out) (by repeat (first | (with_reducible first | exact HB.out | apply below_alloc | apply pw_below_drewN | apply below_drew1) | exact HB.out)))) A4.out).mono ?_); rintro e w22 ⟨v145, rfl, ho0, hb⟩; replace HO143 := mk0 (Kd.V_below (by (with_reducible repeat (first | apply Kd.V_alloc | apply Kd.V_drewN | apply Kd.V_drew)); exact HO143.out) hb); have HO146 := mk0 (Kd.V_lower (Kd.V_mono (ok' := fun k_ => True) ho0 (fun k_ hk_ => trivial)) (below_size (by repeat (first | (with_reducible first | exact HB.out | apply below_alloc | apply pw_below_drewN | apply below_drew1) | exact HB.out)))); replace HB := mk0 (below_step (by repeat (first | (with_reducible first | exact HB.out | apply below_alloc | apply pw_below_drewN | apply below_drew1) | exact HB.out)) hb); obtain ⟨Ao23, co23, eo23⟩ := Kd.V_slice HO143.out; subst eo23; obtain ⟨Ao24, co24, eo24⟩ := Kd.V_slice HO146.out; subst eo24))
   repeat (go_quiet (first | (go_at_call 81; (with_reducible refine (nat_trim.calls k (fun k_ => k_ < w.heap.size) _ _ l0 t141 _ (by exact Kd.V_mk HC0.out (Kd.F_below (Kd.C_F (Kd.heap_int .u32) HR0.out) (by repeat (first | (with_reducible first | exact HB.out | apply below_alloc | apply pw_below_drewN | apply below_drew1) | exact HB.out)))) A3.out).mono ?_); rintro e w21 ⟨v142, rfl, ho0, hb⟩; have HO143 := mk0 (Kd.V_lower (Kd.V_mono (ok' := fun k_ => True) ho0 (fun k_ hk_ => trivial)) (below_size (by repeat (first | (with_reducible first | exact HB.out | apply below_alloc | apply pw_below_drewN | apply below_drew1) | exact HB.out)))); replace HB := mk0 (below_step (by repeat (first | (with_reducible first | exact HB.out | apply below_alloc | apply pw_below_drewN | apply below_drew1) | exact HB.out)) hb)) | (go_at_call 81; (with_reducible refine (nat_trim.calls k (fun k_ => k_ < w.heap.size) _ _ l1 t144 _ (by exact Kd.V_mk HC1.out (Kd.F_below (Kd.C_F (Kd.heap_int .u32) HR1.out) (by repeat (first | (with_reducible first | exact HB.out | apply below_alloc | apply pw_below_drewN | apply below_drew1) | exact HB.out)))) A4.out).mono ?_); rintro e w22 ⟨v145, rfl, ho0, hb⟩; replace HO143 := mk0 (Kd.V_below (by (with_reducible repeat (first | apply Kd.V_alloc | apply Kd.V_drewN | apply Kd.V_drew)); exact HO143.out) hb); have HO146 := mk0 (Kd.V_lower (Kd.V_mono (ok' := fun k_ => True) ho0 (fun k_ hk_ => trivial)) (below_size (by repeat (first | (with_reducible first | exact HB.out | apply below_alloc | apply pw_below_drewN | apply below_drew1) | exact HB.out)))); replace HB := mk0 (below_step (by repeat (first | (with_reducible first | exact HB.out | apply below_alloc | apply pw_below_drewN | apply below_drew1) | exact HB.out)) hb); obtain ⟨Ao23, co23, eo23⟩ := Kd.V_slice HO143.out; subst eo23; obtain ⟨Ao24, co24, eo24⟩ := Kd.V_slice HO146.out; subst eo24)); try go_wp2_with (first | (go_at_call 81; (with_reducible refine (nat_trim.calls k (fun k_ => k_ < w.heap.size) _ _ l0 t141 _ (by exact Kd.V_mk HC0.out (Kd.F_below (Kd.C_F (Kd.heap_int .u32) HR0.out) (by repeat (first | (with_reducible first | exact HB.out | apply below_alloc | apply pw_below_drewN | apply below_drew1) | exact HB.out)))) A3.out).mono ?_); rintro e w21 ⟨v142, rfl, ho0, hb⟩; have HO143 := mk0 (Kd.V_lower (Kd.V_mono (ok' := fun k_ => True) ho0 (fun k_ hk_ => trivial)) (below_size (by repeat (first | (with_reducible first | exact HB.out | apply below_alloc | apply pw_below_drewN | apply below_drew1) | exact HB.out)))); replace HB := mk0 (below_step (by repeat (first | (with_reducible first | exact HB.out | apply below_alloc | apply pw_below_drewN | apply below_drew1) | exact HB.out)) hb)) | (go_at_call 81; (with_reducible refine (nat_trim.calls k (fun k_ => k_ < w.heap.size) _ _ l1 t144 _ (by exact Kd.V_mk HC1.out (Kd.F_below (Kd.C_F (Kd.heap_int .u32) HR1.out) (by repeat (first | (with_reducible first | exact HB.out | apply below_alloc | apply pw_below_drewN | apply below_drew1) | exact HB.out)))) A4.out).mono ?_); rintro e w22 ⟨v145, rfl, ho0, hb⟩; replace HO143 := mk0 (Kd.V_below (by (with_reducible repeat (first | apply Kd.V_alloc | apply Kd.V_drewN | apply Kd.V_drew)); exact HO143.out) hb); have HO146 := mk0 (Kd.V_lower (Kd.V_mono (ok' := fun k_ => True) ho0 (fun k_ hk_ => trivial)) (below_size (by repeat (first | (with_reducible first | exact HB.out | apply below_alloc | apply pw_below_drewN | apply below_drew1) | exact HB.out)))); replace HB := mk0 (below_step (by repeat (first | (with_reducible first | exact HB.out | apply below_alloc | apply pw_below_drewN | apply below_drew1) | exact HB.out)) hb); obtain ⟨Ao23, co23, eo23⟩ := Kd.V_slice HO143.out; subst eo23; obtain ⟨Ao24, co24, eo24⟩ := Kd.V_slice HO146.out; subst eo24)))
   go_ret
   exact ⟨by first | rfl | (simp [errW_none, errW_some] <;> rfl) | (simp [*, errW_none, errW_some] <;> rfl), by repeat (first | (with_reducible first | exact HB.out | apply below_alloc | apply pw_below_drewN | apply below_drew1) | exact HB.out)⟩
def nat_DivMod.T17 : Bool × List (List Nat × List Nat) := (true, [([], []), ([], []), ([], []), ([1, 2], [1, 2]), ([0, 3], [0, 3]), ([4], [4]), ([], []), ([], []), ([], []), ([7, 8], [7, 8]), ([9], [9]), ([6, 10], [6, 10]), ([11], [11]), ([], []), ([], []), ([], []), ([14, 15], [14, 15]), ([16], [16]), ([13, 17], [13, 17]), ([18], [18]), ([], []), ([], []), ([21], [21]), ([20, 22], [20, 22]), ([23], [23]), ([], []), ([], []), ([26], [26]), ([25, 27], [25, 27]), ([28], [28]), ([5, 12, 19, 24, 29], [5, 12, 19, 24, 29]), ([30, 30, 0, 1, 2, 3, 4, 5, 6, 7, 8, 9, 10, 11, 12, 13, 14, 15, 16, 17, 18, 19, 20, 21, 22, 23, 24, 25, 26, 27, 28, 29, 30], [30])])
def nat_DivMod.B17 : List Nat := [0, 0, 0, 6, 15, 31, 0, 0, 0, 384, 896, 1984, 4032, 0, 0, 0, 49152, 114688, 253952, 516096, 0, 0, 2097152, 7340032, 15728640, 0, 0, 67108864, 234881024, 503316480, 1073741823, 2147483647]
theorem nat_DivMod.tab17 : rtab .any (opsOf Try.f80 17) = nat_DivMod.T17 := by kernel_rfl
theorem nat_DivMod.bits17 : waitsOk nat_DivMod.T17.2 nat_DivMod.B17 = true := by kernel_rfl
def nat_DivMod.T22 : Bool × List (List Nat × List Nat) := (true, [([], []), ([0], [0]), ([], []), ([], []), ([2, 3], [2, 3]), ([], []), ([4, 5, 1], [4, 5]), ([1, 6, 0, 1], [1]), ([6, 7, 0, 1, 2, 3, 4, 5, 6, 7], [6]), ([8, 0, 1, 2, 3, 4, 5, 6, 7, 8], [])])
def nat_DivMod.B22 : List Nat := [0, 1, 0, 0, 12, 0, 63, 127, 255, 511]
theorem nat_DivMod.tab22 : rtab .any (opsOf Try.f80 22) = nat_DivMod.T22 := by kernel_rfl
theorem nat_DivMod.bits22 : waitsOk nat_DivMod.T22.2 nat_DivMod.B22 = true := by kernel_rfl
set_option maxHeartbeats 8000000 in
set_option maxRecDepth 100000 in
theorem nat_DivMod.calls (k : Nat) (P0_ : Nat → Prop) (A0 : Option Addr) (c0 : Nat) (l0 : List Int) (P1_ : Nat → Prop) (A1 : Option Addr) (c1 : Nat) (l1 : List Int) (r1 : List Int) (r2 : List Int) (r3 : Bool) (w : World) (hs0 : Kd.V (Kd.int .u32) 87 w w.heap.size (fun k_ => P0_ k_) (.slice A0 l0.length c0) l0) (hs1 : Kd.V (Kd.int .u32) 87 w w.heap.size (fun k_ => P1_ k_) (.slice A1 l1.length c1) l1) (h : nat_DivMod.f k l0 l1 = some (r1, r2, r3)) :
  Calls Try.prog 80 #[.slice A0 l0.length c0, .slice A1 l1.length c1] w fun e w' => ∃ v0_ v1_ : Value, e = .returned (.tuple #[v0_, v1_, .bool r3]) ∧ Kd.V (Kd.int .u32) 87 w' w.heap.size (fun k_ => ((P0_ k_ ∨ P1_ k_) ∨ w.heap.size ≤ k_)) v0_ r1 ∧ Kd.V (Kd.int .u32) 87 w' w.heap.size (fun k_ => ((P0_ k_ ∨ P1_ k_) ∨ w.heap.size ≤ k_)) v1_ r2 ∧ Below w.heap.size w w' := by
 have HO0 := mk0 (show Kd.V (Kd.int .u32) 87 w w.heap.size (fun k_ => ((P0_ k_ ∨ P1_ k_) ∨ w.heap.size ≤ k_)) (.slice A0 l0.length c0) l0 from Kd.V_mono hs0 (fun k_ hk => .inl (.inl hk)))
 have HO1 := mk0 (show Kd.V (Kd.int .u32) 87 w w.heap.size (fun k_ => ((P0_ k_ ∨ P1_ k_) ∨ w.heap.size ≤ k_)) (.slice A1 l1.length c1) l1 from Kd.V_mono hs1 (fun k_ hk => .inl (.inr hk)))
 have HB := mk0 (Below.refl w.heap.size w)
 have H : ((nat_trim.f k l0).bind fun t176 => ((nat_trim.f k l1).bind fun t179 => (if (t179.length : Int) = 0 then (some (([] : List Int), ([] : List Int), false)) else ((nat_Cmp.f k t176 t179).bind fun t182 => (if t182 < 0 then ((nat_Norm.f k t176).bind fun t183 => (some (([] : List Int), t183, true))) else (if (t179.length : Int) = 1 then (if 0 < (t179.length : Int) then ((nat_divSmall.f k t176 (rd t179 0)).bind fun bt187 => ((nat_Of.f k (IntKind.u64.wrap (bt187.2))).bind fun t191 => (some (bt187.1, t191, true)))) else (none)) else (if 0 ≤ (wrap64 ((t179.length : Int) - 1)) then (if (wrap64 ((t179.length : Int) - 1)) < (t179.length : Int) then ((bits_LeadingZeros32.f (rd t179 (wrap64 ((t179.length : Int) - 1)))).bind fun t195 => ((nat_shiftUp.f k t176 (IntKind.u64.wrap (t195))).bind fun t196 => ((nat_shiftUp.f k t179 (IntKind.u64.wrap (t195))).bind fun t199 => (if 0 ≤ (t179.length : Int) then (if (t179.length : Int) ≤ (t199.length : Int) then (if 0 ≤ (wrap64 ((wrap64 ((t176.length : Int) - (t179.length : Int))) + 1)) then (if (wrap64 ((wrap64 ((t176.length : Int) - (t179.length : Int))) + 1) : Int).toNat ≤ 70368744177664 then (nat_DivMod.l0 k (t179.length : Int) (IntKind.u64.wrap (t195)) t196 (t199.take ((t179.length : Int) : Int).toNat) (List.replicate (wrap64 ((wrap64 ((t176.length : Int) - (t179.length : Int))) + 1) : Int).toNat 0) (wrap64 ((t176.length : Int) - (t179.length : Int)))) else (none)) else (none)) else (none)) else (none))))) else (none)) else (none)))))))) = some (r1, r2, r3) := h
 clear h
 obtain ⟨t176, A3, H⟩ := bindA H
 obtain ⟨t179, A4, H⟩ := bindA H
 by_cases c5 : (t179.length : Int) = 0
 ·rw [if_pos c5] at H
  have c5b0 : ((t179.length : Int) == 0) = true := beq_iff_eq.mpr c5
  have c5b1 : ((t179.length : Int) != 0) = false := bne_eq_false_iff_eq.mpr c5
  clear c5
  simp only [Option.some.injEq, Prod.mk.injEq] at H
  obtain ⟨rfl, rfl, rfl⟩ := H
  go_enter Try.func80, Try.ntmps80
  go_wp2_with (first | ((with_reducible refine gate_callee (f := 81) rfl ?_); refine goesL_ (some 19) rfl rfl Try.func81 (by kernel_rfl) rfl #[.slice A0 l0.length c0] rfl (by (try simp only [List.map_toArray, List.map_cons, List.map_nil]); first | done | rfl | (simp only [List.length_drop, List.length_take]; rfl)) ?_; (with_reducible refine (nat_trim.calls k (fun k_ => ((P0_ k_ ∨ P1_ k_) ∨ w.heap.size ≤ k_)) _ _ l0 t176 _ ?side1 A3.out).mono ?_); (case side1 => exact HO0.out); rintro e w6 ⟨v177, rfl, ho0, hb⟩; refine ⟨_, rfl, ?_⟩; replace HO0 := mk0 (Kd.V_below (by (with_reducible repeat (first | apply Kd.V_alloc | apply Kd.V_drewN | apply Kd.V_drew)); exact HO0.out) hb); replace HO1 := mk0 (Kd.V_below (by (with_reducible repeat (first | apply Kd.V_alloc | apply Kd.V_drewN | apply Kd.V_drew)); exact HO1.out) hb); have HO178 := mk0 (Kd.V_lower (Kd.V_mono (ok' := fun k_ => ((P0_ k_ ∨ P1_ k_) ∨ w.heap.size ≤ k_)) ho0 (fun k_ hk_ => Or.elim hk_ (fun hs_ => hs_) (fun hn_ => (.inr (Nat.le_trans (below_size (by repeat (first | (with_reducible first | exact HB.out | apply below_alloc | apply pw_below_drewN | apply below_drew1) | exact HB.out))) hn_))))) (below_size (by repeat (first | (with_reducible first | exact HB.out | apply below_alloc | apply pw_below_drewN | apply below_drew1) | exact HB.out)))); replace HB := mk0 (below_step (by repeat (first | (with_reducible first | exact HB.out | apply below_alloc | apply pw_below_drewN | apply below_drew1) | exact HB.out)) hb); (try clear hb); (try clear hb2); (try clear hk); (try clear hi); (try clear ho0)) | ((with_reducible refine gate_callee (f := 81) rfl ?_); refine goesL_ (some 21) rfl rfl Try.func81 (by kernel_rfl) rfl #[.slice A1 l1.length c1] rfl (by (try simp only [List.map_toArray, List.map_cons, List.map_nil]); first | done | rfl | (simp only [List.length_drop, List.length_take]; rfl)) ?_; (with_reducible refine (nat_trim.calls k (fun k_ => ((P0_ k_ ∨ P1_ k_) ∨ w.heap.size ≤ k_)) _ _ l1 t179 _ ?side1 A4.out).mono ?_); (case side1 => exact HO1.out); rintro e w7 ⟨v180, rfl, ho0, hb⟩; refine ⟨_, rfl, ?_⟩; replace HO0 := mk0 (Kd.V_below (by (with_reducible repeat (first | apply Kd.V_alloc | apply Kd.V_drewN | apply Kd.V_drew)); exact HO0.out) hb); replace HO1 := mk0 (Kd.V_below (by (with_reducible repeat (first | apply Kd.V_alloc | apply Kd.V_drewN | apply Kd.V_drew)); exact HO1.out) hb); replace HO178 := mk0 (Kd.V_below (by (with_reducible repeat (first | apply Kd.V_alloc | apply Kd.V_drewN | apply Kd.V_drew)); exact HO178.out) hb); have HO181 := mk0 (Kd.V_lower (Kd.V_mono (ok' := fun k_ => ((P0_ k_ ∨ P1_ k_) ∨ w.heap.size ≤ k_)) ho0 (fun k_ hk_ => Or.elim hk_ (fun hs_ => hs_) (fun hn_ => (.inr (Nat.le_trans (below_size (by repeat (first | (with_reducible first | exact HB.out | apply below_alloc | apply pw_below_drewN | apply below_drew1) | exact HB.out))) hn_))))) (below_size (by repeat (first | (with_reducible first | exact HB.out | apply below_alloc | apply pw_below_drewN | apply below_drew1) | exact HB.out)))); replace HB := mk0 (below_step (by repeat (first | (with_reducible first | exact HB.out | apply below_alloc | apply pw_below_drewN | apply below_drew1) | exact HB.out)) hb); (try clear hb); (try clear hb2); (try clear hk); (try clear hi); (try clear ho0); obtain ⟨Ao8, co8, eo8⟩ := Kd.V_slice HO181.out; subst eo8))
  go_ret3
  exact ⟨_, _, by first | rfl | (simp [errW_none, errW_some] <;> rfl) | (simp [*, errW_none, errW_some] <;> rfl), (Kd.V_nil _ _ _ _ _), (Kd.V_nil _ _ _ _ _), by repeat (first | (with_reducible first | exact HB.out | apply below_alloc | apply pw_below_drewN | apply below_drew1) | exact HB.out)⟩
 ·rw [if_neg c5] at H
  have c5b0 : ((t179.length : Int) == 0) = false := beq_eq_false_iff_ne.mpr c5
  have c5b1 : ((t179.length : Int) != 0) = true := bne_iff_ne.mpr c5
  have c5b2 : ¬ (t179 = []) := fun h_ => c5 (by rw [h_]; rfl)
  obtain ⟨t182, A9, H⟩ := bindA H
  by_cases c10 : t182 < 0
  ·rw [if_pos c10] at H
   have c10b0 : decide (t182 < 0) = true := decide_eq_true c10
   clear c10
   obtain ⟨t183, A11, H⟩ := bindA H
   simp only [Option.some.injEq, Prod.mk.injEq] at H
   obtain ⟨rfl, rfl, rfl⟩ := H
   go_enter Try.func80, Try.ntmps80
   go_wp2_with (first | ((with_reducible refine gate_callee (f := 81) rfl ?_); refine goesL_ (some 19) rfl rfl Try.func81 (by kernel_rfl) rfl #[.slice A0 l0.length c0] rfl (by (try simp only [List.map_toArray, List.map_cons, List.map_nil]); first | done | rfl | (simp only [List.length_drop, List.length_take]; rfl)) ?_; (with_reducible refine (nat_trim.calls k (fun k_ => ((P0_ k_ ∨ P1_ k_) ∨ w.heap.size ≤ k_)) _ _ l0 t176 _ ?side1 A3.out).mono ?_); (case side1 => exact HO0.out); rintro e w12 ⟨v177, rfl, ho0, hb⟩; refine ⟨_, rfl, ?_⟩; replace HO0 := mk0 (Kd.V_below (by (with_reducible repeat (first | apply Kd.V_alloc | apply Kd.V_drewN | apply Kd.V_drew)); exact HO0.out) hb); replace HO1 := mk0 (Kd.V_below (by (with_reducible repeat (first | apply Kd.V_alloc | apply Kd.V_drewN | apply Kd.V_drew)); exact HO1.out) hb); have HO178 := mk0 (Kd.V_lower (Kd.V_mono (ok' := fun k_ => ((P0_ k_ ∨ P1_ k_) ∨ w.heap.size ≤ k_)) ho0 (fun k_ hk_ => Or.elim hk_ (fun hs_ => hs_) (fun hn_ => (.inr (Nat.le_trans (below_size (by repeat (first | (with_reducible first | exact HB.out | apply below_alloc | apply pw_below_drewN | apply below_drew1) | exact HB.out))) hn_))))) (below_size (by repeat (first | (with_reducible first | exact HB.out | apply below_alloc | apply pw_below_drewN | apply below_drew1) | exact HB.out)))); replace HB := mk0 (below_step (by repeat (first | (with_reducible first | exact HB.out | apply below_alloc | apply pw_below_drewN | apply below_drew1) | exact HB.out)) hb); (try clear hb); (try clear hb2); (try clear hk); (try clear hi); (try clear ho0)) | ((with_reducible refine gate_callee (f := 81) rfl ?_); refine goesL_ (some 21) rfl rfl Try.func81 (by kernel_rfl) rfl #[.slice A1 l1.length c1] rfl (by (try simp only [List.map_toArray, List.map_cons, List.map_nil]); first | done | rfl | (simp only [List.length_drop, List.length_take]; rfl)) ?_; (with_reducible refine (nat_trim.calls k (fun k_ => ((P0_ k_ ∨ P1_ k_) ∨ w.heap.size ≤ k_)) _ _ l1 t179 _ ?side1 A4.out).mono ?_); (case side1 => exact HO1.out); rintro e w13 ⟨v180, rfl, ho0, hb⟩; refine ⟨_, rfl, ?_⟩; replace HO0 := mk0 (Kd.V_below (by (with_reducible repeat (first | apply Kd.V_alloc | apply Kd.V_drewN | apply Kd.V_drew)); exact HO0.out) hb); replace HO1 := mk0 (Kd.V_below (by (with_reducible repeat (first | apply Kd.V_alloc | apply Kd.V_drewN | apply Kd.V_drew)); exact HO1.out) hb); replace HO178 := mk0 (Kd.V_below (by (with_reducible repeat (first | apply Kd.V_alloc | apply Kd.V_drewN | apply Kd.V_drew)); exact HO178.out) hb); have HO181 := mk0 (Kd.V_lower (Kd.V_mono (ok' := fun k_ => ((P0_ k_ ∨ P1_ k_) ∨ w.heap.size ≤ k_)) ho0 (fun k_ hk_ => Or.elim hk_ (fun hs_ => hs_) (fun hn_ => (.inr (Nat.le_trans (below_size (by repeat (first | (with_reducible first | exact HB.out | apply below_alloc | apply pw_below_drewN | apply below_drew1) | exact HB.out))) hn_))))) (below_size (by repeat (first | (with_reducible first | exact HB.out | apply below_alloc | apply pw_below_drewN | apply below_drew1) | exact HB.out)))); replace HB := mk0 (below_step (by repeat (first | (with_reducible first | exact HB.out | apply below_alloc | apply pw_below_drewN | apply below_drew1) | exact HB.out)) hb); (try clear hb); (try clear hb2); (try clear hk); (try clear hi); (try clear ho0); obtain ⟨Ao14, co14, eo14⟩ := Kd.V_slice HO181.out; subst eo14; obtain ⟨Ao15, co15, eo15⟩ := Kd.V_slice HO178.out; subst eo15) | ((with_reducible refine gate_callee (f := 77) rfl ?_); refine goesL_ (some 29) rfl rfl Try.func77 (by kernel_rfl) rfl #[.slice Ao15 t176.length co15, .slice Ao14 t179.length co14] rfl (by (try simp only [List.map_toArray, List.map_cons, List.map_nil]); first | done | rfl | (simp only [List.length_drop, List.length_take]; rfl)) ?_; (with_reducible refine (nat_Cmp.calls k _ _ t176 _ _ t179 t182 _ ?side1 ?side2 ?side3 ?side4 A9.out).mono ?_); (case side1 => repeat (first | exact (Kd.V_reads' HO178.out).2.2 | (with_reducible refine Kd.C_alloc ?_ _) | (with_reducible refine Kd.C_drewN ?_ _) | (with_reducible refine Kd.C_drew ?_))); (case side2 => exact (Kd.V_reads' HO178.out).2.1); (case side3 => repeat (first | exact (Kd.V_reads' HO181.out).2.2 | (with_reducible refine Kd.C_alloc ?_ _) | (with_reducible refine Kd.C_drewN ?_ _) | (with_reducible refine Kd.C_drew ?_))); (case side4 => exact (Kd.V_reads' HO181.out).2.1); rintro e w16 ⟨rfl, hb⟩; refine ⟨_, rfl, ?_⟩; replace HO0 := mk0 (Kd.V_below (by (with_reducible repeat (first | apply Kd.V_alloc | apply Kd.V_drewN | apply Kd.V_drew)); exact HO0.out) hb); replace HO1 := mk0 (Kd.V_below (by (with_reducible repeat (first | apply Kd.V_alloc | apply Kd.V_drewN | apply Kd.V_drew)); exact HO1.out) hb); replace HO178 := mk0 (Kd.V_below (by (with_reducible repeat (first | apply Kd.V_alloc | apply Kd.V_drewN | apply Kd.V_drew)); exact HO178.out) hb); replace HO181 := mk0 (Kd.V_below (by (with_reducible repeat (first | apply Kd.V_alloc | apply Kd.V_drewN | apply Kd.V_drew)); exact HO181.out) hb); replace HB := mk0 (below_step (by repeat (first | (with_reducible first | exact HB.out | apply below_alloc | apply pw_below_drewN | apply below_drew1) | exact HB.out)) hb); (try clear hb); (try clear hb2); (try clear hk); (try clear hi)) | ((with_reducible refine gate_callee (f := 106) rfl ?_); refine goesL_ (some 32) rfl rfl Try.func106 (by kernel_rfl) rfl #[.slice Ao15 t176.length co15] rfl (by (try simp only [List.map_toArray, List.map_cons, List.map_nil]); first | done | rfl | (simp only [List.length_drop, List.length_take]; rfl)) ?_; (with_reducible refine (nat_Norm.calls k _ _ t176 t183 _ ?side1 ?side2 A11.out).mono ?_); (case side1 => repeat (first | exact (Kd.V_reads' HO178.out).2.2 | (with_reducible refine Kd.C_alloc ?_ _) | (with_reducible refine Kd.C_drewN ?_ _) | (with_reducible refine Kd.C_drew ?_))); (case side2 => exact (Kd.V_reads' HO178.out).2.1); rintro e w17 ⟨v184, rfl, ho0, hb⟩; refine ⟨_, rfl, ?_⟩; replace HO0 := mk0 (Kd.V_elder' (by (with_reducible repeat (first | apply Kd.V_alloc | apply Kd.V_drewN | apply Kd.V_drew)); exact HO0.out) (Kd.R_base ho0) hb); replace HO1 := mk0 (Kd.V_elder' (by (with_reducible repeat (first | apply Kd.V_alloc | apply Kd.V_drewN | apply Kd.V_drew)); exact HO1.out) (Kd.R_base ho0) hb); replace HO178 := mk0 (Kd.V_elder' (by (with_reducible repeat (first | apply Kd.V_alloc | apply Kd.V_drewN | apply Kd.V_drew)); exact HO178.out) (Kd.R_base ho0) hb); replace HO181 := mk0 (Kd.V_elder' (by (with_reducible repeat (first | apply Kd.V_alloc | apply Kd.V_drewN | apply Kd.V_drew)); exact HO181.out) (Kd.R_base ho0) hb); have HO185 := mk0 (Kd.R_lower (Kd.R_newM (M := fun k_ => (w.heap.size ≤ k_)) ho0 (below_size (by repeat (first | (with_reducible first | exact HB.out | apply below_alloc | apply pw_below_drewN | apply below_drew1) | exact HB.out))) (fun k_ h_ => h_)) (below_size (by repeat (first | (with_reducible first | exact HB.out | apply below_alloc | apply pw_below_drewN | apply below_drew1) | exact HB.out)))); replace HB := mk0 (below_step (by repeat (first | (with_reducible first | exact HB.out | apply below_alloc | apply pw_below_drewN | apply below_drew1) | exact HB.out)) hb); (try clear hb); (try clear hb2); (try clear hk); (try clear hi); (try clear ho0)))
   go_ret3
   exact ⟨_, _, by first | rfl | (simp [errW_none, errW_some] <;> rfl) | (simp [*, errW_none, errW_some] <;> rfl), (Kd.V_nil _ _ _ _ _), Kd.V_mono (Kd.R_V (by (with_reducible repeat (first | apply Kd.R_alloc | apply Kd.R_drewN | apply Kd.R_drew)); exact Kd.R_mono HO185.out (fun _ hk => hk.1))) (fun k_ hk => by first | exact ⟨(.inr (hk.1)), hk.2⟩ | exact (.inr (hk))), by repeat (first | (with_reducible first | exact HB.out | apply below_alloc | apply pw_below_drewN | apply below_drew1) | exact HB.out)⟩
  ·rw [if_neg c10] at H
   have c10b0 : decide (t182 < 0) = false := decide_eq_false c10
   clear c10
   by_cases c18 : (t179.length : Int) = 1
   ·rw [if_pos c18] at H
    have c18b0 : ((t179.length : Int) == 1) = true := beq_iff_eq.mpr c18
    have c18b1 : ((t179.length : Int) != 1) = false := bne_eq_false_iff_eq.mpr c18
    clear c18
    by_cases c19 : 0 < (t179.length : Int)
    ·rw [if_pos c19] at H
     have c19b0 : decide (0 < (t179.length : Int)) = true := decide_eq_true c19
     have c19b1 : decide (0 < t179.length) = true := decide_eq_true (by omega)
     clear c19
     obtain ⟨⟨t187, t190⟩, A20, H⟩ := bindA H
     obtain ⟨t191, A21, H⟩ := bindA H
     simp only [Option.some.injEq, Prod.mk.injEq] at H
     obtain ⟨rfl, rfl, rfl⟩ := H
     go_enter Try.func80, Try.ntmps80
     go_wp2_with (first | ((with_reducible refine gate_callee (f := 81) rfl ?_); refine goesL_ (some 19) rfl rfl Try.func81 (by kernel_rfl) rfl #[.slice A0 l0.length c0] rfl (by (try simp only [List.map_toArray, List.map_cons, List.map_nil]); first | done | rfl | (simp only [List.length_drop, List.length_take]; rfl)) ?_; (with_reducible refine (nat_trim.calls k (fun k_ => ((P0_ k_ ∨ P1_ k_) ∨ w.heap.size ≤ k_)) _ _ l0 t176 _ ?side1 A3.out).mono ?_); (case side1 => exact HO0.out); rintro e w22 ⟨v177, rfl, ho0, hb⟩; refine ⟨_, rfl, ?_⟩; replace HO0 := mk0 (Kd.V_below (by (with_reducible repeat (first | apply Kd.V_alloc | apply Kd.V_drewN | apply Kd.V_drew)); exact HO0.out) hb); replace HO1 := mk0 (Kd.V_below (by (with_reducible repeat (first | apply Kd.V_alloc | apply Kd.V_drewN | apply Kd.V_drew)); exact HO1.out) hb); have HO178 := mk0 (Kd.V_lower (Kd.V_mono (ok' := fun k_ => ((P0_ k_ ∨ P1_ k_) ∨ w.heap.size ≤ k_)) ho0 (fun k_ hk_ => Or.elim hk_ (fun hs_ => hs_) (fun hn_ => (.inr (Nat.le_trans (below_size (by repeat (first | (with_reducible first | exact HB.out | apply below_alloc | apply pw_below_drewN | apply below_drew1) | exact HB.out))) hn_))))) (below_size (by repeat (first | (with_reducible first | exact HB.out | apply below_alloc | apply pw_below_drewN | apply below_drew1) | exact HB.out)))); replace HB := mk0 (below_step (by repeat (first | (with_reducible first | exact HB.out | apply below_alloc | apply pw_below_drewN | apply below_drew1) | exact HB.out)) hb); (try clear hb); (try clear hb2); (try clear hk); (try clear hi); (try clear ho0)) | ((with_reducible refine gate_callee (f := 81) rfl ?_); refine goesL_ (some 21) rfl rfl Try.func81 (by kernel_rfl) rfl #[.slice A1 l1.length c1] rfl (by (try simp only [List.map_toArray, List.map_cons, List.map_nil]); first | done | rfl | (simp only [List.length_drop, List.length_take]; rfl)) ?_; (with_reducible refine (nat_trim.calls k (fun k_ => ((P0_ k_ ∨ P1_ k_) ∨ w.heap.size ≤ k_)) _ _ l1 t179 _ ?side1 A4.out).mono ?_); (case side1 => exact HO1.out); rintro e w23 ⟨v180, rfl, ho0, hb⟩; refine ⟨_, rfl, ?_⟩; replace HO0 := mk0 (Kd.V_below (by (with_reducible repeat (first | apply Kd.V_alloc | apply Kd.V_drewN | apply Kd.V_drew)); exact HO0.out) hb); replace HO1 := mk0 (Kd.V_below (by (with_reducible repeat (first | apply Kd.V_alloc | apply Kd.V_drewN | apply Kd.V_drew)); exact HO1.out) hb); replace HO178 := mk0 (Kd.V_below (by (with_reducible repeat (first | apply Kd.V_alloc | apply Kd.V_drewN | apply Kd.V_drew)); exact HO178.out) hb); have HO181 := mk0 (Kd.V_lower (Kd.V_mono (ok' := fun k_ => ((P0_ k_ ∨ P1_ k_) ∨ w.heap.size ≤ k_)) ho0 (fun k_ hk_ => Or.elim hk_ (fun hs_ => hs_) (fun hn_ => (.inr (Nat.le_trans (below_size (by repeat (first | (with_reducible first | exact HB.out | apply below_alloc | apply pw_below_drewN | apply below_drew1) | exact HB.out))) hn_))))) (below_size (by repeat (first | (with_reducible first | exact HB.out | apply below_alloc | apply pw_below_drewN | apply below_drew1) | exact HB.out)))); replace HB := mk0 (below_step (by repeat (first | (with_reducible first | exact HB.out | apply below_alloc | apply pw_below_drewN | apply below_drew1) | exact HB.out)) hb); (try clear hb); (try clear hb2); (try clear hk); (try clear hi); (try clear ho0); obtain ⟨Ao24, co24, eo24⟩ := Kd.V_slice HO181.out; subst eo24; obtain ⟨Ao25, co25, eo25⟩ := Kd.V_slice HO178.out; subst eo25) | ((with_reducible refine gate_callee (f := 77) rfl ?_); refine goesL_ (some 29) rfl rfl Try.func77 (by kernel_rfl) rfl #[.slice Ao25 t176.length co25, .slice Ao24 t179.length co24] rfl (by (try simp only [List.map_toArray, List.map_cons, List.map_nil]); first | done | rfl | (simp only [List.length_drop, List.length_take]; rfl)) ?_; (with_reducible refine (nat_Cmp.calls k _ _ t176 _ _ t179 t182 _ ?side1 ?side2 ?side3 ?side4 A9.out).mono ?_); (case side1 => repeat (first | exact (Kd.V_reads' HO178.out).2.2 | (with_reducible refine Kd.C_alloc ?_ _) | (with_reducible refine Kd.C_drewN ?_ _) | (with_reducible refine Kd.C_drew ?_))); (case side2 => exact (Kd.V_reads' HO178.out).2.1); (case side3 => repeat (first | exact (Kd.V_reads' HO181.out).2.2 | (with_reducible refine Kd.C_alloc ?_ _) | (with_reducible refine Kd.C_drewN ?_ _) | (with_reducible refine Kd.C_drew ?_))); (case side4 => exact (Kd.V_reads' HO181.out).2.1); rintro e w26 ⟨rfl, hb⟩; refine ⟨_, rfl, ?_⟩; replace HO0 := mk0 (Kd.V_below (by (with_reducible repeat (first | apply Kd.V_alloc | apply Kd.V_drewN | apply Kd.V_drew)); exact HO0.out) hb); replace HO1 := mk0 (Kd.V_below (by (with_reducible repeat (first | apply Kd.V_alloc | apply Kd.V_drewN | apply Kd.V_drew)); exact HO1.out) hb); replace HO178 := mk0 (Kd.V_below (by (with_reducible repeat (first | apply Kd.V_alloc | apply Kd.V_drewN | apply Kd.V_drew)); exact HO178.out) hb); replace HO181 := mk0 (Kd.V_below (by (with_reducible repeat (first | apply Kd.V_alloc | apply Kd.V_drewN | apply Kd.V_drew)); exact HO181.out) hb); replace HB := mk0 (below_step (by repeat (first | (with_reducible first | exact HB.out | apply below_alloc | apply pw_below_drewN | apply below_drew1) | exact HB.out)) hb); (try clear hb); (try clear hb2); (try clear hk); (try clear hi); have p186 : 0 ≤ (0 : Int) := (by omega); have q186 : 0 < (t179.length : Int) := of_decide_eq_true (by first | (with_reducible assumption) | assumption); obtain ⟨ad186, e186, hx186_0⟩ := Kd.at_int (Kd.V_reads' HO181.out).2.2 0 p186 q186; cases e186; have qi186 : (0 < t179.length) = True := eq_true (by omega); (try rw [show ((0 : Int)).toNat = 0 from rfl] at hx186_0); (try rw [Addr.add_zero'] at hx186_0); replace p186 := eq_true p186; replace q186 := eq_true q186) | ((with_reducible refine gate_callee (f := 107) rfl ?_); refine goesL_ (some 42) rfl rfl Try.func107 (by kernel_rfl) rfl #[.slice Ao25 t176.length co25, .int .u32 (rd t179 0)] rfl (by (try simp only [List.map_toArray, List.map_cons, List.map_nil]); first | done | rfl | (simp only [List.length_drop, List.length_take]; rfl)) ?_; (with_reducible refine (nat_divSmall.calls k _ _ t176 (rd t179 0) t187 t190 _ ?side1 ?side2 A20.out).mono ?_); (case side1 => repeat (first | exact (Kd.V_reads' HO178.out).2.2 | (with_reducible refine Kd.C_alloc ?_ _) | (with_reducible refine Kd.C_drewN ?_ _) | (with_reducible refine Kd.C_drew ?_))); (case side2 => exact (Kd.V_reads' HO178.out).2.1); rintro e w27 ⟨v188, rfl, ho0, hb⟩; refine ⟨_, rfl, ?_⟩; replace HO0 := mk0 (Kd.V_below (by (with_reducible repeat (first | apply Kd.V_alloc | apply Kd.V_drewN | apply Kd.V_drew)); exact HO0.out) hb); replace HO1 := mk0 (Kd.V_below (by (with_reducible repeat (first | apply Kd.V_alloc | apply Kd.V_drewN | apply Kd.V_drew)); exact HO1.out) hb); replace HO178 := mk0 (Kd.V_below (by (with_reducible repeat (first | apply Kd.V_alloc | apply Kd.V_drewN | apply Kd.V_drew)); exact HO178.out) hb); replace HO181 := mk0 (Kd.V_below (by (with_reducible repeat (first | apply Kd.V_alloc | apply Kd.V_drewN | apply Kd.V_drew)); exact HO181.out) hb); have HO189 := mk0 (Kd.V_lower (Kd.V_mono (ok' := fun k_ => ((P0_ k_ ∨ P1_ k_) ∨ w.heap.size ≤ k_)) ho0 (fun k_ hk_ => (.inr (Nat.le_trans (below_size (by repeat (first | (with_reducible first | exact HB.out | apply below_alloc | apply pw_below_drewN | apply below_drew1) | exact HB.out))) hk_)))) (below_size (by repeat (first | (with_reducible first | exact HB.out | apply below_alloc | apply pw_below_drewN | apply below_drew1) | exact HB.out)))); replace HB := mk0 (below_step (by repeat (first | (with_reducible first | exact HB.out | apply below_alloc | apply pw_below_drewN | apply below_drew1) | exact HB.out)) hb); (try clear hb); (try clear hb2); (try clear hk); (try clear hi); (try clear ho0)) | ((with_reducible refine gate_callee (f := 66) rfl ?_); refine goesL_ (some 48) rfl rfl Try.func66 (by kernel_rfl) rfl #[.int .u64 (IntKind.u64.wrap (t190))] rfl (by (try simp only [List.map_toArray, List.map_cons, List.map_nil]); first | done | rfl | (simp only [List.length_drop, List.length_take]; rfl)) ?_; (with_reducible refine (nat_Of.calls k (IntKind.u64.wrap (t190)) t191 _ A21.out).mono ?_); rintro e w28 ⟨v192, rfl, ho0, hb⟩; refine ⟨_, rfl, ?_⟩; replace HO0 := mk0 (Kd.V_below (by (with_reducible repeat (first | apply Kd.V_alloc | apply Kd.V_drewN | apply Kd.V_drew)); exact HO0.out) hb); replace HO1 := mk0 (Kd.V_below (by (with_reducible repeat (first | apply Kd.V_alloc | apply Kd.V_drewN | apply Kd.V_drew)); exact HO1.out) hb); replace HO178 := mk0 (Kd.V_below (by (with_reducible repeat (first | apply Kd.V_alloc | apply Kd.V_drewN | apply Kd.V_drew)); exact HO178.out) hb); replace HO181 := mk0 (Kd.V_below (by (with_reducible repeat (first | apply Kd.V_alloc | apply Kd.V_drewN | apply Kd.V_drew)); exact HO181.out) hb); replace HO189 := mk0 (Kd.V_below (by (with_reducible repeat (first | apply Kd.V_alloc | apply Kd.V_drewN | apply Kd.V_drew)); exact HO189.out) hb); have HO193 := mk0 (Kd.V_lower (Kd.V_mono (ok' := fun k_ => ((P0_ k_ ∨ P1_ k_) ∨ w.heap.size ≤ k_)) ho0 (fun k_ hk_ => (.inr (Nat.le_trans (below_size (by repeat (first | (with_reducible first | exact HB.out | apply below_alloc | apply pw_below_drewN | apply below_drew1) | exact HB.out))) hk_)))) (below_size (by repeat (first | (with_reducible first | exact HB.out | apply below_alloc | apply pw_below_drewN | apply below_drew1) | exact HB.out)))); replace HB := mk0 (below_step (by repeat (first | (with_reducible first | exact HB.out | apply below_alloc | apply pw_below_drewN | apply below_drew1) | exact HB.out)) hb); (try clear hb); (try clear hb2); (try clear hk); (try clear hi); (try clear ho0)))
     go_ret3
     exact ⟨_, _, by first | rfl | (simp [errW_none, errW_some] <;> rfl) | (simp [*, errW_none, errW_some] <;> rfl), by (with_reducible repeat (first | apply Kd.V_alloc | apply Kd.V_drewN | apply Kd.V_drew)); exact HO189.out, by (with_reducible repeat (first | apply Kd.V_alloc | apply Kd.V_drewN | apply Kd.V_drew)); exact HO193.out, by repeat (first | (with_reducible first | exact HB.out | apply below_alloc | apply pw_below_drewN | apply below_drew1) | exact HB.out)⟩
    ·rw [if_neg c19] at H
     exact absurd H (by simp)
   ·rw [if_neg c18] at H
    have c18b0 : ((t179.length : Int) == 1) = false := beq_eq_false_iff_ne.mpr c18
    have c18b1 : ((t179.length : Int) != 1) = true := bne_iff_ne.mpr c18
    obtain ⟨ji29, hji29⟩ : ∃ j_ : Int, (wrap64 ((t179.length : Int) - 1)) = j_ := ⟨_, rfl⟩
    replace H : (if 0 ≤ (ji29) then (if (ji29) < (t179.length : Int) then ((bits_LeadingZeros32.f (rd t179 (ji29))).bind fun t195 => ((nat_shiftUp.f k t176 (IntKind.u64.wrap (t195))).bind fun t196 => ((nat_shiftUp.f k t179 (IntKind.u64.wrap (t195))).bind fun t199 => (if 0 ≤ (t179.length : Int) then (if (t179.length : Int) ≤ (t199.length : Int) then (if 0 ≤ (wrap64 ((wrap64 ((t176.length : Int) - (t179.length : Int))) + 1)) then (if (wrap64 ((wrap64 ((t176.length : Int) - (t179.length : Int))) + 1) : Int).toNat ≤ 70368744177664 then (nat_DivMod.l0 k (t179.length : Int) (IntKind.u64.wrap (t195)) t196 (t199.take ((t179.length : Int) : Int).toNat) (List.replicate (wrap64 ((wrap64 ((t176.length : Int) - (t179.length : Int))) + 1) : Int).toNat 0) (wrap64 ((t176.length : Int) - (t179.length : Int)))) else (none)) else (none)) else (none)) else (none))))) else (none)) else (none)) = some (r1, r2, r3) := by first | (rw [hji29] at H; exact H) | (simp only [hji29] at H ⊢; exact H)
    (try rw [hji29] at A3)
    (try rw [hji29] at A4)
    (try rw [hji29] at A9)
    have hji29w : (IntKind.i64.wrap ((t179.length : Int) - 1)) = ji29 := (i64_w _).trans hji29
    by_cases c30 : 0 ≤ (ji29)
    ·rw [if_pos c30] at H
     have c30b0 : decide (0 ≤ (ji29)) = true := decide_eq_true c30
     clear c30
     by_cases c31 : (ji29) < (t179.length : Int)
     ·rw [if_pos c31] at H
      have c31b0 : decide ((ji29) < (t179.length : Int)) = true := decide_eq_true c31
      clear c31
      obtain ⟨t195, A32, H⟩ := bindA H
      obtain ⟨t196, A33, H⟩ := bindA H
      obtain ⟨t199, A34, H⟩ := bindA H
      by_cases c35 : 0 ≤ (t179.length : Int)
      ·rw [if_pos c35] at H
       have c35b0 := eq_true c35
       have c35b1 : decide (0 ≤ (t179.length : Int)) = true := decide_eq_true c35
       clear c35
       by_cases c36 : (t179.length : Int) ≤ (t199.length : Int)
       ·rw [if_pos c36] at H
        have c36b0 := eq_true c36
        have c36b1 : decide ((t179.length : Int) ≤ (t199.length : Int)) = true := decide_eq_true c36
        clear c36
        obtain ⟨y202, hy202⟩ : ∃ y_ : List Int, y_ = (t199.take ((t179.length : Int) : Int).toNat) := ⟨_, rfl⟩
        replace H : (if 0 ≤ (wrap64 ((wrap64 ((t176.length : Int) - (t179.length : Int))) + 1)) then (if (wrap64 ((wrap64 ((t176.length : Int) - (t179.length : Int))) + 1) : Int).toNat ≤ 70368744177664 then (nat_DivMod.l0 k (t179.length : Int) (IntKind.u64.wrap (t195)) t196 y202 (List.replicate (wrap64 ((wrap64 ((t176.length : Int) - (t179.length : Int))) + 1) : Int).toNat 0) (wrap64 ((t176.length : Int) - (t179.length : Int)))) else (none)) else (none)) = some (r1, r2, r3) := by first | (rw [hy202]; with_reducible exact H) | (have H2_ := (Option.bind_some _ _).symm.trans H; rw [hy202]; with_reducible exact H2_) | (have H2_ := (Option.bind_some _ _).symm.trans H; with_reducible exact H2_) | with_reducible exact H | (rw [hy202]; exact H) | exact H
        have Ny202 := mk0 hy202
        clear hy202
        obtain ⟨ji37, hji37⟩ : ∃ j_ : Int, (wrap64 ((wrap64 ((t176.length : Int) - (t179.length : Int))) + 1)) = j_ := ⟨_, rfl⟩
        replace H : (if 0 ≤ (ji37) then (if (ji37 : Int).toNat ≤ 70368744177664 then (nat_DivMod.l0 k (t179.length : Int) (IntKind.u64.wrap (t195)) t196 y202 (List.replicate (ji37 : Int).toNat 0) (wrap64 ((t176.length : Int) - (t179.length : Int)))) else (none)) else (none)) = some (r1, r2, r3) := by first | (rw [hji37] at H; exact H) | (simp only [hji37] at H ⊢; exact H)
        (try rw [hji37] at A3)
        (try rw [hji37] at A4)
        (try rw [hji37] at A9)
        (try rw [hji37] at A32)
        (try rw [hji37] at A33)
        (try rw [hji37] at A34)
        have hji37w : (IntKind.i64.wrap ((wrap64 ((t176.length : Int) - (t179.length : Int))) + 1)) = ji37 := (i64_w _).trans hji37
        by_cases c38 : 0 ≤ (ji37)
        ·rw [if_pos c38] at H
         have c38b0 := eq_true c38
         have c38b1 : decide (0 ≤ (ji37)) = true := decide_eq_true c38
         clear c38
         by_cases c39 : (ji37 : Int).toNat ≤ 70368744177664
         ·rw [if_pos c39] at H
          have c39b0 := eq_true c39
          have c39b1 : decide ((ji37 : Int).toNat ≤ 70368744177664) = true := decide_eq_true c39
          clear c39
          obtain ⟨y205, hy205⟩ : ∃ y_ : List Int, y_ = (List.replicate (ji37 : Int).toNat 0) := ⟨_, rfl⟩
          replace H : (nat_DivMod.l0 k (t179.length : Int) (IntKind.u64.wrap (t195)) t196 y202 y205 (wrap64 ((t176.length : Int) - (t179.length : Int)))) = some (r1, r2, r3) := by first | (rw [hy205]; with_reducible exact H) | (have H2_ := (Option.bind_some _ _).symm.trans H; rw [hy205]; with_reducible exact H2_) | (have H2_ := (Option.bind_some _ _).symm.trans H; with_reducible exact H2_) | with_reducible exact H | (rw [hy205]; exact H) | exact H
          have Ny205 := mk0 hy205
          clear hy205
          have H' := mk0 H
          clear H
          go_enter Try.func80, Try.ntmps80
          go_wp2_with (first | ((with_reducible refine gate_callee (f := 81) rfl ?_); refine goesL_ (some 19) rfl rfl Try.func81 (by kernel_rfl) rfl #[.slice A0 l0.length c0] rfl (by (try simp only [List.map_toArray, List.map_cons, List.map_nil]); first | done | rfl | (simp only [List.length_drop, List.length_take]; rfl)) ?_; (with_reducible refine (nat_trim.calls k (fun k_ => ((P0_ k_ ∨ P1_ k_) ∨ w.heap.size ≤ k_)) _ _ l0 t176 _ ?side1 A3.out).mono ?_); (case side1 => exact HO0.out); rintro e w40 ⟨v177, rfl, ho0, hb⟩; refine ⟨_, rfl, ?_⟩; replace HO0 := mk0 (Kd.V_below (by (with_reducible repeat (first | apply Kd.V_alloc | apply Kd.V_drewN | apply Kd.V_drew)); exact HO0.out) hb); replace HO1 := mk0 (Kd.V_below (by (with_reducible repeat (first | apply Kd.V_alloc | apply Kd.V_drewN | apply Kd.V_drew)); exact HO1.out) hb); have HO178 := mk0 (Kd.V_lower (Kd.V_mono (ok' := fun k_ => ((P0_ k_ ∨ P1_ k_) ∨ w.heap.size ≤ k_)) ho0 (fun k_ hk_ => Or.elim hk_ (fun hs_ => hs_) (fun hn_ => (.inr (Nat.le_trans (below_size (by repeat (first | (with_reducible first | exact HB.out | apply below_alloc | apply pw_below_drewN | apply below_drew1) | exact HB.out))) hn_))))) (below_size (by repeat (first | (with_reducible first | exact HB.out | apply below_alloc | apply pw_below_drewN | apply below_drew1) | exact HB.out)))); replace HB := mk0 (below_step (by repeat (first | (with_reducible first | exact HB.out | apply below_alloc | apply pw_below_drewN | apply below_drew1) | exact HB.out)) hb); (try clear hb); (try clear hb2); (try clear hk); (try clear hi); (try clear ho0)) | ((with_reducible refine gate_callee (f := 81) rfl ?_); refine goesL_ (some 21) rfl rfl Try.func81 (by kernel_rfl) rfl #[.slice A1 l1.length c1] rfl (by (try simp only [List.map_toArray, List.map_cons, List.map_nil]); first | done | rfl | (simp only [List.length_drop, List.length_take]; rfl)) ?_; (with_reducible refine (nat_trim.calls k (fun k_ => ((P0_ k_ ∨ P1_ k_) ∨ w.heap.size ≤ k_)) _ _ l1 t179 _ ?side1 A4.out).mono ?_); (case side1 => exact HO1.out); rintro e w41 ⟨v180, rfl, ho0, hb⟩; refine ⟨_, rfl, ?_⟩; replace HO0 := mk0 (Kd.V_below (by (with_reducible repeat (first | apply Kd.V_alloc | apply Kd.V_drewN | apply Kd.V_drew)); exact HO0.out) hb); replace HO1 := mk0 (Kd.V_below (by (with_reducible repeat (first | apply Kd.V_alloc | apply Kd.V_drewN | apply Kd.V_drew)); exact HO1.out) hb); replace HO178 := mk0 (Kd.V_below (by (with_reducible repeat (first | apply Kd.V_alloc | apply Kd.V_drewN | apply Kd.V_drew)); exact HO178.out) hb); have HO181 := mk0 (Kd.V_lower (Kd.V_mono (ok' := fun k_ => ((P0_ k_ ∨ P1_ k_) ∨ w.heap.size ≤ k_)) ho0 (fun k_ hk_ => Or.elim hk_ (fun hs_ => hs_) (fun hn_ => (.inr (Nat.le_trans (below_size (by repeat (first | (with_reducible first | exact HB.out | apply below_alloc | apply pw_below_drewN | apply below_drew1) | exact HB.out))) hn_))))) (below_size (by repeat (first | (with_reducible first | exact HB.out | apply below_alloc | apply pw_below_drewN | apply below_drew1) | exact HB.out)))); replace HB := mk0 (below_step (by repeat (first | (with_reducible first | exact HB.out | apply below_alloc | apply pw_below_drewN | apply below_drew1) | exact HB.out)) hb); (try clear hb); (try clear hb2); (try clear hk); (try clear hi); (try clear ho0); obtain ⟨Ao42, co42, eo42⟩ := Kd.V_slice HO181.out; subst eo42; obtain ⟨Ao43, co43, eo43⟩ := Kd.V_slice HO178.out; subst eo43) | ((with_reducible refine gate_callee (f := 77) rfl ?_); refine goesL_ (some 29) rfl rfl Try.func77 (by kernel_rfl) rfl #[.slice Ao43 t176.length co43, .slice Ao42 t179.length co42] rfl (by (try simp only [List.map_toArray, List.map_cons, List.map_nil]); first | done | rfl | (simp only [List.length_drop, List.length_take]; rfl)) ?_; (with_reducible refine (nat_Cmp.calls k _ _ t176 _ _ t179 t182 _ ?side1 ?side2 ?side3 ?side4 A9.out).mono ?_); (case side1 => repeat (first | exact (Kd.V_reads' HO178.out).2.2 | (with_reducible refine Kd.C_alloc ?_ _) | (with_reducible refine Kd.C_drewN ?_ _) | (with_reducible refine Kd.C_drew ?_))); (case side2 => exact (Kd.V_reads' HO178.out).2.1); (case side3 => repeat (first | exact (Kd.V_reads' HO181.out).2.2 | (with_reducible refine Kd.C_alloc ?_ _) | (with_reducible refine Kd.C_drewN ?_ _) | (with_reducible refine Kd.C_drew ?_))); (case side4 => exact (Kd.V_reads' HO181.out).2.1); rintro e w44 ⟨rfl, hb⟩; refine ⟨_, rfl, ?_⟩; replace HO0 := mk0 (Kd.V_below (by (with_reducible repeat (first | apply Kd.V_alloc | apply Kd.V_drewN | apply Kd.V_drew)); exact HO0.out) hb); replace HO1 := mk0 (Kd.V_below (by (with_reducible repeat (first | apply Kd.V_alloc | apply Kd.V_drewN | apply Kd.V_drew)); exact HO1.out) hb); replace HO178 := mk0 (Kd.V_below (by (with_reducible repeat (first | apply Kd.V_alloc | apply Kd.V_drewN | apply Kd.V_drew)); exact HO178.out) hb); replace HO181 := mk0 (Kd.V_below (by (with_reducible repeat (first | apply Kd.V_alloc | apply Kd.V_drewN | apply Kd.V_drew)); exact HO181.out) hb); replace HB := mk0 (below_step (by repeat (first | (with_reducible first | exact HB.out | apply below_alloc | apply pw_below_drewN | apply below_drew1) | exact HB.out)) hb); (try clear hb); (try clear hb2); (try clear hk); (try clear hi); have p194 : 0 ≤ ((ji29) : Int) := of_decide_eq_true (by first | (with_reducible assumption) | assumption); have q194 : (ji29) < (t179.length : Int) := of_decide_eq_true (by first | (with_reducible assumption) | assumption); obtain ⟨ad194, e194, hx194_0⟩ := Kd.at_int (Kd.V_reads' HO181.out).2.2 (ji29) p194 q194; cases e194; replace p194 := eq_true p194; replace q194 := eq_true q194) | ((with_reducible refine gate_callee (f := 108) rfl ?_); refine goesL_ (some 56) rfl rfl Try.func108 (by kernel_rfl) rfl #[.int .u32 (rd t179 (ji29))] rfl (by (try simp only [List.map_toArray, List.map_cons, List.map_nil]); first | done | (simp only [hji29]; rfl) | rfl | (simp only [List.length_drop, List.length_take]; rfl)) ?_; (with_reducible refine (bits_LeadingZeros32.calls (rd t179 (ji29)) t195 _ A32.out).mono ?_); rintro e w' ⟨rfl, ⟨nd, rfl⟩⟩; refine ⟨_, rfl, ?_⟩) | ((with_reducible refine gate_callee (f := 109) rfl ?_); refine goesL_ (some 60) rfl rfl Try.func109 (by kernel_rfl) rfl #[.slice Ao43 t176.length co43, .int .u64 (IntKind.u64.wrap (t195))] rfl (by (try simp only [List.map_toArray, List.map_cons, List.map_nil]); first | done | rfl | (simp only [List.length_drop, List.length_take]; rfl)) ?_; (with_reducible refine (nat_shiftUp.calls k _ _ t176 (IntKind.u64.wrap (t195)) t196 _ ?side1 ?side2 A33.out).mono ?_); (case side1 => repeat (first | exact (Kd.V_reads' HO178.out).2.2 | (with_reducible refine Kd.C_alloc ?_ _) | (with_reducible refine Kd.C_drewN ?_ _) | (with_reducible refine Kd.C_drew ?_))); (case side2 => exact (Kd.V_reads' HO178.out).2.1); rintro e w45 ⟨v197, rfl, ho0, hb⟩; refine ⟨_, rfl, ?_⟩; replace HO0 := mk0 (Kd.V_elder' (by (with_reducible repeat (first | apply Kd.V_alloc | apply Kd.V_drewN | apply Kd.V_drew)); exact HO0.out) (Kd.R_base ho0) hb); replace HO1 := mk0 (Kd.V_elder' (by (with_reducible repeat (first | apply Kd.V_alloc | apply Kd.V_drewN | apply Kd.V_drew)); exact HO1.out) (Kd.R_base ho0) hb); replace HO178 := mk0 (Kd.V_elder' (by (with_reducible repeat (first | apply Kd.V_alloc | apply Kd.V_drewN | apply Kd.V_drew)); exact HO178.out) (Kd.R_base ho0) hb); replace HO181 := mk0 (Kd.V_elder' (by (with_reducible repeat (first | apply Kd.V_alloc | apply Kd.V_drewN | apply Kd.V_drew)); exact HO181.out) (Kd.R_base ho0) hb); have HO198 := mk0 (Kd.R_lower (Kd.R_newM (M := fun k_ => (w.heap.size ≤ k_)) ho0 (below_size (by repeat (first | (with_reducible first | exact HB.out | apply below_alloc | apply pw_below_drewN | apply below_drew1) | exact HB.out))) (fun k_ h_ => h_)) (below_size (by repeat (first | (with_reducible first | exact HB.out | apply below_alloc | apply pw_below_drewN | apply below_drew1) | exact HB.out)))); replace HB := mk0 (below_step (by repeat (first | (with_reducible first | exact HB.out | apply below_alloc | apply pw_below_drewN | apply below_drew1) | exact HB.out)) hb); (try clear hb); (try clear hb2); (try clear hk); (try clear hi); (try clear ho0)) | ((with_reducible refine gate_callee (f := 109) rfl ?_); refine goesL_ (some 63) rfl rfl Try.func109 (by kernel_rfl) rfl #[.slice (some ad194) t179.length co42, .int .u64 (IntKind.u64.wrap (t195))] rfl (by (try simp only [List.map_toArray, List.map_cons, List.map_nil]); first | done | rfl | (simp only [List.length_drop, List.length_take]; rfl)) ?_; (with_reducible refine (nat_shiftUp.calls k _ _ t179 (IntKind.u64.wrap (t195)) t199 _ ?side1 ?side2 A34.out).mono ?_); (case side1 => repeat (first | exact (Kd.V_reads' HO181.out).2.2 | (with_reducible refine Kd.C_alloc ?_ _) | (with_reducible refine Kd.C_drewN ?_ _) | (with_reducible refine Kd.C_drew ?_))); (case side2 => exact (Kd.V_reads' HO181.out).2.1); rintro e w46 ⟨v200, rfl, ho0, hb⟩; refine ⟨_, rfl, ?_⟩; replace HO0 := mk0 (Kd.V_elder' (by (with_reducible repeat (first | apply Kd.V_alloc | apply Kd.V_drewN | apply Kd.V_drew)); exact HO0.out) (Kd.R_base ho0) hb); replace HO1 := mk0 (Kd.V_elder' (by (with_reducible repeat (first | apply Kd.V_alloc | apply Kd.V_drewN | apply Kd.V_drew)); exact HO1.out) (Kd.R_base ho0) hb); replace HO178 := mk0 (Kd.V_elder' (by (with_reducible repeat (first | apply Kd.V_alloc | apply Kd.V_drewN | apply Kd.V_drew)); exact HO178.out) (Kd.R_base ho0) hb); replace HO181 := mk0 (Kd.V_elder' (by (with_reducible repeat (first | apply Kd.V_alloc | apply Kd.V_drewN | apply Kd.V_drew)); exact HO181.out) (Kd.R_base ho0) hb); have HO201 := mk0 (Kd.R_lower (Kd.R_new' (Kd.R_newM (M := fun k_ => (w.heap.size ≤ k_)) ho0 (below_size (by repeat (first | (with_reducible first | exact HB.out | apply below_alloc | apply pw_below_drewN | apply below_drew1) | exact HB.out))) (fun k_ h_ => h_)) (Kd.R_lt (by (with_reducible repeat (first | apply Kd.R_alloc | apply Kd.R_drewN | apply Kd.R_drew)); exact HO198.out))) (below_size (by repeat (first | (with_reducible first | exact HB.out | apply below_alloc | apply pw_below_drewN | apply below_drew1) | exact HB.out)))); replace HO198 := mk0 (Kd.R_elder' (by (with_reducible repeat (first | apply Kd.R_alloc | apply Kd.R_drewN | apply Kd.R_drew)); exact HO198.out) (Kd.R_base ho0) hb); replace HB := mk0 (below_step (by repeat (first | (with_reducible first | exact HB.out | apply below_alloc | apply pw_below_drewN | apply below_drew1) | exact HB.out)) hb); (try clear hb); (try clear hb2); (try clear hk); (try clear hi); (try clear ho0); obtain ⟨Ao47, co47, eo47⟩ := Kd.R_slice HO201.out; subst eo47; have q48 : ((t179.length : Int) : Int) ≤ ((t199.length : Int) : Int) := of_decide_eq_true (by first | (with_reducible assumption) | assumption); obtain ⟨i048, hi048, _, hsz48, _⟩ := info_parts info87; have hcut48 := cut_to (P := Try.prog) 25 87 .i64 Try.underlying25 hi048 Ao47 t199.length co47 (t179.length : Int) (of_decide_eq_true (by first | (with_reducible assumption) | assumption)) q48 (Kd.R_reads' HO201.out).2.1; have hr48 := Kd.R_take (m := ((t179.length : Int) : Int).toNat) HO201.out (by omega); have hy48 : y202.length = ((t179.length : Int) : Int).toNat := (by rw [Ny202.out, List.length_take]; omega); rw [← Ny202.out] at hr48; rw [← hy48] at hr48 hcut48; clear hy48 hi048 hsz48 HO201; have HO204 := mk0 hr48; clear hr48; replace q48 := eq_true q48) | ((with_reducible refine gate_dst (N := 71) rfl ?_); refine Kd.R_make (Kd.int .u32) _ 87 rfl (N := 71) rfl 25 _ _ rfl ji37 rfl rfl Try.underlying25 (.int .u32 0) 4 info87 rfl (by decide) (by omega) 0 (ok := fun _ => True) (okp := fun _ => True) rfl (fun _ hk => hk) trivial (of_decide_eq_true (by first | (with_reducible assumption) | assumption)) (Nat.le_trans (Nat.mul_le_mul_right _ (of_decide_eq_true (by first | (with_reducible assumption) | assumption) : ji37.toNat ≤ 70368744177664)) (by omega)) (Below.refl _ _) (Nat.le_refl _) ?_; intro v206 w49 ho50 hb hg_ hnew_; clear hg_ hnew_; (first | rw [← Ny205.out] at ho50 | (simp only [Int.reduceToNat] at ho50; rw [← Ny205.out] at ho50)); replace HO0 := mk0 (Kd.V_elder' (by (with_reducible repeat (first | apply Kd.V_alloc | apply Kd.V_drewN | apply Kd.V_drew)); exact HO0.out) (Kd.R_base ho50) hb); replace HO1 := mk0 (Kd.V_elder' (by (with_reducible repeat (first | apply Kd.V_alloc | apply Kd.V_drewN | apply Kd.V_drew)); exact HO1.out) (Kd.R_base ho50) hb); replace HO178 := mk0 (Kd.V_elder' (by (with_reducible repeat (first | apply Kd.V_alloc | apply Kd.V_drewN | apply Kd.V_drew)); exact HO178.out) (Kd.R_base ho50) hb); replace HO181 := mk0 (Kd.V_elder' (by (with_reducible repeat (first | apply Kd.V_alloc | apply Kd.V_drewN | apply Kd.V_drew)); exact HO181.out) (Kd.R_base ho50) hb); have HO207 := mk0 (Kd.R_lower (Kd.R_new' (Kd.R_new' (Kd.R_newM (M := fun k_ => (w.heap.size ≤ k_)) ho50 (below_size (by repeat (first | (with_reducible first | exact HB.out | apply below_alloc | apply pw_below_drewN | apply below_drew1) | exact HB.out))) (fun k_ h_ => h_)) (Kd.R_lt (by (with_reducible repeat (first | apply Kd.R_alloc | apply Kd.R_drewN | apply Kd.R_drew)); exact HO198.out))) (Kd.R_lt (by (with_reducible repeat (first | apply Kd.R_alloc | apply Kd.R_drewN | apply Kd.R_drew)); exact HO204.out))) (below_size (by repeat (first | (with_reducible first | exact HB.out | apply below_alloc | apply pw_below_drewN | apply below_drew1) | exact HB.out)))); replace HO198 := mk0 (Kd.R_elder' (by (with_reducible repeat (first | apply Kd.R_alloc | apply Kd.R_drewN | apply Kd.R_drew)); exact HO198.out) (Kd.R_base ho50) hb); replace HO204 := mk0 (Kd.R_elder' (by (with_reducible repeat (first | apply Kd.R_alloc | apply Kd.R_drewN | apply Kd.R_drew)); exact HO204.out) (Kd.R_base ho50) hb); replace HB := mk0 (below_step (by repeat (first | (with_reducible first | exact HB.out | apply below_alloc | apply pw_below_drewN | apply below_drew1) | exact HB.out)) hb); clear hb ho50))
          go_loopg [16] k (fun kq v16 w' => ∃ (x13_1 : List Int) (x14_1 : List Int) (x15_1 : List Int) (x16_1 : Int), v16 = .int .i64 x16_1 ∧ Aside0 (nat_DivMod.l0 kq (t179.length : Int) (IntKind.u64.wrap (t195)) x13_1 x14_1 x15_1 x16_1 = some (r1, r2, r3)) ∧ Aside0 (kq ≤ k) ∧ Aside0 (Kd.R (Kd.int .u32) 87 w' w.heap.size (fun k_ => (w.heap.size ≤ k_) ∧ some k_ ≠ ((.slice Ao47 y202.length co47) : Value).ownBlock ∧ some k_ ≠ (v206 : Value).ownBlock) v197 x13_1) ∧ Aside0 (Kd.R (Kd.int .u32) 87 w' w.heap.size (fun k_ => (w.heap.size ≤ k_) ∧ some k_ ≠ (v197 : Value).ownBlock ∧ some k_ ≠ (v206 : Value).ownBlock) (.slice Ao47 y202.length co47) x14_1) ∧ Aside0 (Kd.R (Kd.int .u32) 87 w' w.heap.size (fun k_ => (w.heap.size ≤ k_) ∧ some k_ ≠ (v197 : Value).ownBlock ∧ some k_ ≠ ((.slice Ao47 y202.length co47) : Value).ownBlock) v206 x15_1) ∧ Aside0 (Below w.heap.size w w'))
          case atStart => exact ⟨(t196), (y202), (y205), (wrap64 ((t176.length : Int) - (t179.length : Int))), (by first | rfl | (simp; done) | (simp [*]; done)), H', ⟨Nat.le_refl _⟩, ⟨by (with_reducible repeat (first | apply Kd.R_alloc | apply Kd.R_drewN | apply Kd.R_drew)); exact Kd.R_mono HO198.out (fun _ hk => ⟨hk.1.1.1, ⟨fun e_ => hk.1.2 (e_.trans (by cases Ao47 <;> rfl)), hk.2⟩⟩)⟩, ⟨by (with_reducible repeat (first | apply Kd.R_alloc | apply Kd.R_drewN | apply Kd.R_drew)); exact Kd.R_mono HO204.out (fun _ hk => ⟨hk.1.1.1, ⟨hk.1.2, hk.2⟩⟩)⟩, ⟨by (with_reducible repeat (first | apply Kd.R_alloc | apply Kd.R_drewN | apply Kd.R_drew)); exact Kd.R_mono HO207.out (fun _ hk => ⟨hk.1.1.1, ⟨hk.1.2, hk.2⟩⟩)⟩, ⟨by repeat (first | (with_reducible first | exact HB.out | apply below_alloc | apply pw_below_drewN | apply below_drew1) | exact HB.out)⟩⟩
          case round =>
           clear H'
           try clear c1
           try clear p1
           try clear q1
           try clear hx1
           try clear qi1
           try clear p2
           try clear c3
           try clear q4
           try clear c5
           try clear c5b0
           try clear c5b1
           try clear c5b2
           try clear c6
           try clear p6
           try clear c7
           try clear c8
           try clear c10
           try clear c10b0
           try clear c18
           try clear c18b0
           try clear c18b1
           try clear p18
           try clear q18
           try clear hx18
           try clear qi18
           try clear c19
           try clear c19b0
           try clear c19b1
           try clear p19
           try clear q19
           try clear hx19
           try clear c30
           try clear c30b0
           try clear c31
           try clear c31b0
           try clear c35
           try clear c35b0
           try clear c35b1
           try clear c36
           try clear c36b0
           try clear c36b1
           try clear c38
           try clear c38b0
           try clear c38b1
           try clear c39
           try clear c39b0
           try clear c39b1
           try clear q48
           try clear hx186_0
           try clear hx194_0
           try clear p186
           try clear p194
           try clear q186
           try clear q194
           try clear q48
           obtain ⟨x13_1, x14_1, x15_1, x16_1, rfl, HA, HK1, HO_13, HO_14, HO_15, HB⟩ := hrel
           have hl14_1 := (Kd.R_reads' HO_14.out).1
           rw [hl14_1] at HO_14
           (try simp only [hl14_1])
           (try simp only [hl14_1] at HO_13)
           (try simp only [hl14_1] at HO_15)
           cases gk with
           | zero => exact absurd HA.out (by simp [nat_DivMod.l0])
           | succ k1 =>
            have H := HA.out
            clear HA
            simp only [nat_DivMod.l0] at H
            by_cases c51 : x16_1 ≥ 0
            ·rw [if_pos c51] at H
             have c51b0 : decide (0 ≤ x16_1) = true := decide_eq_true c51
             clear c51
             obtain ⟨ji52, hji52⟩ : ∃ j_ : Int, (wrap64 (x16_1 + (t179.length : Int))) = j_ := ⟨_, rfl⟩
             replace H : (if 0 ≤ (ji52) then (if (ji52) < (x13_1.length : Int) then (if 0 ≤ (wrap64 ((ji52) - 1)) then (if (wrap64 ((ji52) - 1)) < (x13_1.length : Int) then (if 0 ≤ (wrap64 ((ji52) - 2)) then (if (wrap64 ((ji52) - 2)) < (x13_1.length : Int) then (if 0 ≤ (wrap64 ((t179.length : Int) - 1)) then (if (wrap64 ((t179.length : Int) - 1)) < (x14_1.length : Int) then (if 0 ≤ (wrap64 ((t179.length : Int) - 2)) then (if (wrap64 ((t179.length : Int) - 2)) < (x14_1.length : Int) then ((nat_guess.f k1 (rd x13_1 (ji52)) (rd x13_1 (wrap64 ((ji52) - 1))) (rd x13_1 (wrap64 ((ji52) - 2))) (rd x14_1 (wrap64 ((t179.length : Int) - 1))) (rd x14_1 (wrap64 ((t179.length : Int) - 2)))).bind fun t223 => (if 0 ≤ x16_1 then (if x16_1 ≤ (wrap64 ((ji52) + 1)) then (if (wrap64 ((ji52) + 1)) ≤ (x13_1.length : Int) then ((nat_subtract.f k1 x13_1 x16_1 (wrap64 ((ji52) + 1)) x14_1 t223).bind fun bt228 => (if bt228.1 = true then ((nat_addBack.f k1 bt228.2 x16_1 (wrap64 ((ji52) + 1)) x14_1).bind fun t234 => (if x16_1 < (x15_1.length : Int) then (nat_DivMod.l0 k1 (t179.length : Int) (IntKind.u64.wrap (t195)) t234 x14_1 (x15_1.set (x16_1 : Int).toNat ((IntKind.u64.wrap (t223 - 1)) % 4294967296)) (wrap64 (x16_1 - 1))) else (none))) else (if x16_1 < (x15_1.length : Int) then (nat_DivMod.l0 k1 (t179.length : Int) (IntKind.u64.wrap (t195)) bt228.2 x14_1 (x15_1.set (x16_1 : Int).toNat ((t223) % 4294967296)) (wrap64 (x16_1 - 1))) else (none)))) else (none)) else (none)) else (none))) else (none)) else (none)) else (none)) else (none)) else (none)) else (none)) else (none)) else (none)) else (none)) else (none)) = some (r1, r2, r3) := by first | (rw [hji52] at H; exact H) | (simp only [hji52] at H ⊢; exact H)
             have hji52w : (IntKind.i64.wrap (x16_1 + (t179.length : Int))) = ji52 := (i64_w _).trans hji52
             by_cases c53 : 0 ≤ (ji52)
             ·rw [if_pos c53] at H
              have c53b0 : decide (0 ≤ (ji52)) = true := decide_eq_true c53
              clear c53
              by_cases c54 : (ji52) < (x13_1.length : Int)
              ·rw [if_pos c54] at H
               have c54b0 : decide ((ji52) < (x13_1.length : Int)) = true := decide_eq_true c54
               clear c54
               obtain ⟨ji55, hji55⟩ : ∃ j_ : Int, (wrap64 ((ji52) - 1)) = j_ := ⟨_, rfl⟩
               replace H : (if 0 ≤ (ji55) then (if (ji55) < (x13_1.length : Int) then (if 0 ≤ (wrap64 ((ji52) - 2)) then (if (wrap64 ((ji52) - 2)) < (x13_1.length : Int) then (if 0 ≤ (wrap64 ((t179.length : Int) - 1)) then (if (wrap64 ((t179.length : Int) - 1)) < (x14_1.length : Int) then (if 0 ≤ (wrap64 ((t179.length : Int) - 2)) then (if (wrap64 ((t179.length : Int) - 2)) < (x14_1.length : Int) then ((nat_guess.f k1 (rd x13_1 (ji52)) (rd x13_1 (ji55)) (rd x13_1 (wrap64 ((ji52) - 2))) (rd x14_1 (wrap64 ((t179.length : Int) - 1))) (rd x14_1 (wrap64 ((t179.length : Int) - 2)))).bind fun t223 => (if 0 ≤ x16_1 then (if x16_1 ≤ (wrap64 ((ji52) + 1)) then (if (wrap64 ((ji52) + 1)) ≤ (x13_1.length : Int) then ((nat_subtract.f k1 x13_1 x16_1 (wrap64 ((ji52) + 1)) x14_1 t223).bind fun bt228 => (if bt228.1 = true then ((nat_addBack.f k1 bt228.2 x16_1 (wrap64 ((ji52) + 1)) x14_1).bind fun t234 => (if x16_1 < (x15_1.length : Int) then (nat_DivMod.l0 k1 (t179.length : Int) (IntKind.u64.wrap (t195)) t234 x14_1 (x15_1.set (x16_1 : Int).toNat ((IntKind.u64.wrap (t223 - 1)) % 4294967296)) (wrap64 (x16_1 - 1))) else (none))) else (if x16_1 < (x15_1.length : Int) then (nat_DivMod.l0 k1 (t179.length : Int) (IntKind.u64.wrap (t195)) bt228.2 x14_1 (x15_1.set (x16_1 : Int).toNat ((t223) % 4294967296)) (wrap64 (x16_1 - 1))) else (none)))) else (none)) else (none)) else (none))) else (none)) else (none)) else (none)) else (none)) else (none)) else (none)) else (none)) else (none)) = some (r1, r2, r3) := by first | (rw [hji55] at H; exact H) | (simp only [hji55] at H ⊢; exact H)
               have hji55w : (IntKind.i64.wrap ((ji52) - 1)) = ji55 := (i64_w _).trans hji55
               by_cases c56 : 0 ≤ (ji55)
               ·rw [if_pos c56] at H
                have c56b0 : decide (0 ≤ (ji55)) = true := decide_eq_true c56
                clear c56
                by_cases c57 : (ji55) < (x13_1.length : Int)
                ·rw [if_pos c57] at H
                 have c57b0 : decide ((ji55) < (x13_1.length : Int)) = true := decide_eq_true c57
                 clear c57
                 obtain ⟨ji58, hji58⟩ : ∃ j_ : Int, (wrap64 ((ji52) - 2)) = j_ := ⟨_, rfl⟩
                 replace H : (if 0 ≤ (ji58) then (if (ji58) < (x13_1.length : Int) then (if 0 ≤ (wrap64 ((t179.length : Int) - 1)) then (if (wrap64 ((t179.length : Int) - 1)) < (x14_1.length : Int) then (if 0 ≤ (wrap64 ((t179.length : Int) - 2)) then (if (wrap64 ((t179.length : Int) - 2)) < (x14_1.length : Int) then ((nat_guess.f k1 (rd x13_1 (ji52)) (rd x13_1 (ji55)) (rd x13_1 (ji58)) (rd x14_1 (wrap64 ((t179.length : Int) - 1))) (rd x14_1 (wrap64 ((t179.length : Int) - 2)))).bind fun t223 => (if 0 ≤ x16_1 then (if x16_1 ≤ (wrap64 ((ji52) + 1)) then (if (wrap64 ((ji52) + 1)) ≤ (x13_1.length : Int) then ((nat_subtract.f k1 x13_1 x16_1 (wrap64 ((ji52) + 1)) x14_1 t223).bind fun bt228 => (if bt228.1 = true then ((nat_addBack.f k1 bt228.2 x16_1 (wrap64 ((ji52) + 1)) x14_1).bind fun t234 => (if x16_1 < (x15_1.length : Int) then (nat_DivMod.l0 k1 (t179.length : Int) (IntKind.u64.wrap (t195)) t234 x14_1 (x15_1.set (x16_1 : Int).toNat ((IntKind.u64.wrap (t223 - 1)) % 4294967296)) (wrap64 (x16_1 - 1))) else (none))) else (if x16_1 < (x15_1.length : Int) then (nat_DivMod.l0 k1 (t179.length : Int) (IntKind.u64.wrap (t195)) bt228.2 x14_1 (x15_1.set (x16_1 : Int).toNat ((t223) % 4294967296)) (wrap64 (x16_1 - 1))) else (none)))) else (none)) else (none)) else (none))) else (none)) else (none)) else (none)) else (none)) else (none)) else (none)) = some (r1, r2, r3) := by first | (rw [hji58] at H; exact H) | (simp only [hji58] at H ⊢; exact H)
                 have hji58w : (IntKind.i64.wrap ((ji52) - 2)) = ji58 := (i64_w _).trans hji58
                 by_cases c59 : 0 ≤ (ji58)
                 ·rw [if_pos c59] at H
                  have c59b0 : decide (0 ≤ (ji58)) = true := decide_eq_true c59
                  clear c59
                  by_cases c60 : (ji58) < (x13_1.length : Int)
                  ·rw [if_pos c60] at H
                   have c60b0 : decide ((ji58) < (x13_1.length : Int)) = true := decide_eq_true c60
                   clear c60
                   obtain ⟨ji61, hji61⟩ : ∃ j_ : Int, (wrap64 ((t179.length : Int) - 1)) = j_ := ⟨_, rfl⟩
                   replace H : (if 0 ≤ (ji61) then (if (ji61) < (x14_1.length : Int) then (if 0 ≤ (wrap64 ((t179.length : Int) - 2)) then (if (wrap64 ((t179.length : Int) - 2)) < (x14_1.length : Int) then ((nat_guess.f k1 (rd x13_1 (ji52)) (rd x13_1 (ji55)) (rd x13_1 (ji58)) (rd x14_1 (ji61)) (rd x14_1 (wrap64 ((t179.length : Int) - 2)))).bind fun t223 => (if 0 ≤ x16_1 then (if x16_1 ≤ (wrap64 ((ji52) + 1)) then (if (wrap64 ((ji52) + 1)) ≤ (x13_1.length : Int) then ((nat_subtract.f k1 x13_1 x16_1 (wrap64 ((ji52) + 1)) x14_1 t223).bind fun bt228 => (if bt228.1 = true then ((nat_addBack.f k1 bt228.2 x16_1 (wrap64 ((ji52) + 1)) x14_1).bind fun t234 => (if x16_1 < (x15_1.length : Int) then (nat_DivMod.l0 k1 (t179.length : Int) (IntKind.u64.wrap (t195)) t234 x14_1 (x15_1.set (x16_1 : Int).toNat ((IntKind.u64.wrap (t223 - 1)) % 4294967296)) (wrap64 (x16_1 - 1))) else (none))) else (if x16_1 < (x15_1.length : Int) then (nat_DivMod.l0 k1 (t179.length : Int) (IntKind.u64.wrap (t195)) bt228.2 x14_1 (x15_1.set (x16_1 : Int).toNat ((t223) % 4294967296)) (wrap64 (x16_1 - 1))) else (none)))) else (none)) else (none)) else (none))) else (none)) else (none)) else (none)) else (none)) = some (r1, r2, r3) := by first | (rw [hji61] at H; exact H) | (simp only [hji61] at H ⊢; exact H)
                   have hji61w : (IntKind.i64.wrap ((t179.length : Int) - 1)) = ji61 := (i64_w _).trans hji61
                   have ej_ : ji29 = ji61 := hji29.symm.trans hji61
                   subst ej_
                   by_cases c62 : 0 ≤ (ji29)
                   ·rw [if_pos c62] at H
                    have c62b0 : decide (0 ≤ (ji29)) = true := decide_eq_true c62
                    clear c62
                    by_cases c63 : (ji29) < (x14_1.length : Int)
                    ·rw [if_pos c63] at H
                     have c63b0 : decide ((ji29) < (x14_1.length : Int)) = true := decide_eq_true c63
                     clear c63
                     obtain ⟨ji64, hji64⟩ : ∃ j_ : Int, (wrap64 ((t179.length : Int) - 2)) = j_ := ⟨_, rfl⟩
                     replace H : (if 0 ≤ (ji64) then (if (ji64) < (x14_1.length : Int) then ((nat_guess.f k1 (rd x13_1 (ji52)) (rd x13_1 (ji55)) (rd x13_1 (ji58)) (rd x14_1 (ji29)) (rd x14_1 (ji64))).bind fun t223 => (if 0 ≤ x16_1 then (if x16_1 ≤ (wrap64 ((ji52) + 1)) then (if (wrap64 ((ji52) + 1)) ≤ (x13_1.length : Int) then ((nat_subtract.f k1 x13_1 x16_1 (wrap64 ((ji52) + 1)) x14_1 t223).bind fun bt228 => (if bt228.1 = true then ((nat_addBack.f k1 bt228.2 x16_1 (wrap64 ((ji52) + 1)) x14_1).bind fun t234 => (if x16_1 < (x15_1.length : Int) then (nat_DivMod.l0 k1 (t179.length : Int) (IntKind.u64.wrap (t195)) t234 x14_1 (x15_1.set (x16_1 : Int).toNat ((IntKind.u64.wrap (t223 - 1)) % 4294967296)) (wrap64 (x16_1 - 1))) else (none))) else (if x16_1 < (x15_1.length : Int) then (nat_DivMod.l0 k1 (t179.length : Int) (IntKind.u64.wrap (t195)) bt228.2 x14_1 (x15_1.set (x16_1 : Int).toNat ((t223) % 4294967296)) (wrap64 (x16_1 - 1))) else (none)))) else (none)) else (none)) else (none))) else (none)) else (none)) = some (r1, r2, r3) := by first | (rw [hji64] at H; exact H) | (simp only [hji64] at H ⊢; exact H)
                     have hji64w : (IntKind.i64.wrap ((t179.length : Int) - 2)) = ji64 := (i64_w _).trans hji64
                     by_cases c65 : 0 ≤ (ji64)
                     ·rw [if_pos c65] at H
                      have c65b0 : decide (0 ≤ (ji64)) = true := decide_eq_true c65
                      clear c65
                      by_cases c66 : (ji64) < (x14_1.length : Int)
                      ·rw [if_pos c66] at H
                       have c66b0 : decide ((ji64) < (x14_1.length : Int)) = true := decide_eq_true c66
                       clear c66
                       obtain ⟨t223, A67, H⟩ := bindA H
                       by_cases c68 : 0 ≤ x16_1
                       ·rw [if_pos c68] at H
                        have c68b0 := eq_true c68
                        have c68b1 : decide (0 ≤ x16_1) = true := decide_eq_true c68
                        clear c68
                        by_cases c69 : x16_1 ≤ (wrap64 ((ji52) + 1))
                        ·rw [if_pos c69] at H
                         have c69b0 := eq_true c69
                         have c69b1 : decide (x16_1 ≤ (wrap64 ((ji52) + 1))) = true := decide_eq_true c69
                         by_cases c70 : (wrap64 ((ji52) + 1)) ≤ (x13_1.length : Int)
                         ·rw [if_pos c70] at H
                          have c70b0 := eq_true c70
                          have c70b1 : decide ((wrap64 ((ji52) + 1)) ≤ (x13_1.length : Int)) = true := decide_eq_true c70
                          obtain ⟨y224, hy224⟩ : ∃ y_ : List Int, y_ = ((x13_1.take ((wrap64 ((ji52) + 1)) : Int).toNat).drop (x16_1 : Int).toNat) := ⟨_, rfl⟩
                          replace H : ((nat_subtract.f k1 x13_1 x16_1 (wrap64 ((ji52) + 1)) x14_1 t223).bind fun bt228 => (if bt228.1 = true then ((nat_addBack.f k1 bt228.2 x16_1 (wrap64 ((ji52) + 1)) x14_1).bind fun t234 => (if x16_1 < (x15_1.length : Int) then (nat_DivMod.l0 k1 (t179.length : Int) (IntKind.u64.wrap (t195)) t234 x14_1 (x15_1.set (x16_1 : Int).toNat ((IntKind.u64.wrap (t223 - 1)) % 4294967296)) (wrap64 (x16_1 - 1))) else (none))) else (if x16_1 < (x15_1.length : Int) then (nat_DivMod.l0 k1 (t179.length : Int) (IntKind.u64.wrap (t195)) bt228.2 x14_1 (x15_1.set (x16_1 : Int).toNat ((t223) % 4294967296)) (wrap64 (x16_1 - 1))) else (none)))) = some (r1, r2, r3) := by first | (rw [hy224]; with_reducible exact H) | (have H2_ := (Option.bind_some _ _).symm.trans H; rw [hy224]; with_reducible exact H2_) | (have H2_ := (Option.bind_some _ _).symm.trans H; with_reducible exact H2_) | with_reducible exact H | (rw [hy224]; exact H) | exact H
                          have Ny224 := mk0 hy224
                          clear hy224
                          obtain ⟨⟨t228, t229⟩, A71, H⟩ := bindA H
                          by_cases c72 : t228 = true
                          ·subst c72
                           have H1 : ((nat_addBack.f k1 t229 x16_1 (wrap64 ((ji52) + 1)) x14_1).bind fun t234 => (if x16_1 < (x15_1.length : Int) then (nat_DivMod.l0 k1 (t179.length : Int) (IntKind.u64.wrap (t195)) t234 x14_1 (x15_1.set (x16_1 : Int).toNat ((IntKind.u64.wrap (t223 - 1)) % 4294967296)) (wrap64 (x16_1 - 1))) else (none))) = some (r1, r2, r3) := by rw [if_pos rfl] at H; exact H
                           clear H
                           have H := H1
                           clear H1
                           have c73b0 := eq_true (of_decide_eq_true (by first | (with_reducible assumption) | assumption) : 0 ≤ x16_1)
                           have c74b0 := eq_true (of_decide_eq_true (by first | (with_reducible assumption) | assumption) : x16_1 ≤ (wrap64 ((ji52) + 1)))
                           have c75b0 := eq_true (of_decide_eq_true (by first | (with_reducible assumption) | assumption) : (wrap64 ((ji52) + 1)) ≤ (x13_1.length : Int))
                           obtain ⟨y230, hy230⟩ : ∃ y_ : List Int, y_ = ((t229.take ((wrap64 ((ji52) + 1)) : Int).toNat).drop (x16_1 : Int).toNat) := ⟨_, rfl⟩
                           replace H : ((nat_addBack.f k1 t229 x16_1 (wrap64 ((ji52) + 1)) x14_1).bind fun t234 => (if x16_1 < (x15_1.length : Int) then (nat_DivMod.l0 k1 (t179.length : Int) (IntKind.u64.wrap (t195)) t234 x14_1 (x15_1.set (x16_1 : Int).toNat ((IntKind.u64.wrap (t223 - 1)) % 4294967296)) (wrap64 (x16_1 - 1))) else (none))) = some (r1, r2, r3) := by first | (rw [hy230]; with_reducible exact H) | (have H2_ := (Option.bind_some _ _).symm.trans H; rw [hy230]; with_reducible exact H2_) | (have H2_ := (Option.bind_some _ _).symm.trans H; with_reducible exact H2_) | with_reducible exact H | (rw [hy230]; exact H) | exact H
                           have Ny230 := mk0 hy230
                           clear hy230
                           obtain ⟨t234, A76, H⟩ := bindA H
                           by_cases c77 : x16_1 < (x15_1.length : Int)
                           ·rw [if_pos c77] at H
                            have c77b0 : decide (x16_1 < (x15_1.length : Int)) = true := decide_eq_true c77
                            clear c77
                            obtain ⟨y235, hy235⟩ : ∃ y_ : List Int, y_ = (x15_1.set (x16_1 : Int).toNat ((IntKind.u64.wrap (t223 - 1)) % 4294967296)) := ⟨_, rfl⟩
                            replace H : (nat_DivMod.l0 k1 (t179.length : Int) (IntKind.u64.wrap (t195)) t234 x14_1 y235 (wrap64 (x16_1 - 1))) = some (r1, r2, r3) := by first | (rw [hy235]; with_reducible exact H) | (have H2_ := (Option.bind_some _ _).symm.trans H; rw [hy235]; with_reducible exact H2_) | (have H2_ := (Option.bind_some _ _).symm.trans H; with_reducible exact H2_) | with_reducible exact H | (rw [hy235]; exact H) | exact H
                            have Ny235 := mk0 hy235
                            clear hy235
                            have H' := mk0 H
                            clear H
                            try go_wp2
                            replace HO_13 := mk0 (Kd.R_drew HO_13.out)
                            replace HO_14 := mk0 (Kd.R_drew HO_14.out)
                            replace HO_15 := mk0 (Kd.R_drew HO_15.out)
                            replace HB := mk0 (below_drew1 HB.out)
                            obtain ⟨Ao80, co80, eo80⟩ := Kd.R_slice HO_13.out
                            (first | subst eo80 | (injection eo80 with f1_ f2_ f3_; have f4_ := f1_.symm; have f5_ := f3_.symm; clear f1_ f2_ f3_; subst f4_; subst f5_))
                            have p218 : 0 ≤ ((ji52) : Int) := of_decide_eq_true (by first | (with_reducible assumption) | assumption)
                            have q218 : (ji52) < (x13_1.length : Int) := of_decide_eq_true (by first | (with_reducible assumption) | assumption)
                            obtain ⟨ad218, e218, hx218_0⟩ := Kd.at_int (Kd.R_reads' HO_13.out).2.2 (ji52) p218 q218
                            cases e218
                            replace p218 := eq_true p218
                            replace q218 := eq_true q218
                            have p219 : 0 ≤ ((ji55) : Int) := of_decide_eq_true (by first | (with_reducible assumption) | assumption)
                            have q219 : (ji55) < (x13_1.length : Int) := of_decide_eq_true (by first | (with_reducible assumption) | assumption)
                            obtain ⟨ad219, e219, hx219_0⟩ := Kd.at_int (Kd.R_reads' HO_13.out).2.2 (ji55) p219 q219
                            obtain rfl : ad218 = ad219 := (by injection e219)
                            replace p219 := eq_true p219
                            replace q219 := eq_true q219
                            have p220 : 0 ≤ ((ji58) : Int) := of_decide_eq_true (by first | (with_reducible assumption) | assumption)
                            have q220 : (ji58) < (x13_1.length : Int) := of_decide_eq_true (by first | (with_reducible assumption) | assumption)
                            obtain ⟨ad220, e220, hx220_0⟩ := Kd.at_int (Kd.R_reads' HO_13.out).2.2 (ji58) p220 q220
                            obtain rfl : ad218 = ad220 := (by injection e220)
                            replace p220 := eq_true p220
                            replace q220 := eq_true q220
                            have p221 : 0 ≤ ((ji29) : Int) := of_decide_eq_true (by first | (with_reducible assumption) | assumption)
                            have q221 : (ji29) < (x14_1.length : Int) := of_decide_eq_true (by first | (with_reducible assumption) | assumption)
                            obtain ⟨ad221, e221, hx221_0⟩ := Kd.at_int (Kd.R_reads' HO_14.out).2.2 (ji29) p221 q221
                            cases e221
                            replace p221 := eq_true p221
                            replace q221 := eq_true q221
                            have p222 : 0 ≤ ((ji64) : Int) := of_decide_eq_true (by first | (with_reducible assumption) | assumption)
                            have q222 : (ji64) < (x14_1.length : Int) := of_decide_eq_true (by first | (with_reducible assumption) | assumption)
                            obtain ⟨ad222, e222, hx222_0⟩ := Kd.at_int (Kd.R_reads' HO_14.out).2.2 (ji64) p222 q222
                            obtain rfl : ad221 = ad222 := (by injection e222)
                            replace p222 := eq_true p222
                            replace q222 := eq_true q222
                            refine start_ (n := 32) (S := fun w' => w'.cell? (ad218.add ((ji52)).toNat) = some (.int .u32 (rd x13_1 (ji52))) ∧ w'.cell? (ad218.add ((ji55)).toNat) = some (.int .u32 (rd x13_1 (ji55))) ∧ w'.cell? (ad218.add ((ji58)).toNat) = some (.int .u32 (rd x13_1 (ji58))) ∧ w'.cell? (ad221.add ((ji29)).toNat) = some (.int .u32 (rd x14_1 (ji29))) ∧ w'.cell? (ad221.add ((ji64)).toNat) = some (.int .u32 (rd x14_1 (ji64)))) (ds := []) (bv 32 0) (by kernel_rfl) rfl rfl ⟨hx218_0, hx219_0, hx220_0, hx221_0, hx222_0⟩ (fun hHeld => ?_); refine with_tabW nat_DivMod.tab17 nat_DivMod.bits17 (fun HT_ HW_ => ?_)
                            generalize wr.drew = w79 at HO_13 HO_14 HO_15 HB hx218_0 hx219_0 hx220_0 hx221_0 hx222_0 hHeld ⊢
                            refine pure_ (i := 0) (N := some 80) (v := ?_) (a' := ?_) (bv 32 1) rfl rfl (any_of HT_.out (by kernel_rfl)) (fun _ _ _ h => h) (Or.inl ⟨by rfl, ?_⟩) ?_ ?_; rotate_left; (intro w'; go_simp; with_reducible rfl); rotate_left; (simp only [Act.put, List.setIfInBounds_toArray, List.set_cons_zero, List.set_cons_succ, i64_w, i32_w]; rfl)
                            refine pure_ (i := 1) (N := some 81) (v := ?_) (a' := ?_) (bv 32 3) rfl rfl (any_of HT_.out (by kernel_rfl)) (fun _ _ _ h => h) (Or.inl ⟨by rfl, ?_⟩) ?_ ?_; rotate_left; (intro w'; go_simp; with_reducible rfl); rotate_left; (simp only [Act.put, List.setIfInBounds_toArray, List.set_cons_zero, List.set_cons_succ, i64_w, i32_w]; rfl)
                            refine pure_ (i := 2) (N := some 82) (v := ?_) (a' := ?_) (bv 32 7) rfl rfl (any_of HT_.out (by kernel_rfl)) (fun _ _ _ h => h) (Or.inl ⟨by rfl, ?_⟩) ?_ ?_; rotate_left; (intro w'; go_simp; with_reducible rfl); rotate_left; (simp only [Act.put, List.setIfInBounds_toArray, List.set_cons_zero, List.set_cons_succ, i64_w, i32_w]; rfl)
                            refine pure_ (i := 3) (N := some 83) (v := ?_) (a' := ?_) (bv 32 15) rfl rfl (any_of HT_.out (by kernel_rfl)) (fun _ _ _ h => h) (Or.inl ⟨by rfl, ?_⟩) ?_ ?_; rotate_left; (intro w'; go_simp; with_reducible rfl); rotate_left; (simp only [Act.put, List.setIfInBounds_toArray, List.set_cons_zero, List.set_cons_succ, i64_w, i32_w]; rfl)
                            refine pure_ (i := 4) (N := some 84) (v := ?_) (a' := ?_) (bv 32 31) rfl rfl (any_of HT_.out (by kernel_rfl)) (fun _ _ _ h => h) (Or.inl ⟨by rfl, ?_⟩) ?_ ?_; rotate_left; (intro w'; go_simp; with_reducible rfl); rotate_left; (simp only [Act.put, List.setIfInBounds_toArray, List.set_cons_zero, List.set_cons_succ, i64_w, i32_w]; rfl)
                            refine pure_ (i := 6) (N := some 86) (v := ?_) (a' := ?_) (bv 32 95) rfl rfl (any_of HT_.out (by kernel_rfl)) (fun _ _ _ h => h) (Or.inl ⟨by rfl, ?_⟩) ?_ ?_; rotate_left; (intro w'; go_simp; with_reducible rfl); rotate_left; (simp only [Act.put, List.setIfInBounds_toArray, List.set_cons_zero, List.set_cons_succ, i64_w, i32_w]; rfl)
                            refine pure_ (i := 7) (N := some 87) (v := ?_) (a' := ?_) (bv 32 223) rfl rfl (any_of HT_.out (by kernel_rfl)) (fun _ _ _ h => h) (Or.inl ⟨by rfl, ?_⟩) ?_ ?_; rotate_left; (intro w'; go_simp; with_reducible rfl); rotate_left; (simp only [Act.put, List.setIfInBounds_toArray, List.set_cons_zero, List.set_cons_succ, i64_w, i32_w]; rfl)
                            refine pure_ (i := 8) (N := some 88) (v := ?_) (a' := ?_) (bv 32 479) rfl rfl (any_of HT_.out (by kernel_rfl)) (fun _ _ _ h => h) (Or.inl ⟨by rfl, ?_⟩) ?_ ?_; rotate_left; (intro w'; go_simp; with_reducible rfl); rotate_left; (simp only [Act.put, List.setIfInBounds_toArray, List.set_cons_zero, List.set_cons_succ, i64_w, i32_w]; rfl)
                            refine pure_ (i := 9) (N := some 89) (v := ?_) (a' := ?_) (bv 32 991) rfl rfl (any_of HT_.out (by kernel_rfl)) (fun _ _ _ h => h) (Or.inl ⟨by rfl, ?_⟩) ?_ ?_; rotate_left; (intro w'; go_simp; with_reducible rfl); rotate_left; (simp only [Act.put, List.setIfInBounds_toArray, List.set_cons_zero, List.set_cons_succ, i64_w, i32_w]; rfl)
                            refine pure_ (i := 10) (N := some 90) (v := ?_) (a' := ?_) (bv 32 2015) rfl rfl (any_of HT_.out (by kernel_rfl)) (fun _ _ _ h => h) (Or.inl ⟨by rfl, ?_⟩) ?_ ?_; rotate_left; (intro w'; go_simp; with_reducible rfl); rotate_left; (simp only [Act.put, List.setIfInBounds_toArray, List.set_cons_zero, List.set_cons_succ, i64_w, i32_w]; rfl)
                            refine pure_ (i := 11) (N := some 91) (v := ?_) (a' := ?_) (bv 32 4063) rfl rfl (any_of HT_.out (by kernel_rfl)) (fun _ _ _ h => h) (Or.inl ⟨by rfl, ?_⟩) ?_ ?_; rotate_left; (intro w'; go_simp; with_reducible rfl); rotate_left; (simp only [Act.put, List.setIfInBounds_toArray, List.set_cons_zero, List.set_cons_succ, i64_w, i32_w]; rfl)
                            refine pure_ (i := 13) (N := some 93) (v := ?_) (a' := ?_) (bv 32 12255) rfl rfl (any_of HT_.out (by kernel_rfl)) (fun _ _ _ h => h) (Or.inl ⟨by rfl, ?_⟩) ?_ ?_; rotate_left; (intro w'; go_simp; with_reducible rfl); rotate_left; (simp only [Act.put, List.setIfInBounds_toArray, List.set_cons_zero, List.set_cons_succ, i64_w, i32_w]; rfl)
                            refine pure_ (i := 14) (N := some 94) (v := ?_) (a' := ?_) (bv 32 28639) rfl rfl (any_of HT_.out (by kernel_rfl)) (fun _ _ _ h => h) (Or.inl ⟨by rfl, ?_⟩) ?_ ?_; rotate_left; (intro w'; go_simp; with_reducible rfl); rotate_left; (simp only [Act.put, List.setIfInBounds_toArray, List.set_cons_zero, List.set_cons_succ, i64_w, i32_w]; rfl)
                            refine pure_ (i := 15) (N := some 95) (v := ?_) (a' := ?_) (bv 32 61407) rfl rfl (any_of HT_.out (by kernel_rfl)) (fun _ _ _ h => h) (Or.inl ⟨by rfl, ?_⟩) ?_ ?_; rotate_left; (intro w'; go_simp; with_reducible rfl); rotate_left; (simp only [Act.put, List.setIfInBounds_toArray, List.set_cons_zero, List.set_cons_succ, i64_w, i32_w]; rfl)
                            refine pure_ (i := 16) (N := some 96) (v := ?_) (a' := ?_) (bv 32 126943) rfl rfl (any_of HT_.out (by kernel_rfl)) (fun _ _ _ h => h) (Or.inl ⟨by rfl, ?_⟩) ?_ ?_; rotate_left; (intro w'; go_simp; with_reducible rfl); rotate_left; (simp only [Act.put, List.setIfInBounds_toArray, List.set_cons_zero, List.set_cons_succ, i64_w, i32_w]; rfl)
                            refine pure_ (i := 17) (N := some 97) (v := ?_) (a' := ?_) (bv 32 258015) rfl rfl (any_of HT_.out (by kernel_rfl)) (fun _ _ _ h => h) (Or.inl ⟨by rfl, ?_⟩) ?_ ?_; rotate_left; (intro w'; go_simp; with_reducible rfl); rotate_left; (simp only [Act.put, List.setIfInBounds_toArray, List.set_cons_zero, List.set_cons_succ, i64_w, i32_w]; rfl)
                            refine pure_ (i := 18) (N := some 98) (v := ?_) (a' := ?_) (bv 32 520159) rfl rfl (any_of HT_.out (by kernel_rfl)) (fun _ _ _ h => h) (Or.inl ⟨by rfl, ?_⟩) ?_ ?_; rotate_left; (intro w'; go_simp; with_reducible rfl); rotate_left; (simp only [Act.put, List.setIfInBounds_toArray, List.set_cons_zero, List.set_cons_succ, i64_w, i32_w]; rfl)
                            refine pure_ (i := 20) (N := some 100) (v := ?_) (a' := ?_) (bv 32 1568735) rfl rfl (any_of HT_.out (by kernel_rfl)) (fun _ _ _ h => h) (Or.inl ⟨by rfl, ?_⟩) ?_ ?_; rotate_left; (intro w'; go_simp; with_reducible rfl); rotate_left; (simp only [Act.put, List.setIfInBounds_toArray, List.set_cons_zero, List.set_cons_succ, i64_w, i32_w]; rfl)
                            refine pure_ (i := 21) (N := some 101) (v := ?_) (a' := ?_) (bv 32 3665887) rfl rfl (any_of HT_.out (by kernel_rfl)) (fun _ _ _ h => h) (Or.inl ⟨by rfl, ?_⟩) ?_ ?_; rotate_left; (intro w'; go_simp; with_reducible rfl); rotate_left; (simp only [Act.put, List.setIfInBounds_toArray, List.set_cons_zero, List.set_cons_succ, i64_w, i32_w]; rfl)
                            refine pure_ (i := 22) (N := some 102) (v := ?_) (a' := ?_) (bv 32 7860191) rfl rfl (any_of HT_.out (by kernel_rfl)) (fun _ _ _ h => h) (Or.inl ⟨by rfl, ?_⟩) ?_ ?_; rotate_left; (intro w'; go_simp; with_reducible rfl); rotate_left; (simp only [Act.put, List.setIfInBounds_toArray, List.set_cons_zero, List.set_cons_succ, i64_w, i32_w]; rfl)
                            refine pure_ (i := 23) (N := some 103) (v := ?_) (a' := ?_) (bv 32 16248799) rfl rfl (any_of HT_.out (by kernel_rfl)) (fun _ _ _ h => h) (Or.inl ⟨by rfl, ?_⟩) ?_ ?_; rotate_left; (intro w'; go_simp; with_reducible rfl); rotate_left; (simp only [Act.put, List.setIfInBounds_toArray, List.set_cons_zero, List.set_cons_succ, i64_w, i32_w]; rfl)
                            refine pure_ (i := 25) (N := some 105) (v := ?_) (a' := ?_) (bv 32 49803231) rfl rfl (any_of HT_.out (by kernel_rfl)) (fun _ _ _ h => h) (Or.inl ⟨by rfl, ?_⟩) ?_ ?_; rotate_left; (intro w'; go_simp; with_reducible rfl); rotate_left; (simp only [Act.put, List.setIfInBounds_toArray, List.set_cons_zero, List.set_cons_succ, i64_w, i32_w]; rfl)
                            refine pure_ (i := 26) (N := some 106) (v := ?_) (a' := ?_) (bv 32 116912095) rfl rfl (any_of HT_.out (by kernel_rfl)) (fun _ _ _ h => h) (Or.inl ⟨by rfl, ?_⟩) ?_ ?_; rotate_left; (intro w'; go_simp; with_reducible rfl); rotate_left; (simp only [Act.put, List.setIfInBounds_toArray, List.set_cons_zero, List.set_cons_succ, i64_w, i32_w]; rfl)
                            refine pure_ (i := 27) (N := some 107) (v := ?_) (a' := ?_) (bv 32 251129823) rfl rfl (any_of HT_.out (by kernel_rfl)) (fun _ _ _ h => h) (Or.inl ⟨by rfl, ?_⟩) ?_ ?_; rotate_left; (intro w'; go_simp; with_reducible rfl); rotate_left; (simp only [Act.put, List.setIfInBounds_toArray, List.set_cons_zero, List.set_cons_succ, i64_w, i32_w]; rfl)
                            refine pure_ (i := 28) (N := some 108) (v := ?_) (a' := ?_) (bv 32 519565279) rfl rfl (any_of HT_.out (by kernel_rfl)) (fun _ _ _ h => h) (Or.inl ⟨by rfl, ?_⟩) ?_ ?_; rotate_left; (intro w'; go_simp; with_reducible rfl); rotate_left; (simp only [Act.put, List.setIfInBounds_toArray, List.set_cons_zero, List.set_cons_succ, i64_w, i32_w]; rfl)
                            refine take_ (i := 5) (N := some 85) (v := ?_) (a' := ?_) (bv 32 519565311) rfl rfl (take_ofW HT_.out HW_.out (by kernel_rfl)) (fun _ _ _ h => h) (Or.inl ⟨by rfl, ?_⟩) hHeld ?_ ?_; rotate_left; (rintro w' ⟨s0, s1, s2, s3, s4⟩; go_simp; with_reducible rfl); rotate_left; (simp only [Act.put, List.setIfInBounds_toArray, List.set_cons_zero, List.set_cons_succ, i64_w, i32_w]; rfl)
                            refine take_ (i := 12) (N := some 92) (v := ?_) (a' := ?_) (bv 32 519569407) rfl rfl (take_ofW HT_.out HW_.out (by kernel_rfl)) (fun _ _ _ h => h) (Or.inl ⟨by rfl, ?_⟩) hHeld ?_ ?_; rotate_left; (rintro w' ⟨s0, s1, s2, s3, s4⟩; go_simp; with_reducible rfl); rotate_left; (simp only [Act.put, List.setIfInBounds_toArray, List.set_cons_zero, List.set_cons_succ, i64_w, i32_w]; rfl)
                            refine take_ (i := 19) (N := some 99) (v := ?_) (a' := ?_) (bv 32 520093695) rfl rfl (take_ofW HT_.out HW_.out (by kernel_rfl)) (fun _ _ _ h => h) (Or.inl ⟨by rfl, ?_⟩) hHeld ?_ ?_; rotate_left; (rintro w' ⟨s0, s1, s2, s3, s4⟩; go_simp; with_reducible rfl); rotate_left; (simp only [Act.put, List.setIfInBounds_toArray, List.set_cons_zero, List.set_cons_succ, i64_w, i32_w]; rfl)
                            refine take_ (i := 24) (N := some 104) (v := ?_) (a' := ?_) (bv 32 536870911) rfl rfl (take_ofW HT_.out HW_.out (by kernel_rfl)) (fun _ _ _ h => h) (Or.inl ⟨by rfl, ?_⟩) hHeld ?_ ?_; rotate_left; (rintro w' ⟨s0, s1, s2, s3, s4⟩; go_simp; with_reducible rfl); rotate_left; (simp only [Act.put, List.setIfInBounds_toArray, List.set_cons_zero, List.set_cons_succ, i64_w, i32_w]; rfl)
                            refine take_ (i := 29) (N := some 109) (v := ?_) (a' := ?_) (bv 32 1073741823) rfl rfl (take_ofW HT_.out HW_.out (by kernel_rfl)) (fun _ _ _ h => h) (Or.inl ⟨by rfl, ?_⟩) hHeld ?_ ?_; rotate_left; (rintro w' ⟨s0, s1, s2, s3, s4⟩; go_simp; with_reducible rfl); rotate_left; (simp only [Act.put, List.setIfInBounds_toArray, List.set_cons_zero, List.set_cons_succ, i64_w, i32_w]; rfl)
                            refine one_ (i := 30) (N := some 110) (bv 32 2147483647) rfl rfl (one_of HT_.out (by kernel_rfl)) (by decide) (fun K hK => ?_)
                            refine goes_ Try.func110 (by kernel_rfl) rfl #[.int .u32 (rd x13_1 (ji52)), .int .u32 (rd x13_1 (ji55)), .int .u32 (rd x13_1 (ji58)), .int .u32 (rd x14_1 (ji29)), .int .u32 (rd x14_1 (ji64))] (by rfl) rfl rfl (by (try simp only [List.map_toArray, List.map_cons, List.map_nil]); first | done | (simp only [hji52, hji55, hji58, hji61, hji64]; rfl) | rfl | (simp only [List.length_drop, List.length_take]; rfl)) ?_
                            with_reducible refine (nat_guess.calls k1 (rd x13_1 (ji52)) (rd x13_1 (ji55)) (rd x13_1 (ji58)) (rd x14_1 (ji29)) (rd x14_1 (ji64)) t223 _ A67.out).mono ?_
                            rintro e w' ⟨rfl, ⟨nd, rfl⟩⟩
                            refine ⟨_, rfl, ?_⟩
                            refine hK.out _ _ ⟨hHeld.1, hHeld.2.1, hHeld.2.2.1, hHeld.2.2.2.1, hHeld.2.2.2.2⟩ (fun hHeld => ?_)
                            clear hK K
                            refine norm_ (a' := ?_) ?_ ?_
                            rotate_left
                            ·show Act.put _ (some 110) _ = _
                             simp only [Act.put, List.setIfInBounds_toArray, List.set_cons_zero, List.set_cons_succ, i64_w, i32_w]
                             rfl
                            refine pure_ (i := 31) (N := some 17) (v := ?_) (a' := ?_) (bv 32 4294967295) rfl rfl (any_of HT_.out (by kernel_rfl)) (fun _ _ _ h => h) (Or.inl ⟨by rfl, ?_⟩) ?_ ?_; rotate_left; (intro w'; go_simp; with_reducible rfl); rotate_left; (simp only [Act.put, List.setIfInBounds_toArray, List.set_cons_zero, List.set_cons_succ, i64_w, i32_w]; rfl)
                            refine done_ (done_of HT_.out (by kernel_rfl)) ?_
                            have q81 : ((wrap64 ((ji52) + 1)) : Int) ≤ ((x13_1.length : Int) : Int) := of_decide_eq_true (by first | (with_reducible assumption) | assumption)
                            obtain ⟨i081, hi081, _, hsz81, _⟩ := info_parts info87
                            have hroom81 : x13_1.length ≤ co80 := (Kd.R_reads' HO_13.out).2.1
                            have hC81 : Kd.C (Kd.int .u32) _ (some ad218) x13_1.length x13_1 := (Kd.R_reads' HO_13.out).2.2
                            have ql81 : (x16_1 : Int) ≤ ((wrap64 ((ji52) + 1)) : Int) := of_decide_eq_true (by first | (with_reducible assumption) | assumption)
                            have q081 : (0 : Int) ≤ (x16_1 : Int) := of_decide_eq_true (by first | (with_reducible assumption) | assumption)
                            have hcut81 := cut_mid (P := Try.prog) 25 87 .i64 .i64 Try.underlying25 hi081 1 hsz81 (some ad218) x13_1.length co80 x16_1 (wrap64 ((ji52) + 1)) q081 ql81 q81 hroom81
                            have hr81 := Kd.C_mid (lo := (x16_1 : Int).toNat) (hi := ((wrap64 ((ji52) + 1)) : Int).toNat) (c := co80) hC81 (by omega) (by omega) hroom81
                            obtain ⟨A81, hA81⟩ : ∃ A1, A1 = (if co80 = (x16_1 : Int).toNat then (some ad218) else ((some ad218) : Option Addr).map (·.add ((x16_1 : Int).toNat * 1))) := ⟨_, rfl⟩
                            obtain ⟨c81, hc81⟩ : ∃ c1, c1 = co80 - (x16_1 : Int).toNat := ⟨_, rfl⟩
                            have hy81 : y224.length = ((wrap64 ((ji52) + 1)) : Int).toNat - (x16_1 : Int).toNat := (by rw [Ny224.out, List.length_drop, List.length_take] <;> omega)
                            rw [show ((x13_1).take ((wrap64 ((ji52) + 1)) : Int).toNat).drop (x16_1 : Int).toNat = y224 from Ny224.out.symm] at hr81
                            replace hr81 : Kd.C (Kd.int .u32) _ A81 y224.length y224 := (by rw [hA81]; exact hr81)
                            rw [← hy81, ← hA81, ← hc81] at hcut81
                            have HR227 := mk0 hr81
                            have HC227 := mk0 (show y224.length ≤ c81 from by rw [hy81, hc81]; exact Nat.sub_le_sub_right (Nat.le_trans (by omega) hroom81) _)
                            clear hr81 hC81 hroom81 hi081 hsz81 hc81
                            have KY81 := mk0 hy81
                            have KA81 := mk0 hA81
                            clear hy81 hA81
                            have KL81 := mk0 (show ((wrap64 ((ji52) + 1)) : Int).toNat ≤ x13_1.length from by omega)
                            have KM81 := mk0 (show (x16_1 : Int).toNat ≤ ((wrap64 ((ji52) + 1)) : Int).toNat from by omega)
                            replace q81 := eq_true q81
                            try go_wp2_with (first | ((with_reducible refine gate_callee (f := 111) rfl ?_); refine goesL_ (some 120) rfl rfl Try.func111 (by kernel_rfl) rfl #[.slice A81 y224.length c81, .slice (some ad221) x14_1.length co47, .int .u64 t223] rfl (by (try simp only [List.map_toArray, List.map_cons, List.map_nil]); first | done | rfl | (simp only [List.length_drop, List.length_take]; rfl)) ?_; (with_reducible refine (nat_subtract.calls k1 (fun k_ => some k_ = (.slice (some ad218) x13_1.length co80 : Value).ownBlock) (.slice (some ad218) x13_1.length co80) x13_1 x16_1 (wrap64 ((ji52) + 1)) A81 _ c81 _ _ x14_1 t223 true t229 w _ ?side1 ?side2 ?side3 ?side4 ?side5 ?side6 A71.out).mono ?_); (case side1 => repeat (first | (with_reducible first | exact HB.out | apply below_alloc | apply pw_below_drewN | apply below_drew1) | exact HB.out)); (case side2 => exact Kd.R_tight rfl HO_13.out); (case side3 => intro _ _ _ e_; cases e_; exact KA81.out); (case side4 => exact KY81.out); (case side5 => exact Kd.C_kept_own (HO_14.out) (fun k_ hk_ hs_ => (hk_.2.1) hs_)); (case side6 => exact (Kd.R_reads' HO_14.out).2.1); rintro e w82 ⟨rfl, hy0, hb, hkp⟩; refine ⟨_, rfl, ?_⟩; replace HO_13 := mk0 (Kd.R_reok rfl hy0 (fun k_ e_ => HO_13.out.1 k_ e_)); replace HO_14 := mk0 (Kd.R_mono (ok' := fun k_ => (w.heap.size ≤ k_) ∧ some k_ ≠ (.slice (some ad218) x13_1.length co80 : Value).ownBlock ∧ some k_ ≠ (v206 : Value).ownBlock) (Kd.R_keptB (HO_14.out) hkp (fun k_ hk_ hs_ => (hk_.2.1) hs_)) (fun k_ hk_ => ⟨hk_.1.1, hk_.1.2.1, hk_.1.2.2⟩)); replace HO_15 := mk0 (Kd.R_mono (ok' := fun k_ => (w.heap.size ≤ k_) ∧ some k_ ≠ (.slice (some ad218) x13_1.length co80 : Value).ownBlock ∧ some k_ ≠ (.slice (some ad221) x14_1.length co47 : Value).ownBlock) (Kd.R_keptB (HO_15.out) hkp (fun k_ hk_ hs_ => (hk_.2.1) hs_)) (fun k_ hk_ => ⟨hk_.1.1, hk_.1.2.1, hk_.1.2.2⟩)); replace HB := mk0 (hb); (try clear hb); (try clear hkp); (try clear hy0); have hlx83 := (Kd.R_reads' HO_13.out).1; have q83 : ((wrap64 ((ji52) + 1)) : Int) ≤ ((x13_1.length : Int) : Int) := of_decide_eq_true (by first | (with_reducible assumption) | assumption); obtain ⟨i083, hi083, _, hsz83, _⟩ := info_parts info87; have hroom83 : x13_1.length ≤ co80 := (Kd.R_reads' HO_13.out).2.1; have hroomc83 : t229.length ≤ co80 := (by rw [← hlx83]; exact hroom83); have hC83 : Kd.C (Kd.int .u32) _ (some ad218) t229.length t229 := (Kd.R_reads' HO_13.out).2.2; have ql83 : (x16_1 : Int) ≤ ((wrap64 ((ji52) + 1)) : Int) := of_decide_eq_true (by first | (with_reducible assumption) | assumption); have q083 : (0 : Int) ≤ (x16_1 : Int) := of_decide_eq_true (by first | (with_reducible assumption) | assumption); have hcut83 := cut_mid (P := Try.prog) 25 87 .i64 .i64 Try.underlying25 hi083 1 hsz83 (some ad218) x13_1.length co80 x16_1 (wrap64 ((ji52) + 1)) q083 ql83 q83 hroom83; have hr83 := Kd.C_mid (lo := (x16_1 : Int).toNat) (hi := ((wrap64 ((ji52) + 1)) : Int).toNat) (c := co80) hC83 (by omega) (by omega) hroomc83; obtain ⟨A83, hA83⟩ : ∃ A1, A1 = (if co80 = (x16_1 : Int).toNat then (some ad218) else ((some ad218) : Option Addr).map (·.add ((x16_1 : Int).toNat * 1))) := ⟨_, rfl⟩; obtain ⟨c83, hc83⟩ : ∃ c1, c1 = co80 - (x16_1 : Int).toNat := ⟨_, rfl⟩; have hy83 : y230.length = ((wrap64 ((ji52) + 1)) : Int).toNat - (x16_1 : Int).toNat := (by rw [Ny230.out, List.length_drop, List.length_take] <;> omega); rw [show ((t229).take ((wrap64 ((ji52) + 1)) : Int).toNat).drop (x16_1 : Int).toNat = y230 from Ny230.out.symm] at hr83; replace hr83 : Kd.C (Kd.int .u32) _ A83 y230.length y230 := (by rw [hA83]; exact hr83); rw [← hy83, ← hA83, ← hc83] at hcut83; have HR233 := mk0 hr83; have HC233 := mk0 (show y230.length ≤ c83 from by rw [hy83, hc83]; exact Nat.sub_le_sub_right (Nat.le_trans (by omega) hroom83) _); clear hr83 hC83 hroom83 hi083 hsz83 hc83 hroomc83; have KY83 := mk0 hy83; have KA83 := mk0 hA83; clear hy83 hA83; have KE83 := mk0 hlx83; have KL83 := mk0 (show ((wrap64 ((ji52) + 1)) : Int).toNat ≤ t229.length from by omega); have KM83 := mk0 (show (x16_1 : Int).toNat ≤ ((wrap64 ((ji52) + 1)) : Int).toNat from by omega); clear hlx83; replace q83 := eq_true q83) | ((with_reducible refine gate_callee (f := 112) rfl ?_); refine goesL_ (some 131) rfl rfl Try.func112 (by kernel_rfl) rfl #[.slice A81 y224.length c81, .slice (some ad221) x14_1.length co47] rfl (by (try simp only [List.map_toArray, List.map_cons, List.map_nil, hl14_1]); first | done | rfl | (simp only [List.length_drop, List.length_take]; rfl)) ?_; (with_reducible refine (nat_addBack.calls k1 (fun k_ => some k_ = (.slice (some ad218) x13_1.length co80 : Value).ownBlock) (.slice (some ad218) x13_1.length co80) t229 x16_1 (wrap64 ((ji52) + 1)) A81 _ c81 _ _ x14_1 t234 w _ ?side1 ?side2 ?side3 ?side4 ?side5 ?side6 A76.out).mono ?_); (case side1 => repeat (first | (with_reducible first | exact HB.out | apply below_alloc | apply pw_below_drewN | apply below_drew1) | exact HB.out)); (case side2 => exact Kd.R_tight rfl HO_13.out); (case side3 => intro _ _ _ e_; cases e_; exact KA81.out); (case side4 => exact KY81.out); (case side5 => exact Kd.C_kept_own (HO_14.out) (fun k_ hk_ hs_ => (hk_.2.1) hs_)); (case side6 => exact (Kd.R_reads' HO_14.out).2.1); rintro e w84 ⟨rfl, hy0, hb, hkp⟩; refine ⟨_, rfl, ?_⟩; replace HO_13 := mk0 (Kd.R_reok rfl hy0 (fun k_ e_ => HO_13.out.1 k_ e_)); replace HO_14 := mk0 (Kd.R_mono (ok' := fun k_ => (w.heap.size ≤ k_) ∧ some k_ ≠ (.slice (some ad218) x13_1.length co80 : Value).ownBlock ∧ some k_ ≠ (v206 : Value).ownBlock) (Kd.R_keptB (HO_14.out) hkp (fun k_ hk_ hs_ => (hk_.2.1) hs_)) (fun k_ hk_ => ⟨hk_.1.1, hk_.1.2.1, hk_.1.2.2⟩)); replace HO_15 := mk0 (Kd.R_mono (ok' := fun k_ => (w.heap.size ≤ k_) ∧ some k_ ≠ (.slice (some ad218) x13_1.length co80 : Value).ownBlock ∧ some k_ ≠ (.slice (some ad221) x14_1.length co47 : Value).ownBlock) (Kd.R_keptB (HO_15.out) hkp (fun k_ hk_ hs_ => (hk_.2.1) hs_)) (fun k_ hk_ => ⟨hk_.1.1, hk_.1.2.1, hk_.1.2.2⟩)); replace HB := mk0 (hb); (try clear hb); (try clear hkp); (try clear hy0); have p78 : 0 ≤ (x16_1 : Int) := of_decide_eq_true (by first | (with_reducible assumption) | assumption); have q78 : (x16_1 : Int) < ((x15_1.length : Int) : Int) := of_decide_eq_true (by first | (with_reducible assumption) | assumption); obtain ⟨go78, co78, eo78, gb78, gl78, cl78, HG78⟩ := Kd.R_form HO_15.out (by omega); (first | cases eo78 | (injection eo78 with ea_ en_ ec_; (first | subst ea_ | (injection ea_ with ea_; subst ea_)); subst ec_; clear en_)); have GB78 := mk0 gb78; have GG78 := mk0 HG78; clear gb78 gl78 HG78; obtain ⟨hx78_0, hf78_0⟩ := Kd.R_celln 0 HO_15.out (x16_1 : Int) p78 q78; replace p78 := eq_true p78; replace q78 := eq_true q78; obtain ⟨hy85_, hz85_⟩ := Kd.R_celln 0 HO_15.out (x16_1 : Int) (of_decide_eq_true (by first | (with_reducible assumption) | assumption)) (of_decide_eq_true (by first | (with_reducible assumption) | assumption)); have HP85 := Kd.R_putg HO_15.out (x16_1 : Int) ((IntKind.u64.wrap (t223 - 1)) % 4294967296)) | ((with_reducible refine gate_store (t := 87) (p := 136) rfl ?_); refine store_event (t := 87) (p := 136) (v := ?vo_w86) (w1 := (w84.setCell ⟨go78, (x16_1 : Int).toNat, none⟩ (.int .u32 ((IntKind.u64.wrap (t223 - 1)) % 4294967296)))) ?hg ?ho ?hn ?hr ?_; (case ho => rfl); (case hg => rfl); (case hn => rfl); (case hr => first | (go_simp; done) | (go_simp; rfl)); intro w86 hw; have hg : w84.grownBy w86 (some go78) := (by rw [hw]; exact HP85.2); have hp_ : Kd.R (Kd.int .u32) 87 w86 w.heap.size (fun k_ => (w.heap.size ≤ k_) ∧ some k_ ≠ (.slice (some ad218) x13_1.length co80 : Value).ownBlock ∧ some k_ ≠ (.slice (some ad221) x14_1.length co47 : Value).ownBlock) (.slice (some ⟨go78, 0, none⟩) x15_1.length co78) y235 := (by rw [hw, Ny235.out]; exact HP85.1); clear HP85; replace HO_13 := mk0 (Kd.R_after (v := (.slice (some ⟨go78, 0, none⟩) x15_1.length co78)) (v1 := (.slice (some ⟨go78, 0, none⟩) x15_1.length co78)) (ok := (fun k_ => (w.heap.size ≤ k_) ∧ some k_ ≠ (.slice (some ad221) x14_1.length co47 : Value).ownBlock)) (by (with_reducible repeat (first | apply Kd.R_alloc | apply Kd.R_drewN | apply Kd.R_drew)); exact Kd.R_mono HO_13.out (fun _ hk => ⟨⟨hk.1, hk.2.1⟩, hk.2.2⟩)) hg (.inl rfl)); replace HO_14 := mk0 (Kd.R_after (v := (.slice (some ⟨go78, 0, none⟩) x15_1.length co78)) (v1 := (.slice (some ⟨go78, 0, none⟩) x15_1.length co78)) (ok := (fun k_ => (w.heap.size ≤ k_) ∧ some k_ ≠ (.slice (some ad218) x13_1.length co80 : Value).ownBlock)) (by (with_reducible repeat (first | apply Kd.R_alloc | apply Kd.R_drewN | apply Kd.R_drew)); exact Kd.R_mono HO_14.out (fun _ hk => ⟨⟨hk.1, hk.2.1⟩, hk.2.2⟩)) hg (.inl rfl)); replace HO_15 := mk0 (hp_); replace HB := mk0 ((by rw [hw]; exact below_set (HB.out) GB78.out : Below w.heap.size w w86)); clear hg hw hp_))
                            (try simp only [← hl14_1])
                            go_roundg k1
                            case measure => have := HK1.out; omega
                            case rel => exact ⟨(t234), (x14_1), (y235), (wrap64 (x16_1 - 1)), (by first | rfl | (simp; done) | (simp [*]; done)), H', ⟨by have := HK1.out; omega⟩, ⟨by (try simp only [hl14_1]); (with_reducible repeat (first | apply Kd.R_alloc | apply Kd.R_drewN | apply Kd.R_drew)); exact Kd.R_mono HO_13.out (fun _ hk => ⟨hk.1.1, ⟨hk.1.2, hk.2⟩⟩)⟩, ⟨by (try simp only [hl14_1]); (with_reducible repeat (first | apply Kd.R_alloc | apply Kd.R_drewN | apply Kd.R_drew)); exact Kd.R_mono HO_14.out (fun _ hk => ⟨hk.1.1, ⟨hk.1.2, hk.2⟩⟩)⟩, ⟨by (try simp only [hl14_1]); (with_reducible repeat (first | apply Kd.R_alloc | apply Kd.R_drewN | apply Kd.R_drew)); exact HO_15.out⟩, ⟨by repeat (first | (with_reducible first | exact HB.out | apply below_alloc | apply pw_below_drewN | apply below_drew1) | exact HB.out)⟩⟩
                           ·rw [if_neg c77] at H
                            exact absurd H (by simp)
                          ·replace c72 := Bool.eq_false_iff.mpr c72
                           subst c72
                           have H1 : (if x16_1 < (x15_1.length : Int) then (nat_DivMod.l0 k1 (t179.length : Int) (IntKind.u64.wrap (t195)) t229 x14_1 (x15_1.set (x16_1 : Int).toNat ((t223) % 4294967296)) (wrap64 (x16_1 - 1))) else (none)) = some (r1, r2, r3) := by rw [if_neg (show ¬ (false = true) by decide)] at H; exact H
                           clear H
                           have H := H1
                           clear H1
                           by_cases c87 : x16_1 < (x15_1.length : Int)
                           ·rw [if_pos c87] at H
                            have c87b0 : decide (x16_1 < (x15_1.length : Int)) = true := decide_eq_true c87
                            clear c87
                            obtain ⟨y236, hy236⟩ : ∃ y_ : List Int, y_ = (x15_1.set (x16_1 : Int).toNat ((t223) % 4294967296)) := ⟨_, rfl⟩
                            replace H : (nat_DivMod.l0 k1 (t179.length : Int) (IntKind.u64.wrap (t195)) t229 x14_1 y236 (wrap64 (x16_1 - 1))) = some (r1, r2, r3) := by first | (rw [hy236]; with_reducible exact H) | (have H2_ := (Option.bind_some _ _).symm.trans H; rw [hy236]; with_reducible exact H2_) | (have H2_ := (Option.bind_some _ _).symm.trans H; with_reducible exact H2_) | with_reducible exact H | (rw [hy236]; exact H) | exact H
                            have Ny236 := mk0 hy236
                            clear hy236
                            have H' := mk0 H
                            clear H
                            try go_wp2
                            replace HO_13 := mk0 (Kd.R_drew HO_13.out)
                            replace HO_14 := mk0 (Kd.R_drew HO_14.out)
                            replace HO_15 := mk0 (Kd.R_drew HO_15.out)
                            replace HB := mk0 (below_drew1 HB.out)
                            obtain ⟨Ao90, co90, eo90⟩ := Kd.R_slice HO_13.out
                            (first | subst eo90 | (injection eo90 with f1_ f2_ f3_; have f4_ := f1_.symm; have f5_ := f3_.symm; clear f1_ f2_ f3_; subst f4_; subst f5_))
                            have p218 : 0 ≤ ((ji52) : Int) := of_decide_eq_true (by first | (with_reducible assumption) | assumption)
                            have q218 : (ji52) < (x13_1.length : Int) := of_decide_eq_true (by first | (with_reducible assumption) | assumption)
                            obtain ⟨ad218, e218, hx218_0⟩ := Kd.at_int (Kd.R_reads' HO_13.out).2.2 (ji52) p218 q218
                            cases e218
                            replace p218 := eq_true p218
                            replace q218 := eq_true q218
                            have p219 : 0 ≤ ((ji55) : Int) := of_decide_eq_true (by first | (with_reducible assumption) | assumption)
                            have q219 : (ji55) < (x13_1.length : Int) := of_decide_eq_true (by first | (with_reducible assumption) | assumption)
                            obtain ⟨ad219, e219, hx219_0⟩ := Kd.at_int (Kd.R_reads' HO_13.out).2.2 (ji55) p219 q219
                            obtain rfl : ad218 = ad219 := (by injection e219)
                            replace p219 := eq_true p219
                            replace q219 := eq_true q219
                            have p220 : 0 ≤ ((ji58) : Int) := of_decide_eq_true (by first | (with_reducible assumption) | assumption)
                            have q220 : (ji58) < (x13_1.length : Int) := of_decide_eq_true (by first | (with_reducible assumption) | assumption)
                            obtain ⟨ad220, e220, hx220_0⟩ := Kd.at_int (Kd.R_reads' HO_13.out).2.2 (ji58) p220 q220
                            obtain rfl : ad218 = ad220 := (by injection e220)
                            replace p220 := eq_true p220
                            replace q220 := eq_true q220
                            have p221 : 0 ≤ ((ji29) : Int) := of_decide_eq_true (by first | (with_reducible assumption) | assumption)
                            have q221 : (ji29) < (x14_1.length : Int) := of_decide_eq_true (by first | (with_reducible assumption) | assumption)
                            obtain ⟨ad221, e221, hx221_0⟩ := Kd.at_int (Kd.R_reads' HO_14.out).2.2 (ji29) p221 q221
                            cases e221
                            replace p221 := eq_true p221
                            replace q221 := eq_true q221
                            have p222 : 0 ≤ ((ji64) : Int) := of_decide_eq_true (by first | (with_reducible assumption) | assumption)
                            have q222 : (ji64) < (x14_1.length : Int) := of_decide_eq_true (by first | (with_reducible assumption) | assumption)
                            obtain ⟨ad222, e222, hx222_0⟩ := Kd.at_int (Kd.R_reads' HO_14.out).2.2 (ji64) p222 q222
                            obtain rfl : ad221 = ad222 := (by injection e222)
                            replace p222 := eq_true p222
                            replace q222 := eq_true q222
                            refine start_ (n := 32) (S := fun w' => w'.cell? (ad218.add ((ji52)).toNat) = some (.int .u32 (rd x13_1 (ji52))) ∧ w'.cell? (ad218.add ((ji55)).toNat) = some (.int .u32 (rd x13_1 (ji55))) ∧ w'.cell? (ad218.add ((ji58)).toNat) = some (.int .u32 (rd x13_1 (ji58))) ∧ w'.cell? (ad221.add ((ji29)).toNat) = some (.int .u32 (rd x14_1 (ji29))) ∧ w'.cell? (ad221.add ((ji64)).toNat) = some (.int .u32 (rd x14_1 (ji64)))) (ds := []) (bv 32 0) (by kernel_rfl) rfl rfl ⟨hx218_0, hx219_0, hx220_0, hx221_0, hx222_0⟩ (fun hHeld => ?_); refine with_tabW nat_DivMod.tab17 nat_DivMod.bits17 (fun HT_ HW_ => ?_)
                            generalize wr.drew = w89 at HO_13 HO_14 HO_15 HB hx218_0 hx219_0 hx220_0 hx221_0 hx222_0 hHeld ⊢
                            refine pure_ (i := 0) (N := some 80) (v := ?_) (a' := ?_) (bv 32 1) rfl rfl (any_of HT_.out (by kernel_rfl)) (fun _ _ _ h => h) (Or.inl ⟨by rfl, ?_⟩) ?_ ?_; rotate_left; (intro w'; go_simp; with_reducible rfl); rotate_left; (simp only [Act.put, List.setIfInBounds_toArray, List.set_cons_zero, List.set_cons_succ, i64_w, i32_w]; rfl)
                            refine pure_ (i := 1) (N := some 81) (v := ?_) (a' := ?_) (bv 32 3) rfl rfl (any_of HT_.out (by kernel_rfl)) (fun _ _ _ h => h) (Or.inl ⟨by rfl, ?_⟩) ?_ ?_; rotate_left; (intro w'; go_simp; with_reducible rfl); rotate_left; (simp only [Act.put, List.setIfInBounds_toArray, List.set_cons_zero, List.set_cons_succ, i64_w, i32_w]; rfl)
                            refine pure_ (i := 2) (N := some 82) (v := ?_) (a' := ?_) (bv 32 7) rfl rfl (any_of HT_.out (by kernel_rfl)) (fun _ _ _ h => h) (Or.inl ⟨by rfl, ?_⟩) ?_ ?_; rotate_left; (intro w'; go_simp; with_reducible rfl); rotate_left; (simp only [Act.put, List.setIfInBounds_toArray, List.set_cons_zero, List.set_cons_succ, i64_w, i32_w]; rfl)
                            refine pure_ (i := 3) (N := some 83) (v := ?_) (a' := ?_) (bv 32 15) rfl rfl (any_of HT_.out (by kernel_rfl)) (fun _ _ _ h => h) (Or.inl ⟨by rfl, ?_⟩) ?_ ?_; rotate_left; (intro w'; go_simp; with_reducible rfl); rotate_left; (simp only [Act.put, List.setIfInBounds_toArray, List.set_cons_zero, List.set_cons_succ, i64_w, i32_w]; rfl)
                            refine pure_ (i := 4) (N := some 84) (v := ?_) (a' := ?_) (bv 32 31) rfl rfl (any_of HT_.out (by kernel_rfl)) (fun _ _ _ h => h) (Or.inl ⟨by rfl, ?_⟩) ?_ ?_; rotate_left; (intro w'; go_simp; with_reducible rfl); rotate_left; (simp only [Act.put, List.setIfInBounds_toArray, List.set_cons_zero, List.set_cons_succ, i64_w, i32_w]; rfl)
                            refine pure_ (i := 6) (N := some 86) (v := ?_) (a' := ?_) (bv 32 95) rfl rfl (any_of HT_.out (by kernel_rfl)) (fun _ _ _ h => h) (Or.inl ⟨by rfl, ?_⟩) ?_ ?_; rotate_left; (intro w'; go_simp; with_reducible rfl); rotate_left; (simp only [Act.put, List.setIfInBounds_toArray, List.set_cons_zero, List.set_cons_succ, i64_w, i32_w]; rfl)
                            refine pure_ (i := 7) (N := some 87) (v := ?_) (a' := ?_) (bv 32 223) rfl rfl (any_of HT_.out (by kernel_rfl)) (fun _ _ _ h => h) (Or.inl ⟨by rfl, ?_⟩) ?_ ?_; rotate_left; (intro w'; go_simp; with_reducible rfl); rotate_left; (simp only [Act.put, List.setIfInBounds_toArray, List.set_cons_zero, List.set_cons_succ, i64_w, i32_w]; rfl)
                            refine pure_ (i := 8) (N := some 88) (v := ?_) (a' := ?_) (bv 32 479) rfl rfl (any_of HT_.out (by kernel_rfl)) (fun _ _ _ h => h) (Or.inl ⟨by rfl, ?_⟩) ?_ ?_; rotate_left; (intro w'; go_simp; with_reducible rfl); rotate_left; (simp only [Act.put, List.setIfInBounds_toArray, List.set_cons_zero, List.set_cons_succ, i64_w, i32_w]; rfl)
                            refine pure_ (i := 9) (N := some 89) (v := ?_) (a' := ?_) (bv 32 991) rfl rfl (any_of HT_.out (by kernel_rfl)) (fun _ _ _ h => h) (Or.inl ⟨by rfl, ?_⟩) ?_ ?_; rotate_left; (intro w'; go_simp; with_reducible rfl); rotate_left; (simp only [Act.put, List.setIfInBounds_toArray, List.set_cons_zero, List.set_cons_succ, i64_w, i32_w]; rfl)
                            refine pure_ (i := 10) (N := some 90) (v := ?_) (a' := ?_) (bv 32 2015) rfl rfl (any_of HT_.out (by kernel_rfl)) (fun _ _ _ h => h) (Or.inl ⟨by rfl, ?_⟩) ?_ ?_; rotate_left; (intro w'; go_simp; with_reducible rfl); rotate_left; (simp only [Act.put, List.setIfInBounds_toArray, List.set_cons_zero, List.set_cons_succ, i64_w, i32_w]; rfl)
                            refine pure_ (i := 11) (N := some 91) (v := ?_) (a' := ?_) (bv 32 4063) rfl rfl (any_of HT_.out (by kernel_rfl)) (fun _ _ _ h => h) (Or.inl ⟨by rfl, ?_⟩) ?_ ?_; rotate_left; (intro w'; go_simp; with_reducible rfl); rotate_left; (simp only [Act.put, List.setIfInBounds_toArray, List.set_cons_zero, List.set_cons_succ, i64_w, i32_w]; rfl)
                            refine pure_ (i := 13) (N := some 93) (v := ?_) (a' := ?_) (bv 32 12255) rfl rfl (any_of HT_.out (by kernel_rfl)) (fun _ _ _ h => h) (Or.inl ⟨by rfl, ?_⟩) ?_ ?_; rotate_left; (intro w'; go_simp; with_reducible rfl); rotate_left; (simp only [Act.put, List.setIfInBounds_toArray, List.set_cons_zero, List.set_cons_succ, i64_w, i32_w]; rfl)
                            refine pure_ (i := 14) (N := some 94) (v := ?_) (a' := ?_) (bv 32 28639) rfl rfl (any_of HT_.out (by kernel_rfl)) (fun _ _ _ h => h) (Or.inl ⟨by rfl, ?_⟩) ?_ ?_; rotate_left; (intro w'; go_simp; with_reducible rfl); rotate_left; (simp only [Act.put, List.setIfInBounds_toArray, List.set_cons_zero, List.set_cons_succ, i64_w, i32_w]; rfl)
                            refine pure_ (i := 15) (N := some 95) (v := ?_) (a' := ?_) (bv 32 61407) rfl rfl (any_of HT_.out (by kernel_rfl)) (fun _ _ _ h => h) (Or.inl ⟨by rfl, ?_⟩) ?_ ?_; rotate_left; (intro w'; go_simp; with_reducible rfl); rotate_left; (simp only [Act.put, List.setIfInBounds_toArray, List.set_cons_zero, List.set_cons_succ, i64_w, i32_w]; rfl)
                            refine pure_ (i := 16) (N := some 96) (v := ?_) (a' := ?_) (bv 32 126943) rfl rfl (any_of HT_.out (by kernel_rfl)) (fun _ _ _ h => h) (Or.inl ⟨by rfl, ?_⟩) ?_ ?_; rotate_left; (intro w'; go_simp; with_reducible rfl); rotate_left; (simp only [Act.put, List.setIfInBounds_toArray, List.set_cons_zero, List.set_cons_succ, i64_w, i32_w]; rfl)
                            refine pure_ (i := 17) (N := some 97) (v := ?_) (a' := ?_) (bv 32 258015) rfl rfl (any_of HT_.out (by kernel_rfl)) (fun _ _ _ h => h) (Or.inl ⟨by rfl, ?_⟩) ?_ ?_; rotate_left; (intro w'; go_simp; with_reducible rfl); rotate_left; (simp only [Act.put, List.setIfInBounds_toArray, List.set_cons_zero, List.set_cons_succ, i64_w, i32_w]; rfl)
                            refine pure_ (i := 18) (N := some 98) (v := ?_) (a' := ?_) (bv 32 520159) rfl rfl (any_of HT_.out (by kernel_rfl)) (fun _ _ _ h => h) (Or.inl ⟨by rfl, ?_⟩) ?_ ?_; rotate_left; (intro w'; go_simp; with_reducible rfl); rotate_left; (simp only [Act.put, List.setIfInBounds_toArray, List.set_cons_zero, List.set_cons_succ, i64_w, i32_w]; rfl)
                            refine pure_ (i := 20) (N := some 100) (v := ?_) (a' := ?_) (bv 32 1568735) rfl rfl (any_of HT_.out (by kernel_rfl)) (fun _ _ _ h => h) (Or.inl ⟨by rfl, ?_⟩) ?_ ?_; rotate_left; (intro w'; go_simp; with_reducible rfl); rotate_left; (simp only [Act.put, List.setIfInBounds_toArray, List.set_cons_zero, List.set_cons_succ, i64_w, i32_w]; rfl)
                            refine pure_ (i := 21) (N := some 101) (v := ?_) (a' := ?_) (bv 32 3665887) rfl rfl (any_of HT_.out (by kernel_rfl)) (fun _ _ _ h => h) (Or.inl ⟨by rfl, ?_⟩) ?_ ?_; rotate_left; (intro w'; go_simp; with_reducible rfl); rotate_left; (simp only [Act.put, List.setIfInBounds_toArray, List.set_cons_zero, List.set_cons_succ, i64_w, i32_w]; rfl)
                            refine pure_ (i := 22) (N := some 102) (v := ?_) (a' := ?_) (bv 32 7860191) rfl rfl (any_of HT_.out (by kernel_rfl)) (fun _ _ _ h => h) (Or.inl ⟨by rfl, ?_⟩) ?_ ?_; rotate_left; (intro w'; go_simp; with_reducible rfl); rotate_left; (simp only [Act.put, List.setIfInBounds_toArray, List.set_cons_zero, List.set_cons_succ, i64_w, i32_w]; rfl)
                            refine pure_ (i := 23) (N := some 103) (v := ?_) (a' := ?_) (bv 32 16248799) rfl rfl (any_of HT_.out (by kernel_rfl)) (fun _ _ _ h => h) (Or.inl ⟨by rfl, ?_⟩) ?_ ?_; rotate_left; (intro w'; go_simp; with_reducible rfl); rotate_left; (simp only [Act.put, List.setIfInBounds_toArray, List.set_cons_zero, List.set_cons_succ, i64_w, i32_w]; rfl)
                            refine pure_ (i := 25) (N := some 105) (v := ?_) (a' := ?_) (bv 32 49803231) rfl rfl (any_of HT_.out (by kernel_rfl)) (fun _ _ _ h => h) (Or.inl ⟨by rfl, ?_⟩) ?_ ?_; rotate_left; (intro w'; go_simp; with_reducible rfl); rotate_left; (simp only [Act.put, List.setIfInBounds_toArray, List.set_cons_zero, List.set_cons_succ, i64_w, i32_w]; rfl)
                            refine pure_ (i := 26) (N := some 106) (v := ?_) (a' := ?_) (bv 32 116912095) rfl rfl (any_of HT_.out (by kernel_rfl)) (fun _ _ _ h => h) (Or.inl ⟨by rfl, ?_⟩) ?_ ?_; rotate_left; (intro w'; go_simp; with_reducible rfl); rotate_left; (simp only [Act.put, List.setIfInBounds_toArray, List.set_cons_zero, List.set_cons_succ, i64_w, i32_w]; rfl)
                            refine pure_ (i := 27) (N := some 107) (v := ?_) (a' := ?_) (bv 32 251129823) rfl rfl (any_of HT_.out (by kernel_rfl)) (fun _ _ _ h => h) (Or.inl ⟨by rfl, ?_⟩) ?_ ?_; rotate_left; (intro w'; go_simp; with_reducible rfl); rotate_left; (simp only [Act.put, List.setIfInBounds_toArray, List.set_cons_zero, List.set_cons_succ, i64_w, i32_w]; rfl)
                            refine pure_ (i := 28) (N := some 108) (v := ?_) (a' := ?_) (bv 32 519565279) rfl rfl (any_of HT_.out (by kernel_rfl)) (fun _ _ _ h => h) (Or.inl ⟨by rfl, ?_⟩) ?_ ?_; rotate_left; (intro w'; go_simp; with_reducible rfl); rotate_left; (simp only [Act.put, List.setIfInBounds_toArray, List.set_cons_zero, List.set_cons_succ, i64_w, i32_w]; rfl)
                            refine take_ (i := 5) (N := some 85) (v := ?_) (a' := ?_) (bv 32 519565311) rfl rfl (take_ofW HT_.out HW_.out (by kernel_rfl)) (fun _ _ _ h => h) (Or.inl ⟨by rfl, ?_⟩) hHeld ?_ ?_; rotate_left; (rintro w' ⟨s0, s1, s2, s3, s4⟩; go_simp; with_reducible rfl); rotate_left; (simp only [Act.put, List.setIfInBounds_toArray, List.set_cons_zero, List.set_cons_succ, i64_w, i32_w]; rfl)
                            refine take_ (i := 12) (N := some 92) (v := ?_) (a' := ?_) (bv 32 519569407) rfl rfl (take_ofW HT_.out HW_.out (by kernel_rfl)) (fun _ _ _ h => h) (Or.inl ⟨by rfl, ?_⟩) hHeld ?_ ?_; rotate_left; (rintro w' ⟨s0, s1, s2, s3, s4⟩; go_simp; with_reducible rfl); rotate_left; (simp only [Act.put, List.setIfInBounds_toArray, List.set_cons_zero, List.set_cons_succ, i64_w, i32_w]; rfl)
                            refine take_ (i := 19) (N := some 99) (v := ?_) (a' := ?_) (bv 32 520093695) rfl rfl (take_ofW HT_.out HW_.out (by kernel_rfl)) (fun _ _ _ h => h) (Or.inl ⟨by rfl, ?_⟩) hHeld ?_ ?_; rotate_left; (rintro w' ⟨s0, s1, s2, s3, s4⟩; go_simp; with_reducible rfl); rotate_left; (simp only [Act.put, List.setIfInBounds_toArray, List.set_cons_zero, List.set_cons_succ, i64_w, i32_w]; rfl)
                            refine take_ (i := 24) (N := some 104) (v := ?_) (a' := ?_) (bv 32 536870911) rfl rfl (take_ofW HT_.out HW_.out (by kernel_rfl)) (fun _ _ _ h => h) (Or.inl ⟨by rfl, ?_⟩) hHeld ?_ ?_; rotate_left; (rintro w' ⟨s0, s1, s2, s3, s4⟩; go_simp; with_reducible rfl); rotate_left; (simp only [Act.put, List.setIfInBounds_toArray, List.set_cons_zero, List.set_cons_succ, i64_w, i32_w]; rfl)
                            refine take_ (i := 29) (N := some 109) (v := ?_) (a' := ?_) (bv 32 1073741823) rfl rfl (take_ofW HT_.out HW_.out (by kernel_rfl)) (fun _ _ _ h => h) (Or.inl ⟨by rfl, ?_⟩) hHeld ?_ ?_; rotate_left; (rintro w' ⟨s0, s1, s2, s3, s4⟩; go_simp; with_reducible rfl); rotate_left; (simp only [Act.put, List.setIfInBounds_toArray, List.set_cons_zero, List.set_cons_succ, i64_w, i32_w]; rfl)
                            refine one_ (i := 30) (N := some 110) (bv 32 2147483647) rfl rfl (one_of HT_.out (by kernel_rfl)) (by decide) (fun K hK => ?_)
                            refine goes_ Try.func110 (by kernel_rfl) rfl #[.int .u32 (rd x13_1 (ji52)), .int .u32 (rd x13_1 (ji55)), .int .u32 (rd x13_1 (ji58)), .int .u32 (rd x14_1 (ji29)), .int .u32 (rd x14_1 (ji64))] (by rfl) rfl rfl (by (try simp only [List.map_toArray, List.map_cons, List.map_nil]); first | done | (simp only [hji52, hji55, hji58, hji61, hji64]; rfl) | rfl | (simp only [List.length_drop, List.length_take]; rfl)) ?_
                            with_reducible refine (nat_guess.calls k1 (rd x13_1 (ji52)) (rd x13_1 (ji55)) (rd x13_1 (ji58)) (rd x14_1 (ji29)) (rd x14_1 (ji64)) t223 _ A67.out).mono ?_
                            rintro e w' ⟨rfl, ⟨nd, rfl⟩⟩
                            refine ⟨_, rfl, ?_⟩
                            refine hK.out _ _ ⟨hHeld.1, hHeld.2.1, hHeld.2.2.1, hHeld.2.2.2.1, hHeld.2.2.2.2⟩ (fun hHeld => ?_)
                            clear hK K
                            refine norm_ (a' := ?_) ?_ ?_
                            rotate_left
                            ·show Act.put _ (some 110) _ = _
                             simp only [Act.put, List.setIfInBounds_toArray, List.set_cons_zero, List.set_cons_succ, i64_w, i32_w]
                             rfl
                            refine pure_ (i := 31) (N := some 17) (v := ?_) (a' := ?_) (bv 32 4294967295) rfl rfl (any_of HT_.out (by kernel_rfl)) (fun _ _ _ h => h) (Or.inl ⟨by rfl, ?_⟩) ?_ ?_; rotate_left; (intro w'; go_simp; with_reducible rfl); rotate_left; (simp only [Act.put, List.setIfInBounds_toArray, List.set_cons_zero, List.set_cons_succ, i64_w, i32_w]; rfl)
                            refine done_ (done_of HT_.out (by kernel_rfl)) ?_
                            have q91 : ((wrap64 ((ji52) + 1)) : Int) ≤ ((x13_1.length : Int) : Int) := of_decide_eq_true (by first | (with_reducible assumption) | assumption)
                            obtain ⟨i091, hi091, _, hsz91, _⟩ := info_parts info87
                            have hroom91 : x13_1.length ≤ co90 := (Kd.R_reads' HO_13.out).2.1
                            have hC91 : Kd.C (Kd.int .u32) _ (some ad218) x13_1.length x13_1 := (Kd.R_reads' HO_13.out).2.2
                            have ql91 : (x16_1 : Int) ≤ ((wrap64 ((ji52) + 1)) : Int) := of_decide_eq_true (by first | (with_reducible assumption) | assumption)
                            have q091 : (0 : Int) ≤ (x16_1 : Int) := of_decide_eq_true (by first | (with_reducible assumption) | assumption)
                            have hcut91 := cut_mid (P := Try.prog) 25 87 .i64 .i64 Try.underlying25 hi091 1 hsz91 (some ad218) x13_1.length co90 x16_1 (wrap64 ((ji52) + 1)) q091 ql91 q91 hroom91
                            have hr91 := Kd.C_mid (lo := (x16_1 : Int).toNat) (hi := ((wrap64 ((ji52) + 1)) : Int).toNat) (c := co90) hC91 (by omega) (by omega) hroom91
                            obtain ⟨A91, hA91⟩ : ∃ A1, A1 = (if co90 = (x16_1 : Int).toNat then (some ad218) else ((some ad218) : Option Addr).map (·.add ((x16_1 : Int).toNat * 1))) := ⟨_, rfl⟩
                            obtain ⟨c91, hc91⟩ : ∃ c1, c1 = co90 - (x16_1 : Int).toNat := ⟨_, rfl⟩
                            have hy91 : y224.length = ((wrap64 ((ji52) + 1)) : Int).toNat - (x16_1 : Int).toNat := (by rw [Ny224.out, List.length_drop, List.length_take] <;> omega)
                            rw [show ((x13_1).take ((wrap64 ((ji52) + 1)) : Int).toNat).drop (x16_1 : Int).toNat = y224 from Ny224.out.symm] at hr91
                            replace hr91 : Kd.C (Kd.int .u32) _ A91 y224.length y224 := (by rw [hA91]; exact hr91)
                            rw [← hy91, ← hA91, ← hc91] at hcut91
                            have HR227 := mk0 hr91
                            have HC227 := mk0 (show y224.length ≤ c91 from by rw [hy91, hc91]; exact Nat.sub_le_sub_right (Nat.le_trans (by omega) hroom91) _)
                            clear hr91 hC91 hroom91 hi091 hsz91 hc91
                            have KY91 := mk0 hy91
                            have KA91 := mk0 hA91
                            clear hy91 hA91
                            have KL91 := mk0 (show ((wrap64 ((ji52) + 1)) : Int).toNat ≤ x13_1.length from by omega)
                            have KM91 := mk0 (show (x16_1 : Int).toNat ≤ ((wrap64 ((ji52) + 1)) : Int).toNat from by omega)
                            replace q91 := eq_true q91
                            try go_wp2_with (first | ((with_reducible refine gate_callee (f := 111) rfl ?_); refine goesL_ (some 120) rfl rfl Try.func111 (by kernel_rfl) rfl #[.slice A91 y224.length c91, .slice (some ad221) x14_1.length co47, .int .u64 t223] rfl (by (try simp only [List.map_toArray, List.map_cons, List.map_nil]); first | done | rfl | (simp only [List.length_drop, List.length_take]; rfl)) ?_; (with_reducible refine (nat_subtract.calls k1 (fun k_ => some k_ = (.slice (some ad218) x13_1.length co90 : Value).ownBlock) (.slice (some ad218) x13_1.length co90) x13_1 x16_1 (wrap64 ((ji52) + 1)) A91 _ c91 _ _ x14_1 t223 false t229 w _ ?side1 ?side2 ?side3 ?side4 ?side5 ?side6 A71.out).mono ?_); (case side1 => repeat (first | (with_reducible first | exact HB.out | apply below_alloc | apply pw_below_drewN | apply below_drew1) | exact HB.out)); (case side2 => exact Kd.R_tight rfl HO_13.out); (case side3 => intro _ _ _ e_; cases e_; exact KA91.out); (case side4 => exact KY91.out); (case side5 => exact Kd.C_kept_own (HO_14.out) (fun k_ hk_ hs_ => (hk_.2.1) hs_)); (case side6 => exact (Kd.R_reads' HO_14.out).2.1); rintro e w92 ⟨rfl, hy0, hb, hkp⟩; refine ⟨_, rfl, ?_⟩; replace HO_13 := mk0 (Kd.R_reok rfl hy0 (fun k_ e_ => HO_13.out.1 k_ e_)); replace HO_14 := mk0 (Kd.R_mono (ok' := fun k_ => (w.heap.size ≤ k_) ∧ some k_ ≠ (.slice (some ad218) x13_1.length co90 : Value).ownBlock ∧ some k_ ≠ (v206 : Value).ownBlock) (Kd.R_keptB (HO_14.out) hkp (fun k_ hk_ hs_ => (hk_.2.1) hs_)) (fun k_ hk_ => ⟨hk_.1.1, hk_.1.2.1, hk_.1.2.2⟩)); replace HO_15 := mk0 (Kd.R_mono (ok' := fun k_ => (w.heap.size ≤ k_) ∧ some k_ ≠ (.slice (some ad218) x13_1.length co90 : Value).ownBlock ∧ some k_ ≠ (.slice (some ad221) x14_1.length co47 : Value).ownBlock) (Kd.R_keptB (HO_15.out) hkp (fun k_ hk_ hs_ => (hk_.2.1) hs_)) (fun k_ hk_ => ⟨hk_.1.1, hk_.1.2.1, hk_.1.2.2⟩)); replace HB := mk0 (hb); (try clear hb); (try clear hkp); (try clear hy0); have p88 : 0 ≤ (x16_1 : Int) := of_decide_eq_true (by first | (with_reducible assumption) | assumption); have q88 : (x16_1 : Int) < ((x15_1.length : Int) : Int) := of_decide_eq_true (by first | (with_reducible assumption) | assumption); obtain ⟨go88, co88, eo88, gb88, gl88, cl88, HG88⟩ := Kd.R_form HO_15.out (by omega); (first | cases eo88 | (injection eo88 with ea_ en_ ec_; (first | subst ea_ | (injection ea_ with ea_; subst ea_)); subst ec_; clear en_)); have GB88 := mk0 gb88; have GG88 := mk0 HG88; clear gb88 gl88 HG88; obtain ⟨hx88_0, hf88_0⟩ := Kd.R_celln 0 HO_15.out (x16_1 : Int) p88 q88; replace p88 := eq_true p88; replace q88 := eq_true q88; obtain ⟨hy93_, hz93_⟩ := Kd.R_celln 0 HO_15.out (x16_1 : Int) (of_decide_eq_true (by first | (with_reducible assumption) | assumption)) (of_decide_eq_true (by first | (with_reducible assumption) | assumption)); have HP93 := Kd.R_putg HO_15.out (x16_1 : Int) ((t223) % 4294967296)) | ((with_reducible refine gate_store (t := 87) (p := 136) rfl ?_); refine store_event (t := 87) (p := 136) (v := ?vo_w94) (w1 := (w92.setCell ⟨go88, (x16_1 : Int).toNat, none⟩ (.int .u32 ((t223) % 4294967296)))) ?hg ?ho ?hn ?hr ?_; (case ho => rfl); (case hg => rfl); (case hn => rfl); (case hr => first | (go_simp; done) | (go_simp; rfl)); intro w94 hw; have hg : w92.grownBy w94 (some go88) := (by rw [hw]; exact HP93.2); have hp_ : Kd.R (Kd.int .u32) 87 w94 w.heap.size (fun k_ => (w.heap.size ≤ k_) ∧ some k_ ≠ (.slice (some ad218) x13_1.length co90 : Value).ownBlock ∧ some k_ ≠ (.slice (some ad221) x14_1.length co47 : Value).ownBlock) (.slice (some ⟨go88, 0, none⟩) x15_1.length co88) y236 := (by rw [hw, Ny236.out]; exact HP93.1); clear HP93; replace HO_13 := mk0 (Kd.R_after (v := (.slice (some ⟨go88, 0, none⟩) x15_1.length co88)) (v1 := (.slice (some ⟨go88, 0, none⟩) x15_1.length co88)) (ok := (fun k_ => (w.heap.size ≤ k_) ∧ some k_ ≠ (.slice (some ad221) x14_1.length co47 : Value).ownBlock)) (by (with_reducible repeat (first | apply Kd.R_alloc | apply Kd.R_drewN | apply Kd.R_drew)); exact Kd.R_mono HO_13.out (fun _ hk => ⟨⟨hk.1, hk.2.1⟩, hk.2.2⟩)) hg (.inl rfl)); replace HO_14 := mk0 (Kd.R_after (v := (.slice (some ⟨go88, 0, none⟩) x15_1.length co88)) (v1 := (.slice (some ⟨go88, 0, none⟩) x15_1.length co88)) (ok := (fun k_ => (w.heap.size ≤ k_) ∧ some k_ ≠ (.slice (some ad218) x13_1.length co90 : Value).ownBlock)) (by (with_reducible repeat (first | apply Kd.R_alloc | apply Kd.R_drewN | apply Kd.R_drew)); exact Kd.R_mono HO_14.out (fun _ hk => ⟨⟨hk.1, hk.2.1⟩, hk.2.2⟩)) hg (.inl rfl)); replace HO_15 := mk0 (hp_); replace HB := mk0 ((by rw [hw]; exact below_set (HB.out) GB88.out : Below w.heap.size w w94)); clear hg hw hp_))
                            (try simp only [← hl14_1])
                            go_roundg k1
                            case measure => have := HK1.out; omega
                            case rel => exact ⟨(t229), (x14_1), (y236), (wrap64 (x16_1 - 1)), (by first | rfl | (simp; done) | (simp [*]; done)), H', ⟨by have := HK1.out; omega⟩, ⟨by (try simp only [hl14_1]); (with_reducible repeat (first | apply Kd.R_alloc | apply Kd.R_drewN | apply Kd.R_drew)); exact Kd.R_mono HO_13.out (fun _ hk => ⟨hk.1.1, ⟨hk.1.2, hk.2⟩⟩)⟩, ⟨by (try simp only [hl14_1]); (with_reducible repeat (first | apply Kd.R_alloc | apply Kd.R_drewN | apply Kd.R_drew)); exact Kd.R_mono HO_14.out (fun _ hk => ⟨hk.1.1, ⟨hk.1.2, hk.2⟩⟩)⟩, ⟨by (try simp only [hl14_1]); (with_reducible repeat (first | apply Kd.R_alloc | apply Kd.R_drewN | apply Kd.R_drew)); exact HO_15.out⟩, ⟨by repeat (first | (with_reducible first | exact HB.out | apply below_alloc | apply pw_below_drewN | apply below_drew1) | exact HB.out)⟩⟩
                           ·rw [if_neg c87] at H
                            exact absurd H (by simp)
                         ·rw [if_neg c70] at H
                          exact absurd H (by simp)
                        ·rw [if_neg c69] at H
                         exact absurd H (by simp)
                       ·rw [if_neg c68] at H
                        exact absurd H (by simp)
                      ·rw [if_neg c66] at H
                       exact absurd H (by simp)
                     ·rw [if_neg c65] at H
                      exact absurd H (by simp)
                    ·rw [if_neg c63] at H
                     exact absurd H (by simp)
                   ·rw [if_neg c62] at H
                    exact absurd H (by simp)
                  ·rw [if_neg c60] at H
                   exact absurd H (by simp)
                 ·rw [if_neg c59] at H
                  exact absurd H (by simp)
                ·rw [if_neg c57] at H
                 exact absurd H (by simp)
               ·rw [if_neg c56] at H
                exact absurd H (by simp)
              ·rw [if_neg c54] at H
               exact absurd H (by simp)
             ·rw [if_neg c53] at H
              exact absurd H (by simp)
            ·rw [if_neg c51] at H
             have c51b0 : decide (0 ≤ x16_1) = false := decide_eq_false c51
             clear c51
             obtain ⟨t208, A95, H⟩ := bindA H
             by_cases c96 : 0 ≤ (t179.length : Int)
             ·rw [if_pos c96] at H
              have c96b0 := eq_true c96
              have c96b1 : decide (0 ≤ (t179.length : Int)) = true := decide_eq_true c96
              clear c96
              by_cases c97 : (t179.length : Int) ≤ (x13_1.length : Int)
              ·rw [if_pos c97] at H
               have c97b0 := eq_true c97
               have c97b1 : decide ((t179.length : Int) ≤ (x13_1.length : Int)) = true := decide_eq_true c97
               clear c97
               obtain ⟨y211, hy211⟩ : ∃ y_ : List Int, y_ = (x13_1.take ((t179.length : Int) : Int).toNat) := ⟨_, rfl⟩
               replace H : ((nat_shiftDown.f k1 y211 (IntKind.u64.wrap (t195))).bind fun t215 => (some (t208, t215, true))) = some (r1, r2, r3) := by first | (rw [hy211]; with_reducible exact H) | (have H2_ := (Option.bind_some _ _).symm.trans H; rw [hy211]; with_reducible exact H2_) | (have H2_ := (Option.bind_some _ _).symm.trans H; with_reducible exact H2_) | with_reducible exact H | (rw [hy211]; exact H) | exact H
               have Ny211 := mk0 hy211
               clear hy211
               obtain ⟨t215, A98, H⟩ := bindA H
               simp only [Option.some.injEq, Prod.mk.injEq] at H
               obtain ⟨rfl, rfl, rfl⟩ := H
               try go_wp2
               replace HO_13 := mk0 (Kd.R_drew HO_13.out)
               replace HO_14 := mk0 (Kd.R_drew HO_14.out)
               replace HO_15 := mk0 (Kd.R_drew HO_15.out)
               replace HB := mk0 (below_drew1 HB.out)
               obtain ⟨Ao101, co101, eo101⟩ := Kd.R_slice HO_13.out
               (first | subst eo101 | (injection eo101 with f1_ f2_ f3_; have f4_ := f1_.symm; have f5_ := f3_.symm; clear f1_ f2_ f3_; subst f4_; subst f5_))
               have q100 : ((t179.length : Int) : Int) ≤ ((x13_1.length : Int) : Int) := of_decide_eq_true (by first | (with_reducible assumption) | assumption)
               obtain ⟨i0100, hi0100, _, hsz100, _⟩ := info_parts info87
               have hroom100 : x13_1.length ≤ co101 := (Kd.R_reads' HO_13.out).2.1
               have hC100 : Kd.C (Kd.int .u32) _ Ao101 x13_1.length x13_1 := (Kd.R_reads' HO_13.out).2.2
               have hcut100 := cut_to (P := Try.prog) 25 87 .i64 Try.underlying25 hi0100 Ao101 x13_1.length co101 (t179.length : Int) (of_decide_eq_true (by first | (with_reducible assumption) | assumption)) q100 hroom100
               have hr100 := Kd.C_take (m := ((t179.length : Int) : Int).toNat) hC100 (by omega)
               have hy100 : y211.length = ((t179.length : Int) : Int).toNat := (by rw [Ny211.out, List.length_take]; omega)
               rw [← Ny211.out] at hr100
               rw [← hy100] at hcut100
               have HR214 := mk0 hr100
               have HC214 := mk0 (show y211.length ≤ co101 from by omega)
               clear hr100 hC100 hroom100 hi0100 hsz100
               have KY100 := mk0 hy100
               clear hy100
               have KL100 := mk0 (show ((t179.length : Int) : Int).toNat ≤ x13_1.length from by omega)
               replace q100 := eq_true q100
               obtain ⟨Ao102, co102, eo102⟩ := Kd.R_slice HO_15.out
               (first | subst eo102 | (injection eo102 with f1_ f2_ f3_; have f4_ := f1_.symm; have f5_ := f3_.symm; clear f1_ f2_ f3_; subst f4_; subst f5_))
               refine start_ (n := 10) (S := fun w' => True) (ds := []) (bv 10 0) (by kernel_rfl) rfl rfl trivial (fun hHeld => ?_); refine with_tabW nat_DivMod.tab22 nat_DivMod.bits22 (fun HT_ HW_ => ?_)
               generalize wr.drew = w99 at HO_13 HO_14 HO_15 HB HR214 hHeld ⊢
               refine pure_ (i := 0) (N := some 137) (v := ?_) (a' := ?_) (bv 10 1) rfl rfl (any_of HT_.out (by kernel_rfl)) (fun _ _ _ h => h) (Or.inl ⟨by rfl, ?_⟩) ?_ ?_; rotate_left; (intro w'; go_simp; with_reducible rfl); rotate_left; (simp only [Act.put, List.setIfInBounds_toArray, List.set_cons_zero, List.set_cons_succ, i64_w, i32_w]; rfl)
               refine pure_ (i := 2) (N := some 139) (v := ?_) (a' := ?_) (bv 10 5) rfl rfl (any_of HT_.out (by kernel_rfl)) (fun _ _ _ h => h) (Or.inl ⟨by rfl, ?_⟩) ?_ ?_; rotate_left; (intro w'; go_simp; with_reducible rfl); rotate_left; (simp only [Act.put, List.setIfInBounds_toArray, List.set_cons_zero, List.set_cons_succ, i64_w, i32_w]; rfl)
               refine pure_ (i := 3) (N := some 140) (v := ?_) (a' := ?_) (bv 10 13) rfl rfl (any_of HT_.out (by kernel_rfl)) (fun _ _ _ h => h) (Or.inl ⟨by rfl, ?_⟩) ?_ ?_; rotate_left; (intro w'; go_simp; with_reducible rfl); rotate_left; (simp only [Act.put, List.setIfInBounds_toArray, List.set_cons_zero, List.set_cons_succ, i64_w, i32_w]; rfl)
               refine pure_ (i := 4) (N := some 141) (v := ?_) (a' := ?_) (bv 10 29) rfl rfl (any_of HT_.out (by kernel_rfl)) (fun _ _ _ h => h) (Or.inl ⟨by rfl, ?_⟩) ?_ ?_; rotate_left; (intro w'; go_simp; with_reducible rfl); rotate_left; (simp only [Act.put, List.setIfInBounds_toArray, List.set_cons_zero, List.set_cons_succ, i64_w, i32_w]; rfl)
               refine pure_ (i := 5) (N := some 142) (v := ?_) (a' := ?_) (bv 10 61) rfl rfl (any_of HT_.out (by kernel_rfl)) (fun _ _ _ h => h) (Or.inl ⟨by rfl, ?_⟩) ?_ ?_; rotate_left; (intro w'; go_simp; with_reducible rfl); rotate_left; (simp only [Act.put, List.setIfInBounds_toArray, List.set_cons_zero, List.set_cons_succ, i64_w, i32_w]; rfl)
               refine one_ (i := 1) (N := some 138) (bv 10 63) rfl rfl (one_of HT_.out (by kernel_rfl)) (by decide) (fun K hK => ?_)
               refine goes_ Try.func81 (by kernel_rfl) rfl #[.slice Ao102 x15_1.length co102] (by rfl) rfl rfl (by (try simp only [List.map_toArray, List.map_cons, List.map_nil]); first | done | rfl | (simp only [List.length_drop, List.length_take]; rfl)) ?_
               with_reducible refine (nat_trim.calls k1 (fun k_ => some k_ = (.slice Ao102 x15_1.length co102 : Value).ownBlock) _ _ x15_1 t208 _ ?side1 A95.out).mono ?_
               (case side1 => exact Kd.R_V (Kd.R_tight rfl (HO_15.out)))
               rintro e w103 ⟨v209, rfl, ho0, hb⟩
               refine ⟨_, rfl, ?_⟩
               have HO210 := mk0 (Kd.V_lower (Kd.V_mono (ok' := fun k_ => ((P0_ k_ ∨ P1_ k_) ∨ w.heap.size ≤ k_) ∧ some k_ ≠ (.slice Ao101 x13_1.length co101 : Value).ownBlock ∧ some k_ ≠ (.slice Ao47 x14_1.length co47 : Value).ownBlock) ho0 (fun k_ hk_ => ⟨Or.elim hk_ (fun hs_ => (.inr (((HO_15.out).1 k_ hs_.symm).1))) (fun hn_ => (.inr (Nat.le_trans (below_size (by repeat (first | (with_reducible first | exact HB.out | apply below_alloc | apply pw_below_drewN | apply below_drew1) | exact HB.out))) hn_))), Or.elim hk_ (fun hs_ => ((HO_15.out).1 k_ hs_.symm).2.1) (fun hn_ => (Kd.fresh' (Kd.R_lt (by (with_reducible repeat (first | apply Kd.R_alloc | apply Kd.R_drewN | apply Kd.R_drew)); exact HO_13.out)) k_ hn_)), Or.elim hk_ (fun hs_ => ((HO_15.out).1 k_ hs_.symm).2.2) (fun hn_ => (Kd.fresh' (Kd.R_lt (by (with_reducible repeat (first | apply Kd.R_alloc | apply Kd.R_drewN | apply Kd.R_drew)); exact HO_14.out)) k_ hn_))⟩)) (below_size (by repeat (first | (with_reducible first | exact HB.out | apply below_alloc | apply pw_below_drewN | apply below_drew1) | exact HB.out))))
               replace HO_13 := mk0 (Kd.R_below (by (with_reducible repeat (first | apply Kd.R_alloc | apply Kd.R_drewN | apply Kd.R_drew)); exact HO_13.out) hb)
               replace HO_14 := mk0 (Kd.R_below (by (with_reducible repeat (first | apply Kd.R_alloc | apply Kd.R_drewN | apply Kd.R_drew)); exact HO_14.out) hb)
               replace HO_15 := mk0 (Kd.R_below (by (with_reducible repeat (first | apply Kd.R_alloc | apply Kd.R_drewN | apply Kd.R_drew)); exact HO_15.out) hb)
               replace HR214 := mk0 (Kd.C_below (by repeat (first | (with_reducible exact HR214.out) | (with_reducible refine Kd.C_alloc ?_ _) | (with_reducible refine Kd.C_drewN ?_ _) | (with_reducible refine Kd.C_drew ?_) | exact HR214.out)) hb)
               replace HB := mk0 (below_step (by repeat (first | (with_reducible first | exact HB.out | apply below_alloc | apply pw_below_drewN | apply below_drew1) | exact HB.out)) hb)
               (try clear hb)
               (try clear hb2)
               (try clear hk)
               (try clear hi)
               (try clear ho0)
               refine hK.out _ _ trivial (fun hHeld => ?_)
               clear hK K
               refine norm_ (a' := ?_) ?_ ?_
               rotate_left
               ·show Act.put _ (some 138) _ = _
                simp only [Act.put, List.setIfInBounds_toArray, List.set_cons_zero, List.set_cons_succ, i64_w, i32_w]
                rfl
               refine one_ (i := 6) (N := some 143) (bv 10 127) rfl rfl (one_of HT_.out (by kernel_rfl)) (by decide) (fun K hK => ?_)
               refine goes_ Try.func113 (by kernel_rfl) rfl #[.slice Ao101 y211.length co101, .int .u64 (IntKind.u64.wrap (t195))] (by rfl) rfl rfl (by (try simp only [List.map_toArray, List.map_cons, List.map_nil]); first | done | rfl | (simp only [List.length_drop, List.length_take]; rfl)) ?_
               with_reducible refine (nat_shiftDown.calls k1 _ _ y211 (IntKind.u64.wrap (t195)) t215 _ ?side1 ?side2 A98.out).mono ?_
               (case side1 => repeat (first | exact (by repeat (first | (with_reducible exact HR214.out) | (with_reducible refine Kd.C_alloc ?_ _) | (with_reducible refine Kd.C_drewN ?_ _) | (with_reducible refine Kd.C_drew ?_) | exact HR214.out)) | (with_reducible refine Kd.C_alloc ?_ _) | (with_reducible refine Kd.C_drewN ?_ _) | (with_reducible refine Kd.C_drew ?_)))
               (case side2 => exact HC214.out)
               rintro e w104 ⟨v216, rfl, ho0, hb⟩
               refine ⟨_, rfl, ?_⟩
               replace HO210 := mk0 (Kd.V_below (by (with_reducible repeat (first | apply Kd.V_alloc | apply Kd.V_drewN | apply Kd.V_drew)); exact HO210.out) hb)
               have HO217 := mk0 (Kd.V_lower (Kd.V_mono (ok' := fun k_ => ((P0_ k_ ∨ P1_ k_) ∨ w.heap.size ≤ k_) ∧ some k_ ≠ (.slice Ao101 x13_1.length co101 : Value).ownBlock ∧ some k_ ≠ (.slice Ao47 x14_1.length co47 : Value).ownBlock ∧ some k_ ≠ (.slice Ao102 x15_1.length co102 : Value).ownBlock) ho0 (fun k_ hk_ => ⟨(.inr (Nat.le_trans (below_size (by repeat (first | (with_reducible first | exact HB.out | apply below_alloc | apply pw_below_drewN | apply below_drew1) | exact HB.out))) hk_)), (Kd.fresh' (Kd.R_lt (by (with_reducible repeat (first | apply Kd.R_alloc | apply Kd.R_drewN | apply Kd.R_drew)); exact HO_13.out)) k_ hk_), (Kd.fresh' (Kd.R_lt (by (with_reducible repeat (first | apply Kd.R_alloc | apply Kd.R_drewN | apply Kd.R_drew)); exact HO_14.out)) k_ hk_), (Kd.fresh' (Kd.R_lt (by (with_reducible repeat (first | apply Kd.R_alloc | apply Kd.R_drewN | apply Kd.R_drew)); exact HO_15.out)) k_ hk_)⟩)) (below_size (by repeat (first | (with_reducible first | exact HB.out | apply below_alloc | apply pw_below_drewN | apply below_drew1) | exact HB.out))))
               replace HO_13 := mk0 (Kd.R_below (by (with_reducible repeat (first | apply Kd.R_alloc | apply Kd.R_drewN | apply Kd.R_drew)); exact HO_13.out) hb)
               replace HO_14 := mk0 (Kd.R_below (by (with_reducible repeat (first | apply Kd.R_alloc | apply Kd.R_drewN | apply Kd.R_drew)); exact HO_14.out) hb)
               replace HO_15 := mk0 (Kd.R_below (by (with_reducible repeat (first | apply Kd.R_alloc | apply Kd.R_drewN | apply Kd.R_drew)); exact HO_15.out) hb)
               replace HR214 := mk0 (Kd.C_below (by repeat (first | (with_reducible exact HR214.out) | (with_reducible refine Kd.C_alloc ?_ _) | (with_reducible refine Kd.C_drewN ?_ _) | (with_reducible refine Kd.C_drew ?_) | exact HR214.out)) hb)
               replace HB := mk0 (below_step (by repeat (first | (with_reducible first | exact HB.out | apply below_alloc | apply pw_below_drewN | apply below_drew1) | exact HB.out)) hb)
               (try clear hb)
               (try clear hb2)
               (try clear hk)
               (try clear hi)
               (try clear ho0)
               refine hK.out _ _ trivial (fun hHeld => ?_)
               clear hK K
               refine norm_ (a' := ?_) ?_ ?_
               rotate_left
               ·show Act.put _ (some 143) _ = _
                simp only [Act.put, List.setIfInBounds_toArray, List.set_cons_zero, List.set_cons_succ, i64_w, i32_w]
                rfl
               refine pure_ (i := 7) (N := some 4) (v := ?_) (a' := ?_) (bv 10 255) rfl rfl (any_of HT_.out (by kernel_rfl)) (fun _ _ _ h => h) (Or.inl ⟨by rfl, ?_⟩) ?_ ?_; rotate_left; (intro w'; go_simp; with_reducible rfl); rotate_left; (simp only [Act.put, List.setIfInBounds_toArray, List.set_cons_zero, List.set_cons_succ, i64_w, i32_w]; rfl)
               refine pure_ (i := 8) (N := some 5) (v := ?_) (a' := ?_) (bv 10 511) rfl rfl (any_of HT_.out (by kernel_rfl)) (fun _ _ _ h => h) (Or.inl ⟨by rfl, ?_⟩) ?_ ?_; rotate_left; (intro w'; go_simp; with_reducible rfl); rotate_left; (simp only [Act.put, List.setIfInBounds_toArray, List.set_cons_zero, List.set_cons_succ, i64_w, i32_w]; rfl)
               refine pure_ (i := 9) (N := some 6) (v := ?_) (a' := ?_) (bv 10 1023) rfl rfl (any_of HT_.out (by kernel_rfl)) (fun _ _ _ h => h) (Or.inl ⟨by rfl, ?_⟩) ?_ ?_; rotate_left; (intro w'; go_simp; with_reducible rfl); rotate_left; (simp only [Act.put, List.setIfInBounds_toArray, List.set_cons_zero, List.set_cons_succ, i64_w, i32_w]; rfl)
               refine done_ (done_of HT_.out (by kernel_rfl)) ?_
               try go_wp2
               go_ret3
               exact ⟨_, _, by first | rfl | (simp [errW_none, errW_some] <;> rfl) | (simp only [← hji29, ← hji37]; first | rfl | (simp [errW_none, errW_some] <;> rfl)) | (simp [*, errW_none, errW_some] <;> rfl), by (with_reducible repeat (first | apply Kd.V_alloc | apply Kd.V_drewN | apply Kd.V_drew)); exact Kd.V_mono HO210.out (fun _ hk => hk.1), by (with_reducible repeat (first | apply Kd.V_alloc | apply Kd.V_drewN | apply Kd.V_drew)); exact Kd.V_mono HO217.out (fun _ hk => hk.1), by repeat (first | (with_reducible first | exact HB.out | apply below_alloc | apply pw_below_drewN | apply below_drew1) | exact HB.out)⟩
              ·rw [if_neg c97] at H
               exact absurd H (by simp)
             ·rw [if_neg c96] at H
              exact absurd H (by simp)
         ·rw [if_neg c39] at H
          exact absurd H (by simp)
        ·rw [if_neg c38] at H
         exact absurd H (by simp)
       ·rw [if_neg c36] at H
        exact absurd H (by simp)
      ·rw [if_neg c35] at H
       exact absurd H (by simp)
     ·rw [if_neg c31] at H
      exact absurd H (by simp)
    ·rw [if_neg c30] at H
     exact absurd H (by simp)
set_option maxHeartbeats 8000000 in
set_option maxRecDepth 100000 in
theorem nat_Gcd.calls (k : Nat) (A0 : Option Addr) (c0 : Nat) (l0 : List Int) (A1 : Option Addr) (c1 : Nat) (l1 : List Int) (r : List Int) (w : World) (hr0 : Kd.C (Kd.int .u32) w A0 l0.length l0) (hc0 : l0.length ≤ c0) (hr1 : Kd.C (Kd.int .u32) w A1 l1.length l1) (hc1 : l1.length ≤ c1) (h : nat_Gcd.f k l0 l1 = some r) :
  Calls Try.prog 79 #[.slice A0 l0.length c0, .slice A1 l1.length c1] w fun e w' => ∃ v0_ : Value, e = .returned (v0_) ∧ Kd.V (Kd.int .u32) 87 w' w.heap.size (fun k_ => (w.heap.size ≤ k_)) v0_ r ∧ Below w.heap.size w w' := by
 have HR0 := mk0 hr0
 have HC0 := mk0 hc0
 clear hr0 hc0
 have HR1 := mk0 hr1
 have HC1 := mk0 hc1
 clear hr1 hc1
 have HB := mk0 (Below.refl w.heap.size w)
 have H : ((nat_Norm.f k l0).bind fun t237 => ((nat_Norm.f k l1).bind fun t240 => (nat_Gcd.l0 k t237 t240))) = some r := h
 clear h
 obtain ⟨t237, A3, H⟩ := bindA H
 obtain ⟨t240, A4, H⟩ := bindA H
 have H' := mk0 H
 clear H
 go_enter Try.func79, Try.ntmps79
 go_wp2_with (first | ((with_reducible refine gate_callee (f := 106) rfl ?_); refine goesL_ (some 11) rfl rfl Try.func106 (by kernel_rfl) rfl #[.slice A0 l0.length c0] rfl (by first | (go_simp; done) | (go_simp; rfl)) ?_; (with_reducible refine (nat_Norm.calls k _ _ l0 t237 _ HR0.out HC0.out A3.out).mono ?_); rintro e w5 ⟨v238, rfl, ho0, hb⟩; refine ⟨_, rfl, ?_⟩; have HO239 := mk0 (Kd.R_lower (Kd.R_newM (M := fun k_ => (w.heap.size ≤ k_)) ho0 (below_size HB.out) (fun k_ h_ => h_)) (below_size HB.out)); replace HB := hbS HB hb) | ((with_reducible refine gate_callee (f := 106) rfl ?_); refine goesL_ (some 13) rfl rfl Try.func106 (by kernel_rfl) rfl #[.slice A1 l1.length c1] rfl (by first | (go_simp; done) | (go_simp; rfl)) ?_; (with_reducible refine (nat_Norm.calls k _ _ l1 t240 _ (by exact Kd.C_below HR1.out HB.out) HC1.out A4.out).mono ?_); rintro e w6 ⟨v241, rfl, ho0, hb⟩; refine ⟨_, rfl, ?_⟩; have HO242 := mk0 (Kd.R_lower (Kd.R_new' (Kd.R_newM (M := fun k_ => (w.heap.size ≤ k_)) ho0 (below_size HB.out) (fun k_ h_ => h_)) (Kd.R_lt HO239.out)) (below_size HB.out)); replace HO239 := mk0 (Kd.R_elder' HO239.out (Kd.R_base ho0) hb); replace HB := hbS HB hb))
 go_loopg [5, 6] k (fun kq v5 v6 w' => ∃ (x5_1 : List Int) (x6_1 : List Int), Aside0 (nat_Gcd.l0 kq x5_1 x6_1 = some r) ∧ Aside0 (kq ≤ k) ∧ Aside0 (Kd.V (Kd.int .u32) 87 w' w.heap.size (fun k_ => (w.heap.size ≤ k_)) v5 x5_1) ∧ Aside0 (Kd.V (Kd.int .u32) 87 w' w.heap.size (fun k_ => (w.heap.size ≤ k_)) v6 x6_1) ∧ Aside0 (Below w.heap.size w w'))
 case atStart => exact ⟨(t237), (t240), H', ⟨Nat.le_refl _⟩, ⟨Kd.R_V (Kd.R_mono HO239.out (fun _ hk => hk.1.1))⟩, ⟨Kd.R_V (Kd.R_mono HO242.out (fun _ hk => hk.1.1))⟩, ⟨HB.out⟩⟩
 case round =>
  clear H'
  try clear c1
  try clear p2
  obtain ⟨x5_1, x6_1, HA, HK1, HO_5, HO_6, HB⟩ := hrel
  cases gk with
  | zero => exact absurd HA.out (by simp [nat_Gcd.l0])
  | succ k1 =>
   have H := HA.out
   clear HA
   simp only [nat_Gcd.l0] at H
   by_cases c7 : (x6_1.length : Int) > 0
   ·rw [if_pos c7] at H
    have c7b0 : decide (0 < (x6_1.length : Int)) = true := decide_eq_true c7
    have c7b1 : decide (0 < x6_1.length) = true := decide_eq_true (by omega)
    clear c7
    obtain ⟨⟨t243, t246, t249⟩, A8, H⟩ := bindA H
    have H' := mk0 H
    clear H
    obtain ⟨Ao9, co9, eo9⟩ := Kd.V_slice HO_6.out
    subst eo9
    obtain ⟨Ao10, co10, eo10⟩ := Kd.V_slice HO_5.out
    subst eo10
    go_wp2_with (first | ((with_reducible refine gate_callee (f := 80) rfl ?_); refine goesL_ (some 20) rfl rfl Try.func80 (by kernel_rfl) rfl #[.slice Ao10 x5_1.length co10, .slice Ao9 x6_1.length co9] rfl (by first | (go_simp; done) | (go_simp; rfl)) ?_; (with_reducible refine (nat_DivMod.calls k1 (fun k_ => (w.heap.size ≤ k_)) _ _ x5_1 (fun k_ => (w.heap.size ≤ k_)) _ _ x6_1 t243 t246 t249 _ HO_5.out HO_6.out A8.out).mono ?_); rintro e w11 ⟨v244, v247, rfl, ho0, ho1, hb⟩; refine ⟨_, rfl, ?_⟩; replace HO_5 := mk0 (Kd.V_below HO_5.out hb); replace HO_6 := mk0 (Kd.V_below HO_6.out hb); have HO248 := mk0 (Kd.V_lower (Kd.V_mono (ok' := fun k_ => (w.heap.size ≤ k_)) ho1 (fun k_ hk_ => Or.elim hk_ (fun hs_ => Or.elim hs_ (fun hs_ => hs_) (fun hs_ => hs_)) (fun hn_ => (Nat.le_trans (below_size HB.out) hn_)))) (below_size HB.out)); replace HB := hbS HB hb))
    go_roundg k1
    case measure => have := HK1.out; omega
    case rel => exact ⟨(x6_1), (t246), H', ⟨by have := HK1.out; omega⟩, ⟨HO_6.out⟩, ⟨HO248.out⟩, ⟨HB.out⟩⟩
   ·rw [if_neg c7] at H
    have c7b0 : decide (0 < (x6_1.length : Int)) = false := decide_eq_false c7
    have c7b1 : decide (0 < x6_1.length) = false := decide_eq_false (by omega)
    clear c7
    obtain rfl := Option.some.inj H
    obtain ⟨Ao12, co12, eo12⟩ := Kd.V_slice HO_6.out
    subst eo12
    go_wp2
    go_ret
    exact ⟨_, by first | rfl | (simp [errW_none, errW_some] <;> rfl) | (simp [*, errW_none, errW_some] <;> rfl), HO_5.out, HB.out⟩
set_option maxHeartbeats 8000000 in
set_option maxRecDepth 100000 in
theorem ratio_lowest.calls (k : Nat) (a0_0 : Bool) (P0_1_ : Nat → Prop) (A0_1 : Option Addr) (c0_1 : Nat) (l0_1 : List Int) (P1_ : Nat → Prop) (A1 : Option Addr) (c1 : Nat) (l1 : List Int) (r1 : Bool) (r2 : List Int) (r3 : List Int) (w : World) (hs0_1 : Kd.V (Kd.int .u32) 87 w w.heap.size (fun k_ => P0_1_ k_) (.slice A0_1 l0_1.length c0_1) l0_1) (hs1 : Kd.V (Kd.int .u32) 87 w w.heap.size (fun k_ => P1_ k_) (.slice A1 l1.length c1) l1) (h : ratio_lowest.f k a0_0 l0_1 l1 = some (r1, r2, r3)) :
  Calls Try.prog 53 #[.agg #[.bool a0_0, .slice A0_1 l0_1.length c0_1], .slice A1 l1.length c1] w fun e w' => ∃ v1_ v2_ : Value, e = .returned (.agg #[.bool r1, v1_, v2_]) ∧ Kd.R (Kd.int .u32) 87 w' w.heap.size (fun k_ => (w.heap.size ≤ k_)) v1_ r2 ∧ Kd.V (Kd.int .u32) 87 w' w.heap.size (fun k_ => ((P0_1_ k_ ∨ P1_ k_) ∨ w.heap.size ≤ k_) ∧ some k_ ≠ (v1_ : Value).ownBlock) v2_ r3 ∧ Below w.heap.size w w' := by
 have hu27 := Try.underlying27
 have hu29 := Try.underlying29
 have HO0_1 := mk0 (show Kd.V (Kd.int .u32) 87 w w.heap.size (fun k_ => ((P0_1_ k_ ∨ P1_ k_) ∨ w.heap.size ≤ k_)) (.slice A0_1 l0_1.length c0_1) l0_1 from Kd.V_mono hs0_1 (fun k_ hk => .inl (.inl hk)))
 have HO1 := mk0 (show Kd.V (Kd.int .u32) 87 w w.heap.size (fun k_ => ((P0_1_ k_ ∨ P1_ k_) ∨ w.heap.size ≤ k_)) (.slice A1 l1.length c1) l1 from Kd.V_mono hs1 (fun k_ hk => .inl (.inr hk)))
 have HB := mk0 (Below.refl w.heap.size w)
 have H : ((nat_Gcd.f k l0_1 l1).bind fun t252 => ((nat_Bits.f k l1).bind fun t255 => (if t255 = 0 then (ratio_lowest.j0 k l1 t252 true a0_0 l0_1) else ((nat_Bits.f k l0_1).bind fun t256 => (ratio_lowest.j0 k l1 t252 (t256 == 0) a0_0 l0_1))))) = some (r1, r2, r3) := h
 clear h
 obtain ⟨t252, A3, H⟩ := bindA H
 have HC4 := mk0 H
 clear H
 go_enter Try.func53, Try.ntmps53
 go_upto_region 2 with (first | ((with_reducible refine gate_dst (N := 2) rfl ?_); refine box_event rfl (N := 2) rfl (cs := #[.bool a0_0, .slice A0_1 l0_1.length c0_1]) (t := 27) (by first | (go_simp; done) | (go_simp; rfl)) ?_; intro gb250 hg w5 hbox hb; replace HO0_1 := vB HO0_1 hg hb; replace HO1 := vB HO1 hg hb; have BK250 := mk0 (hbox); have GE250 := geB hg HB; replace HB := hbS HB hb; clear hb hbox hg) | ((with_reducible refine gate_dst (N := 4) rfl ?_); refine box_event rfl (N := 4) rfl (cs := #[.bool false, .slice none 0 0, .slice none 0 0]) (t := 29) (by first | (go_simp; done) | (go_simp; rfl)) ?_; intro gb251 hg w6 hbox hb; replace HO0_1 := vB HO0_1 hg hb; replace HO1 := vB HO1 hg hb; have BK251 := mk0 (hbox); have GE251 := geB hg HB; replace HB := hbS HB hb; have NB250_251 := nbA hg BK250; have NB251_250 := nbB hg BK250; replace BK250 := bkB BK250 hb; clear hb hbox hg; have hnb7 := NB250_251.out; have hnc7 := NB251_250.out; have hcz8_0 : w6.cell? ⟨gb250, 0, none⟩ = some (.bool a0_0) := (blk_cell BK250.out 0).trans rfl; have hcz8_1 : w6.cell? ⟨gb250, 1, none⟩ = some (.slice A0_1 l0_1.length c0_1) := (blk_cell BK250.out 1).trans rfl; have hfz8_0 := blk_frozen BK250.out 0; have hfz8_1 := blk_frozen BK250.out 1) | ((with_reducible refine gate_callee (f := 79) rfl ?_); refine goesL_ (some 15) rfl rfl Try.func79 (by kernel_rfl) rfl #[.slice A0_1 l0_1.length c0_1, .slice A1 l1.length c1] rfl (by first | (go_simp; done) | (go_simp; rfl)) ?_; (with_reducible refine (nat_Gcd.calls k _ _ l0_1 _ _ l1 t252 _ (by exact (Kd.V_reads' HO0_1.out).2.2) (by exact (Kd.V_reads' HO0_1.out).2.1) (by exact (Kd.V_reads' HO1.out).2.2) (by exact (Kd.V_reads' HO1.out).2.1) A3.out).mono ?_); rintro e w9 ⟨v253, rfl, ho0, hb⟩; refine ⟨_, rfl, ?_⟩; replace HO0_1 := mk0 (Kd.V_below HO0_1.out hb); replace HO1 := mk0 (Kd.V_below HO1.out hb); have HO254 := mk0 (Kd.V_lower (Kd.V_mono (ok' := fun k_ => ((P0_1_ k_ ∨ P1_ k_) ∨ w.heap.size ≤ k_) ∧ k_ ≠ gb250 ∧ k_ ≠ gb251) ho0 (fun k_ hk_ => ⟨(.inr (Nat.le_trans (below_size HB.out) hk_)), (Kd.freshB BK250.out k_ hk_), (Kd.freshB BK251.out k_ hk_)⟩)) (below_size HB.out)); replace BK250 := bkB BK250 hb; replace BK251 := bkB BK251 hb; replace HB := hbS HB hb))
 (try simp only [Act.put, List.setIfInBounds_toArray, List.set_cons_zero, List.set_cons_succ])
 go_cut [24] (fun v24 wc => ∃ (kq : Nat) (x24_3 : Bool), v24 = .bool x24_3 ∧ Aside0 (ratio_lowest.j0 kq l1 t252 x24_3 a0_0 l0_1 = some (r1, r2, r3)) ∧ Aside0 (kq ≤ k) ∧ Aside0 (Kd.V (Kd.int .u32) 87 wc w.heap.size (fun k_ => ((P0_1_ k_ ∨ P1_ k_) ∨ w.heap.size ≤ k_) ∧ k_ ≠ gb250 ∧ k_ ≠ gb251) (.slice A1 l1.length c1) l1) ∧ Aside0 (Kd.V (Kd.int .u32) 87 wc w.heap.size (fun k_ => ((P0_1_ k_ ∨ P1_ k_) ∨ w.heap.size ≤ k_) ∧ k_ ≠ gb250 ∧ k_ ≠ gb251) v253 t252) ∧ Aside0 (Kd.V (Kd.int .u32) 87 wc w.heap.size (fun k_ => ((P0_1_ k_ ∨ P1_ k_) ∨ w.heap.size ≤ k_) ∧ k_ ≠ gb250 ∧ k_ ≠ gb251) (.slice A0_1 l0_1.length c0_1) l0_1) ∧ Aside0 (wc.heap[gb250]? = some (.cells #[.bool a0_0, (.slice A0_1 l0_1.length c0_1)] 27 (0, 0))) ∧ Aside0 (wc.heap[gb251]? = some (.cells #[.bool false, (.slice none 0 0), (.slice none 0 0)] 29 (0, 0))) ∧ Aside0 (Below w.heap.size w wc))
 case first =>
  have H := HC4.out
  clear HC4
  obtain ⟨t255, A10, H⟩ := bindA H
  by_cases c11 : t255 = 0
  ·rw [if_pos c11] at H
   have c11b0 : (t255 == 0) = true := beq_iff_eq.mpr c11
   have c11b1 : (t255 != 0) = false := bne_eq_false_iff_eq.mpr c11
   clear c11
   (first | rw [c11b0] | (simp only [i64_w, i32_w]; rw [c11b0]) | skip)
   have H' := mk0 H
   clear H
   go_wp2_with (first | ((with_reducible refine gate_callee (f := 64) rfl ?_); refine goesL_ (some 17) rfl rfl Try.func64 (by kernel_rfl) rfl #[.slice A1 l1.length c1] rfl (by first | (go_simp; done) | (go_simp; rfl)) ?_; (with_reducible refine (nat_Bits.calls k _ _ l1 t255 _ (by exact (Kd.V_reads' HO1.out).2.2) (by exact (Kd.V_reads' HO1.out).2.1) A10.out).mono ?_); rintro e w12 ⟨rfl, hb⟩; refine ⟨_, rfl, ?_⟩; replace HO0_1 := mk0 (Kd.V_below HO0_1.out hb); replace HO1 := mk0 (Kd.V_below HO1.out hb); replace HO254 := mk0 (Kd.V_below HO254.out hb); replace BK250 := bkB BK250 hb; replace BK251 := bkB BK251 hb; replace HB := hbS HB hb))
   go_meet
   case rel => exact ⟨_, (true), (by first | rfl | (simp; done) | (simp [*]; done)), H', ⟨by first | omega | exact Nat.le_refl _⟩, ⟨Kd.V_mono HO1.out (fun _ hk => ⟨hk.1.1, ⟨hk.1.2, hk.2⟩⟩)⟩, ⟨HO254.out⟩, ⟨Kd.V_mono HO0_1.out (fun _ hk => ⟨hk.1.1, ⟨hk.1.2, hk.2⟩⟩)⟩, ⟨BK250.out⟩, ⟨BK251.out⟩, ⟨by repeat (first | exact HB.out | refine below_set ?_ GE250.out | refine below_set ?_ GE251.out)⟩⟩
  ·rw [if_neg c11] at H
   have c11b0 : (t255 == 0) = false := beq_eq_false_iff_ne.mpr c11
   have c11b1 : (t255 != 0) = true := bne_iff_ne.mpr c11
   (first | rw [c11b0] | (simp only [i64_w, i32_w]; rw [c11b0]) | skip)
   obtain ⟨t256, A13, H⟩ := bindA H
   have H' := mk0 H
   clear H
   go_wp2_with (first | ((with_reducible refine gate_callee (f := 64) rfl ?_); refine goesL_ (some 17) rfl rfl Try.func64 (by kernel_rfl) rfl #[.slice A1 l1.length c1] rfl (by first | (go_simp; done) | (go_simp; rfl)) ?_; (with_reducible refine (nat_Bits.calls k _ _ l1 t255 _ (by exact (Kd.V_reads' HO1.out).2.2) (by exact (Kd.V_reads' HO1.out).2.1) A10.out).mono ?_); rintro e w14 ⟨rfl, hb⟩; refine ⟨_, rfl, ?_⟩; replace HO0_1 := mk0 (Kd.V_below HO0_1.out hb); replace HO1 := mk0 (Kd.V_below HO1.out hb); replace HO254 := mk0 (Kd.V_below HO254.out hb); replace BK250 := bkB BK250 hb; replace BK251 := bkB BK251 hb; replace HB := hbS HB hb; have hnb15 := NB250_251.out; have hnc15 := NB251_250.out; have hcz16_0 : w14.cell? ⟨gb250, 0, none⟩ = some (.bool a0_0) := (blk_cell BK250.out 0).trans rfl; have hcz16_1 : w14.cell? ⟨gb250, 1, none⟩ = some (.slice A0_1 l0_1.length c0_1) := (blk_cell BK250.out 1).trans rfl; have hfz16_0 := blk_frozen BK250.out 0; have hfz16_1 := blk_frozen BK250.out 1) | (go_at_call 64; (with_reducible refine (nat_Bits.calls k _ _ l0_1 t256 _ (by exact (Kd.V_reads' HO0_1.out).2.2) (by exact (Kd.V_reads' HO0_1.out).2.1) A13.out).mono ?_); rintro e w17 ⟨rfl, hb⟩; replace HO0_1 := mk0 (Kd.V_below HO0_1.out hb); replace HO1 := mk0 (Kd.V_below HO1.out hb); replace HO254 := mk0 (Kd.V_below HO254.out hb); replace BK250 := bkB BK250 hb; replace BK251 := bkB BK251 hb; replace HB := hbS HB hb))
   go_meet
   case rel => exact ⟨_, ((t256 == 0)), (by first | rfl | (simp; done) | (simp [*]; done)), H', ⟨by first | omega | exact Nat.le_refl _⟩, ⟨Kd.V_mono HO1.out (fun _ hk => ⟨hk.1.1, ⟨hk.1.2, hk.2⟩⟩)⟩, ⟨HO254.out⟩, ⟨Kd.V_mono HO0_1.out (fun _ hk => ⟨hk.1.1, ⟨hk.1.2, hk.2⟩⟩)⟩, ⟨BK250.out⟩, ⟨BK251.out⟩, ⟨by repeat (first | exact HB.out | refine below_set ?_ GE250.out | refine below_set ?_ GE251.out)⟩⟩
 case rest =>
  clear HC4
  try clear c1
  try clear p2
  try clear c5
  try clear c6
  try clear c7
  try clear c11
  try clear c11b0
  try clear c11b1
  try clear c15
  try clear hcz16_0
  try clear hcz16_1
  try clear hcz8_0
  try clear hcz8_1
  try clear hfz16_0
  try clear hfz16_1
  try clear hfz8_0
  try clear hfz8_1
  obtain ⟨kq, x24_3, rfl, HA, HJ3, HO_1, HO_5, HO_251001, BK250, BK251, HB⟩ := hcut
  cases kq with
  | zero => exact absurd HA.out (by simp [ratio_lowest.j0])
  | succ kj3 =>
   have H := HA.out
   clear HA
   simp only [ratio_lowest.j0] at H
   by_cases c18 : x24_3 = true
   ·subst c18
    have H1 : ((ratio_zero.f kj3).bind fun bt257 => (some (bt257.1, bt257.2.1, bt257.2.2))) = some (r1, r2, r3) := by rw [if_pos rfl] at H; exact H
    clear H
    have H := H1
    clear H1
    obtain ⟨⟨t257, t258, t261⟩, A19, H⟩ := bindA H
    simp only [Option.some.injEq, Prod.mk.injEq] at H
    obtain ⟨rfl, rfl, rfl⟩ := H
    go_wp2_with (first | ((with_reducible refine gate_callee (f := 67) rfl ?_); refine goesL_ (some 25) rfl rfl Try.func67 (by kernel_rfl) rfl #[] rfl (by first | (go_simp; done) | (go_simp; rfl)) ?_; (with_reducible refine (ratio_zero.calls kj3  t257 t258 t261 _ A19.out).mono ?_); rintro e w20 ⟨v259, v262, rfl, ho0, ho1, hb⟩; refine ⟨_, rfl, ?_⟩; replace HO_1 := mk0 (Kd.V_elder' HO_1.out (Kd.R_base ho0) hb); replace HO_5 := mk0 (Kd.V_elder' HO_5.out (Kd.R_base ho0) hb); replace HO_251001 := mk0 (Kd.V_elder' HO_251001.out (Kd.R_base ho0) hb); have HO260 := mk0 (Kd.R_lower (Kd.R_newM (M := fun k_ => (w.heap.size ≤ k_)) (Kd.R_mono (ok' := fun k_ => True) ho0 (fun _ hk_ => trivial)) (below_size HB.out) (fun k_ h_ => h_)) (below_size HB.out)); have HO263 := mk0 (Kd.V_lower (Kd.V_mono (ok' := fun k_ => ((P0_1_ k_ ∨ P1_ k_) ∨ w.heap.size ≤ k_) ∧ some k_ ≠ (v259 : Value).ownBlock ∧ k_ ≠ gb250 ∧ k_ ≠ gb251) ho1 (fun k_ hk_ => ⟨(.inr (Nat.le_trans (below_size HB.out) hk_.1)), hk_.2, (Kd.freshB BK250.out k_ hk_.1), (Kd.freshB BK251.out k_ hk_.1)⟩)) (below_size HB.out)); replace BK250 := bkB BK250 hb; replace BK251 := bkB BK251 hb; replace HB := hbS HB hb; have hnb21 := NB251_250.out; have hnc21 := NB250_251.out; have hcz22_0 : w20.cell? ⟨gb251, 0, none⟩ = some (.bool false) := (blk_cell BK251.out 0).trans rfl; have hcz22_1 : w20.cell? ⟨gb251, 1, none⟩ = some (.slice none 0 0) := (blk_cell BK251.out 1).trans rfl; have hcz22_2 : w20.cell? ⟨gb251, 2, none⟩ = some (.slice none 0 0) := (blk_cell BK251.out 2).trans rfl; have hfz22_0 := blk_frozen BK251.out 0; have hfz22_1 := blk_frozen BK251.out 1; have hfz22_2 := blk_frozen BK251.out 2; obtain ⟨Ao23, co23, eo23⟩ := Kd.R_slice HO260.out; subst eo23; obtain ⟨Ao24, co24, eo24⟩ := Kd.V_slice HO263.out; subst eo24))
    refine bodyPost_ret (results_cell_row rfl _ _ gb251 29 #[.bool t257, .slice Ao23 t258.length co23, .slice Ao24 t261.length co24] (0, 0) _ rfl (by refine blk_put (cs := #[.bool t257, .slice Ao23 t258.length co23, .slice none 0 0]) ?_ 2 _ rfl; refine blk_put (cs := #[.bool t257, .slice none 0 0, .slice none 0 0]) ?_ 1 _ rfl; refine blk_put (cs := #[.bool false, .slice none 0 0, .slice none 0 0]) ?_ 0 _ rfl; exact BK251.out) Try.underlying29 rfl (by kernel_rfl)) rfl ?_
    exact ⟨_, _, by first | rfl | (simp [errW_none, errW_some] <;> rfl) | (simp [*, errW_none, errW_some] <;> rfl), Kd.R_mono (Kd.R_far (p := ⟨gb251, 2, none⟩) (Kd.R_far (p := ⟨gb251, 1, none⟩) (Kd.R_far (p := ⟨gb251, 0, none⟩) (Kd.R_types HO260.out BK251.out (by decide)) (fun _ hk => hk.2) (.bool t257)) (fun _ hk => hk.2) (.slice Ao23 t258.length co23)) (fun _ hk => hk.2) (.slice Ao24 t261.length co24)) (fun _ hk => hk.1.1), Kd.V_mono (Kd.V_far (p := ⟨gb251, 2, none⟩) (Kd.V_far (p := ⟨gb251, 1, none⟩) (Kd.V_far (p := ⟨gb251, 0, none⟩) (Kd.V_mono HO263.out (fun k_ hk => (⟨hk, hk.2.2.2⟩ : _ ∧ k_ ≠ gb251))) (fun _ hk => hk.2) (.bool t257)) (fun _ hk => hk.2) (.slice Ao23 t258.length co23)) (fun _ hk => hk.2) (.slice Ao24 t261.length co24)) (fun _ hk => ⟨hk.1.1, hk.1.2.1⟩), by repeat (first | exact HB.out | refine below_set ?_ GE250.out | refine below_set ?_ GE251.out)⟩
   ·replace c18 := Bool.eq_false_iff.mpr c18
    subst c18
    have H1 : ((nat_DivMod.f kj3 l0_1 t252).bind fun bt264 => ((nat_DivMod.f kj3 l1 t252).bind fun bt271 => ((integer_Make.f kj3 a0_0 bt264.1).bind fun bt278 => (some (bt278.1, bt278.2, bt271.1))))) = some (r1, r2, r3) := by rw [if_neg (show ¬ (false = true) by decide)] at H; exact H
    clear H
    have H := H1
    clear H1
    obtain ⟨⟨t264, t267, t270⟩, A25, H⟩ := bindA H
    obtain ⟨⟨t271, t274, t277⟩, A26, H⟩ := bindA H
    obtain ⟨⟨t278, t279⟩, A27, H⟩ := bindA H
    simp only [Option.some.injEq, Prod.mk.injEq] at H
    obtain ⟨rfl, rfl, rfl⟩ := H
    have hnb28 := NB250_251.out
    have hnc28 := NB251_250.out
    have hcz29_0 : wc.cell? ⟨gb250, 0, none⟩ = some (.bool a0_0) := (blk_cell BK250.out 0).trans rfl
    have hcz29_1 : wc.cell? ⟨gb250, 1, none⟩ = some (.slice A0_1 l0_1.length c0_1) := (blk_cell BK250.out 1).trans rfl
    have hfz29_0 := blk_frozen BK250.out 0
    have hfz29_1 := blk_frozen BK250.out 1
    obtain ⟨Ao30, co30, eo30⟩ := Kd.V_slice HO_5.out
    subst eo30
    go_wp2_with (first | ((with_reducible refine gate_callee (f := 80) rfl ?_); refine goesL_ (some 30) rfl rfl Try.func80 (by kernel_rfl) rfl #[.slice A0_1 l0_1.length c0_1, .slice Ao30 t252.length co30] rfl (by first | (go_simp; done) | (go_simp; rfl)) ?_; (with_reducible refine (nat_DivMod.calls kj3 (fun k_ => (((P0_1_ k_ ∨ P1_ k_) ∨ w.heap.size ≤ k_) ∧ (k_ ≠ gb250 ∧ k_ ≠ gb251))) _ _ l0_1 (fun k_ => (((P0_1_ k_ ∨ P1_ k_) ∨ w.heap.size ≤ k_) ∧ (k_ ≠ gb250 ∧ k_ ≠ gb251))) _ _ t252 t264 t267 t270 _ HO_251001.out HO_5.out A25.out).mono ?_); rintro e w31 ⟨v265, v268, rfl, ho0, ho1, hb⟩; refine ⟨_, rfl, ?_⟩; replace HO_1 := mk0 (Kd.V_below HO_1.out hb); replace HO_5 := mk0 (Kd.V_below HO_5.out hb); replace HO_251001 := mk0 (Kd.V_below HO_251001.out hb); have HO266 := mk0 (Kd.V_lower (Kd.V_mono (ok' := fun k_ => ((P0_1_ k_ ∨ P1_ k_) ∨ w.heap.size ≤ k_) ∧ k_ ≠ gb250 ∧ k_ ≠ gb251) ho0 (fun k_ hk_ => ⟨Or.elim hk_ (fun hs_ => Or.elim hs_ (fun hs_ => hs_.1) (fun hs_ => hs_.1)) (fun hn_ => (.inr (Nat.le_trans (below_size HB.out) hn_))), Or.elim hk_ (fun hs_ => Or.elim hs_ (fun hs_ => hs_.2.1) (fun hs_ => hs_.2.1)) (fun hn_ => (Kd.freshB BK250.out k_ hn_)), Or.elim hk_ (fun hs_ => Or.elim hs_ (fun hs_ => hs_.2.2) (fun hs_ => hs_.2.2)) (fun hn_ => (Kd.freshB BK251.out k_ hn_))⟩)) (below_size HB.out)); replace BK250 := bkB BK250 hb; replace BK251 := bkB BK251 hb; replace HB := hbS HB hb) | ((with_reducible refine gate_callee (f := 80) rfl ?_); refine goesL_ (some 37) rfl rfl Try.func80 (by kernel_rfl) rfl #[.slice A1 l1.length c1, .slice Ao30 t252.length co30] rfl (by first | (go_simp; done) | (go_simp; rfl)) ?_; (with_reducible refine (nat_DivMod.calls kj3 (fun k_ => (((P0_1_ k_ ∨ P1_ k_) ∨ w.heap.size ≤ k_) ∧ (k_ ≠ gb250 ∧ k_ ≠ gb251))) _ _ l1 (fun k_ => (((P0_1_ k_ ∨ P1_ k_) ∨ w.heap.size ≤ k_) ∧ (k_ ≠ gb250 ∧ k_ ≠ gb251))) _ _ t252 t271 t274 t277 _ HO_1.out HO_5.out A26.out).mono ?_); rintro e w32 ⟨v272, v275, rfl, ho0, ho1, hb⟩; refine ⟨_, rfl, ?_⟩; replace HO_1 := mk0 (Kd.V_below HO_1.out hb); replace HO_5 := mk0 (Kd.V_below HO_5.out hb); replace HO_251001 := mk0 (Kd.V_below HO_251001.out hb); replace HO266 := mk0 (Kd.V_below HO266.out hb); have HO273 := mk0 (Kd.V_lower (Kd.V_mono (ok' := fun k_ => ((P0_1_ k_ ∨ P1_ k_) ∨ w.heap.size ≤ k_) ∧ k_ ≠ gb250 ∧ k_ ≠ gb251) ho0 (fun k_ hk_ => ⟨Or.elim hk_ (fun hs_ => Or.elim hs_ (fun hs_ => hs_.1) (fun hs_ => hs_.1)) (fun hn_ => (.inr (Nat.le_trans (below_size HB.out) hn_))), Or.elim hk_ (fun hs_ => Or.elim hs_ (fun hs_ => hs_.2.1) (fun hs_ => hs_.2.1)) (fun hn_ => (Kd.freshB BK250.out k_ hn_)), Or.elim hk_ (fun hs_ => Or.elim hs_ (fun hs_ => hs_.2.2) (fun hs_ => hs_.2.2)) (fun hn_ => (Kd.freshB BK251.out k_ hn_))⟩)) (below_size HB.out)); replace BK250 := bkB BK250 hb; replace BK251 := bkB BK251 hb; replace HB := hbS HB hb; have hcz33_0 : w32.cell? ⟨gb250, 0, none⟩ = some (.bool a0_0) := (blk_cell BK250.out 0).trans rfl; have hcz33_1 : w32.cell? ⟨gb250, 1, none⟩ = some (.slice A0_1 l0_1.length c0_1) := (blk_cell BK250.out 1).trans rfl; have hfz33_0 := blk_frozen BK250.out 0; have hfz33_1 := blk_frozen BK250.out 1; obtain ⟨Ao34, co34, eo34⟩ := Kd.V_slice HO266.out; subst eo34) | ((with_reducible refine gate_callee (f := 78) rfl ?_); refine goesL_ (some 44) rfl rfl Try.func78 (by kernel_rfl) rfl #[.bool a0_0, .slice Ao34 t264.length co34] rfl (by first | (go_simp; done) | (go_simp; rfl)) ?_; (with_reducible refine (integer_Make.calls kj3 a0_0 _ _ t264 t278 t279 _ (by exact (Kd.V_reads' HO266.out).2.2) (by exact (Kd.V_reads' HO266.out).2.1) A27.out).mono ?_); rintro e w35 ⟨v280, rfl, ho0, hb⟩; refine ⟨_, rfl, ?_⟩; replace HO_1 := mk0 (Kd.V_elder' HO_1.out (Kd.R_base ho0) hb); replace HO_5 := mk0 (Kd.V_elder' HO_5.out (Kd.R_base ho0) hb); replace HO_251001 := mk0 (Kd.V_elder' HO_251001.out (Kd.R_base ho0) hb); replace HO266 := mk0 (Kd.V_elder' HO266.out (Kd.R_base ho0) hb); replace HO273 := mk0 (Kd.V_elder' HO273.out (Kd.R_base ho0) hb); have HO281 := mk0 (Kd.R_lower (Kd.R_newM (M := fun k_ => (w.heap.size ≤ k_)) ho0 (below_size HB.out) (fun k_ h_ => h_)) (below_size HB.out)); replace BK250 := bkB BK250 hb; replace BK251 := bkB BK251 hb; replace HB := hbS HB hb; obtain ⟨Ao36, co36, eo36⟩ := Kd.V_slice HO273.out; subst eo36; obtain ⟨Ao37, co37, eo37⟩ := Kd.R_slice HO281.out; subst eo37; have hcz38_0 : w35.cell? ⟨gb251, 0, none⟩ = some (.bool false) := (blk_cell BK251.out 0).trans rfl; have hcz38_1 : w35.cell? ⟨gb251, 1, none⟩ = some (.slice none 0 0) := (blk_cell BK251.out 1).trans rfl; have hcz38_2 : w35.cell? ⟨gb251, 2, none⟩ = some (.slice none 0 0) := (blk_cell BK251.out 2).trans rfl; have hfz38_0 := blk_frozen BK251.out 0; have hfz38_1 := blk_frozen BK251.out 1; have hfz38_2 := blk_frozen BK251.out 2))
    refine bodyPost_ret (results_cell_row rfl _ _ gb251 29 #[.bool t278, .slice Ao37 t279.length co37, .slice Ao36 t271.length co36] (0, 0) _ rfl (by refine blk_put (cs := #[.bool t278, .slice Ao37 t279.length co37, .slice none 0 0]) ?_ 2 _ rfl; refine blk_put (cs := #[.bool t278, .slice none 0 0, .slice none 0 0]) ?_ 1 _ rfl; refine blk_put (cs := #[.bool false, .slice none 0 0, .slice none 0 0]) ?_ 0 _ rfl; exact BK251.out) Try.underlying29 rfl (by kernel_rfl)) rfl ?_
    exact ⟨_, _, by first | rfl | (simp [errW_none, errW_some] <;> rfl) | (simp [*, errW_none, errW_some] <;> rfl), Kd.R_mono (Kd.R_far (p := ⟨gb251, 2, none⟩) (Kd.R_far (p := ⟨gb251, 1, none⟩) (Kd.R_far (p := ⟨gb251, 0, none⟩) (Kd.R_types HO281.out BK251.out (by decide)) (fun _ hk => hk.2) (.bool t278)) (fun _ hk => hk.2) (.slice Ao37 t279.length co37)) (fun _ hk => hk.2) (.slice Ao36 t271.length co36)) (fun _ hk => hk.1.1), Kd.V_mono (Kd.V_far (p := ⟨gb251, 2, none⟩) (Kd.V_far (p := ⟨gb251, 1, none⟩) (Kd.V_far (p := ⟨gb251, 0, none⟩) (Kd.V_mono HO273.out (fun k_ hk => (⟨hk, hk.1.2.2⟩ : _ ∧ k_ ≠ gb251))) (fun _ hk => hk.2) (.bool t278)) (fun _ hk => hk.2) (.slice Ao37 t279.length co37)) (fun _ hk => hk.2) (.slice Ao36 t271.length co36)) (fun _ hk => ⟨hk.1.1.1, hk.1.2⟩), by repeat (first | exact HB.out | refine below_set ?_ GE250.out | refine below_set ?_ GE251.out)⟩
set_option maxHeartbeats 8000000 in
set_option maxRecDepth 100000 in
theorem ratio_Make.calls (k : Nat) (a0_0 : Bool) (P0_1_ : Nat → Prop) (A0_1 : Option Addr) (c0_1 : Nat) (l0_1 : List Int) (a1_0 : Bool) (P1_1_ : Nat → Prop) (A1_1 : Option Addr) (c1_1 : Nat) (l1_1 : List Int) (r1 : Bool) (r2 : List Int) (r3 : List Int) (r4 : Bool) (w : World) (hs0_1 : Kd.V (Kd.int .u32) 87 w w.heap.size (fun k_ => P0_1_ k_) (.slice A0_1 l0_1.length c0_1) l0_1) (hs1_1 : Kd.V (Kd.int .u32) 87 w w.heap.size (fun k_ => P1_1_ k_) (.slice A1_1 l1_1.length c1_1) l1_1) (h : ratio_Make.f k a0_0 l0_1 a1_0 l1_1 = some (r1, r2, r3, r4)) :
  Calls Try.prog 38 #[.agg #[.bool a0_0, .slice A0_1 l0_1.length c0_1], .agg #[.bool a1_0, .slice A1_1 l1_1.length c1_1]] w fun e w' => ∃ v1_ v2_ : Value, e = .returned (.tuple #[.agg #[.bool r1, v1_, v2_], .bool r4]) ∧ Kd.R (Kd.int .u32) 87 w' w.heap.size (fun k_ => (w.heap.size ≤ k_)) v1_ r2 ∧ Kd.V (Kd.int .u32) 87 w' w.heap.size (fun k_ => ((P0_1_ k_ ∨ P1_1_ k_) ∨ w.heap.size ≤ k_) ∧ some k_ ≠ (v1_ : Value).ownBlock) v2_ r3 ∧ Below w.heap.size w w' := by
 have hu27 := Try.underlying27
 have hu29 := Try.underlying29
 have HO0_1 := mk0 (show Kd.V (Kd.int .u32) 87 w w.heap.size (fun k_ => ((P0_1_ k_ ∨ P1_1_ k_) ∨ w.heap.size ≤ k_)) (.slice A0_1 l0_1.length c0_1) l0_1 from Kd.V_mono hs0_1 (fun k_ hk => .inl (.inl hk)))
 have HO1_1 := mk0 (show Kd.V (Kd.int .u32) 87 w w.heap.size (fun k_ => ((P0_1_ k_ ∨ P1_1_ k_) ∨ w.heap.size ≤ k_)) (.slice A1_1 l1_1.length c1_1) l1_1 from Kd.V_mono hs1_1 (fun k_ hk => .inl (.inr hk)))
 have HB := mk0 (Below.refl w.heap.size w)
 have H : ((nat_Bits.f k l1_1).bind fun t285 => (if t285 = 0 then ((ratio_zero.f k).bind fun bt286 => (some (bt286.1, bt286.2.1, bt286.2.2, false))) else ((ratio_lowest.f k (a0_0 != a1_0) l0_1 l1_1).bind fun bt293 => (some (bt293.1, bt293.2.1, bt293.2.2, true))))) = some (r1, r2, r3, r4) := h
 clear h
 obtain ⟨t285, A3, H⟩ := bindA H
 by_cases c4 : t285 = 0
 ·rw [if_pos c4] at H
  have c4b0 : (t285 == 0) = true := beq_iff_eq.mpr c4
  have c4b1 : (t285 != 0) = false := bne_eq_false_iff_eq.mpr c4
  clear c4
  obtain ⟨⟨t286, t287, t290⟩, A5, H⟩ := bindA H
  simp only [Option.some.injEq, Prod.mk.injEq] at H
  obtain ⟨rfl, rfl, rfl, rfl⟩ := H
  go_enter Try.func38, Try.ntmps38
  go_wp2_with (first | ((with_reducible refine gate_dst (N := 2) rfl ?_); refine box_event rfl (N := 2) rfl (cs := #[.bool a0_0, .slice A0_1 l0_1.length c0_1]) (t := 27) (by first | (go_simp; done) | (go_simp; rfl)) ?_; intro gb282 hg w6 hbox hb; replace HO0_1 := vB HO0_1 hg hb; replace HO1_1 := vB HO1_1 hg hb; have BK282 := mk0 (hbox); have GE282 := geB hg HB; replace HB := hbS HB hb; clear hb hbox hg) | ((with_reducible refine gate_dst (N := 3) rfl ?_); refine box_event rfl (N := 3) rfl (cs := #[.bool a1_0, .slice A1_1 l1_1.length c1_1]) (t := 27) (by first | (go_simp; done) | (go_simp; rfl)) ?_; intro gb283 hg w7 hbox hb; replace HO0_1 := vB HO0_1 hg hb; replace HO1_1 := vB HO1_1 hg hb; have BK283 := mk0 (hbox); have GE283 := geB hg HB; replace HB := hbS HB hb; have NB282_283 := nbA hg BK282; have NB283_282 := nbB hg BK282; replace BK282 := bkB BK282 hb; clear hb hbox hg) | ((with_reducible refine gate_dst (N := 4) rfl ?_); refine box_event rfl (N := 4) rfl (cs := #[.bool false, .slice none 0 0, .slice none 0 0]) (t := 29) (by first | (go_simp; done) | (go_simp; rfl)) ?_; intro gb284 hg w8 hbox hb; replace HO0_1 := vB HO0_1 hg hb; replace HO1_1 := vB HO1_1 hg hb; have BK284 := mk0 (hbox); have GE284 := geB hg HB; replace HB := hbS HB hb; have NB282_284 := nbA hg BK282; have NB284_282 := nbB hg BK282; replace BK282 := bkB BK282 hb; have NB283_284 := nbA hg BK283; have NB284_283 := nbB hg BK283; replace BK283 := bkB BK283 hb; clear hb hbox hg; have hnb9 := NB283_282.out; have hnc9 := NB282_283.out; have hnb10 := NB283_284.out; have hnc10 := NB284_283.out; have hcz11_0 : w8.cell? ⟨gb283, 0, none⟩ = some (.bool a1_0) := (blk_cell BK283.out 0).trans rfl; have hcz11_1 : w8.cell? ⟨gb283, 1, none⟩ = some (.slice A1_1 l1_1.length c1_1) := (blk_cell BK283.out 1).trans rfl; have hfz11_0 := blk_frozen BK283.out 0; have hfz11_1 := blk_frozen BK283.out 1) | ((with_reducible refine gate_callee (f := 64) rfl ?_); refine goesL_ (some 8) rfl rfl Try.func64 (by kernel_rfl) rfl #[.slice A1_1 l1_1.length c1_1] rfl (by (try simp only [List.map_toArray, List.map_cons, List.map_nil]); first | done | rfl | (simp only [List.length_drop, List.length_take]; rfl)) ?_; (with_reducible refine (nat_Bits.calls k _ _ l1_1 t285 _ (by exact (Kd.V_reads' HO1_1.out).2.2) (by exact (Kd.V_reads' HO1_1.out).2.1) A3.out).mono ?_); rintro e w12 ⟨rfl, hb⟩; refine ⟨_, rfl, ?_⟩; replace HO0_1 := mk0 (Kd.V_below HO0_1.out hb); replace HO1_1 := mk0 (Kd.V_below HO1_1.out hb); replace BK282 := bkB BK282 hb; replace BK283 := bkB BK283 hb; replace BK284 := bkB BK284 hb; replace HB := hbS HB hb) | ((with_reducible refine gate_callee (f := 67) rfl ?_); refine goesL_ (some 10) rfl rfl Try.func67 (by kernel_rfl) rfl #[] rfl (by (try simp only [List.map_toArray, List.map_cons, List.map_nil]); first | done | rfl | (simp only [List.length_drop, List.length_take]; rfl)) ?_; (with_reducible refine (ratio_zero.calls k  t286 t287 t290 _ A5.out).mono ?_); rintro e w13 ⟨v288, v291, rfl, ho0, ho1, hb⟩; refine ⟨_, rfl, ?_⟩; replace HO0_1 := mk0 (Kd.V_elder' HO0_1.out (Kd.R_base ho0) hb); replace HO1_1 := mk0 (Kd.V_elder' HO1_1.out (Kd.R_base ho0) hb); have HO289 := mk0 (Kd.R_lower (Kd.R_newM (M := fun k_ => (w.heap.size ≤ k_)) (Kd.R_mono (ok' := fun k_ => True) ho0 (fun _ hk_ => trivial)) (below_size HB.out) (fun k_ h_ => h_)) (below_size HB.out)); have HO292 := mk0 (Kd.V_lower (Kd.V_mono (ok' := fun k_ => ((P0_1_ k_ ∨ P1_1_ k_) ∨ w.heap.size ≤ k_) ∧ some k_ ≠ (v288 : Value).ownBlock ∧ k_ ≠ gb282 ∧ k_ ≠ gb283 ∧ k_ ≠ gb284) ho1 (fun k_ hk_ => ⟨(.inr (Nat.le_trans (below_size HB.out) hk_.1)), hk_.2, (Kd.freshB BK282.out k_ hk_.1), (Kd.freshB BK283.out k_ hk_.1), (Kd.freshB BK284.out k_ hk_.1)⟩)) (below_size HB.out)); replace BK282 := bkB BK282 hb; replace BK283 := bkB BK283 hb; replace BK284 := bkB BK284 hb; replace HB := hbS HB hb; have hnb14 := NB284_282.out; have hnc14 := NB282_284.out; have hcz15_0 : w13.cell? ⟨gb284, 0, none⟩ = some (.bool false) := (blk_cell BK284.out 0).trans rfl; have hcz15_1 : w13.cell? ⟨gb284, 1, none⟩ = some (.slice none 0 0) := (blk_cell BK284.out 1).trans rfl; have hcz15_2 : w13.cell? ⟨gb284, 2, none⟩ = some (.slice none 0 0) := (blk_cell BK284.out 2).trans rfl; have hfz15_0 := blk_frozen BK284.out 0; have hfz15_1 := blk_frozen BK284.out 1; have hfz15_2 := blk_frozen BK284.out 2; obtain ⟨Ao16, co16, eo16⟩ := Kd.R_slice HO289.out; subst eo16; obtain ⟨Ao17, co17, eo17⟩ := Kd.V_slice HO292.out; subst eo17))
  refine bodyPost_ret (results_ct rfl _ _ gb284 29 #[.bool t286, .slice Ao16 t287.length co16, .slice Ao17 t290.length co17] (0, 0) _ rfl (by refine blk_put (cs := #[.bool t286, .slice Ao16 t287.length co16, .slice none 0 0]) ?_ 2 _ rfl; refine blk_put (cs := #[.bool t286, .slice none 0 0, .slice none 0 0]) ?_ 1 _ rfl; refine blk_put (cs := #[.bool false, .slice none 0 0, .slice none 0 0]) ?_ 0 _ rfl; exact BK284.out) Try.underlying29 rfl (by kernel_rfl)) rfl ?_
  exact ⟨_, _, by first | rfl | (simp [errW_none, errW_some] <;> rfl) | (simp [*, errW_none, errW_some] <;> rfl), Kd.R_mono (Kd.R_far (p := ⟨gb284, 2, none⟩) (Kd.R_far (p := ⟨gb284, 1, none⟩) (Kd.R_far (p := ⟨gb284, 0, none⟩) (Kd.R_types HO289.out BK284.out (by decide)) (fun _ hk => hk.2) (.bool t286)) (fun _ hk => hk.2) (.slice Ao16 t287.length co16)) (fun _ hk => hk.2) (.slice Ao17 t290.length co17)) (fun _ hk => hk.1.1), Kd.V_mono (Kd.V_far (p := ⟨gb284, 2, none⟩) (Kd.V_far (p := ⟨gb284, 1, none⟩) (Kd.V_far (p := ⟨gb284, 0, none⟩) (Kd.V_mono HO292.out (fun k_ hk => (⟨hk, hk.2.2.2.2⟩ : _ ∧ k_ ≠ gb284))) (fun _ hk => hk.2) (.bool t286)) (fun _ hk => hk.2) (.slice Ao16 t287.length co16)) (fun _ hk => hk.2) (.slice Ao17 t290.length co17)) (fun _ hk => ⟨hk.1.1, hk.1.2.1⟩), by repeat (first | exact HB.out | refine below_set ?_ GE282.out | refine below_set ?_ GE283.out | refine below_set ?_ GE284.out)⟩
 ·rw [if_neg c4] at H
  have c4b0 : (t285 == 0) = false := beq_eq_false_iff_ne.mpr c4
  have c4b1 : (t285 != 0) = true := bne_iff_ne.mpr c4
  obtain ⟨⟨t293, t294, t297⟩, A18, H⟩ := bindA H
  simp only [Option.some.injEq, Prod.mk.injEq] at H
  obtain ⟨rfl, rfl, rfl, rfl⟩ := H
  go_enter Try.func38, Try.ntmps38
  go_wp2_with (first | ((with_reducible refine gate_dst (N := 2) rfl ?_); refine box_event rfl (N := 2) rfl (cs := #[.bool a0_0, .slice A0_1 l0_1.length c0_1]) (t := 27) (by first | (go_simp; done) | (go_simp; rfl)) ?_; intro gb282 hg w19 hbox hb; replace HO0_1 := vB HO0_1 hg hb; replace HO1_1 := vB HO1_1 hg hb; have BK282 := mk0 (hbox); have GE282 := geB hg HB; replace HB := hbS HB hb; clear hb hbox hg) | ((with_reducible refine gate_dst (N := 3) rfl ?_); refine box_event rfl (N := 3) rfl (cs := #[.bool a1_0, .slice A1_1 l1_1.length c1_1]) (t := 27) (by first | (go_simp; done) | (go_simp; rfl)) ?_; intro gb283 hg w20 hbox hb; replace HO0_1 := vB HO0_1 hg hb; replace HO1_1 := vB HO1_1 hg hb; have BK283 := mk0 (hbox); have GE283 := geB hg HB; replace HB := hbS HB hb; have NB282_283 := nbA hg BK282; have NB283_282 := nbB hg BK282; replace BK282 := bkB BK282 hb; clear hb hbox hg) | ((with_reducible refine gate_dst (N := 4) rfl ?_); refine box_event rfl (N := 4) rfl (cs := #[.bool false, .slice none 0 0, .slice none 0 0]) (t := 29) (by first | (go_simp; done) | (go_simp; rfl)) ?_; intro gb284 hg w21 hbox hb; replace HO0_1 := vB HO0_1 hg hb; replace HO1_1 := vB HO1_1 hg hb; have BK284 := mk0 (hbox); have GE284 := geB hg HB; replace HB := hbS HB hb; have NB282_284 := nbA hg BK282; have NB284_282 := nbB hg BK282; replace BK282 := bkB BK282 hb; have NB283_284 := nbA hg BK283; have NB284_283 := nbB hg BK283; replace BK283 := bkB BK283 hb; clear hb hbox hg; have hnb22 := NB283_282.out; have hnc22 := NB282_283.out; have hnb23 := NB283_284.out; have hnc23 := NB284_283.out; have hcz24_0 : w21.cell? ⟨gb283, 0, none⟩ = some (.bool a1_0) := (blk_cell BK283.out 0).trans rfl; have hcz24_1 : w21.cell? ⟨gb283, 1, none⟩ = some (.slice A1_1 l1_1.length c1_1) := (blk_cell BK283.out 1).trans rfl; have hfz24_0 := blk_frozen BK283.out 0; have hfz24_1 := blk_frozen BK283.out 1) | ((with_reducible refine gate_callee (f := 64) rfl ?_); refine goesL_ (some 8) rfl rfl Try.func64 (by kernel_rfl) rfl #[.slice A1_1 l1_1.length c1_1] rfl (by (try simp only [List.map_toArray, List.map_cons, List.map_nil]); first | done | rfl | (simp only [List.length_drop, List.length_take]; rfl)) ?_; (with_reducible refine (nat_Bits.calls k _ _ l1_1 t285 _ (by exact (Kd.V_reads' HO1_1.out).2.2) (by exact (Kd.V_reads' HO1_1.out).2.1) A3.out).mono ?_); rintro e w25 ⟨rfl, hb⟩; refine ⟨_, rfl, ?_⟩; replace HO0_1 := mk0 (Kd.V_below HO0_1.out hb); replace HO1_1 := mk0 (Kd.V_below HO1_1.out hb); replace BK282 := bkB BK282 hb; replace BK283 := bkB BK283 hb; replace BK284 := bkB BK284 hb; replace HB := hbS HB hb; have hnb26 := NB282_284.out; have hnc26 := NB284_282.out; have hcz27_0 : w25.cell? ⟨gb282, 0, none⟩ = some (.bool a0_0) := (blk_cell BK282.out 0).trans rfl; have hcz27_1 : w25.cell? ⟨gb282, 1, none⟩ = some (.slice A0_1 l0_1.length c0_1) := (blk_cell BK282.out 1).trans rfl; have hfz27_0 := blk_frozen BK282.out 0; have hfz27_1 := blk_frozen BK282.out 1; have hcz28_0 : w25.cell? ⟨gb283, 0, none⟩ = some (.bool a1_0) := (blk_cell BK283.out 0).trans rfl; have hcz28_1 : w25.cell? ⟨gb283, 1, none⟩ = some (.slice A1_1 l1_1.length c1_1) := (blk_cell BK283.out 1).trans rfl; have hfz28_0 := blk_frozen BK283.out 0; have hfz28_1 := blk_frozen BK283.out 1) | ((with_reducible refine gate_callee (f := 53) rfl ?_); refine goesL_ (some 21) rfl rfl Try.func53 (by kernel_rfl) rfl #[.agg #[.bool (a0_0 != a1_0), .slice A0_1 l0_1.length c0_1], .slice A1_1 l1_1.length c1_1] rfl (by (try simp only [List.map_toArray, List.map_cons, List.map_nil]); first | done | rfl | (simp only [List.length_drop, List.length_take]; rfl)) ?_; (with_reducible refine (ratio_lowest.calls k (a0_0 != a1_0) (fun k_ => (((((P0_1_ k_ ∨ P1_1_ k_) ∨ w.heap.size ≤ k_) ∧ k_ ≠ gb282) ∧ k_ ≠ gb283) ∧ k_ ≠ gb284)) _ _ l0_1 (fun k_ => (((((P0_1_ k_ ∨ P1_1_ k_) ∨ w.heap.size ≤ k_) ∧ k_ ≠ gb282) ∧ k_ ≠ gb283) ∧ k_ ≠ gb284)) _ _ l1_1 t293 t294 t297 _ HO0_1.out HO1_1.out A18.out).mono ?_); rintro e w29 ⟨v295, v298, rfl, ho0, ho1, hb⟩; refine ⟨_, rfl, ?_⟩; replace HO0_1 := mk0 (Kd.V_elder' HO0_1.out (Kd.R_base ho0) hb); replace HO1_1 := mk0 (Kd.V_elder' HO1_1.out (Kd.R_base ho0) hb); have HO296 := mk0 (Kd.R_lower (Kd.R_newM (M := fun k_ => (w.heap.size ≤ k_)) (Kd.R_mono (ok' := fun k_ => True) ho0 (fun _ hk_ => trivial)) (below_size HB.out) (fun k_ h_ => h_)) (below_size HB.out)); have HO299 := mk0 (Kd.V_lower (Kd.V_mono (ok' := fun k_ => ((P0_1_ k_ ∨ P1_1_ k_) ∨ w.heap.size ≤ k_) ∧ some k_ ≠ (v295 : Value).ownBlock ∧ k_ ≠ gb282 ∧ k_ ≠ gb283 ∧ k_ ≠ gb284) ho1 (fun k_ hk_ => ⟨Or.elim hk_.1 (fun hs_ => Or.elim hs_ (fun hs_ => hs_.1.1.1) (fun hs_ => hs_.1.1.1)) (fun hn_ => (.inr (Nat.le_trans (below_size HB.out) hn_))), hk_.2, Or.elim hk_.1 (fun hs_ => Or.elim hs_ (fun hs_ => hs_.1.1.2) (fun hs_ => hs_.1.1.2)) (fun hn_ => (Kd.freshB BK282.out k_ hn_)), Or.elim hk_.1 (fun hs_ => Or.elim hs_ (fun hs_ => hs_.1.2) (fun hs_ => hs_.1.2)) (fun hn_ => (Kd.freshB BK283.out k_ hn_)), Or.elim hk_.1 (fun hs_ => Or.elim hs_ (fun hs_ => hs_.2) (fun hs_ => hs_.2)) (fun hn_ => (Kd.freshB BK284.out k_ hn_))⟩)) (below_size HB.out)); replace BK282 := bkB BK282 hb; replace BK283 := bkB BK283 hb; replace BK284 := bkB BK284 hb; replace HB := hbS HB hb; have hcz30_0 : w29.cell? ⟨gb284, 0, none⟩ = some (.bool false) := (blk_cell BK284.out 0).trans rfl; have hcz30_1 : w29.cell? ⟨gb284, 1, none⟩ = some (.slice none 0 0) := (blk_cell BK284.out 1).trans rfl; have hcz30_2 : w29.cell? ⟨gb284, 2, none⟩ = some (.slice none 0 0) := (blk_cell BK284.out 2).trans rfl; have hfz30_0 := blk_frozen BK284.out 0; have hfz30_1 := blk_frozen BK284.out 1; have hfz30_2 := blk_frozen BK284.out 2; obtain ⟨Ao31, co31, eo31⟩ := Kd.R_slice HO296.out; subst eo31; obtain ⟨Ao32, co32, eo32⟩ := Kd.V_slice HO299.out; subst eo32))
  refine bodyPost_ret (results_ct rfl _ _ gb284 29 #[.bool t293, .slice Ao31 t294.length co31, .slice Ao32 t297.length co32] (0, 0) _ rfl (by refine blk_put (cs := #[.bool t293, .slice Ao31 t294.length co31, .slice none 0 0]) ?_ 2 _ rfl; refine blk_put (cs := #[.bool t293, .slice none 0 0, .slice none 0 0]) ?_ 1 _ rfl; refine blk_put (cs := #[.bool false, .slice none 0 0, .slice none 0 0]) ?_ 0 _ rfl; exact BK284.out) Try.underlying29 rfl (by kernel_rfl)) rfl ?_
  exact ⟨_, _, by first | rfl | (simp [errW_none, errW_some] <;> rfl) | (simp [*, errW_none, errW_some] <;> rfl), Kd.R_mono (Kd.R_far (p := ⟨gb284, 2, none⟩) (Kd.R_far (p := ⟨gb284, 1, none⟩) (Kd.R_far (p := ⟨gb284, 0, none⟩) (Kd.R_types HO296.out BK284.out (by decide)) (fun _ hk => hk.2) (.bool t293)) (fun _ hk => hk.2) (.slice Ao31 t294.length co31)) (fun _ hk => hk.2) (.slice Ao32 t297.length co32)) (fun _ hk => hk.1.1), Kd.V_mono (Kd.V_far (p := ⟨gb284, 2, none⟩) (Kd.V_far (p := ⟨gb284, 1, none⟩) (Kd.V_far (p := ⟨gb284, 0, none⟩) (Kd.V_mono HO299.out (fun k_ hk => (⟨hk, hk.2.2.2.2⟩ : _ ∧ k_ ≠ gb284))) (fun _ hk => hk.2) (.bool t293)) (fun _ hk => hk.2) (.slice Ao31 t294.length co31)) (fun _ hk => hk.2) (.slice Ao32 t297.length co32)) (fun _ hk => ⟨hk.1.1, hk.1.2.1⟩), by repeat (first | exact HB.out | refine below_set ?_ GE282.out | refine below_set ?_ GE283.out | refine below_set ?_ GE284.out)⟩
set_option maxHeartbeats 8000000 in
set_option maxRecDepth 100000 in
theorem integer_Of.calls (k : Nat) (a0 : Int) (r1 : Bool) (r2 : List Int) (w : World) (h : integer_Of.f k a0 = some (r1, r2)) :
  Calls Try.prog 39 #[.int .i64 a0] w fun e w' => ∃ v1_ : Value, e = .returned (.agg #[.bool r1, v1_]) ∧ Kd.V (Kd.int .u32) 87 w' w.heap.size (fun k_ => (w.heap.size ≤ k_)) v1_ r2 ∧ Below w.heap.size w w' := by
 have hu27 := Try.underlying27
 have HB := mk0 (Below.refl w.heap.size w)
 have H : (if a0 < 0 then ((nat_Of.f k (IntKind.u64.wrap ((IntKind.u64.wrap (wrap64 (-(wrap64 (a0 + 1))))) + 1))).bind fun t301 => (some (true, t301))) else ((nat_Of.f k (IntKind.u64.wrap (a0))).bind fun t304 => (some (false, t304)))) = some (r1, r2) := h
 clear h
 by_cases c2 : a0 < 0
 ·rw [if_pos c2] at H
  have c2b0 : decide (a0 < 0) = true := decide_eq_true c2
  clear c2
  obtain ⟨t301, A3, H⟩ := bindA H
  simp only [Option.some.injEq, Prod.mk.injEq] at H
  obtain ⟨rfl, rfl⟩ := H
  go_enter Try.func39, Try.ntmps39
  go_wp2_with (first | ((with_reducible refine gate_dst (N := 2) rfl ?_); refine box_event rfl (N := 2) rfl (cs := #[.bool false, .slice none 0 0]) (t := 27) (by first | (go_simp; done) | (go_simp; rfl)) ?_; intro gb300 hg w4 hbox hb; have BK300 := mk0 (hbox); have GE300 := geB hg HB; replace HB := hbS HB hb; clear hb hbox hg) | ((with_reducible refine gate_callee (f := 66) rfl ?_); refine goesL_ (some 10) rfl rfl Try.func66 (by kernel_rfl) rfl #[.int .u64 (IntKind.u64.wrap ((IntKind.u64.wrap (wrap64 (-(wrap64 (a0 + 1))))) + 1))] rfl (by first | (go_simp; done) | (go_simp; rfl)) ?_; (with_reducible refine (nat_Of.calls k (IntKind.u64.wrap ((IntKind.u64.wrap (wrap64 (-(wrap64 (a0 + 1))))) + 1)) t301 _ A3.out).mono ?_); rintro e w5 ⟨v302, rfl, ho0, hb⟩; refine ⟨_, rfl, ?_⟩; have HO303 := mk0 (Kd.V_lower (Kd.V_mono (ok' := fun k_ => (w.heap.size ≤ k_) ∧ k_ ≠ gb300) ho0 (fun k_ hk_ => ⟨(Nat.le_trans (below_size HB.out) hk_), (Kd.freshB BK300.out k_ hk_)⟩)) (below_size HB.out)); replace BK300 := bkB BK300 hb; replace HB := hbS HB hb; obtain ⟨Ao6, co6, eo6⟩ := Kd.V_slice HO303.out; subst eo6; have hcz7_0 : w5.cell? ⟨gb300, 0, none⟩ = some (.bool false) := (blk_cell BK300.out 0).trans rfl; have hcz7_1 : w5.cell? ⟨gb300, 1, none⟩ = some (.slice none 0 0) := (blk_cell BK300.out 1).trans rfl; have hfz7_0 := blk_frozen BK300.out 0; have hfz7_1 := blk_frozen BK300.out 1))
  refine bodyPost_ret (results_cell_row rfl _ _ gb300 27 #[.bool true, .slice Ao6 t301.length co6] (0, 0) _ rfl (by refine blk_put (cs := #[.bool true, .slice none 0 0]) ?_ 1 _ rfl; refine blk_put (cs := #[.bool false, .slice none 0 0]) ?_ 0 _ rfl; exact BK300.out) Try.underlying27 rfl (by kernel_rfl)) rfl ?_
  exact ⟨_, by first | rfl | (simp [errW_none, errW_some] <;> rfl) | (simp [*, errW_none, errW_some] <;> rfl), Kd.V_mono (Kd.V_far (p := ⟨gb300, 1, none⟩) (Kd.V_far (p := ⟨gb300, 0, none⟩) (Kd.V_mono HO303.out (fun k_ hk => (⟨hk, hk.2⟩ : _ ∧ k_ ≠ gb300))) (fun _ hk => hk.2) (.bool true)) (fun _ hk => hk.2) (.slice Ao6 t301.length co6)) (fun _ hk => hk.1.1), by repeat (first | exact HB.out | refine below_set ?_ GE300.out)⟩
 ·rw [if_neg c2] at H
  have c2b0 : decide (a0 < 0) = false := decide_eq_false c2
  clear c2
  obtain ⟨t304, A8, H⟩ := bindA H
  simp only [Option.some.injEq, Prod.mk.injEq] at H
  obtain ⟨rfl, rfl⟩ := H
  go_enter Try.func39, Try.ntmps39
  go_wp2_with (first | ((with_reducible refine gate_dst (N := 2) rfl ?_); refine box_event rfl (N := 2) rfl (cs := #[.bool false, .slice none 0 0]) (t := 27) (by first | (go_simp; done) | (go_simp; rfl)) ?_; intro gb300 hg w9 hbox hb; have BK300 := mk0 (hbox); have GE300 := geB hg HB; replace HB := hbS HB hb; clear hb hbox hg) | ((with_reducible refine gate_callee (f := 66) rfl ?_); refine goesL_ (some 14) rfl rfl Try.func66 (by kernel_rfl) rfl #[.int .u64 (IntKind.u64.wrap (a0))] rfl (by first | (go_simp; done) | (go_simp; rfl)) ?_; (with_reducible refine (nat_Of.calls k (IntKind.u64.wrap (a0)) t304 _ A8.out).mono ?_); rintro e w10 ⟨v305, rfl, ho0, hb⟩; refine ⟨_, rfl, ?_⟩; have HO306 := mk0 (Kd.V_lower (Kd.V_mono (ok' := fun k_ => (w.heap.size ≤ k_) ∧ k_ ≠ gb300) ho0 (fun k_ hk_ => ⟨(Nat.le_trans (below_size HB.out) hk_), (Kd.freshB BK300.out k_ hk_)⟩)) (below_size HB.out)); replace BK300 := bkB BK300 hb; replace HB := hbS HB hb; obtain ⟨Ao11, co11, eo11⟩ := Kd.V_slice HO306.out; subst eo11; have hcz12_0 : w10.cell? ⟨gb300, 0, none⟩ = some (.bool false) := (blk_cell BK300.out 0).trans rfl; have hcz12_1 : w10.cell? ⟨gb300, 1, none⟩ = some (.slice none 0 0) := (blk_cell BK300.out 1).trans rfl; have hfz12_0 := blk_frozen BK300.out 0; have hfz12_1 := blk_frozen BK300.out 1))
  refine bodyPost_ret (results_cell_row rfl _ _ gb300 27 #[.bool false, .slice Ao11 t304.length co11] (0, 0) _ rfl (by refine blk_put (cs := #[.bool false, .slice none 0 0]) ?_ 1 _ rfl; refine blk_put (cs := #[.bool false, .slice none 0 0]) ?_ 0 _ rfl; exact BK300.out) Try.underlying27 rfl (by kernel_rfl)) rfl ?_
  exact ⟨_, by first | rfl | (simp [errW_none, errW_some] <;> rfl) | (simp [*, errW_none, errW_some] <;> rfl), Kd.V_mono (Kd.V_far (p := ⟨gb300, 1, none⟩) (Kd.V_far (p := ⟨gb300, 0, none⟩) (Kd.V_mono HO306.out (fun k_ hk => (⟨hk, hk.2⟩ : _ ∧ k_ ≠ gb300))) (fun _ hk => hk.2) (.bool false)) (fun _ hk => hk.2) (.slice Ao11 t304.length co11)) (fun _ hk => hk.1.1), by repeat (first | exact HB.out | refine below_set ?_ GE300.out)⟩
set_option maxHeartbeats 8000000 in
set_option maxRecDepth 100000 in
theorem ratio_Of.calls (k : Nat) (a0 : Int) (a1 : Int) (r1 : Bool) (r2 : List Int) (r3 : List Int) (r4 : Bool) (w : World) (h : ratio_Of.f k a0 a1 = some (r1, r2, r3, r4)) :
  Calls Try.prog 16 #[.int .i64 a0, .int .i64 a1] w fun e w' => ∃ v1_ v2_ : Value, e = .returned (.tuple #[.agg #[.bool r1, v1_, v2_], .bool r4]) ∧ Kd.R (Kd.int .u32) 87 w' w.heap.size (fun k_ => (w.heap.size ≤ k_)) v1_ r2 ∧ Kd.V (Kd.int .u32) 87 w' w.heap.size (fun k_ => (w.heap.size ≤ k_) ∧ some k_ ≠ (v1_ : Value).ownBlock) v2_ r3 ∧ Below w.heap.size w w' := by
 have hu29 := Try.underlying29
 have HB := mk0 (Below.refl w.heap.size w)
 have H : ((integer_Of.f k a0).bind fun bt308 => ((integer_Of.f k a1).bind fun bt312 => ((ratio_Make.f k bt308.1 bt308.2 bt312.1 bt312.2).bind fun bt316 => (some (bt316.1, bt316.2.1, bt316.2.2.1, bt316.2.2.2))))) = some (r1, r2, r3, r4) := h
 clear h
 obtain ⟨⟨t308, t309⟩, A3, H⟩ := bindA H
 obtain ⟨⟨t312, t313⟩, A4, H⟩ := bindA H
 obtain ⟨⟨t316, t317, t320, t323⟩, A5, H⟩ := bindA H
 simp only [Option.some.injEq, Prod.mk.injEq] at H
 obtain ⟨rfl, rfl, rfl, rfl⟩ := H
 go_enter Try.func16, Try.ntmps16
 go_wp2_with (first | ((with_reducible refine gate_dst (N := 4) rfl ?_); refine box_event rfl (N := 4) rfl (cs := #[.bool false, .slice none 0 0, .slice none 0 0]) (t := 29) (by first | (go_simp; done) | (go_simp; rfl)) ?_; intro gb307 hg w6 hbox hb; have BK307 := mk0 (hbox); have GE307 := geB hg HB; replace HB := hbS HB hb; clear hb hbox hg) | ((with_reducible refine gate_callee (f := 39) rfl ?_); refine goesL_ (some 7) rfl rfl Try.func39 (by kernel_rfl) rfl #[.int .i64 a0] rfl (by first | (go_simp; done) | (go_simp; rfl)) ?_; (with_reducible refine (integer_Of.calls k a0 t308 t309 _ A3.out).mono ?_); rintro e w7 ⟨v310, rfl, ho0, hb⟩; refine ⟨_, rfl, ?_⟩; have HO311 := mk0 (Kd.V_lower (Kd.V_mono (ok' := fun k_ => (w.heap.size ≤ k_) ∧ k_ ≠ gb307) ho0 (fun k_ hk_ => ⟨(Nat.le_trans (below_size HB.out) hk_), (Kd.freshB BK307.out k_ hk_)⟩)) (below_size HB.out)); replace BK307 := bkB BK307 hb; replace HB := hbS HB hb) | ((with_reducible refine gate_callee (f := 39) rfl ?_); refine goesL_ (some 9) rfl rfl Try.func39 (by kernel_rfl) rfl #[.int .i64 a1] rfl (by first | (go_simp; done) | (go_simp; rfl)) ?_; (with_reducible refine (integer_Of.calls k a1 t312 t313 _ A4.out).mono ?_); rintro e w8 ⟨v314, rfl, ho0, hb⟩; refine ⟨_, rfl, ?_⟩; replace HO311 := mk0 (Kd.V_below HO311.out hb); have HO315 := mk0 (Kd.V_lower (Kd.V_mono (ok' := fun k_ => (w.heap.size ≤ k_) ∧ k_ ≠ gb307) ho0 (fun k_ hk_ => ⟨(Nat.le_trans (below_size HB.out) hk_), (Kd.freshB BK307.out k_ hk_)⟩)) (below_size HB.out)); replace BK307 := bkB BK307 hb; replace HB := hbS HB hb; obtain ⟨Ao9, co9, eo9⟩ := Kd.V_slice HO311.out; subst eo9; obtain ⟨Ao10, co10, eo10⟩ := Kd.V_slice HO315.out; subst eo10) | ((with_reducible refine gate_callee (f := 38) rfl ?_); refine goesL_ (some 10) rfl rfl Try.func38 (by kernel_rfl) rfl #[.agg #[.bool t308, .slice Ao9 t309.length co9], .agg #[.bool t312, .slice Ao10 t313.length co10]] rfl (by first | (go_simp; done) | (go_simp; rfl)) ?_; (with_reducible refine (ratio_Make.calls k t308 (fun k_ => ((w.heap.size ≤ k_) ∧ k_ ≠ gb307)) _ _ t309 t312 (fun k_ => ((w.heap.size ≤ k_) ∧ k_ ≠ gb307)) _ _ t313 t316 t317 t320 t323 _ HO311.out HO315.out A5.out).mono ?_); rintro e w11 ⟨v318, v321, rfl, ho0, ho1, hb⟩; refine ⟨_, rfl, ?_⟩; replace HO311 := mk0 (Kd.V_elder' HO311.out (Kd.R_base ho0) hb); replace HO315 := mk0 (Kd.V_elder' HO315.out (Kd.R_base ho0) hb); have HO319 := mk0 (Kd.R_lower (Kd.R_newM (M := fun k_ => (w.heap.size ≤ k_)) (Kd.R_mono (ok' := fun k_ => True) ho0 (fun _ hk_ => trivial)) (below_size HB.out) (fun k_ h_ => h_)) (below_size HB.out)); have HO322 := mk0 (Kd.V_lower (Kd.V_mono (ok' := fun k_ => (w.heap.size ≤ k_) ∧ some k_ ≠ (v318 : Value).ownBlock ∧ k_ ≠ gb307) ho1 (fun k_ hk_ => ⟨Or.elim hk_.1 (fun hs_ => Or.elim hs_ (fun hs_ => hs_.1) (fun hs_ => hs_.1)) (fun hn_ => (Nat.le_trans (below_size HB.out) hn_)), hk_.2, Or.elim hk_.1 (fun hs_ => Or.elim hs_ (fun hs_ => hs_.2) (fun hs_ => hs_.2)) (fun hn_ => (Kd.freshB BK307.out k_ hn_))⟩)) (below_size HB.out)); replace BK307 := bkB BK307 hb; replace HB := hbS HB hb; have hcz12_0 : w11.cell? ⟨gb307, 0, none⟩ = some (.bool false) := (blk_cell BK307.out 0).trans rfl; have hcz12_1 : w11.cell? ⟨gb307, 1, none⟩ = some (.slice none 0 0) := (blk_cell BK307.out 1).trans rfl; have hcz12_2 : w11.cell? ⟨gb307, 2, none⟩ = some (.slice none 0 0) := (blk_cell BK307.out 2).trans rfl; have hfz12_0 := blk_frozen BK307.out 0; have hfz12_1 := blk_frozen BK307.out 1; have hfz12_2 := blk_frozen BK307.out 2; obtain ⟨Ao13, co13, eo13⟩ := Kd.R_slice HO319.out; subst eo13; obtain ⟨Ao14, co14, eo14⟩ := Kd.V_slice HO322.out; subst eo14))
 refine bodyPost_ret (results_ct rfl _ _ gb307 29 #[.bool t316, .slice Ao13 t317.length co13, .slice Ao14 t320.length co14] (0, 0) _ rfl (by refine blk_put (cs := #[.bool t316, .slice Ao13 t317.length co13, .slice none 0 0]) ?_ 2 _ rfl; refine blk_put (cs := #[.bool t316, .slice none 0 0, .slice none 0 0]) ?_ 1 _ rfl; refine blk_put (cs := #[.bool false, .slice none 0 0, .slice none 0 0]) ?_ 0 _ rfl; exact BK307.out) Try.underlying29 rfl (by kernel_rfl)) rfl ?_
 exact ⟨_, _, by first | rfl | (simp [errW_none, errW_some] <;> rfl) | (simp [*, errW_none, errW_some] <;> rfl), Kd.R_mono (Kd.R_far (p := ⟨gb307, 2, none⟩) (Kd.R_far (p := ⟨gb307, 1, none⟩) (Kd.R_far (p := ⟨gb307, 0, none⟩) (Kd.R_types HO319.out BK307.out (by decide)) (fun _ hk => hk.2) (.bool t316)) (fun _ hk => hk.2) (.slice Ao13 t317.length co13)) (fun _ hk => hk.2) (.slice Ao14 t320.length co14)) (fun _ hk => hk.1.1), Kd.V_mono (Kd.V_far (p := ⟨gb307, 2, none⟩) (Kd.V_far (p := ⟨gb307, 1, none⟩) (Kd.V_far (p := ⟨gb307, 0, none⟩) (Kd.V_mono HO322.out (fun k_ hk => (⟨hk, hk.2.2⟩ : _ ∧ k_ ≠ gb307))) (fun _ hk => hk.2) (.bool t316)) (fun _ hk => hk.2) (.slice Ao13 t317.length co13)) (fun _ hk => hk.2) (.slice Ao14 t320.length co14)) (fun _ hk => ⟨hk.1.1, hk.1.2.1⟩), by repeat (first | exact HB.out | refine below_set ?_ GE307.out)⟩
set_option maxHeartbeats 8000000 in
set_option maxRecDepth 100000 in
theorem ratio_whole.calls (k : Nat) (A0 : Option Addr) (c0 : Nat) (l0 : List Int) (r1 : Bool) (r2 : List Int) (w : World) (hr0 : Kd.C (Kd.int .u32) w A0 l0.length l0) (hc0 : l0.length ≤ c0) (h : ratio_whole.f k l0 = some (r1, r2)) :
  Calls Try.prog 65 #[.slice A0 l0.length c0] w fun e w' => ∃ v1_ : Value, e = .returned (.agg #[.bool r1, v1_]) ∧ Kd.R (Kd.int .u32) 87 w' w.heap.size (fun _ => True) v1_ r2 ∧ Below w.heap.size w w' := by
 have hu27 := Try.underlying27
 have HR0 := mk0 hr0
 have HC0 := mk0 hc0
 clear hr0 hc0
 have HB := mk0 (Below.refl w.heap.size w)
 have H : ((integer_Make.f k false l0).bind fun bt325 => (some (bt325.1, bt325.2))) = some (r1, r2) := h
 clear h
 obtain ⟨⟨t325, t326⟩, A2, H⟩ := bindA H
 simp only [Option.some.injEq, Prod.mk.injEq] at H
 obtain ⟨rfl, rfl⟩ := H
 go_enter Try.func65, Try.ntmps65
 go_wp2_with (first | ((with_reducible refine gate_dst (N := 2) rfl ?_); refine box_event rfl (N := 2) rfl (cs := #[.bool false, .slice none 0 0]) (t := 27) (by first | (go_simp; done) | (go_simp; rfl)) ?_; intro gb324 hg w3 hbox hb; have BK324 := mk0 (hbox); have GE324 := geB hg HB; replace HB := hbS HB hb; clear hb hbox hg) | ((with_reducible refine gate_callee (f := 78) rfl ?_); refine goesL_ (some 4) rfl rfl Try.func78 (by kernel_rfl) rfl #[.bool false, .slice A0 l0.length c0] rfl (by first | (go_simp; done) | (go_simp; rfl)) ?_; (with_reducible refine (integer_Make.calls k false _ _ l0 t325 t326 _ (by exact Kd.C_below HR0.out HB.out) HC0.out A2.out).mono ?_); rintro e w4 ⟨v327, rfl, ho0, hb⟩; refine ⟨_, rfl, ?_⟩; have HO328 := mk0 (Kd.R_lower ho0 (below_size HB.out)); replace BK324 := bkB BK324 hb; replace HB := hbS HB hb; have hcz5_0 : w4.cell? ⟨gb324, 0, none⟩ = some (.bool false) := (blk_cell BK324.out 0).trans rfl; have hcz5_1 : w4.cell? ⟨gb324, 1, none⟩ = some (.slice none 0 0) := (blk_cell BK324.out 1).trans rfl; have hfz5_0 := blk_frozen BK324.out 0; have hfz5_1 := blk_frozen BK324.out 1; obtain ⟨Ao6, co6, eo6⟩ := Kd.R_slice HO328.out; subst eo6))
 refine bodyPost_ret (results_cell_row rfl _ _ gb324 27 #[.bool t325, .slice Ao6 t326.length co6] (0, 0) _ rfl (by refine blk_put (cs := #[.bool t325, .slice none 0 0]) ?_ 1 _ rfl; refine blk_put (cs := #[.bool false, .slice none 0 0]) ?_ 0 _ rfl; exact BK324.out) Try.underlying27 rfl (by kernel_rfl)) rfl ?_
 exact ⟨_, by first | rfl | (simp [errW_none, errW_some] <;> rfl) | (simp [*, errW_none, errW_some] <;> rfl), Kd.R_mono (Kd.R_far (p := ⟨gb324, 1, none⟩) (Kd.R_far (p := ⟨gb324, 0, none⟩) (Kd.R_types HO328.out BK324.out (by decide)) (fun _ hk => hk.2) (.bool t325)) (fun _ hk => hk.2) (.slice Ao6 t326.length co6)) (fun _ hk => trivial), by repeat (first | exact HB.out | refine below_set ?_ GE324.out)⟩
set_option maxHeartbeats 8000000 in
set_option maxRecDepth 100000 in
theorem ratio_parts.calls (k : Nat) (a0_0 : Bool) (P0_1_ : Nat → Prop) (A0_1 : Option Addr) (c0_1 : Nat) (l0_1 : List Int) (A0_2 : Option Addr) (c0_2 : Nat) (l0_2 : List Int) (r1 : Bool) (r2 : List Int) (r3 : Bool) (r4 : List Int) (w : World) (hs0_1 : Kd.V (Kd.int .u32) 87 w w.heap.size (fun k_ => P0_1_ k_) (.slice A0_1 l0_1.length c0_1) l0_1) (hr0_2 : Kd.C (Kd.int .u32) w A0_2 l0_2.length l0_2) (hc0_2 : l0_2.length ≤ c0_2) (h : ratio_parts.f k a0_0 l0_1 l0_2 = some (r1, r2, r3, r4)) :
  Calls Try.prog 36 #[.agg #[.bool a0_0, .slice A0_1 l0_1.length c0_1, .slice A0_2 l0_2.length c0_2]] w fun e w' => ∃ v1_ v3_ : Value, e = .returned (.tuple #[.agg #[.bool r1, v1_], .agg #[.bool r3, v3_]]) ∧ Kd.V (Kd.int .u32) 87 w' w.heap.size (fun k_ => (P0_1_ k_ ∨ w.heap.size ≤ k_) ∧ some k_ ≠ (v3_ : Value).ownBlock) v1_ r2 ∧ Kd.R (Kd.int .u32) 87 w' w.heap.size (fun k_ => (w.heap.size ≤ k_)) v3_ r4 ∧ Below w.heap.size w w' := by
 have hu29 := Try.underlying29
 have hu27 := Try.underlying27
 have HO0_1 := mk0 (show Kd.V (Kd.int .u32) 87 w w.heap.size (fun k_ => (P0_1_ k_ ∨ w.heap.size ≤ k_)) (.slice A0_1 l0_1.length c0_1) l0_1 from Kd.V_mono hs0_1 (fun k_ hk => .inl hk))
 have HR0_2 := mk0 hr0_2
 have HC0_2 := mk0 hc0_2
 clear hr0_2 hc0_2
 have HB := mk0 (Below.refl w.heap.size w)
 have H : ((nat_Bits.f k l0_2).bind fun t332 => (if t332 = 0 then ((nat_Of.f k 1).bind fun t333 => ((ratio_whole.f k t333).bind fun bt336 => (some (false, ([] : List Int), bt336.1, bt336.2)))) else ((ratio_whole.f k l0_2).bind fun bt340 => (some (a0_0, l0_1, bt340.1, bt340.2))))) = some (r1, r2, r3, r4) := h
 clear h
 obtain ⟨t332, A2, H⟩ := bindA H
 by_cases c3 : t332 = 0
 ·rw [if_pos c3] at H
  have c3b0 : (t332 == 0) = true := beq_iff_eq.mpr c3
  have c3b1 : (t332 != 0) = false := bne_eq_false_iff_eq.mpr c3
  clear c3
  obtain ⟨t333, A4, H⟩ := bindA H
  obtain ⟨⟨t336, t337⟩, A5, H⟩ := bindA H
  simp only [Option.some.injEq, Prod.mk.injEq] at H
  obtain ⟨rfl, rfl, rfl, rfl⟩ := H
  go_enter Try.func36, Try.ntmps36
  go_wp2_with (first | ((with_reducible refine gate_dst (N := 1) rfl ?_); refine box_event rfl (N := 1) rfl (cs := #[.bool a0_0, .slice A0_1 l0_1.length c0_1, .slice A0_2 l0_2.length c0_2]) (t := 29) (by first | (go_simp; done) | (go_simp; rfl)) ?_; intro gb329 hg w6 hbox hb; replace HO0_1 := vB HO0_1 hg hb; have BK329 := mk0 (hbox); have GE329 := geB hg HB; replace HB := hbS HB hb; clear hb hbox hg) | ((with_reducible refine gate_dst (N := 2) rfl ?_); refine box_event rfl (N := 2) rfl (cs := #[.bool false, .slice none 0 0]) (t := 27) (by first | (go_simp; done) | (go_simp; rfl)) ?_; intro gb330 hg w7 hbox hb; replace HO0_1 := vB HO0_1 hg hb; have BK330 := mk0 (hbox); have GE330 := geB hg HB; replace HB := hbS HB hb; have NB329_330 := nbA hg BK329; have NB330_329 := nbB hg BK329; replace BK329 := bkB BK329 hb; clear hb hbox hg) | ((with_reducible refine gate_dst (N := 3) rfl ?_); refine box_event rfl (N := 3) rfl (cs := #[.bool false, .slice none 0 0]) (t := 27) (by first | (go_simp; done) | (go_simp; rfl)) ?_; intro gb331 hg w8 hbox hb; replace HO0_1 := vB HO0_1 hg hb; have BK331 := mk0 (hbox); have GE331 := geB hg HB; replace HB := hbS HB hb; have NB329_331 := nbA hg BK329; have NB331_329 := nbB hg BK329; replace BK329 := bkB BK329 hb; have NB330_331 := nbA hg BK330; have NB331_330 := nbB hg BK330; replace BK330 := bkB BK330 hb; clear hb hbox hg; have hnb9 := NB329_330.out; have hnc9 := NB330_329.out; have hnb10 := NB329_331.out; have hnc10 := NB331_329.out; have hcz11_0 : w8.cell? ⟨gb329, 0, none⟩ = some (.bool a0_0) := (blk_cell BK329.out 0).trans rfl; have hcz11_1 : w8.cell? ⟨gb329, 1, none⟩ = some (.slice A0_1 l0_1.length c0_1) := (blk_cell BK329.out 1).trans rfl; have hcz11_2 : w8.cell? ⟨gb329, 2, none⟩ = some (.slice A0_2 l0_2.length c0_2) := (blk_cell BK329.out 2).trans rfl; have hfz11_0 := blk_frozen BK329.out 0; have hfz11_1 := blk_frozen BK329.out 1; have hfz11_2 := blk_frozen BK329.out 2) | ((with_reducible refine gate_callee (f := 64) rfl ?_); refine goesL_ (some 6) rfl rfl Try.func64 (by kernel_rfl) rfl #[.slice A0_2 l0_2.length c0_2] rfl (by first | (go_simp; done) | (go_simp; rfl)) ?_; (with_reducible refine (nat_Bits.calls k _ _ l0_2 t332 _ (by exact Kd.C_below HR0_2.out HB.out) HC0_2.out A2.out).mono ?_); rintro e w12 ⟨rfl, hb⟩; refine ⟨_, rfl, ?_⟩; replace HO0_1 := mk0 (Kd.V_below HO0_1.out hb); replace BK329 := bkB BK329 hb; replace BK330 := bkB BK330 hb; replace BK331 := bkB BK331 hb; replace HB := hbS HB hb) | ((with_reducible refine gate_callee (f := 66) rfl ?_); refine goesL_ (some 9) rfl rfl Try.func66 (by kernel_rfl) rfl #[.int .u64 1] rfl (by first | (go_simp; done) | (go_simp; rfl)) ?_; (with_reducible refine (nat_Of.calls k 1 t333 _ A4.out).mono ?_); rintro e w13 ⟨v334, rfl, ho0, hb⟩; refine ⟨_, rfl, ?_⟩; replace HO0_1 := mk0 (Kd.V_below HO0_1.out hb); have HO335 := mk0 (Kd.V_lower (Kd.V_mono (ok' := fun k_ => (P0_1_ k_ ∨ w.heap.size ≤ k_) ∧ k_ ≠ gb329 ∧ k_ ≠ gb330 ∧ k_ ≠ gb331) ho0 (fun k_ hk_ => ⟨(.inr (Nat.le_trans (below_size HB.out) hk_)), (Kd.freshB BK329.out k_ hk_), (Kd.freshB BK330.out k_ hk_), (Kd.freshB BK331.out k_ hk_)⟩)) (below_size HB.out)); replace BK329 := bkB BK329 hb; replace BK330 := bkB BK330 hb; replace BK331 := bkB BK331 hb; replace HB := hbS HB hb; obtain ⟨Ao14, co14, eo14⟩ := Kd.V_slice HO335.out; subst eo14) | ((with_reducible refine gate_callee (f := 65) rfl ?_); refine goesL_ (some 10) rfl rfl Try.func65 (by kernel_rfl) rfl #[.slice Ao14 t333.length co14] rfl (by first | (go_simp; done) | (go_simp; rfl)) ?_; (with_reducible refine (ratio_whole.calls k _ _ t333 t336 t337 _ (by exact (Kd.V_reads' HO335.out).2.2) (by exact (Kd.V_reads' HO335.out).2.1) A5.out).mono ?_); rintro e w15 ⟨v338, rfl, ho0, hb⟩; refine ⟨_, rfl, ?_⟩; replace HO0_1 := mk0 (Kd.V_elder' HO0_1.out (Kd.R_base ho0) hb); replace HO335 := mk0 (Kd.V_elder' HO335.out (Kd.R_base ho0) hb); have HO339 := mk0 (Kd.R_lower (Kd.R_newM (M := fun k_ => (w.heap.size ≤ k_)) ho0 (below_size HB.out) (fun k_ h_ => h_)) (below_size HB.out)); replace BK329 := bkB BK329 hb; replace BK330 := bkB BK330 hb; replace BK331 := bkB BK331 hb; replace HB := hbS HB hb; have hnb16 := NB330_331.out; have hnc16 := NB331_330.out; have hcz17_0 : w15.cell? ⟨gb330, 0, none⟩ = some (.bool false) := (blk_cell BK330.out 0).trans rfl; have hcz17_1 : w15.cell? ⟨gb330, 1, none⟩ = some (.slice none 0 0) := (blk_cell BK330.out 1).trans rfl; have hfz17_0 := blk_frozen BK330.out 0; have hfz17_1 := blk_frozen BK330.out 1; have hcz18_0 : w15.cell? ⟨gb331, 0, none⟩ = some (.bool false) := (blk_cell BK331.out 0).trans rfl; have hcz18_1 : w15.cell? ⟨gb331, 1, none⟩ = some (.slice none 0 0) := (blk_cell BK331.out 1).trans rfl; have hfz18_0 := blk_frozen BK331.out 0; have hfz18_1 := blk_frozen BK331.out 1; obtain ⟨Ao19, co19, eo19⟩ := Kd.R_slice HO339.out; subst eo19))
  refine bodyPost_ret (results_cc rfl _ _ gb330 gb331 27 27 #[.bool false, .slice none 0 0] #[.bool t336, .slice Ao19 t337.length co19] (0, 0) (0, 0) _ _ rfl (by refine blk_far ?_ NB330_331.out _; refine blk_far ?_ NB330_331.out _; refine blk_put (cs := #[.bool false, .slice none 0 0]) ?_ 1 _ rfl; refine blk_put (cs := #[.bool false, .slice none 0 0]) ?_ 0 _ rfl; exact BK330.out) Try.underlying27 rfl (by kernel_rfl) rfl (by refine blk_put (cs := #[.bool t336, .slice none 0 0]) ?_ 1 _ rfl; refine blk_put (cs := #[.bool false, .slice none 0 0]) ?_ 0 _ rfl; refine blk_far ?_ NB331_330.out _; refine blk_far ?_ NB331_330.out _; exact BK331.out) Try.underlying27 rfl (by kernel_rfl)) rfl ?_
  exact ⟨_, _, by first | rfl | (simp [errW_none, errW_some] <;> rfl) | (simp [*, errW_none, errW_some] <;> rfl), (Kd.V_nil _ _ _ _ _), Kd.R_mono (Kd.R_far (p := ⟨gb331, 1, none⟩) (Kd.R_far (p := ⟨gb331, 0, none⟩) (Kd.R_far (p := ⟨gb330, 1, none⟩) (Kd.R_far (p := ⟨gb330, 0, none⟩) (Kd.R_types (Kd.R_types HO339.out BK330.out (by decide)) BK331.out (by decide)) (fun _ hk => hk.1.2) (.bool false)) (fun _ hk => hk.1.2) (.slice none 0 0)) (fun _ hk => hk.2) (.bool t336)) (fun _ hk => hk.2) (.slice Ao19 t337.length co19)) (fun _ hk => hk.1.1.1), by repeat (first | exact HB.out | refine below_set ?_ GE329.out | refine below_set ?_ GE330.out | refine below_set ?_ GE331.out)⟩
 ·rw [if_neg c3] at H
  have c3b0 : (t332 == 0) = false := beq_eq_false_iff_ne.mpr c3
  have c3b1 : (t332 != 0) = true := bne_iff_ne.mpr c3
  obtain ⟨⟨t340, t341⟩, A20, H⟩ := bindA H
  simp only [Option.some.injEq, Prod.mk.injEq] at H
  obtain ⟨rfl, rfl, rfl, rfl⟩ := H
  go_enter Try.func36, Try.ntmps36
  try go_wp2_with (first | ((with_reducible refine gate_dst (N := 1) rfl ?_); refine box_event rfl (N := 1) rfl (cs := #[.bool a0_0, .slice A0_1 l0_1.length c0_1, .slice A0_2 l0_2.length c0_2]) (t := 29) (by first | (go_simp; done) | (go_simp; rfl)) ?_; intro gb329 hg w21 hbox hb; replace HO0_1 := vB HO0_1 hg hb; have BK329 := mk0 (hbox); have GE329 := geB hg HB; replace HB := hbS HB hb; clear hb hbox hg) | ((with_reducible refine gate_dst (N := 2) rfl ?_); refine box_event rfl (N := 2) rfl (cs := #[.bool false, .slice none 0 0]) (t := 27) (by first | (go_simp; done) | (go_simp; rfl)) ?_; intro gb330 hg w22 hbox hb; replace HO0_1 := vB HO0_1 hg hb; have BK330 := mk0 (hbox); have GE330 := geB hg HB; replace HB := hbS HB hb; have NB329_330 := nbA hg BK329; have NB330_329 := nbB hg BK329; replace BK329 := bkB BK329 hb; clear hb hbox hg) | ((with_reducible refine gate_dst (N := 3) rfl ?_); refine box_event rfl (N := 3) rfl (cs := #[.bool false, .slice none 0 0]) (t := 27) (by first | (go_simp; done) | (go_simp; rfl)) ?_; intro gb331 hg w23 hbox hb; replace HO0_1 := vB HO0_1 hg hb; have BK331 := mk0 (hbox); have GE331 := geB hg HB; replace HB := hbS HB hb; have NB329_331 := nbA hg BK329; have NB331_329 := nbB hg BK329; replace BK329 := bkB BK329 hb; have NB330_331 := nbA hg BK330; have NB331_330 := nbB hg BK330; replace BK330 := bkB BK330 hb; clear hb hbox hg; have hnb24 := NB329_330.out; have hnc24 := NB330_329.out; have hnb25 := NB329_331.out; have hnc25 := NB331_329.out; have hcz26_0 : w23.cell? ⟨gb329, 0, none⟩ = some (.bool a0_0) := (blk_cell BK329.out 0).trans rfl; have hcz26_1 : w23.cell? ⟨gb329, 1, none⟩ = some (.slice A0_1 l0_1.length c0_1) := (blk_cell BK329.out 1).trans rfl; have hcz26_2 : w23.cell? ⟨gb329, 2, none⟩ = some (.slice A0_2 l0_2.length c0_2) := (blk_cell BK329.out 2).trans rfl; have hfz26_0 := blk_frozen BK329.out 0; have hfz26_1 := blk_frozen BK329.out 1; have hfz26_2 := blk_frozen BK329.out 2) | ((with_reducible refine gate_callee (f := 64) rfl ?_); refine goesL_ (some 6) rfl rfl Try.func64 (by kernel_rfl) rfl #[.slice A0_2 l0_2.length c0_2] rfl (by first | (go_simp; done) | (go_simp; rfl)) ?_; (with_reducible refine (nat_Bits.calls k _ _ l0_2 t332 _ (by exact Kd.C_below HR0_2.out HB.out) HC0_2.out A2.out).mono ?_); rintro e w27 ⟨rfl, hb⟩; refine ⟨_, rfl, ?_⟩; replace HO0_1 := mk0 (Kd.V_below HO0_1.out hb); replace BK329 := bkB BK329 hb; replace BK330 := bkB BK330 hb; replace BK331 := bkB BK331 hb; replace HB := hbS HB hb))
  replace HO0_1 := mk0 (Kd.V_drew HO0_1.out)
  replace BK329 := mk0 (blk_drew BK329.out)
  replace BK330 := mk0 (blk_drew BK330.out)
  replace BK331 := mk0 (blk_drew BK331.out)
  replace HB := mk0 (below_drew1 HB.out)
  refine start_ (n := 7) (S := fun w' => w'.cell? ⟨gb329, 0, none⟩ = some (.bool a0_0) ∧ w'.cell? ⟨gb329, 1, none⟩ = some (.slice A0_1 l0_1.length c0_1) ∧ w'.cell? ⟨gb329, 2, none⟩ = some (.slice A0_2 l0_2.length c0_2)) (ds := []) (bv 7 0) (by kernel_rfl) rfl rfl ⟨(blk_cell BK329.out 0).trans rfl, (blk_cell BK329.out 1).trans rfl, (blk_cell BK329.out 2).trans rfl⟩ (fun hHeld => ?_)
  generalize w27.drew = w28 at HO0_1 BK329 BK330 BK331 HB hHeld ⊢
  refine pure_ (i := 0) (N := some 11) (v := ?_) (a' := ?_) (bv 7 1) rfl rfl (by kernel_rfl) (fun _ _ _ h => h) (Or.inl ⟨by rfl, ?_⟩) ?_ ?_; rotate_left; (intro w'; go_simp; with_reducible rfl); rotate_left; (simp only [Act.put, List.setIfInBounds_toArray, List.set_cons_zero, List.set_cons_succ, i64_w, i32_w]; rfl)
  refine pure_ (i := 2) (N := some 13) (v := ?_) (a' := ?_) (bv 7 5) rfl rfl (by kernel_rfl) (fun _ _ _ h => h) (Or.inl ⟨by rfl, ?_⟩) ?_ ?_; rotate_left; (intro w'; go_simp; with_reducible rfl); rotate_left; (simp only [Act.put, List.setIfInBounds_toArray, List.set_cons_zero, List.set_cons_succ, i64_w, i32_w]; rfl)
  refine take_ (i := 1) (N := some 12) (v := ?_) (a' := ?_) (bv 7 7) rfl rfl (by kernel_rfl) (fun _ _ _ h => h) (Or.inl ⟨by rfl, ?_⟩) hHeld ?_ ?_; rotate_left; (rintro w' ⟨s0, s1, s2⟩; go_simp; with_reducible rfl); rotate_left; (simp only [Act.put, List.setIfInBounds_toArray, List.set_cons_zero, List.set_cons_succ, i64_w, i32_w]; rfl)
  refine take_ (i := 3) (N := some 14) (v := ?_) (a' := ?_) (bv 7 15) rfl rfl (by kernel_rfl) (fun _ _ _ h => h) (Or.inl ⟨by rfl, ?_⟩) hHeld ?_ ?_; rotate_left; (rintro w' ⟨s0, s1, s2⟩; go_simp; with_reducible rfl); rotate_left; (simp only [Act.put, List.setIfInBounds_toArray, List.set_cons_zero, List.set_cons_succ, i64_w, i32_w]; rfl)
  refine one_ (i := 4) (N := some 15) (bv 7 31) rfl rfl (by kernel_rfl) (by decide) (fun K hK => ?_)
  refine goes_ Try.func65 (by kernel_rfl) rfl #[.slice A0_2 l0_2.length c0_2] (by rfl) rfl rfl (by first | (go_simp; done) | (go_simp; rfl)) ?_
  with_reducible refine (ratio_whole.calls k _ _ l0_2 t340 t341 _ ?side1 ?side2 A20.out).mono ?_
  (case side1 => repeat (first | exact (Kd.C_below HR0_2.out HB.out) | (with_reducible refine Kd.C_alloc ?_ _) | (with_reducible refine Kd.C_drewN ?_ _) | (with_reducible refine Kd.C_drew ?_)))
  (case side2 => exact HC0_2.out)
  rintro e w29 ⟨v342, rfl, ho0, hb⟩
  refine ⟨_, rfl, ?_⟩
  replace HO0_1 := mk0 (Kd.V_elder' HO0_1.out (Kd.R_base ho0) hb)
  have HO343 := mk0 (Kd.R_lower (Kd.R_newM (M := fun k_ => (w.heap.size ≤ k_)) ho0 (below_size (by repeat (first | exact HB.out | refine below_set ?_ GE329.out | refine below_set ?_ GE330.out | refine below_set ?_ GE331.out))) (fun k_ h_ => h_)) (below_size (by repeat (first | exact HB.out | refine below_set ?_ GE329.out | refine below_set ?_ GE330.out | refine below_set ?_ GE331.out))))
  replace BK329 := bkB BK329 hb
  replace BK330 := bkB BK330 hb
  replace BK331 := bkB BK331 hb
  replace HB := mk0 (below_step (by repeat (first | exact HB.out | refine below_set ?_ GE329.out | refine below_set ?_ GE330.out | refine below_set ?_ GE331.out)) hb)
  obtain ⟨Ao33, co33, eo33⟩ := Kd.R_slice HO343.out
  (first | subst eo33 | (injection eo33 with f1_ f2_ f3_; have f4_ := f1_.symm; have f5_ := f3_.symm; clear f1_ f2_ f3_; subst f4_; subst f5_))
  refine hK.out _ _ ⟨(blk_cell BK329.out 0).trans rfl, (blk_cell BK329.out 1).trans rfl, (blk_cell BK329.out 2).trans rfl⟩ (fun hHeld => ?_)
  clear hK K
  refine norm_ (a' := ?_) ?_ ?_
  rotate_left
  ·show Act.put _ (some 15) _ = _
   simp only [Act.put, List.setIfInBounds_toArray, List.set_cons_zero, List.set_cons_succ, i64_w, i32_w]
   rfl
  refine one_ (i := 5) (N := none) (bv 7 63) rfl rfl (by kernel_rfl) (by decide) (fun K hK => ?_)
  have hs30 : w29.cell? ⟨gb330, 0, none⟩ = some (.bool false) := (blk_cell BK330.out 0).trans rfl
  have hfs30 := blk_frozen BK330.out 0
  have hns30_0 := NB329_330.out
  have hns30_2 := NB331_330.out
  have hms30_0 := NB330_329.out
  have hms30_2 := NB330_331.out
  have hs31 : w29.cell? ⟨gb330, 1, none⟩ = some (.slice none 0 0) := (blk_cell BK330.out 1).trans rfl
  have hfs31 := blk_frozen BK330.out 1
  have hns31_0 := NB329_330.out
  have hns31_2 := NB331_330.out
  have hms31_0 := NB330_329.out
  have hms31_2 := NB330_331.out
  refine skip_ (w1 := ?_) (by rfl) rfl ?_ ?_
  rotate_left
  ·go_simp
   rfl
  refine hK.out _ _ ⟨((cell_far (p := ⟨gb330, _, none⟩) NB329_330.out _).trans (((cell_far (p := ⟨gb330, _, none⟩) NB329_330.out _).trans (hHeld.1)))), ((cell_far (p := ⟨gb330, _, none⟩) NB329_330.out _).trans (((cell_far (p := ⟨gb330, _, none⟩) NB329_330.out _).trans (hHeld.2.1)))), ((cell_far (p := ⟨gb330, _, none⟩) NB329_330.out _).trans (((cell_far (p := ⟨gb330, _, none⟩) NB329_330.out _).trans (hHeld.2.2))))⟩ (fun hHeld => ?_)
  clear hK K
  refine one_ (i := 6) (N := none) (bv 7 127) rfl rfl (by kernel_rfl) (by decide) (fun K hK => ?_)
  have hs32 : w29.cell? ⟨gb331, 0, none⟩ = some (.bool false) := (blk_cell BK331.out 0).trans rfl
  have hfs32 := blk_frozen BK331.out 0
  have hns32_0 := NB329_331.out
  have hns32_1 := NB330_331.out
  have hms32_0 := NB331_329.out
  have hms32_1 := NB331_330.out
  have hs34 : w29.cell? ⟨gb331, 1, none⟩ = some (.slice none 0 0) := (blk_cell BK331.out 1).trans rfl
  have hfs34 := blk_frozen BK331.out 1
  have hns34_0 := NB329_331.out
  have hns34_1 := NB330_331.out
  have hms34_0 := NB331_329.out
  have hms34_1 := NB331_330.out
  refine skip_ (w1 := ?_) (by rfl) rfl ?_ ?_
  rotate_left
  ·go_simp
   rfl
  refine hK.out _ _ ⟨((cell_far (p := ⟨gb331, _, none⟩) NB329_331.out _).trans (((cell_far (p := ⟨gb331, _, none⟩) NB329_331.out _).trans (hHeld.1)))), ((cell_far (p := ⟨gb331, _, none⟩) NB329_331.out _).trans (((cell_far (p := ⟨gb331, _, none⟩) NB329_331.out _).trans (hHeld.2.1)))), ((cell_far (p := ⟨gb331, _, none⟩) NB329_331.out _).trans (((cell_far (p := ⟨gb331, _, none⟩) NB329_331.out _).trans (hHeld.2.2))))⟩ (fun hHeld => ?_)
  clear hK K
  refine done_ (by kernel_rfl) ?_
  try go_wp2
  refine bodyPost_ret (results_cc rfl _ _ gb330 gb331 27 27 #[.bool a0_0, .slice A0_1 l0_1.length c0_1] #[.bool t340, .slice Ao33 t341.length co33] (0, 0) (0, 0) _ _ rfl (by refine blk_far ?_ NB330_331.out _; refine blk_far ?_ NB330_331.out _; refine blk_put (cs := #[.bool a0_0, .slice none 0 0]) ?_ 1 _ rfl; refine blk_put (cs := #[.bool false, .slice none 0 0]) ?_ 0 _ rfl; exact BK330.out) Try.underlying27 rfl (by kernel_rfl) rfl (by refine blk_put (cs := #[.bool t340, .slice none 0 0]) ?_ 1 _ rfl; refine blk_put (cs := #[.bool false, .slice none 0 0]) ?_ 0 _ rfl; refine blk_far ?_ NB331_330.out _; refine blk_far ?_ NB331_330.out _; exact BK331.out) Try.underlying27 rfl (by kernel_rfl)) rfl ?_
  exact ⟨_, _, by first | rfl | (simp [errW_none, errW_some] <;> rfl) | (simp [*, errW_none, errW_some] <;> rfl), Kd.V_mono (Kd.V_far (p := ⟨gb331, 1, none⟩) (Kd.V_far (p := ⟨gb331, 0, none⟩) (Kd.V_far (p := ⟨gb330, 1, none⟩) (Kd.V_far (p := ⟨gb330, 0, none⟩) (Kd.V_mono (Kd.V_mono HO0_1.out (fun k_ hk => (⟨hk, hk.1.1.2⟩ : _ ∧ k_ ≠ gb330))) (fun k_ hk => (⟨hk, hk.1.1.2⟩ : _ ∧ k_ ≠ gb331))) (fun _ hk => hk.1.2) (.bool a0_0)) (fun _ hk => hk.1.2) (.slice A0_1 l0_1.length c0_1)) (fun _ hk => hk.2) (.bool t340)) (fun _ hk => hk.2) (.slice Ao33 t341.length co33)) (fun _ hk => ⟨hk.1.1.1.1.1.1, hk.1.1.2⟩), Kd.R_mono (Kd.R_far (p := ⟨gb331, 1, none⟩) (Kd.R_far (p := ⟨gb331, 0, none⟩) (Kd.R_far (p := ⟨gb330, 1, none⟩) (Kd.R_far (p := ⟨gb330, 0, none⟩) (Kd.R_types (Kd.R_types HO343.out BK330.out (by decide)) BK331.out (by decide)) (fun _ hk => hk.1.2) (.bool a0_0)) (fun _ hk => hk.1.2) (.slice A0_1 l0_1.length c0_1)) (fun _ hk => hk.2) (.bool t340)) (fun _ hk => hk.2) (.slice Ao33 t341.length co33)) (fun _ hk => hk.1.1.1), by repeat (first | exact HB.out | refine below_set ?_ GE329.out | refine below_set ?_ GE330.out | refine below_set ?_ GE331.out)⟩
set_option maxHeartbeats 8000000 in
set_option maxRecDepth 100000 in
theorem integer_Sign.calls (k : Nat) (a0_0 : Bool) (A0_1 : Option Addr) (c0_1 : Nat) (l0_1 : List Int) (r : Int) (w : World) (hr0_1 : Kd.C (Kd.int .u32) w A0_1 l0_1.length l0_1) (hc0_1 : l0_1.length ≤ c0_1) (h : integer_Sign.f k a0_0 l0_1 = some r) :
  Calls Try.prog 37 #[.agg #[.bool a0_0, .slice A0_1 l0_1.length c0_1]] w fun e w' => e = .returned (.int .i64 r) ∧ Below w.heap.size w w' := by
 have hu27 := Try.underlying27
 have HR0_1 := mk0 hr0_1
 have HC0_1 := mk0 hc0_1
 clear hr0_1 hc0_1
 have HB := mk0 (Below.refl w.heap.size w)
 have H : ((nat_Bits.f k l0_1).bind fun t345 => (if t345 = 0 then (some 0) else (if a0_0 = true then (some (-1)) else (some 1)))) = some r := h
 clear h
 obtain ⟨t345, A2, H⟩ := bindA H
 by_cases c3 : t345 = 0
 ·rw [if_pos c3] at H
  have c3b0 : (t345 == 0) = true := beq_iff_eq.mpr c3
  have c3b1 : (t345 != 0) = false := bne_eq_false_iff_eq.mpr c3
  clear c3
  obtain rfl := Option.some.inj H
  go_enter Try.func37, Try.ntmps37
  go_wp2_with (first | ((with_reducible refine gate_dst (N := 1) rfl ?_); refine box_event rfl (N := 1) rfl (cs := #[.bool a0_0, .slice A0_1 l0_1.length c0_1]) (t := 27) (by first | (go_simp; done) | (go_simp; rfl)) ?_; intro gb344 hg w4 hbox hb; have BK344 := mk0 (hbox); have GE344 := geB hg HB; replace HB := hbS HB hb; clear hb hbox hg; have hcz5_0 : w4.cell? ⟨gb344, 0, none⟩ = some (.bool a0_0) := (blk_cell BK344.out 0).trans rfl; have hcz5_1 : w4.cell? ⟨gb344, 1, none⟩ = some (.slice A0_1 l0_1.length c0_1) := (blk_cell BK344.out 1).trans rfl; have hfz5_0 := blk_frozen BK344.out 0; have hfz5_1 := blk_frozen BK344.out 1) | ((with_reducible refine gate_callee (f := 64) rfl ?_); refine goesL_ (some 6) rfl rfl Try.func64 (by kernel_rfl) rfl #[.slice A0_1 l0_1.length c0_1] rfl (by first | (go_simp; done) | (go_simp; rfl)) ?_; (with_reducible refine (nat_Bits.calls k _ _ l0_1 t345 _ (by exact Kd.C_below HR0_1.out HB.out) HC0_1.out A2.out).mono ?_); rintro e w6 ⟨rfl, hb⟩; refine ⟨_, rfl, ?_⟩; replace BK344 := bkB BK344 hb; replace HB := hbS HB hb))
  go_ret
  exact ⟨by first | rfl | (simp [errW_none, errW_some] <;> rfl) | (simp [*, errW_none, errW_some] <;> rfl), by repeat (first | exact HB.out | refine below_set ?_ GE344.out)⟩
 ·rw [if_neg c3] at H
  have c3b0 : (t345 == 0) = false := beq_eq_false_iff_ne.mpr c3
  have c3b1 : (t345 != 0) = true := bne_iff_ne.mpr c3
  by_cases c7 : a0_0 = true
  ·subst c7
   have H1 : (some (-1)) = some r := by rw [if_pos rfl] at H; exact H
   clear H
   have H := H1
   clear H1
   obtain rfl := Option.some.inj H
   go_enter Try.func37, Try.ntmps37
   go_wp2_with (first | ((with_reducible refine gate_dst (N := 1) rfl ?_); refine box_event rfl (N := 1) rfl (cs := #[.bool true, .slice A0_1 l0_1.length c0_1]) (t := 27) (by first | (go_simp; done) | (go_simp; rfl)) ?_; intro gb344 hg w8 hbox hb; have BK344 := mk0 (hbox); have GE344 := geB hg HB; replace HB := hbS HB hb; clear hb hbox hg; have hcz9_0 : w8.cell? ⟨gb344, 0, none⟩ = some (.bool true) := (blk_cell BK344.out 0).trans rfl; have hcz9_1 : w8.cell? ⟨gb344, 1, none⟩ = some (.slice A0_1 l0_1.length c0_1) := (blk_cell BK344.out 1).trans rfl; have hfz9_0 := blk_frozen BK344.out 0; have hfz9_1 := blk_frozen BK344.out 1) | ((with_reducible refine gate_callee (f := 64) rfl ?_); refine goesL_ (some 6) rfl rfl Try.func64 (by kernel_rfl) rfl #[.slice A0_1 l0_1.length c0_1] rfl (by first | (go_simp; done) | (go_simp; rfl)) ?_; (with_reducible refine (nat_Bits.calls k _ _ l0_1 t345 _ (by exact Kd.C_below HR0_1.out HB.out) HC0_1.out A2.out).mono ?_); rintro e w10 ⟨rfl, hb⟩; refine ⟨_, rfl, ?_⟩; replace BK344 := bkB BK344 hb; replace HB := hbS HB hb; have hcz11_0 : w10.cell? ⟨gb344, 0, none⟩ = some (.bool true) := (blk_cell BK344.out 0).trans rfl; have hcz11_1 : w10.cell? ⟨gb344, 1, none⟩ = some (.slice A0_1 l0_1.length c0_1) := (blk_cell BK344.out 1).trans rfl; have hfz11_0 := blk_frozen BK344.out 0; have hfz11_1 := blk_frozen BK344.out 1))
   go_ret
   exact ⟨by first | rfl | (simp [errW_none, errW_some] <;> rfl) | (simp [*, errW_none, errW_some] <;> rfl), by repeat (first | exact HB.out | refine below_set ?_ GE344.out)⟩
  ·replace c7 := Bool.eq_false_iff.mpr c7
   subst c7
   have H1 : (some 1) = some r := by rw [if_neg (show ¬ (false = true) by decide)] at H; exact H
   clear H
   have H := H1
   clear H1
   obtain rfl := Option.some.inj H
   go_enter Try.func37, Try.ntmps37
   go_wp2_with (first | ((with_reducible refine gate_dst (N := 1) rfl ?_); refine box_event rfl (N := 1) rfl (cs := #[.bool false, .slice A0_1 l0_1.length c0_1]) (t := 27) (by first | (go_simp; done) | (go_simp; rfl)) ?_; intro gb344 hg w12 hbox hb; have BK344 := mk0 (hbox); have GE344 := geB hg HB; replace HB := hbS HB hb; clear hb hbox hg; have hcz13_0 : w12.cell? ⟨gb344, 0, none⟩ = some (.bool false) := (blk_cell BK344.out 0).trans rfl; have hcz13_1 : w12.cell? ⟨gb344, 1, none⟩ = some (.slice A0_1 l0_1.length c0_1) := (blk_cell BK344.out 1).trans rfl; have hfz13_0 := blk_frozen BK344.out 0; have hfz13_1 := blk_frozen BK344.out 1) | ((with_reducible refine gate_callee (f := 64) rfl ?_); refine goesL_ (some 6) rfl rfl Try.func64 (by kernel_rfl) rfl #[.slice A0_1 l0_1.length c0_1] rfl (by first | (go_simp; done) | (go_simp; rfl)) ?_; (with_reducible refine (nat_Bits.calls k _ _ l0_1 t345 _ (by exact Kd.C_below HR0_1.out HB.out) HC0_1.out A2.out).mono ?_); rintro e w14 ⟨rfl, hb⟩; refine ⟨_, rfl, ?_⟩; replace BK344 := bkB BK344 hb; replace HB := hbS HB hb; have hcz15_0 : w14.cell? ⟨gb344, 0, none⟩ = some (.bool false) := (blk_cell BK344.out 0).trans rfl; have hcz15_1 : w14.cell? ⟨gb344, 1, none⟩ = some (.slice A0_1 l0_1.length c0_1) := (blk_cell BK344.out 1).trans rfl; have hfz15_0 := blk_frozen BK344.out 0; have hfz15_1 := blk_frozen BK344.out 1))
   go_ret
   exact ⟨by first | rfl | (simp [errW_none, errW_some] <;> rfl) | (simp [*, errW_none, errW_some] <;> rfl), by repeat (first | exact HB.out | refine below_set ?_ GE344.out)⟩
end Go.Proofs.Ythamhjmhgcpdgaa.Q
end
