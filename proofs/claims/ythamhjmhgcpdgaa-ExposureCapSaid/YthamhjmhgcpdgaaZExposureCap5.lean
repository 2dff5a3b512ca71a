/- Lemmas and contracts for the law ExposureCap: words of the print, contracts of the functions that the law reaches, and what these compute, as far as the law needs them; packed by a program of this session. -/
import Derived.Test.YthamhjmhgcpdgaaZExposureCap4
section
namespace Go.Proofs.Ythamhjmhgcpdgaa.Ord
open Go.RowKit Go.Proofs.YthamhjmhgcpdgaaW.PrintWords Go.Proofs.Ythamhjmhgcpdgaa.Q Go.Proofs.Ythamhjmhgcpdgaa.Lp
set_option linter.unusedVariables false
set_option linter.unusedSimpArgs false
theorem bounded_eq (a : Int) : exposure_bounded.f a = some (bd a) := by
 unfold exposure_bounded.f bd mn mx
 congr 1
 split <;> split <;> (try split) <;> (try split) <;> omega
theorem count_loop (l : List S50) (x : Int) (hl : l.length ≤ 9223372036854775807) (d : Nat) : ∀ (i : Nat) (acc : Int), i + d = l.length → 0 ≤ acc → acc ≤ 1000000 →
  Ev (fun k => exposure_Count.l0 k x acc l (l.length : Int) (i : Int)) (bd (acc + tot (l.drop i) x)) := by
 induction d with
 | zero =>
  intro i acc hi h0 h1
  refine Ev.last (fun k => ?_)
  simp only [exposure_Count.l0]
  rw [if_neg (by omega), List.drop_eq_nil_of_le (by omega)]
  simp only [tot, Int.add_zero]
  rw [bd_id h0 h1]
 | succ d ih =>
  intro i acc hi h0 h1
  have w := wrap_next (i := i) (n := l.length) (by omega) hl
  have hil : (i : Int) < (l.length : Int) := by omega
  have hi0 : (0 : Int) ≤ (i : Int) := by omega
  have e : rd_T50 l (i : Int) = l.getD i z50 := by unfold rd_T50; rw [Int.toNat_natCast]
  obtain ⟨u, hu⟩ : ∃ u, u = l.getD i z50 := ⟨_, rfl⟩
  have hd : l.drop i = u :: l.drop (i + 1) := by rw [hu]; exact getD_drop l z50 i (by omega)
  rw [hd, tot]
  have tn := tot_nonneg (l.drop (i + 1)) x
  by_cases hx : u.f0 = x
  ·obtain ⟨b0, b1⟩ := bd_bounds u.f1
   have w2 : wrap64 (acc + bd u.f1) = acc + bd u.f1 := wrap64_id (by omega) (by omega)
   obtain ⟨c0, c1⟩ := bd_bounds (acc + bd u.f1)
   have k2 := ih (i + 1) (bd (acc + bd u.f1)) (by omega) c0 c1
   have eb : bd (acc + ((if u.f0 = x then bd u.f1 else 0) + tot (l.drop (i + 1)) x)) = bd (bd (acc + bd u.f1) + tot (l.drop (i + 1)) x) := by
    rw [if_pos hx]
    generalize tot (l.drop (i + 1)) x = t at tn
    generalize bd u.f1 = b at b0 b1
    unfold bd
    split <;> split <;> (try split) <;> (try split) <;> (try split) <;> omega
   rw [eb]
   refine Ev.step (fun k => ?_) k2
   simp only [exposure_Count.l0]
   rw [if_pos hil, if_pos hi0, if_pos hil, e, ← hu, if_pos hx, w, bounded_eq, Option.bind_some, w2, bounded_eq, Option.bind_some]
  ·rw [if_neg hx, Int.zero_add]
   refine Ev.step (fun k => ?_) (ih (i + 1) acc (by omega) h0 h1)
   simp only [exposure_Count.l0]
   rw [if_pos hil, if_pos hi0, if_pos hil, e, ← hu, if_neg hx, w]
theorem count_ev (l : List S50) (x : Int) (hl : l.length ≤ 9223372036854775807) : Ev (fun k => exposure_Count.f k l x) (cnt l x) := by
 have h := count_loop l x hl l.length 0 0 (by omega) (by omega) (by omega)
 rw [List.drop_zero, Int.zero_add] at h
 exact h
theorem normal_l1 (l : List S50) (hl : l.length ≤ 1000000) (ks : List Int) (hk : ks.length ≤ 1000000) (d : Nat) : ∀ (i : Nat) (acc : List S50), i + d = ks.length → acc.length ≤ i →
  Ev (fun k => exposure_normal.l1 k l acc ks (ks.length : Int) (i : Int)) (acc ++ nrm l (ks.drop i)) := by
 induction d with
 | zero =>
  intro i acc hi ha
  refine Ev.last (fun k => ?_)
  simp only [exposure_normal.l1]
  rw [if_neg (by omega), List.drop_eq_nil_of_le (by omega)]
  simp [nrm]
 | succ d ih =>
  intro i acc hi ha
  have w := wrap_next (i := i) (n := ks.length) (by omega) (by omega)
  have hil : (i : Int) < (ks.length : Int) := by omega
  have hi0 : (0 : Int) ≤ (i : Int) := by omega
  obtain ⟨x, hx⟩ : ∃ x, x = ks.getD i 0 := ⟨_, rfl⟩
  have e : rd ks (i : Int) = x := by unfold rd; rw [Int.toNat_natCast, hx]
  have hd : ks.drop i = x :: ks.drop (i + 1) := by rw [hx]; exact getD_drop ks 0 i (by omega)
  rw [hd]
  have hc := count_ev l x (by omega)
  by_cases hp : 0 < cnt l x
  ·have en : acc ++ nrm l (x :: ks.drop (i + 1)) = (acc ++ [⟨x, cnt l x⟩]) ++ nrm l (ks.drop (i + 1)) := by
    unfold nrm
    rw [List.filter_cons, if_pos (decide_eq_true hp), List.map_cons, List.append_assoc, List.singleton_append]
   rw [en]
   refine Ev.step (f := fun k => (exposure_Count.f k l x).bind fun t236 => (if t236 > 0 then (if acc.length < 8796093022208 then (exposure_normal.l1 k l (acc ++ [(⟨x, t236⟩ : S50)]) ks (ks.length : Int) ((i + 1 : Nat) : Int)) else (none)) else (exposure_normal.l1 k l acc ks (ks.length : Int) ((i + 1 : Nat) : Int)))) (fun k => ?_) ?_
   ·simp only [exposure_normal.l1]
    rw [if_pos hil, if_pos hi0, if_pos hil, e, w]
   ·refine Ev.bind hc (Ev.ite_pos hp (Ev.ite_pos (by omega) ?_))
    exact ih (i + 1) _ (by omega) (by rw [List.length_append]; simp; omega)
  ·have en : nrm l (x :: ks.drop (i + 1)) = nrm l (ks.drop (i + 1)) := by
    unfold nrm
    rw [List.filter_cons, if_neg (by simpa using hp)]
   rw [en]
   refine Ev.step (f := fun k => (exposure_Count.f k l x).bind fun t236 => (if t236 > 0 then (if acc.length < 8796093022208 then (exposure_normal.l1 k l (acc ++ [(⟨x, t236⟩ : S50)]) ks (ks.length : Int) ((i + 1 : Nat) : Int)) else (none)) else (exposure_normal.l1 k l acc ks (ks.length : Int) ((i + 1 : Nat) : Int)))) (fun k => ?_) ?_
   ·simp only [exposure_normal.l1]
    rw [if_pos hil, if_pos hi0, if_pos hil, e, w]
   ·exact Ev.bind hc (Ev.ite_neg hp (ih (i + 1) _ (by omega) (by omega)))
theorem normal_l0 (l : List S50) (hl : l.length ≤ 1000000) (d : Nat) : ∀ (i : Nat), i + d = l.length →
  Ev (fun k => exposure_normal.l0 k l ((l.take i).map (·.f0)) l (l.length : Int) (i : Int)) (nrm l (keys (l.map (·.f0)))) := by
 induction d with
 | zero =>
  intro i hi
  have e : l.take i = l := List.take_of_length_le (by omega)
  rw [e]
  refine Ev.step (f := fun k => exposure_normal.l1 k l ([] : List S50) (keys (l.map (·.f0))) ((keys (l.map (·.f0))).length : Int) 0) (fun k => ?_) ?_
  ·simp only [exposure_normal.l0, slices_Sort_int_int.f, slices_Compact_int_int.f]
   rw [if_neg (by omega), if_pos (by rw [List.length_map]; omega), Option.bind_some, if_pos (by rw [List.length_mergeSort, List.length_map]; omega), Option.bind_some]
   rfl
  ·have hk := keys_length (l.map (·.f0))
   rw [List.length_map] at hk
   have h := normal_l1 l hl (keys (l.map (·.f0))) (by omega) _ 0 [] (Nat.zero_add _) (Nat.le_refl _)
   rw [List.drop_zero, List.nil_append] at h
   exact h
 | succ d ih =>
  intro i hi
  have w := wrap_next (i := i) (n := l.length) (by omega) (by omega)
  have hil : (i : Int) < (l.length : Int) := by omega
  have hi0 : (0 : Int) ≤ (i : Int) := by omega
  have e : rd_T50 l (i : Int) = l.getD i z50 := by unfold rd_T50; rw [Int.toNat_natCast]
  have h := ih (i + 1) (by omega)
  rw [take_snoc l z50 i (by omega), List.map_append] at h
  refine Ev.step (fun k => ?_) h
  simp only [exposure_normal.l0]
  rw [if_pos hil, if_pos hi0, if_pos hil, if_pos (by rw [List.length_map, List.length_take]; omega), w, e]
  rfl
theorem normal_ev (l : List S50) (hl : l.length ≤ 1000000) : Ev (fun k => exposure_normal.f k l) (nrm l (keys (l.map (·.f0)))) := by
 have h := normal_l0 l hl l.length 0 (by omega)
 exact h
theorem compare_eq (a b : Int) : cmp_Compare_int.f a b = some (if a < b then -1 else if a > b then 1 else 0) := by
 unfold cmp_Compare_int.f cmp_isNaN_int.f
 simp only [bne_self_eq_false, Option.bind_some, Bool.false_eq_true, if_false]
 split
 ·rfl
 ·split <;> rfl
theorem record1_eq (a c b : Int) : exposure_Record_1.f a c b = some (if a < b then -1 else if a > b then 1 else 0) := by
 unfold exposure_Record_1.f
 rw [compare_eq, Option.bind_some]
def key (a : List S50) (j : Nat) : Int := (a.getD j z50).f0
theorem mid_eq {lo hi : Nat} (h : lo + hi < 4611686018427387904) : wrap64 ((IntKind.u64.wrap (wrap64 ((lo : Int) + (hi : Int)))) / 2) = (((lo + hi) / 2 : Nat) : Int) := by
 rw [wrap64_id (x := (lo : Int) + (hi : Int)) (by omega) (by omega)]
 have : IntKind.u64.wrap ((lo : Int) + (hi : Int)) = (lo : Int) + (hi : Int) := by
  simp only [IntKind.wrap, IntKind.bits, IntKind.signed]
  simp
  omega
 rw [this, wrap64_id (by omega) (by omega)]
 omega
theorem search_loop (a : List S50) (t : Int) (hn : a.length ≤ 2000000) (d : Nat) : ∀ (lo hi : Nat), hi - lo ≤ d → lo ≤ hi → hi ≤ a.length → (∀ j, j < lo → key a j < t) → (∀ j, hi ≤ j → j < a.length → t ≤ key a j) → (∀ i j, i < j → j < a.length → key a i < key a j) →
  ∃ (p : Nat), p ≤ a.length ∧ (∀ j, j < p → key a j < t) ∧ (∀ j, p ≤ j → j < a.length → t ≤ key a j) ∧ Ev (fun k => api_Use_int.l0 k a t (a.length : Int) (lo : Int) (hi : Int)) ((p : Int), decide (p < a.length ∧ key a p = t)) := by
 induction d with
 | zero =>
  intro lo hi hd hle hh h1 h2 hs
  have : lo = hi := by omega
  subst this
  refine ⟨lo, hh, h1, h2, Ev.last (fun k => ?_)⟩
  simp only [api_Use_int.l0]
  rw [if_neg (by omega)]
  have e : (rd_T50 a (lo : Int)).f0 = key a lo := by unfold rd_T50 key; rw [Int.toNat_natCast]
  by_cases hl : lo < a.length
  ·rw [if_pos (by omega), if_pos (by omega), if_pos (by omega), e, record1_eq, Option.bind_some]
   have := h2 lo (Nat.le_refl _) hl
   by_cases he : key a lo = t
   ·rw [if_neg (by omega), if_neg (by omega), decide_eq_true (show lo < a.length ∧ key a lo = t from ⟨hl, he⟩)]
    rfl
   ·rw [if_neg (by omega), if_pos (by omega), decide_eq_false (show ¬ (lo < a.length ∧ key a lo = t) from fun h => he h.2)]
    rfl
  ·rw [if_neg (by omega), decide_eq_false (show ¬ (lo < a.length ∧ key a lo = t) from fun h => hl h.1)]
 | succ d ih =>
  intro lo hi hd hle hh h1 h2 hs
  rcases Nat.lt_or_ge lo hi with hlt | hge
  ·have hm := mid_eq (lo := lo) (hi := hi) (by omega)
   obtain ⟨m, hm0⟩ : ∃ m, m = (lo + hi) / 2 := ⟨_, rfl⟩
   rw [← hm0] at hm
   have hm1 : lo ≤ m ∧ m < hi := by omega
   have w := wrap_next (i := m) (n := a.length) (by omega) (by omega)
   have e : (rd_T50 a (m : Int)).f0 = key a m := by unfold rd_T50 key; rw [Int.toNat_natCast]
   by_cases hk : key a m < t
   ·obtain ⟨p, p1, p2, p3, p4⟩ := ih (m + 1) hi (by omega) (by omega) hh (fun j hj => by
     rcases Nat.lt_or_ge j m with h | h
     ·have := hs j m h (by omega); omega
     ·have : j = m := by omega
      subst this; exact hk) h2 hs
    refine ⟨p, p1, p2, p3, Ev.step (fun k => ?_) p4⟩
    simp only [api_Use_int.l0, hm]
    rw [if_pos (by omega), if_pos (by omega), if_pos (by omega), e, record1_eq, Option.bind_some, if_pos hk, if_pos (by omega), w]
   ·obtain ⟨p, p1, p2, p3, p4⟩ := ih lo m (by omega) (by omega) (by omega) h1 (fun j hj hj2 => by
     rcases Nat.lt_or_ge m j with h | h
     ·have := hs m j h hj2; omega
     ·have : j = m := by omega
      subst this; omega) hs
    refine ⟨p, p1, p2, p3, Ev.step (fun k => ?_) p4⟩
    simp only [api_Use_int.l0, hm]
    rw [if_pos (by omega), if_pos (by omega), if_pos (by omega), e, record1_eq, Option.bind_some, if_neg hk]
    by_cases hk2 : key a m > t
    ·rw [if_pos hk2, if_neg (by omega)]
    ·rw [if_neg hk2, if_neg (by omega)]
  ·have : lo = hi := by omega
   subst this
   exact ih lo lo (by omega) (by omega) hh h1 h2 hs
theorem ss_key {a : List S50} (h : SS a) : ∀ i j, i < j → j < a.length → key a i < key a j := by
 intro i j hij hj
 have := List.pairwise_iff_getElem.1 h i j (by omega) hj hij
 unfold key
 rw [List.getD_eq_getElem?_getD, List.getD_eq_getElem?_getD, List.getElem?_eq_getElem (by omega), List.getElem?_eq_getElem hj]
 exact this
theorem search_ev (a : List S50) (t : Int) (ha : SS a) (hn : a.length ≤ 2000000) : ∃ (p : Nat), p ≤ a.length ∧ (∀ j, j < p → key a j < t) ∧ (∀ j, p ≤ j → j < a.length → t ≤ key a j) ∧ Ev (fun k => api_Use_int.f k a t 0) ((p : Int), decide (p < a.length ∧ key a p = t)) :=
 search_loop a t hn a.length 0 a.length (by omega) (by omega) (by omega) (fun j hj => by omega) (fun j h1 h2 => by omega) (ss_key ha)
theorem mem_take_key {a : List S50} {p : Nat} {t : Int} (hp : p ≤ a.length) (h : ∀ j, j < p → key a j < t) : ∀ u ∈ a.take p, u.f0 < t := by
 intro u hu
 obtain ⟨j, hj, rfl⟩ := List.mem_iff_getElem.1 hu
 rw [List.length_take] at hj
 have := h j (by omega)
 unfold key at this
 rw [List.getD_eq_getElem?_getD, List.getElem?_eq_getElem (by omega)] at this
 rw [List.getElem_take]
 exact this
theorem mem_drop_key {a : List S50} {p : Nat} {t : Int} (h : ∀ j, p ≤ j → j < a.length → t < key a j) : ∀ u ∈ a.drop p, t < u.f0 := by
 intro u hu
 obtain ⟨j, hj, rfl⟩ := List.mem_iff_getElem.1 hu
 rw [List.length_drop] at hj
 have := h (p + j) (by omega) (by omega)
 unfold key at this
 rw [List.getD_eq_getElem?_getD, List.getElem?_eq_getElem (by omega)] at this
 rw [List.getElem_drop]
 exact this
theorem index_loop (l : List Int) (x : Int) (hl : l.length ≤ 9223372036854775807) (d : Nat) : ∀ (i : Nat), i + d = l.length →
  ∃ r : Int, Ev (fun k => slices_Index_int_int.l0 k l x (l.length : Int) (i : Int)) r ∧ (0 ≤ r ↔ x ∈ l.drop i) := by
 induction d with
 | zero =>
  intro i hi
  refine ⟨-1, Ev.last (fun k => ?_), ?_⟩
  ·simp only [slices_Index_int_int.l0]
   rw [if_neg (by omega)]
  ·rw [List.drop_eq_nil_of_le (by omega)]
   simp
 | succ d ih =>
  intro i hi
  have w := wrap_next (i := i) (n := l.length) (by omega) (by omega)
  have e : rd l (i : Int) = l.getD i 0 := by unfold rd; rw [Int.toNat_natCast]
  by_cases hx : x = l.getD i 0
  ·refine ⟨(i : Int), Ev.last (fun k => ?_), ?_⟩
   ·simp only [slices_Index_int_int.l0]
    rw [if_pos (by omega), if_pos (by omega), if_pos (by omega), e, if_pos hx]
   ·rw [getD_drop l 0 i (by omega), ← hx]
    simp
  ·obtain ⟨r, h1, h2⟩ := ih (i + 1) (by omega)
   refine ⟨r, Ev.step (fun k => ?_) h1, ?_⟩
   ·simp only [slices_Index_int_int.l0]
    rw [if_pos (by omega), if_pos (by omega), if_pos (by omega), e, if_neg hx, w]
   ·rw [getD_drop l 0 i (by omega), h2, List.mem_cons]
    exact ⟨.inr, fun h => h.elim (fun h => absurd h hx) id⟩
theorem contains_ev (l : List Int) (x : Int) (hl : l.length ≤ 9223372036854775807) : Ev (fun k => slices_Contains_int_int.f k l x) (decide (x ∈ l)) := by
 obtain ⟨r, h1, h2⟩ := index_loop l x hl l.length 0 (by omega)
 rw [List.drop_zero] at h2
 unfold slices_Contains_int_int.f
 refine Ev.bind (a := r) h1 ?_
 have : decide (r ≥ 0) = decide (x ∈ l) := by
  by_cases hx : x ∈ l
  ·rw [decide_eq_true hx, decide_eq_true (h2.2 hx)]
  ·rw [decide_eq_false hx, decide_eq_false (fun h => hx (h2.1 h))]
 rw [this]
 exact Ev.now _
def dups (l : List Int) : Prop := ¬ l.Nodup
def wild (l : List Int) : Prop := ∃ x ∈ l, x < 1 ∨ x > 9999999
theorem put_loop (items : List Int) (hi : items.length ≤ 1000) (d : Nat) : ∀ (i : Nat) (a : List S50), i + d = items.length → SS a → Pos a → a.length ≤ 1000000 + i → (items.drop i).Nodup →
  ∃ r, Ev (fun k => exposure_Record.l2 k a items (items.length : Int) (i : Int)) (r, 0) ∧ SS r ∧ Pos r ∧ r.length ≤ 1001000 ∧ ∀ x, tot r x = if x ∈ items.drop i then bd (tot a x + 1) else tot a x := by
 induction d with
 | zero =>
  intro i a hid ha pa hl hn
  refine ⟨a, Ev.last (fun k => ?_), ha, pa, by omega, fun x => ?_⟩
  ·simp only [exposure_Record.l2]
   rw [if_neg (by omega)]
  ·rw [List.drop_eq_nil_of_le (by omega)]
   simp
 | succ d ih =>
  intro i a hid ha pa hl hn
  have w := wrap_next (i := i) (n := items.length) (by omega) (by omega)
  obtain ⟨t, ht⟩ : ∃ t, t = items.getD i 0 := ⟨_, rfl⟩
  have e : rd items (i : Int) = t := by unfold rd; rw [Int.toNat_natCast, ht]
  have hd : items.drop i = t :: items.drop (i + 1) := by rw [ht]; exact getD_drop items 0 i (by omega)
  rw [hd] at hn ⊢
  rw [List.nodup_cons] at hn
  obtain ⟨p, p1, p2, p3, p4⟩ := search_ev a t ha (by omega)
  have fin : ∀ a' : List S50, (∀ x, tot a' x = if x = t then bd (tot a x + 1) else tot a x) → ∀ r, (∀ x, tot r x = if x ∈ items.drop (i + 1) then bd (tot a' x + 1) else tot a' x) → ∀ x, tot r x = if x ∈ t :: items.drop (i + 1) then bd (tot a x + 1) else tot a x := by
   intro a' h1 r h2 x
   rw [h2 x]
   by_cases hx : x = t
   ·subst hx
    rw [if_neg hn.1, if_pos List.mem_cons_self, h1, if_pos rfl]
   ·rw [h1, if_neg hx]
    by_cases hm : x ∈ items.drop (i + 1)
    ·rw [if_pos hm, if_pos (List.mem_cons_of_mem _ hm)]
    ·rw [if_neg hm, if_neg (fun h => (List.mem_cons.1 h).elim hx hm)]
  obtain ⟨G, hG⟩ : ∃ G : Nat → Int × Bool → Option (List S50 × Int), G = fun k bt264 => (if bt264.2 = true then (if 0 ≤ bt264.1 then (if bt264.1 < (a.length : Int) then ((exposure_bounded.f (wrap64 (((rd_T50 a bt264.1).f1) + 1))).bind fun t267 => (exposure_Record.l2 k (a.set (bt264.1 : Int).toNat (⟨(rd_T50 a bt264.1).f0, t267⟩ : S50)) items (items.length : Int) ((i + 1 : Nat) : Int))) else (none)) else (none)) else ((api_Use_47.f a bt264.1 (([(⟨t, 1⟩ : S50)] : List (S50)))).bind fun t272 => (exposure_Record.l2 k t272 items (items.length : Int) ((i + 1 : Nat) : Int)))) := ⟨_, rfl⟩
  have hstep : ∀ k, exposure_Record.l2 (k + 1) a items (items.length : Int) (i : Int) = (api_Use_int.f k a t 0).bind (G k) := fun k => by
   rw [hG]
   simp only [exposure_Record.l2]
   rw [if_pos (by omega), if_pos (by omega), if_pos (by omega), e, w]
  by_cases hf : p < a.length ∧ key a p = t
  ·rw [decide_eq_true hf] at p4
   obtain ⟨s1, s2, s3⟩ := put_found ha pa hf.1 (id := t) hf.2
   obtain ⟨r, r1, r2, r3, r5, r4⟩ := ih (i + 1) _ (by omega) s1 s2 (by rw [List.length_set]; omega) hn.2
   refine ⟨r, Ev.step hstep (Ev.bind p4 ?_), r2, r3, r5, fin _ s3 r r4⟩
   refine Ev.congr (fun k => ?_) r1
   have hpa := pa (a.getD p z50) (getD_mem a z50 p hf.1)
   rw [hG]
   simp only [if_true, Int.toNat_natCast, rd_T50]
   rw [if_pos (by omega), if_pos (by omega), wrap64_id (by omega) (by omega), bounded_eq, Option.bind_some]
  ·rw [decide_eq_false hf] at p4
   have h2 : ∀ j, p ≤ j → j < a.length → t < key a j := by
    intro j hj hj2
    have h3 := p3 j hj hj2
    rcases Nat.lt_or_ge p j with h | h
    ·have := ss_key ha p j h hj2
     have := p3 p (Nat.le_refl _) (by omega)
     omega
    ·have hpj : j = p := by omega
     subst hpj
     have : key a j ≠ t := fun hk => hf ⟨hj2, hk⟩
     omega
   obtain ⟨s1, s2, s3⟩ := put_new ha pa p1 (id := t) (mem_take_key p1 p2) (mem_drop_key h2)
   have hlen : (a.take p ++ [(⟨t, 1⟩ : S50)] ++ a.drop p).length = a.length + 1 := by simp only [List.length_append, List.length_take, List.length_drop, List.length_singleton]; omega
   obtain ⟨r, r1, r2, r3, r5, r4⟩ := ih (i + 1) _ (by omega) s1 s2 (by rw [hlen]; omega) hn.2
   refine ⟨r, Ev.step hstep (Ev.bind p4 ?_), r2, r3, r5, fin _ s3 r r4⟩
   refine Ev.congr (fun k => ?_) r1
   rw [hG]
   simp only [Bool.false_eq_true, if_false, api_Use_47.f]
   rw [if_pos (by omega), if_pos (by omega), if_pos (by simp), if_pos (by simp only [List.length_singleton]; omega), Option.bind_some, Int.toNat_natCast]
theorem range_loop (l : List S50) (hl : l.length ≤ 100000) (items : List Int) (hi : items.length ≤ 1000) (hn : items.Nodup) (d : Nat) : ∀ (i : Nat), i + d = items.length → (∀ x ∈ items.take i, ¬ (x < 1 ∨ x > 9999999)) →
  (wild items ∧ Ev (fun k => exposure_Record.l1 k l items items (items.length : Int) (i : Int)) ([], 3)) ∨
  (¬ wild items ∧ ∃ r, Ev (fun k => exposure_Record.l1 k l items items (items.length : Int) (i : Int)) (r, 0) ∧ SS r ∧ Pos r ∧ r.length ≤ 1001000 ∧ ∀ x, tot r x = if x ∈ items then bd (cnt l x + 1) else cnt l x) := by
 induction d with
 | zero =>
  intro i hid h0
  rw [List.take_of_length_le (by omega)] at h0
  refine .inr ⟨fun ⟨x, hx, h⟩ => h0 x hx h, ?_⟩
  have hk := keys_length (l.map (·.f0))
  rw [List.length_map] at hk
  have hnl := nrm_length l (keys (l.map (·.f0)))
  obtain ⟨r, r1, r2, r3, r5, r4⟩ := put_loop items hi items.length 0 (nrm l (keys (l.map (·.f0)))) (by omega) (nrm_ss l (keys_sorted _)) (nrm_pos _ _) (by omega) (by rw [List.drop_zero]; exact hn)
  refine ⟨r, ?_, r2, r3, r5, fun x => ?_⟩
  ·refine Ev.step (f := fun k => (exposure_normal.f k l).bind fun t260 => (exposure_Record.l2 k t260 items (items.length : Int) 0)) (fun k => ?_) (Ev.bind (normal_ev l (by omega)) r1)
   simp only [exposure_Record.l1]
   rw [if_neg (by omega)]
  ·have := r4 x
   rw [List.drop_zero, nrm_keys_tot] at this
   exact this
 | succ d ih =>
  intro i hid h0
  have w := wrap_next (i := i) (n := items.length) (by omega) (by omega)
  obtain ⟨t, ht⟩ : ∃ t, t = items.getD i 0 := ⟨_, rfl⟩
  have e : rd items (i : Int) = t := by unfold rd; rw [Int.toNat_natCast, ht]
  have hmem : t ∈ items := by rw [ht]; exact getD_mem items 0 i (by omega)
  by_cases hw : t < 1 ∨ t > 9999999
  ·refine .inl ⟨⟨t, hmem, hw⟩, Ev.last (fun k => ?_)⟩
   simp only [exposure_Record.l1]
   rw [if_pos (by omega), if_pos (by omega), if_pos (by omega), e]
   by_cases h1 : t < 1
   ·rw [if_pos h1]
   ·rw [if_neg h1, if_pos (by omega)]
  ·have hs : ∀ k, exposure_Record.l1 (k + 1) l items items (items.length : Int) (i : Int) = exposure_Record.l1 k l items items (items.length : Int) ((i + 1 : Nat) : Int) := fun k => by
    simp only [exposure_Record.l1]
    rw [if_pos (by omega), if_pos (by omega), if_pos (by omega), e, if_neg (by omega), if_neg (by omega), w]
   have h1 : ∀ x ∈ items.take (i + 1), ¬ (x < 1 ∨ x > 9999999) := by
    rw [take_snoc items 0 i (by omega), ← ht]
    intro x hx
    rcases List.mem_append.1 hx with hx | hx
    ·exact h0 x hx
    ·rw [List.mem_singleton.1 hx]; exact hw
   rcases ih (i + 1) (by omega) h1 with ⟨a1, a2⟩ | ⟨a1, r, a2, a3⟩
   ·exact .inl ⟨a1, Ev.step hs a2⟩
   ·exact .inr ⟨a1, r, Ev.step hs a2, a3⟩
theorem nodup_snoc {l : List Int} {t : Int} : (l ++ [t]).Nodup ↔ l.Nodup ∧ t ∉ l := by
 rw [List.nodup_append]
 constructor
 ·rintro ⟨h1, _, h3⟩
  exact ⟨h1, fun hm => h3 t hm t List.mem_cons_self rfl⟩
 ·rintro ⟨h1, h2⟩
  refine ⟨h1, by simp, ?_⟩
  intro a ha b hb hab
  rw [List.mem_singleton.1 hb] at hab
  exact h2 (hab ▸ ha)
theorem dup_loop (l : List S50) (hl : l.length ≤ 100000) (items : List Int) (hi : items.length ≤ 1000) (d : Nat) : ∀ (i : Nat), i + d = items.length → (items.take i).Nodup →
  (dups items ∧ Ev (fun k => exposure_Record.l0 k l items items (items.length : Int) (i : Int)) ([], 7)) ∨
  (¬ dups items ∧ wild items ∧ Ev (fun k => exposure_Record.l0 k l items items (items.length : Int) (i : Int)) ([], 3)) ∨
  (¬ dups items ∧ ¬ wild items ∧ ∃ r, Ev (fun k => exposure_Record.l0 k l items items (items.length : Int) (i : Int)) (r, 0) ∧ SS r ∧ Pos r ∧ r.length ≤ 1001000 ∧ ∀ x, tot r x = if x ∈ items then bd (cnt l x + 1) else cnt l x) := by
 induction d with
 | zero =>
  intro i hid h0
  rw [List.take_of_length_le (by omega)] at h0
  have hs : ∀ k, exposure_Record.l0 (k + 1) l items items (items.length : Int) (i : Int) = exposure_Record.l1 k l items items (items.length : Int) 0 := fun k => by
   simp only [exposure_Record.l0]
   rw [if_neg (by omega)]
  have hnd : ¬ dups items := fun h => h h0
  rcases range_loop l hl items hi h0 items.length 0 (by omega) (by simp) with ⟨a1, a2⟩ | ⟨a1, r, a2, a3⟩
  ·exact .inr (.inl ⟨hnd, a1, Ev.step hs a2⟩)
  ·exact .inr (.inr ⟨hnd, a1, r, Ev.step hs a2, a3⟩)
 | succ d ih =>
  intro i hid h0
  have w := wrap_next (i := i) (n := items.length) (by omega) (by omega)
  obtain ⟨t, ht⟩ : ∃ t, t = items.getD i 0 := ⟨_, rfl⟩
  have e : rd items (i : Int) = t := by unfold rd; rw [Int.toNat_natCast, ht]
  have hc := contains_ev (items.take i) t (by rw [List.length_take]; omega)
  have hs : ∀ k, exposure_Record.l0 (k + 1) l items items (items.length : Int) (i : Int) = (slices_Contains_int_int.f k (items.take i) t).bind fun t258 => (if t258 = true then (some (([] : List (S50)), 7)) else (exposure_Record.l0 k l items items (items.length : Int) ((i + 1 : Nat) : Int))) := fun k => by
   simp only [exposure_Record.l0]
   rw [if_pos (by omega), if_pos (by omega), if_pos (by omega), if_pos (by omega), e, w, Int.toNat_natCast]
  have hsn := take_snoc items 0 i (by omega)
  rw [← ht] at hsn
  by_cases hm : t ∈ items.take i
  ·refine .inl ⟨?_, Ev.step hs (Ev.bind hc (Ev.ite_pos (decide_eq_true hm) (Ev.now _)))⟩
   intro hnd
   have h1 : (items.take (i + 1)).Nodup := List.Sublist.nodup (List.take_sublist _ _) hnd
   rw [hsn, nodup_snoc] at h1
   exact h1.2 hm
  ·have h1 : (items.take (i + 1)).Nodup := by rw [hsn, nodup_snoc]; exact ⟨h0, hm⟩
   have hf : ¬ (decide (t ∈ items.take i) = true) := by simpa using hm
   rcases ih (i + 1) (by omega) h1 with ⟨a1, a2⟩ | ⟨a0, a1, a2⟩ | ⟨a0, a1, r, a2, a3⟩
   ·exact .inl ⟨a1, Ev.step hs (Ev.bind hc (Ev.ite_neg hf a2))⟩
   ·exact .inr (.inl ⟨a0, a1, Ev.step hs (Ev.bind hc (Ev.ite_neg hf a2))⟩)
   ·exact .inr (.inr ⟨a0, a1, r, Ev.step hs (Ev.bind hc (Ev.ite_neg hf a2)), a3⟩)
theorem record_ev (l : List S50) (hl : l.length ≤ 100000) (items : List Int) (hi : items.length ≤ 1000) :
  (dups items ∧ Ev (fun k => exposure_Record.f k l items) ([], 7)) ∨
  (¬ dups items ∧ wild items ∧ Ev (fun k => exposure_Record.f k l items) ([], 3)) ∨
  (¬ dups items ∧ ¬ wild items ∧ ∃ r, Ev (fun k => exposure_Record.f k l items) (r, 0) ∧ SS r ∧ Pos r ∧ r.length ≤ 1001000 ∧ ∀ x, tot r x = if x ∈ items then bd (cnt l x + 1) else cnt l x) :=
 dup_loop l hl items hi items.length 0 (by omega) (by simp)
end Go.Proofs.Ythamhjmhgcpdgaa.Ord
end
section
namespace Go.Proofs.Ythamhjmhgcpdgaa.Cap
open Go.RowKit Go.Proofs.YthamhjmhgcpdgaaW.PrintWords Go.Proofs.YthamhjmhgcpdgaaW.PrintLast Go.Proofs.YthamhjmhgcpdgaaW.PrintMore Go.Proofs.Ythamhjmhgcpdgaa.Q Go.Proofs.Ythamhjmhgcpdgaa.Th
open Go.Proofs.Ythamhjmhgcpdgaa.Big hiding bd bd_bounds bd_id bounded_eq wrap64_id Ev.ite_pos Ev.ite_neg
open Go.Proofs.Ythamhjmhgcpdgaa.Ord (tot cnt SS Pos canon_eq record_ev count_ev dups wild cnt_canon tot_tail tot_head)
open Go.Proofs.Ythamhjmhgcpdgaa.Lp (wrap64_id wrap_next Ev.ite_pos Ev.ite_neg Ev.last)
set_option linter.unusedVariables false
set_option linter.unusedSimpArgs false
theorem bd_eq (a : Int) : Big.bd a = Ord.bd a := rfl
def lst (n : Int) : List S50 := if n = 0 then [] else [⟨7, n⟩]
theorem lst_ss (n : Int) : SS (lst n) := by
 unfold lst SS
 split
 ·exact List.Pairwise.nil
 ·exact List.pairwise_singleton _ _
theorem lst_pos {n : Int} (h0 : 0 ≤ n) (h1 : n ≤ 1000000) : Pos (lst n) := by
 intro u hu
 unfold lst at hu
 split at hu
 ·cases hu
 ·rw [List.mem_singleton.1 hu]
  exact ⟨by show 1 ≤ n; omega, h1⟩
theorem lst_tot {n : Int} (h0 : 0 ≤ n) (h1 : n ≤ 1000000) (x : Int) : tot (lst n) x = if x = 7 then n else 0 := by
 unfold lst
 by_cases hn : n = 0
 ·rw [if_pos hn, hn]
  simp [tot]
 ·rw [if_neg hn]
  simp only [tot]
  by_cases hx : x = 7
  ·rw [if_pos hx, if_pos hx.symm, Ord.bd_id h0 h1, Int.add_zero]
  ·rw [if_neg hx, if_neg (fun h => hx h.symm)]
   rfl
theorem lst_len (n : Int) : (lst n).length ≤ 1 := by unfold lst; split <;> simp
theorem lst_count {n : Int} (h0 : 0 ≤ n) (h1 : n ≤ 1000000) : Ev (fun k => exposure_Count.f k (lst n) 7) n := by
 have h := count_ev (lst n) 7 (by have := lst_len n; omega)
 rw [cnt_canon (lst_ss n) (lst_pos h0 h1), lst_tot h0 h1, if_pos rfl] at h
 exact h
theorem lst_record {n : Int} (h0 : 0 ≤ n) (h1 : n ≤ 1000) : Ev (fun k => exposure_Record.f k (lst n) [7]) (lst (n + 1), 0) := by
 rcases record_ev (lst n) (by have := lst_len n; omega) [7] (by simp) with ⟨a1, _⟩ | ⟨_, ⟨x, hx, hw⟩, _⟩ | ⟨_, _, r, a2, a3, a4, a5, a6⟩
 ·exact absurd (by simp : [(7 : Int)].Nodup) a1
 ·rw [List.mem_singleton.1 hx] at hw
  omega
 ·have : r = lst (n + 1) := canon_eq a3 a4 (lst_ss _) (lst_pos (by omega) (by omega)) (fun x => by
   rw [a6 x, cnt_canon (lst_ss n) (lst_pos h0 (by omega)), lst_tot h0 (by omega), lst_tot (by omega) (by omega)]
   by_cases hx : x = 7
   ·subst hx
    rw [if_pos (by simp), if_pos rfl, if_pos rfl, Ord.bd_id (by omega) (by omega)]
   ·rw [if_neg (by simpa using hx), if_neg hx, if_neg hx])
  rw [← this]
  exact a2
theorem share_ev (neg : Bool) {ln ld : List Int} (hn : okl ln) (hd : okl ld) (h1 : ln.length ≤ 20) (h2 : ld.length ≤ 20) {c S : Int} (hc0 : 0 ≤ c) (hc1 : c ≤ 4000000) (hS0 : 0 ≤ S) (hS1 : S ≤ 4000000) :
  Ev (fun k => (ratio_Mul.f k neg ln ld (encR S 1).1 (encR S 1).2.1 (encR S 1).2.2).bind fun bt1148 => (ratio_Cmp.f k (encR c 1).1 (encR c 1).2.1 (encR c 1).2.2 bt1148.1 bt1148.2.1 bt1148.2.2)) (cmpZ (c * denR ld) (numR neg ln ld * S)) := by
 obtain ⟨e1, e2⟩ := enc_one S
 obtain ⟨g1, g2⟩ := enc_one c
 obtain ⟨k1, k2, k3, k4, k5, k6⟩ := Big.elig_nums neg hn hd h1 h2 hS0 hS1 hc0 hc1
 have hm := rmul_ev neg (encR S 1).1 hn hd (okl_limbs _) (okl_limbs _) (by unfold smallR; omega) (by unfold smallR; omega) (show smallR (encR S 1).2.1 by unfold smallR; omega) (show smallR (encR S 1).2.2 by unfold smallR; omega)
 replace hm : Ev (fun k => ratio_Mul.f k neg ln ld (encR S 1).1 (encR S 1).2.1 (encR S 1).2.2) (encR (numR neg ln ld * numR (encR S 1).1 (encR S 1).2.1 (encR S 1).2.2) (denR ld * denR (encR S 1).2.2)) := hm
 rw [e1, e2, Nat.mul_one] at hm
 have hc := rcmp_ev (encR c 1).1 (encR (numR neg ln ld * S) (denR ld)).1 (enc_ok c 1).1 (enc_ok c 1).2.1 (enc_ok (numR neg ln ld * S) (denR ld)).1 (enc_ok (numR neg ln ld * S) (denR ld)).2.1 (by unfold smallR; omega) (by unfold smallR; omega) (by unfold smallR; omega) (by unfold smallR; omega)
 rw [g1, g2, enc_cmp_right _ (denR_pos ld), Int.natCast_one, Int.mul_one] at hc
 exact Ev.bind hm hc
theorem cap_loop (neg : Bool) {ln ld : List Int} (hn : okl ln) (hd : okl ld) (h1 : ln.length ≤ 20) (h2 : ld.length ≤ 20) (hN : 0 ≤ numR neg ln ld) (slack : Int) (hs0 : 0 ≤ slack) (hs1 : slack ≤ 1000) (wants : List Bool) (hw : wants.length ≤ 100) (d : Nat) :
  ∀ (i : Nat) (n : Int), i + d = wants.length → 0 ≤ n → n ≤ i → n * (denR ld : Int) ≤ numR neg ln ld * ((i : Int) + slack) →
  Ev (fun k => examboardlaw37_ExposureCap.l0 k slack wants (lst n) (i : Int) neg ln ld) true := by
 induction d with
 | zero =>
  intro i n hid h0 hni hinv
  refine Ev.last (fun k => ?_)
  simp only [examboardlaw37_ExposureCap.l0]
  rw [if_neg (by omega)]
 | succ d ih =>
  intro i n hid h0 hni hinv
  have W := Aside0.mk (wrap_next (i := i) (n := wants.length) (by omega) (by omega))
  have hinv2 : n * (denR ld : Int) ≤ numR neg ln ld * (((i : Int) + 1) + slack) := by
   have : numR neg ln ld * ((i : Int) + slack) ≤ numR neg ln ld * (((i : Int) + 1) + slack) := Int.mul_le_mul_of_nonneg_left (by omega) hN
   omega
  have j3 : ∀ m : Int, 0 ≤ m → m ≤ (i : Int) + 1 → m * (denR ld : Int) ≤ numR neg ln ld * (((i : Int) + 1) + slack) → Ev (fun k => examboardlaw37_ExposureCap.j3 k slack wants (lst m) (i : Int) neg ln ld) true := by
   intro m hm0 hm1 hm2
   have WS := Aside0.mk (show wrap64 ((wrap64 ((i : Int) + 1)) + slack) = (i : Int) + 1 + slack by rw [wrap64_id (x := (i : Int) + 1) (by omega) (by omega), wrap64_id (by omega) (by omega)])
   have hc := lst_count hm0 (show m ≤ 1000000 by omega)
   have o1 := rofk (a := m) (b := 1) (by omega) (by omega) (by decide) (by decide)
   have o2 := rofk (a := (i : Int) + 1 + slack) (b := 1) (by omega) (by omega) (by decide) (by decide)
   rw [show (1 : Int).toNat = 1 from rfl] at o1 o2
   have hsh := share_ev neg hn hd h1 h2 (c := m) (S := (i : Int) + 1 + slack) (by omega) (by omega) (by omega) (by omega)
   refine Ev.step (f := fun k => (exposure_Count.f k (lst m) 7).bind fun t1129 => ((ratio_Of.f k t1129 1).bind fun bt1130 => ((ratio_Of.f k ((i : Int) + 1 + slack) 1).bind fun bt1139 => (if bt1130.2.2.2 = true then (if bt1139.2.2.2 = true then ((ratio_Mul.f k neg ln ld bt1139.1 bt1139.2.1 bt1139.2.2.1).bind fun bt1148 => ((ratio_Cmp.f k bt1130.1 bt1130.2.1 bt1130.2.2.1 bt1148.1 bt1148.2.1 bt1148.2.2).bind fun t1155 => (if t1155 > 0 then (some false) else (examboardlaw37_ExposureCap.l0 k slack wants (lst m) ((i + 1 : Nat) : Int) neg ln ld)))) else (some false)) else (some false))))) (fun k => ?_) ?_
   ·simp only [examboardlaw37_ExposureCap.j3]
    rw [WS.out, W.out]
   ·refine Ev.bind hc (Ev.bind o1 (Ev.bind o2 (Ev.ite_pos rfl (Ev.ite_pos rfl ?_))))
    have hle : ¬ cmpZ (m * (denR ld : Int)) (numR neg ln ld * ((i : Int) + 1 + slack)) > 0 := by
     have := (cmpZ_le (m * (denR ld : Int)) (numR neg ln ld * ((i : Int) + 1 + slack))).2 hm2
     omega
    have fin := Ev.bind (f := fun (k : Nat) (t1155 : Int) => if t1155 > 0 then (some false) else (examboardlaw37_ExposureCap.l0 k slack wants (lst m) ((i + 1 : Nat) : Int) neg ln ld)) hsh (Ev.ite_neg hle (ih (i + 1) m (by omega) hm0 (by omega) (by rw [show ((i + 1 : Nat) : Int) = (i : Int) + 1 by omega]; exact hm2)))
    refine Ev.congr (fun k => ?_) fin
    simp only [Option.bind_assoc]
  have j2f : Ev (fun k => examboardlaw37_ExposureCap.j2 k slack wants (lst n) (i : Int) n false neg ln ld) true := by
   refine Ev.step (fun k => ?_) (j3 n h0 (by omega) hinv2)
   simp only [examboardlaw37_ExposureCap.j2]
   rw [if_neg (by decide)]
  have j2t : (n + 1) * (denR ld : Int) ≤ numR neg ln ld * (((i : Int) + 1) + slack) → Ev (fun k => examboardlaw37_ExposureCap.j2 k slack wants (lst n) (i : Int) n true neg ln ld) true := by
   intro hel
   have WN := Aside0.mk (show wrap64 (n + 1) = n + 1 from wrap64_id (by omega) (by omega))
   refine Ev.step (f := fun k => (exposure_Record.f k (lst n) (([7] : List Int))).bind fun bt1124 => (if bt1124.2 = 0 then ((exposure_Count.f k bt1124.1 7).bind fun t1128 => (if t1128 = (n + 1) then (examboardlaw37_ExposureCap.j3 k slack wants bt1124.1 (i : Int) neg ln ld) else (some false))) else (some false))) (fun k => ?_) ?_
   ·simp only [examboardlaw37_ExposureCap.j2]
    simp only [if_true, WN.out]
   ·exact Ev.bind (lst_record h0 (by omega)) (Ev.ite_pos rfl (Ev.bind (lst_count (n := n + 1) (by omega) (by omega)) (Ev.ite_pos rfl (j3 (n + 1) (by omega) (by omega) hel))))
  refine Ev.step (f := fun k => (exposure_Count.f k (lst n) 7).bind fun t1118 => (if rdOf false wants (i : Int) = true then ((exposure_Eligible.f k t1118 (i : Int) neg ln ld slack).bind fun t1120 => (examboardlaw37_ExposureCap.j2 k slack wants (lst n) (i : Int) t1118 t1120 neg ln ld)) else (examboardlaw37_ExposureCap.j2 k slack wants (lst n) (i : Int) t1118 false neg ln ld))) (fun k => ?_) ?_
  ·simp only [examboardlaw37_ExposureCap.l0]
   rw [if_pos (by omega)]
   simp only [if_pos (show (0 : Int) ≤ (i : Int) by omega)]
  ·refine Ev.bind (lst_count h0 (by omega)) ?_
   by_cases hwt : rdOf false wants (i : Int) = true
   ·refine Ev.ite_pos hwt (Ev.bind (elig_ev n (i : Int) slack neg hn hd h1 h2) ?_)
    by_cases hel : eligV n (i : Int) (numR neg ln ld) (denR ld) slack = true
    ·rw [hel]
     refine j2t ?_
     rw [eligV_true, bd_eq, bd_eq, bd_eq, Ord.bd_id (by omega) (by omega), Ord.bd_id (by omega) (by omega), Ord.bd_id (by omega) (by omega)] at hel
     exact hel
    ·rw [Bool.not_eq_true] at hel
     rw [hel]
     exact j2f
   ·exact Ev.ite_neg hwt j2f
theorem cap_law (neg : Bool) {ln ld : List Int} (hn : okl ln) (hd : okl ld) (slack : Int) (wants : List Bool) : Ev (fun k => examboardlaw37_ExposureCap.f k neg ln ld slack wants) true := by
 unfold examboardlaw37_ExposureCap.f
 rw [large_eq]
 simp only [Option.bind_some]
 have ht : Ev (fun k => examboardlaw37_ExposureCap.j0 k slack wants true neg ln ld) true := Ev.last (fun k => by simp only [examboardlaw37_ExposureCap.j0, if_true])
 by_cases h : 20 < ln.length ∨ 20 < ld.length
 ·rw [decide_eq_true h]
  exact Ev.ite_pos rfl ht
 rw [decide_eq_false h]
 refine Ev.ite_neg Bool.false_ne_true (Ev.bind (rsign_ev neg hn hd (by unfold smallR; omega) (by unfold smallR; omega)) ?_)
 by_cases hN : numR neg ln ld < 0
 ·exact Ev.ite_pos (by rw [Int.sign_eq_neg_one_of_neg hN]; decide) ht
 refine Ev.ite_neg (by
  rcases Int.lt_or_eq_of_le (show 0 ≤ numR neg ln ld by omega) with c | c
  ·rw [Int.sign_eq_one_of_pos c]; decide
  ·rw [← c]; decide) ?_
 by_cases c1 : slack < 0
 ·exact Ev.ite_pos c1 ht
 refine Ev.ite_neg c1 ?_
 by_cases c2 : slack > 1000
 ·exact Ev.ite_pos c2 ht
 refine Ev.ite_neg c2 ?_
 by_cases c3 : (wants.length : Int) > 100
 ·rw [decide_eq_true c3]; exact ht
 rw [decide_eq_false c3]
 have ho := rofk (a := 1) (b := 1) (by decide) (by decide) (by decide) (by decide)
 rw [show (1 : Int).toNat = 1 from rfl] at ho
 obtain ⟨e1, e2⟩ := enc_one 1
 have l2 := limbs2 (n := 1) (by decide)
 obtain ⟨k1, k2, k3, k4⟩ := enc_ok 1 1
 rw [show (1 : Int).natAbs = 1 from rfl] at k3
 have q1 := elig_ev 0 0 0 (encR 1 1).1 k1 k2 (by omega) (by omega)
 rw [e1, e2] at q1
 have v1 : eligV 0 0 1 1 0 = true := by decide
 rw [v1] at q1
 refine Ev.step (f := fun k => (ratio_Of.f k 1 1).bind fun bt1108 => ((exposure_Eligible.f k 0 0 bt1108.1 bt1108.2.1 bt1108.2.2.1 0).bind fun t1117 => (if t1117 = true then (examboardlaw37_ExposureCap.l0 k slack wants ([] : List (S50)) 0 neg ln ld) else (some false)))) (fun k => ?_) ?_
 ·simp only [examboardlaw37_ExposureCap.j0]
  rw [if_neg (by decide)]
 ·refine Ev.bind ho (Ev.bind q1 (Ev.ite_pos rfl ?_))
  have hl := cap_loop neg hn hd (by omega) (by omega) (by omega) slack (by omega) (by omega) wants (by omega) wants.length 0 0 (by omega) (Int.le_refl _) (Int.le_refl _) (by
   have : 0 ≤ numR neg ln ld * (((0 : Nat) : Int) + slack) := Int.mul_nonneg (by omega) (by omega)
   omega)
  exact hl
end Go.Proofs.Ythamhjmhgcpdgaa.Cap
end
