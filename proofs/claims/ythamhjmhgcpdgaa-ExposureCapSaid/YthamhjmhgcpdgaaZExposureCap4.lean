/- Lemmas and contracts for the law ExposureCap: words of the print, contracts of the functions that the law reaches, and what these compute, as far as the law needs them; packed by a program of this session. -/
import Derived.Test.YthamhjmhgcpdgaaZExposureCap3
import Derived.Sort.OwnSortedInts
import Derived.Shelf.Sort.Plain
import Derived.Shelf.Slices.CompactI
import Derived.Laws.CopyRow
import Derived.Laws.Externs
import Derived.Lib.AppendZerosOnto
import Derived.Lib.Overlaps
import Derived.Lib.Walk
import Derived.Shelf.Spec.SlicesInsertGrow
import Derived.Ground.NamesProg
import Derived.Shelf.Slices.In.SortNone
import Derived.Ground.Names2Prog
section
namespace Go.Proofs.Ythamhjmhgcpdgaa.MyWords
open Go.RowKit Go.Proofs.YthamhjmhgcpdgaaW.PrintWords
section
variable {P : Program}
theorem run_copy_rowN (w : World) (dT sT ty elem : TypeId) (sz g o dLen dCap : Nat) (a : Addr) (sLen sCap : Nat) (cur : Array Value) (t : TypeId) (cs : List Value)
  (hu : P.underlying dT = some (.slice elem)) (hs : (P.info? elem).map (·.size) = some sz)
  (hg : w.heap[g]? = some (.cells cur t (0, 0))) (hn : cs.length = Nat.min sLen dLen * sz)
  (hsrc : ∀ j v, cs[j]? = some v → w.cell? (a.add j) = some v) (hfit : o + cs.length ≤ cur.size) (h1 : ∀ v ∈ cs, v.oneCell' = true) :
  (Builtin.copy_ #[dT, sT] ty #[.slice (some ⟨g, o, none⟩) dLen dCap, .slice (some a) sLen sCap]).run P w =
   .ok (goInt (Nat.min sLen dLen : Nat)) (w.setRow g (cur.toList.take o ++ cs ++ cur.toList.drop (o + cs.length)).toArray) := by
 have hl := run_loadCells_list (P := P) w a cs hsrc
 have hst := run_storeCells_at P g o t cs 0 cur w hg (by simpa using hfit) h1
 cases hq : P.info? elem with
 | none => simp [hq] at hs
 | some i =>
  have hi : i.size = sz := by simpa [hq] using hs
  rw [hn] at hl
  simp [Builtin.copy_, run_underlying hu, Builtin.lenOf, Builtin.firstCells, sizeOf, typeInfo, hq, hi, hl, hst]
theorem run_overlaps_own (w : World) (tS tR e : TypeId) (ht : P.underlying tS = some (.slice e)) (size : Nat) (hz : ∀ w, (Go.sizeOf e).run P w = .ok size w)
  (a b : Addr) (la ca lb cb : Nat) (hne : a.block ≠ b.block) (cur : Array Value) (t : TypeId) (hb : w.heap[b.block]? = some (.cells cur t (0, 0))) (h0c : 0 < cur.size) (cura : Array Value) (ta : TypeId) (fa : Nat × Nat) (ha : w.heap[a.block]? = some (.cells cura ta fa)) (h0a : 0 < cura.size) :
  (Extern.SlicesOverlaps.overlaps #[tS, tS] #[tR] #[.slice (some a) la ca, .slice (some b) lb cb]).run P w = .ok (.bool false) w := by
 have hnb : (a.block != b.block) = true := by simpa using hne
 have hnb' : (a.block == b.block) = false := by simpa using hne
 have hfb : ∀ o, w.frozen? { block := b.block, off := o } = false := fun o => by simp [World.frozen?, hb]
 have hfb' : w.frozen? b = false := by simp [World.frozen?, hb]
 have hsb : w.shape? b.block = some (t, cur.size) := by simp [World.shape?, hb]
 have hsa : w.shape? a.block = some (ta, cura.size) := by simp [World.shape?, ha]
 obtain ⟨nb, enb⟩ : ∃ nb, cur.size = nb + 1 := ⟨cur.size - 1, by omega⟩
 obtain ⟨na, ena⟩ : ∃ na, cura.size = na + 1 := ⟨cura.size - 1, by omega⟩
 rw [enb] at hsb
 rw [ena] at hsa
 change Sem.run P (α := Value) (do
  let some t := (#[tS, tS] : Array TypeId)[0]? | stuck "slices.overlaps: no parameter types"
  let .slice elem ← underlying t | stuck "slices.overlaps: slice type expected"
  let size ← sizeOf elem
  match (some a : Option Addr), (some b : Option Addr) with
  | some a, some b =>
   if la = 0 ∨ lb = 0 ∨ size = 0 then pure (Value.bool false)
   else if a.block != b.block && (← frozen a) && (← frozen b) then unsupported .addressObserved
   else do
    if a.block != b.block then do
     noView a; noView b
     if ← mayBeOne a b then return Value.bool ((← choose (.extern "sameAddr.stringBytes" 2)) == 1)
    pure (Value.bool (a.block == b.block && a.off < b.off + lb * size && b.off < a.off + la * size))
  | _, _ => pure (Value.bool false)) w = _
 by_cases h0 : la = 0 ∨ lb = 0 ∨ size = 0
 ·simp [run_underlying ht, hz, h0]
 ·cases hfa : w.frozen? a with
  | true => simp [run_underlying ht, hz, h0, hnb, hnb', frozen, noView, viewAt, mayBeOne, stringish, shape, Sem.run, hsa, hsb, hfa, hfb, hfb']
  | false =>
   cases hfe : w.frozen? { block := a.block, off := na + 1 } with
   | true => simp [run_underlying ht, hz, h0, hnb, hnb', frozen, noView, viewAt, mayBeOne, stringish, shape, Sem.run, hsa, hsb, hfa, hfe, hfb, hfb']
   | false => simp [run_underlying ht, hz, h0, hnb, hnb', frozen, noView, viewAt, mayBeOne, stringish, shape, Sem.run, hsa, hsb, hfa, hfe, hfb, hfb']
end
theorem block_of_cell {w : World} {a : Addr} {v : Value} (h : w.cell? a = some v) : ∃ cur t fr, w.heap[a.block]? = some (.cells cur t fr) ∧ 0 < cur.size := by
 unfold World.cell? at h
 split at h
 ·rename_i cells t fr hh
  refine ⟨cells, t, fr, hh, ?_⟩
  rcases Nat.eq_zero_or_pos cells.size with h0 | h0
  ·have : cells = #[] := Array.eq_empty_of_size_eq_zero h0
   subst this
   simp at h
  ·exact h0
 ·cases h
theorem compact_length (zs : List Int) : (Lib.compact zs).length ≤ zs.length := by
 unfold Lib.compact Lib.compactUpTo
 rw [List.length_map]
 exact Nat.le_trans (List.length_filter_le _ _) (by simp)
theorem shift_cells {α : Type} (cur inner vs : List α) (a b N : Nat) (hc : cur.take N = inner) (hN : inner.length = N) (ha : a ≤ N) (hb : vs.length = b) (hl : N + b ≤ cur.length) :
  ∀ X1 X2 : List α, X1 = cur.take (a + b) ++ inner.drop a ++ cur.drop (a + b + (inner.drop a).length) → X2 = X1.take a ++ vs ++ X1.drop (a + vs.length) → X2.take (N + b) = inner.take a ++ vs ++ inner.drop a ∧ X2.length = cur.length ∧ X1.length = cur.length := by
 intro X1 X2 h1 h2
 have hd : (inner.drop a).length = N - a := by rw [List.length_drop, hN]
 have l1 : X1.length = cur.length := by rw [h1]; simp only [List.length_append, List.length_take, List.length_drop, hN]; omega
 have l2 : X2.length = cur.length := by rw [h2]; simp only [List.length_append, List.length_take, List.length_drop, l1, hb]; omega
 refine ⟨?_, l2, l1⟩
 have e1 : X1.take a = inner.take a := by
  rw [h1, List.take_append_of_le_length (by simp only [List.length_append, List.length_take, List.length_drop, hN]; omega), List.take_append_of_le_length (by rw [List.length_take]; omega), List.take_take, ← hc, List.take_take, Nat.min_eq_left (by omega), Nat.min_eq_left ha]
 have e2 : X1.drop (a + b) = inner.drop a ++ cur.drop (N + b) := by
  rw [h1, List.append_assoc, List.drop_append_of_le_length (by rw [List.length_take]; omega), List.drop_take, Nat.sub_self, List.take_zero, List.nil_append, hd, show a + b + (N - a) = N + b by omega]
 rw [h2, e1, hb, e2, ← List.append_assoc, List.take_append_of_le_length (by simp only [List.length_append, List.length_take, List.length_drop, hN, hb]; omega), List.take_of_length_le (by simp only [List.length_append, List.length_take, List.length_drop, hN, hb]; omega)]
theorem grow_cells {α : Type} (cur inner vs : List α) (a b N : Nat) (hc : cur.take a = inner.take a) (hN : inner.length = N) (ha : a ≤ N) (hb : vs.length = b) (hl : N + b ≤ cur.length) :
  ∀ X1 X2 : List α, X1 = cur.take a ++ vs ++ cur.drop (a + vs.length) → X2 = X1.take (a + b) ++ inner.drop a ++ X1.drop (a + b + (inner.drop a).length) → X2.take (N + b) = inner.take a ++ vs ++ inner.drop a ∧ X2.length = cur.length ∧ X1.length = cur.length := by
 intro X1 X2 h1 h2
 have hd : (inner.drop a).length = N - a := by rw [List.length_drop, hN]
 have l1 : X1.length = cur.length := by rw [h1]; simp only [List.length_append, List.length_take, List.length_drop, hb]; omega
 have l2 : X2.length = cur.length := by rw [h2]; simp only [List.length_append, List.length_take, List.length_drop, l1, hN]; omega
 refine ⟨?_, l2, l1⟩
 have e1 : X1.take (a + b) = inner.take a ++ vs := by
  rw [h1, List.take_append_of_le_length (by simp only [List.length_append, List.length_take, hb]; omega), List.take_of_length_le (by simp only [List.length_append, List.length_take, hb]; omega), hc]
 rw [h2, e1, List.take_append_of_le_length (by simp only [List.length_append, List.length_take, List.length_drop, hN, hb]; omega), List.take_of_length_le (by simp only [List.length_append, List.length_take, List.length_drop, hN, hb]; omega)]
section
variable {α : Type} {d : Kd α} {e base : Nat} {ok : Nat → Prop} {w : World}
theorem R_built {g cap : Nat} {arr : Array Value} {xs : List α} {inner : List Value} (hb : w.heap[g]? = some (.cells arr e (0, 0))) (hbase : base ≤ g) (hok : ok g) (hn : xs.length ≤ cap) (hcap : cap ≤ maxLen) (hs : arr.size = cap * d.sz) (hi : arr.toList.take (xs.length * d.sz) = inner)
  (hr : Reps (d.M w base (fun k => ok k ∧ some k ≠ (Value.slice (some ⟨g, 0, none⟩) xs.length cap).ownBlock)) d.sz xs inner) : d.R e w base ok (.slice (some ⟨g, 0, none⟩) xs.length cap) xs :=
 ⟨fun k hk => by simp [Value.ownBlock] at hk; subst hk; exact hok, inner, ⟨by rw [hr.1], .inr ⟨g, cap, arr, rfl, hbase, hb, hn, hcap, hs, hi⟩⟩, hr⟩
theorem R_opened {v : Value} {xs : List α} (h : d.R e w base ok v xs) : (v = .slice none 0 0 ∧ xs = []) ∨ ∃ g cap cur inner, v = .slice (some ⟨g, 0, none⟩) xs.length cap ∧ base ≤ g ∧ ok g ∧ w.heap[g]? = some (.cells cur e (0, 0)) ∧ xs.length ≤ cap ∧ cap ≤ maxLen ∧ cur.size = cap * d.sz ∧ cur.toList.take (xs.length * d.sz) = inner ∧ Reps (d.M w base (fun k => ok k ∧ some k ≠ v.ownBlock)) d.sz xs inner := by
 obtain ⟨h0, inner, ho, hr⟩ := h
 rcases ho.2 with ⟨rfl, hn⟩ | ⟨g, cap, cur, rfl, hg, hh, h1, h2, h3, h4⟩
 ·exact .inl ⟨rfl, List.eq_nil_of_length_eq_zero hn⟩
 ·exact .inr ⟨g, cap, cur, inner, rfl, hg, h0 g (by simp [Value.ownBlock]), hh, h1, h2, h3, h4, hr⟩
theorem grown_setRow (w : World) (g : Nat) (arr : Array Value) : w.grownBy (w.setRow g arr) (some g) := by
 refine ⟨rfl, rfl, rfl, by simp [World.setRow], fun k hk hne => ?_⟩
 have : g ≠ k := fun e => hne (by rw [e])
 simp [World.setRow, Array.getElem?_modify, this]
theorem cell_setRow_other (w : World) (g : Nat) (arr : Array Value) (a : Addr) (h : a.block ≠ g) : (w.setRow g arr).cell? a = w.cell? a := by
 have : g ≠ a.block := fun e => h e.symm
 simp [World.cell?, World.setRow, Array.getElem?_modify, this]
end
end Go.Proofs.Ythamhjmhgcpdgaa.MyWords
end
section
namespace Go.Proofs
open Go.Shelf
def Try.lays189_ren : Go.Shelf.Ren := ⟨fun | 189 => 48 | 125 => 75 | 257 => 74 | 128 => 93 | 129 => 105 | 294 => 96 | 295 => 97 | 296 => 98 | 297 => 99 | 298 => 100 | 299 => 101 | 216 => 102 | 300 => 103 | 301 => 104 | 328 => 120 | 329 => 121 | 330 => 122 | 331 => 123 | 332 => 124 | 215 => 71 | 343 => 125 | n => n, fun | 28 => 46 | 3 => 3 | 46 => 98 | 0 => 0 | 51 => 87 | 53 => 22 | 4 => 4 | 183 => 113 | 182 => 112 | 131 => 71 | 5 => 5 | 9 => 9 | 218 => 133 | 222 => 137 | 228 => 139 | 229 => 140 | n => n, fun | n => n⟩
theorem Try.lays189 : Go.Proofs.Lays.n189 Try.prog Try.lays189_ren := {
 mixed := by kernel_rfl
 f125 := Try.func75.trans (congrArg some (by kernel_rfl))
 f128 := Try.func93.trans (congrArg some (by kernel_rfl))
 f129 := Try.func105.trans (congrArg some (by kernel_rfl))
 f189 := Try.func48.trans (congrArg some (by kernel_rfl))
 f215 := Try.func71.trans (congrArg some (by kernel_rfl))
 f216 := Try.func102.trans (congrArg some (by kernel_rfl))
 f257 := Try.func74.trans (congrArg some (by kernel_rfl))
 f294 := Try.func96.trans (congrArg some (by kernel_rfl))
 f295 := Try.func97.trans (congrArg some (by kernel_rfl))
 f296 := Try.func98.trans (congrArg some (by kernel_rfl))
 f297 := Try.func99.trans (congrArg some (by kernel_rfl))
 f298 := Try.func100.trans (congrArg some (by kernel_rfl))
 f299 := Try.func101.trans (congrArg some (by kernel_rfl))
 f300 := Try.func103.trans (congrArg some (by kernel_rfl))
 f301 := Try.func104.trans (congrArg some (by kernel_rfl))
 f328 := Try.func120.trans (congrArg some (by kernel_rfl))
 f329 := Try.func121.trans (congrArg some (by kernel_rfl))
 f330 := Try.func122.trans (congrArg some (by kernel_rfl))
 f331 := Try.func123.trans (congrArg some (by kernel_rfl))
 f332 := Try.func124.trans (congrArg some (by kernel_rfl))
 f343 := Try.func125.trans (congrArg some (by kernel_rfl))
 t0 := Try.underlying0
 a0 := Try.isAgg0
 z0 := Try.sizeOf0
 v0 := Try.zeroValue0
 t3 := Try.underlying3
 a3 := Try.isAgg3
 z3 := Try.sizeOf3
 v3 := Try.zeroValue3
 t4 := Try.underlying4
 a4 := Try.isAgg4
 z4 := Try.sizeOf4
 v4 := Try.zeroValue4
 t5 := Try.underlying5
 a5 := Try.isAgg5
 z5 := Try.sizeOf5
 v5 := Try.zeroValue5
 t9 := Try.underlying9
 a9 := Try.isAgg9
 z9 := Try.sizeOf9
 v9 := Try.zeroValue9
 t28 := Try.underlying46
 a28 := Try.isAgg46
 z28 := Try.sizeOf46
 v28 := Try.zeroValue46
 t46 := Try.underlying98
 a46 := Try.isAgg98
 z46 := Try.sizeOf98
 v46 := Try.zeroValue98
 t51 := Try.underlying87
 a51 := Try.isAgg87
 z51 := Try.sizeOf87
 v51 := Try.zeroValue87
 t53 := Try.underlying22
 a53 := Try.isAgg22
 z53 := Try.sizeOf22
 v53 := Try.zeroValue22
 t131 := Try.underlying71
 a131 := Try.isAgg71
 z131 := Try.sizeOf71
 v131 := Try.zeroValue71
 t182 := Try.underlying112
 a182 := Try.isAgg112
 z182 := Try.sizeOf112
 v182 := Try.zeroValue112
 t183 := Try.underlying113
 a183 := Try.isAgg113
 z183 := Try.sizeOf113
 v183 := Try.zeroValue113
 t218 := Try.underlying133
 a218 := Try.isAgg133
 z218 := Try.sizeOf133
 v218 := Try.zeroValue133
 t222 := Try.underlying137
 a222 := Try.isAgg137
 z222 := Try.sizeOf137
 v222 := Try.zeroValue137
 t228 := Try.underlying139
 a228 := Try.isAgg139
 z228 := Try.sizeOf139
 v228 := Try.zeroValue139
 t229 := Try.underlying140
 a229 := Try.isAgg140
 z229 := Try.sizeOf140
 v229 := Try.zeroValue140 }
def Try.lays220_ren : Go.Shelf.Ren := ⟨fun | 20 => 49 | n => n, fun | 22 => 46 | 3 => 3 | 4 => 4 | 0 => 0 | n => n, fun | n => n⟩
theorem Try.lays220 : Go.Proofs.Lays2.n20 Try.prog Try.lays220_ren := {
 mixed := by kernel_rfl
 f20 := Try.func49.trans (congrArg some (by kernel_rfl))
 t0 := Try.underlying0
 a0 := Try.isAgg0
 z0 := Try.sizeOf0
 v0 := Try.zeroValue0
 t3 := Try.underlying3
 a3 := Try.isAgg3
 z3 := Try.sizeOf3
 v3 := Try.zeroValue3
 t4 := Try.underlying4
 a4 := Try.isAgg4
 z4 := Try.sizeOf4
 v4 := Try.zeroValue4
 t22 := Try.underlying46
 a22 := Try.isAgg46
 z22 := Try.sizeOf46
 v22 := Try.zeroValue46
 i3 := by kernel_rfl }
end Go.Proofs
end
section
namespace Go.Proofs.Ythamhjmhgcpdgaa.Q
open Go.RowKit Go.Proofs.YthamhjmhgcpdgaaW.PrintWords Go.Proofs.YthamhjmhgcpdgaaW.PrintLast Go.Proofs.YthamhjmhgcpdgaaW.PrintMore Go.Proofs.Ythamhjmhgcpdgaa.MyWords
attribute [local go_sem] max2_int min2_int max_two min_two
set_option linter.unusedVariables false
set_option linter.unusedSimpArgs false
set_option maxHeartbeats 8000000 in
set_option maxRecDepth 100000 in
theorem slices_Sort_int_int.calls (P0_ : Nat → Prop) (u9000_ : Value) (l0 : List Int) (r : List Int) (w0 w : World) (hB : Below w0.heap.size w0 w) (ho0 : Kd.R (Kd.int .i64) 3 w w0.heap.size P0_ u9000_ l0) (h : slices_Sort_int_int.f l0 = some r) :
  Calls Try.prog 48 #[u9000_] w fun e w' => e = .returned (.tuple #[]) ∧ Kd.R (Kd.int .i64) 3 w' w0.heap.size (fun k_ => (P0_ k_ ∨ w.heap.size ≤ k_)) u9000_ r ∧ Below w0.heap.size w0 w' ∧ Kept w w' (fun k_ => P0_ k_) := by
 unfold slices_Sort_int_int.f at h
 by_cases hlen : l0.length < 4611686018427387904
 case neg => rw [if_neg hlen] at h; cases h
 rw [if_pos hlen] at h
 have hr := Option.some.inj h
 clear h
 rcases (Kd.own_of_R ho0).2 with ⟨rfl, hn⟩ | ⟨g, cap, cur, rfl, hge, hb, hn, hcap, hs, hi⟩
 ·obtain rfl := List.eq_nil_of_length_eq_zero hn
  obtain rfl : r = [] := by simpa using hr.symm
  exact (Any.slices_Sort_int_none Try.lays189 none 0 w).mono fun e w' ⟨he, hw⟩ => by
   subst hw
   exact ⟨he, Rm ho0 (fun _ hk => .inl hk), hB, Kept.refl _ _⟩
 ·have hg : g < w.heap.size := (Array.getElem?_eq_some_iff.1 hb).1
  have hp : P0_ g := ho0.1 g (by simp [Value.ownBlock])
  have ht : cur.toList.take l0.length = l0.map (Value.int .i64) := by simpa [encs] using hi
  have hrl : r.length = l0.length := by rw [← hr]; exact List.length_mergeSort _
  exact (Any.slices_Sort_int Try.lays189 g 0 cap l0 w (holds_of_blockI hb ht) hg hlen).mono fun e w' ⟨he, n, os, hw⟩ => by
   have hgr : w.grownBy w' (some g) := by rw [hw]; exact grownBy_sortedI _
   have how : w'.ownsRow w0.heap.size 3 1 (.slice (some ⟨g, 0, none⟩) l0.length cap) l0.length (r.map (Value.int .i64)) := by rw [hw, hr]; exact ownsRow_sortedI hrl hge hb hn hcap hs
   exact ⟨he, Kd.R_of_own (by rw [hrl]; exact how) (fun k hk => .inl (ho0.1 k hk)), hB.grown hgr hB.size (fun k hk => by cases hk; exact hge), Kept.of_grown hgr (Kept.refl _ _) (fun k hk => by cases hk; exact .inl hp)⟩
set_option maxHeartbeats 8000000 in
set_option maxRecDepth 100000 in
theorem slices_Compact_int_int.calls (P0_ : Nat → Prop) (u9000_ : Value) (l0 : List Int) (r : List Int) (w0 w : World) (hB : Below w0.heap.size w0 w) (ho0 : Kd.R (Kd.int .i64) 3 w w0.heap.size P0_ u9000_ l0) (h : slices_Compact_int_int.f l0 = some r) :
  Calls Try.prog 49 #[u9000_] w fun e w' => ∃ v0_ : Value, e = .returned (v0_) ∧ Kd.R (Kd.int .i64) 3 w' w0.heap.size (fun k_ => (P0_ k_ ∨ w.heap.size ≤ k_)) v0_ r ∧ Below w0.heap.size w0 w' ∧ Kept w w' (fun k_ => P0_ k_) := by
 unfold slices_Compact_int_int.f at h
 by_cases hlen : l0.length < 4611686018427387904
 case neg => rw [if_neg hlen] at h; cases h
 rw [if_pos hlen] at h
 have hr : Lib.compact l0 = r := Option.some.inj h
 clear h
 rcases (Kd.own_of_R ho0).2 with ⟨rfl, hn⟩ | ⟨g, cap, cur, rfl, hge, hb, hn, hcap, hs, hi⟩
 ·obtain rfl := List.eq_nil_of_length_eq_zero hn
  obtain rfl : r = [] := by rw [← hr]; rfl
  exact (Any.slices_Compact_int_empty Try.lays220 none 0 w).mono fun e w' ⟨he, hw⟩ => by
   subst hw
   exact ⟨_, he, Rm ho0 (fun _ hk => .inl hk), hB, Kept.refl _ _⟩
 ·have hg : g < w.heap.size := (Array.getElem?_eq_some_iff.1 hb).1
  have hp : P0_ g := ho0.1 g (by simp [Value.ownBlock])
  have ht : cur.toList.take l0.length = l0.map (Value.int .i64) := by simpa [encs] using hi
  have hcl : (Lib.compact l0).length ≤ l0.length := compact_length l0
  refine (Any.slices_Compact_int Try.lays220 g 0 cap l0 w (holds_of_blockI hb ht) (by omega) hn).mono fun e w' ⟨he, n, hw⟩ => ?_
  have hrow : (Lib.compact l0 ++ List.replicate (l0.length - (Lib.compact l0).length) 0).length = l0.length := by simp; omega
  have hgr : w.grownBy w' (some g) := by
   rw [hw]
   exact grownBy_sortedI (os := #[]) _
  have how : w'.ownsRow w0.heap.size 3 1 (.slice (some ⟨g, 0, none⟩) l0.length cap) l0.length ((Lib.compact l0 ++ List.replicate (l0.length - (Lib.compact l0).length) 0).map (Value.int .i64)) := by
   rw [hw]
   exact ownsRow_sortedI (os := #[]) (ss := l0) hrow hge hb hn hcap hs
  have hR : Kd.R (Kd.int .i64) 3 w' w0.heap.size (fun k_ => (P0_ k_ ∨ w.heap.size ≤ k_)) (.slice (some ⟨g, 0, none⟩) l0.length cap) (Lib.compact l0 ++ List.replicate (l0.length - (Lib.compact l0).length) 0) := Kd.R_of_own (by rw [hrow]; exact how) (fun k hk => .inl (ho0.1 k hk))
  have hT := Kd.R_take (m := (Lib.compact l0).length) hR (by rw [hrow]; exact hcl)
  rw [List.take_left] at hT
  exact ⟨_, he, by rw [← hr]; exact hT, hB.grown hgr hB.size (fun k hk => by cases hk; exact hge), Kept.of_grown hgr (Kept.refl _ _) (fun k hk => by cases hk; exact .inl hp)⟩
set_option maxHeartbeats 8000000 in
set_option maxRecDepth 100000 in
theorem exposure_normal.calls (k : Nat) (A0 : Option Addr) (c0 : Nat) (l0 : List (S50)) (r : List (S50)) (w : World) (hr0 : Kd.C k50 w A0 l0.length l0) (hc0 : l0.length ≤ c0) (h : exposure_normal.f k l0 = some r) :
  Calls Try.prog 43 #[.slice A0 l0.length c0] w fun e w' => ∃ v0_ : Value, e = .returned (v0_) ∧ Kd.R k50 50 w' w.heap.size (fun _ => True) v0_ r ∧ Below w.heap.size w w' := by
 have hu50 := Try.underlying50
 have HR0 := mk0 hr0
 have HC0 := mk0 hc0
 clear hr0 hc0
 have HB := mk0 (Below.refl w.heap.size w)
 have H : (exposure_normal.l0 k l0 ([] : List Int) l0 (l0.length : Int) 0) = some r := h
 clear h
 have H' := mk0 H
 clear H
 go_enter Try.func43, Try.ntmps43
 go_wp2
 go_loopg [3, 12] k (fun kq v3 v12 w' => ∃ (x3_1 : List Int) (x12_1 : Int), v12 = .int .i64 x12_1 ∧ Aside0 (exposure_normal.l0 kq l0 x3_1 l0 (l0.length : Int) x12_1 = some r) ∧ Aside0 (kq ≤ k) ∧ Aside0 (Kd.R (Kd.int .i64) 3 w' w.heap.size (fun _ => True) v3 x3_1) ∧ Aside0 (Below w.heap.size w w'))
 case atStart => exact ⟨(([] : List Int)), (0), (by first | rfl | (simp; done) | (simp [*]; done)), H', ⟨Nat.le_refl _⟩, ⟨by first | exact Kd.R_nil _ _ _ _ _ | exact Kd.N_nil _ _ _ _ _ | exact Kd.V_nil _ _ _ _ _ | exact Kd.Q_nil _ _ _ _ _ | exact Kd.S_nil _ _ _ _ _⟩, ⟨by repeat (first | exact HB.out | apply bN | apply b1 | apply bA)⟩⟩
 case round =>
  clear H'
  obtain ⟨x3_1, x12_1, rfl, HA, HK1, HO_3, HB⟩ := hrel
  cases gk with
  | zero => exact absurd HA.out (by simp [exposure_normal.l0])
  | succ k1 =>
   have H := HA.out
   clear HA
   simp only [exposure_normal.l0] at H
   by_cases c2 : x12_1 < (l0.length : Int)
   ·rw [if_pos c2] at H
    have c2b0 : decide (x12_1 < (l0.length : Int)) = true := decide_eq_true c2
    clear c2
    by_cases c3 : 0 ≤ x12_1
    ·rw [if_pos c3] at H
     have c3b0 : decide (0 ≤ x12_1) = true := decide_eq_true c3
     clear c3
     by_cases c4 : x12_1 < (l0.length : Int)
     ·rw [if_pos c4] at H
      have c4b0 : decide (x12_1 < (l0.length : Int)) = true := decide_eq_true c4
      clear c4
      by_cases c5 : x3_1.length < 17592186044416
      ·rw [if_pos c5] at H
       have LMc5 := mk0 c5
       clear c5
       obtain ⟨y1058, hy1058⟩ : ∃ y_ : List Int, y_ = (x3_1 ++ [(rd_T50 l0 x12_1).f0]) := ⟨_, rfl⟩
       replace H : (exposure_normal.l0 k1 l0 y1058 l0 (l0.length : Int) (wrap64 (x12_1 + 1))) = some r := by first | (rw [hy1058]; with_reducible exact H) | (have H2_ := (Option.bind_some _ _).symm.trans H; rw [hy1058]; with_reducible exact H2_) | (have H2_ := (Option.bind_some _ _).symm.trans H; with_reducible exact H2_) | with_reducible exact H | (rw [hy1058]; exact H) | exact H
       have Ny1058 := mk0 hy1058
       clear hy1058
       have H' := mk0 H
       clear H
       have p1056 : 0 ≤ (x12_1 : Int) := of_decide_eq_true (by assumption)
       have q1056 : x12_1 < (l0.length : Int) := of_decide_eq_true (by assumption)
       obtain ⟨ad1056, e1056, hx1056_0, hx1056_1⟩ := at_T50 HR0.out x12_1 p1056 q1056
       cases e1056
       replace hx1056_0 := (HB.out.cell (World.block_lt_of_cell? w _ hx1056_0)).trans hx1056_0
       replace hx1056_1 := (HB.out.cell (World.block_lt_of_cell? w _ hx1056_1)).trans hx1056_1
       replace p1056 := eq_true p1056
       replace q1056 := eq_true q1056
       go_wp2_with (first | ((with_reducible refine gate_dst (N := 5) rfl ?_); refine box_event rfl (N := 5) rfl (cs := #[.int .i64 0, .int .i64 0]) (t := 50) (by go_simp <;> rfl) ?_; intro gb1057 hg w6 hbox hb; replace HO_3 := rB HO_3 hb; have BK1057 := mk0 (hbox); have GE1057 := geB hg HB; replace HB := hbS HB hb; clear hb hbox hg; obtain ⟨hcz7_0, hcz7_1, hfz7_0, hfz7_1⟩ := cz2 BK1057) | ((with_reducible refine gate_builtin (b := .append) (xs := #[.tmp 16, .tmp 19]) rfl ?_); at_builtin; refine Kd.R_append (Kd.int .i64) (w0 := w) w.heap.size rfl (.tmp 16) (.tmp 19) 46 3 (.int .i64 0) 8 rfl Try.underlying46 info3 rfl (by decide) (by omega) u3 x3_1 ((rd_T50 l0 x12_1).f0) [.int .i64 ((rd_T50 l0 x12_1).f0)] (fun _ => True) (fun _ => False) rfl (by go_simp <;> rfl) ?aP (fun _ hk => hk.elim) ?aF ?aO ?aB ?aS ?aL ?_; (case aP => exact rfl); (case aB => exact (by repeat (first | exact HB.out | refine bS ?_ GE1057.out))); (case aF => exact tv); (case aO => exact (Rm (Rf (p := ⟨gb1057, 1, none⟩) (Rf (p := ⟨gb1057, 0, none⟩) (Rt HO_3.out BK1057.out (by decide)) (fun _ hk => hk.2) (.int .i64 ((rd_T50 l0 x12_1).f0))) (fun _ hk => hk.2) (.int .i64 ((rd_T50 l0 x12_1).f1))) tv)); (case aS => exact (bZ (by repeat (first | exact HB.out | refine bS ?_ GE1057.out)))); (case aL => have := LMc5.out; omega); intro v1059 w8 ho hb hg hat; rw [← Ny1058.out] at ho; replace BK1057 := mk0 (blk_grown (g := gb1057) (o := .cells #[.int .i64 ((rd_T50 l0 x12_1).f0), .int .i64 ((rd_T50 l0 x12_1).f1)] 50 (0, 0)) (by refine blk_put (cs := #[.int .i64 ((rd_T50 l0 x12_1).f0), .int .i64 0]) ?_ 1 _ rfl; refine blk_put (cs := #[.int .i64 0, .int .i64 0]) ?_ 0 _ rfl; exact BK1057.out) hg (Kd.R_ne HO_3.out BK1057.out (by decide))); replace HB := mk0 (hb); have HO1060 := mk0 (ho); clear HO_3; clear ho hb hg hat))
       go_roundg k1
       case measure => have := HK1.out; omega
       case rel => exact ⟨(y1058), (wrap64 (x12_1 + 1)), (by first | rfl | (simp; done) | (simp [*]; done)), H', ⟨by have := HK1.out; omega⟩, ⟨HO1060.out⟩, ⟨by repeat (first | exact HB.out | apply bN | apply b1 | apply bA | refine bS ?_ GE1057.out)⟩⟩
      ·rw [if_neg c5] at H
       exact absurd H (by simp)
     ·rw [if_neg c4] at H
      exact absurd H (by simp)
    ·rw [if_neg c3] at H
     exact absurd H (by simp)
   ·rw [if_neg c2] at H
    have c2b0 : decide (x12_1 < (l0.length : Int)) = false := decide_eq_false c2
    clear c2
    obtain ⟨t1061, A9, H⟩ := bindA H
    obtain ⟨t1062, A10, H⟩ := bindA H
    have H' := mk0 H
    clear H
    obtain ⟨Ao11, co11, eo11⟩ := Kd.R_slice HO_3.out
    subst eo11
    go_wp2_with (first | ((with_reducible refine gate_callee (f := 48) rfl ?_); refine goA 23 Try.func48 #[.slice Ao11 x3_1.length co11] ?_; (with_reducible refine (slices_Sort_int_int.calls (fun k_ => some k_ = (.slice Ao11 x3_1.length co11 : Value).ownBlock) (.slice Ao11 x3_1.length co11) x3_1 t1061 w _ (by repeat (first | (with_reducible first | exact HB.out | apply bA | apply bN | apply b1) | exact HB.out)) (by exact Kd.R_tight rfl HO_3.out) A9.out).mono ?_); rintro e w12 ⟨rfl, hy0, hb, hkp⟩; refine ⟨_, rfl, ?_⟩; replace HO_3 := mk0 (Kd.R_reok rfl hy0 (fun k_ e_ => HO_3.out.1 k_ e_)); replace HB := mk0 (hb); (try clear hkp); (try clear hy0)) | ((with_reducible refine gate_callee (f := 49) rfl ?_); refine goA 25 Try.func49 #[.slice Ao11 x3_1.length co11] ?_; (with_reducible refine (slices_Compact_int_int.calls (fun k_ => some k_ = (.slice Ao11 x3_1.length co11 : Value).ownBlock) (.slice Ao11 x3_1.length co11) t1061 t1062 w _ (by repeat (first | (with_reducible first | exact HB.out | apply bA | apply bN | apply b1) | exact HB.out)) (by exact Kd.R_tight rfl HO_3.out) A10.out).mono ?_); rintro e w13 ⟨v1063, rfl, ho0, hb, hkp⟩; refine ⟨_, rfl, ?_⟩; have HO1064 := mk0 (Rm (ok' := fun k_ => True) ho0 tv); replace HB := mk0 (hb); clear HO_3; (try clear hkp); obtain ⟨Ao14, co14, eo14⟩ := Kd.R_slice HO1064.out; subst eo14))
    go_loopg [6, 27] k1 (fun kq v6 v27 w' => ∃ (x6_2 : List (S50)) (x27_2 : Int), v27 = .int .i64 x27_2 ∧ Aside0 (exposure_normal.l1 kq l0 x6_2 t1062 (t1062.length : Int) x27_2 = some r) ∧ Aside0 (kq ≤ k1) ∧ Aside0 (Kd.R k50 50 w' w.heap.size (fun _ => True) v6 x6_2) ∧ Aside0 (Kd.R (Kd.int .i64) 3 w' w.heap.size (fun _ => True) (.slice Ao14 t1062.length co14) t1062) ∧ Aside0 (Below w.heap.size w w'))
    case atStart => exact ⟨(([] : List (S50))), (0), (by first | rfl | (simp; done) | (simp [*]; done)), H', ⟨Nat.le_refl _⟩, ⟨by first | exact Kd.R_nil _ _ _ _ _ | exact Kd.N_nil _ _ _ _ _ | exact Kd.V_nil _ _ _ _ _ | exact Kd.Q_nil _ _ _ _ _ | exact Kd.S_nil _ _ _ _ _⟩, ⟨HO1064.out⟩, ⟨by repeat (first | exact HB.out | apply bN | apply b1 | apply bA)⟩⟩
    case round =>
     clear H'
     try clear p1
     try clear q1
     try clear hx1
     try clear c2
     try clear c2b0
     try clear p2
     try clear c3
     try clear c3b0
     try clear c4
     try clear c4b0
     try clear c5
     try clear p6
     try clear p10
     try clear q10
     try clear hx10
     try clear hcz7_0
     try clear hcz7_1
     try clear hfz7_0
     try clear hfz7_1
     try clear hx1056_0
     try clear hx1056_1
     try clear p1056
     try clear q1056
     obtain ⟨x6_2, x27_2, rfl, HA, HK2, HO_6, HO_25, HB⟩ := hrel
     cases gk with
     | zero => exact absurd HA.out (by simp [exposure_normal.l1])
     | succ k2 =>
      have H := HA.out
      clear HA
      simp only [exposure_normal.l1] at H
      by_cases c15 : x27_2 < (t1062.length : Int)
      ·rw [if_pos c15] at H
       have c15b0 : decide (x27_2 < (t1062.length : Int)) = true := decide_eq_true c15
       clear c15
       by_cases c16 : 0 ≤ x27_2
       ·rw [if_pos c16] at H
        have c16b0 : decide (0 ≤ x27_2) = true := decide_eq_true c16
        clear c16
        by_cases c17 : x27_2 < (t1062.length : Int)
        ·rw [if_pos c17] at H
         have c17b0 : decide (x27_2 < (t1062.length : Int)) = true := decide_eq_true c17
         clear c17
         obtain ⟨t1066, A18, H⟩ := bindA H
         by_cases c19 : t1066 > 0
         ·rw [if_pos c19] at H
          have c19b0 : decide (0 < t1066) = true := decide_eq_true c19
          clear c19
          by_cases c20 : x6_2.length < 8796093022208
          ·rw [if_pos c20] at H
           have LMc20 := mk0 c20
           clear c20
           obtain ⟨y1067, hy1067⟩ : ∃ y_ : List (S50), y_ = (x6_2 ++ [(⟨rd t1062 x27_2, t1066⟩ : S50)]) := ⟨_, rfl⟩
           replace H : (exposure_normal.l1 k2 l0 y1067 t1062 (t1062.length : Int) (wrap64 (x27_2 + 1))) = some r := by first | (rw [hy1067]; with_reducible exact H) | (have H2_ := (Option.bind_some _ _).symm.trans H; rw [hy1067]; with_reducible exact H2_) | (have H2_ := (Option.bind_some _ _).symm.trans H; with_reducible exact H2_) | with_reducible exact H | (rw [hy1067]; exact H) | exact H
           have Ny1067 := mk0 hy1067
           clear hy1067
           have H' := mk0 H
           clear H
           have p1065 : 0 ≤ (x27_2 : Int) := of_decide_eq_true (by assumption)
           have q1065 : x27_2 < (t1062.length : Int) := of_decide_eq_true (by assumption)
           obtain ⟨ad1065, e1065, hx1065_0⟩ := Kd.at_int (Kd.R_reads' HO_25.out).2.2 x27_2 p1065 q1065
           cases e1065
           replace p1065 := eq_true p1065
           replace q1065 := eq_true q1065
           go_wp2_with (first | ((with_reducible refine gate_callee (f := 17) rfl ?_); refine goA 33 Try.func17 #[.slice A0 l0.length c0, .int .i64 (rd t1062 x27_2)] ?_; (with_reducible refine (exposure_Count.calls k2 _ _ l0 (rd t1062 x27_2) t1066 _ (by exact Cb HR0.out HB.out) HC0.out A18.out).mono ?_); rintro e w21 ⟨rfl, hb⟩; refine ⟨_, rfl, ?_⟩; replace HO_6 := rB HO_6 hb; replace HO_25 := rB HO_25 hb; replace HB := hbS HB hb) | ((with_reducible refine gate_builtin (b := .append) (xs := #[.tmp 36, .tmp 40]) rfl ?_); at_builtin; refine Kd.R_append k50 (w0 := w) w.heap.size rfl (.tmp 36) (.tmp 40) 39 50 (.agg #[(.int .i64 0), (.int .i64 0)]) 16 rfl Try.underlying39 info50 rfl (by decide) (by omega) u6 x6_2 (⟨rd t1062 x27_2, t1066⟩ : S50) [.int .i64 (rd t1062 x27_2), .int .i64 t1066] (fun _ => True) (fun _ => False) rfl rfl ?aP (fun _ hk => hk.elim) ?aF ?aO ?aB ?aS ?aL ?_; (case aP => exact k50_mkM _ _ _ (⟨rd t1062 x27_2, t1066⟩ : S50)); (case aB => exact HB.out); (case aF => exact tv); (case aO => exact HO_6.out); (case aS => exact (bZ HB.out)); (case aL => have := LMc20.out; omega); intro v1068 w22 ho hb hg hat; rw [← Ny1067.out] at ho; replace HO_25 := mk0 (Kd.R_over' HO_25.out (Kd.R_typed HO_6.out) (by decide) hg); replace HB := mk0 (hb); have HO1069 := mk0 (ho); clear HO_6; clear ho hb hg hat))
           go_roundg k2
           case measure => have := HK1.out; have := HK2.out; omega
           case rel => exact ⟨(y1067), (wrap64 (x27_2 + 1)), (by first | rfl | (simp; done) | (simp [*]; done)), H', ⟨by have := HK1.out; have := HK2.out; omega⟩, ⟨HO1069.out⟩, ⟨HO_25.out⟩, ⟨by repeat (first | exact HB.out | apply bN | apply b1 | apply bA)⟩⟩
          ·rw [if_neg c20] at H
           exact absurd H (by simp)
         ·rw [if_neg c19] at H
          have c19b0 : decide (0 < t1066) = false := decide_eq_false c19
          clear c19
          have H' := mk0 H
          clear H
          have p1065 : 0 ≤ (x27_2 : Int) := of_decide_eq_true (by assumption)
          have q1065 : x27_2 < (t1062.length : Int) := of_decide_eq_true (by assumption)
          obtain ⟨ad1065, e1065, hx1065_0⟩ := Kd.at_int (Kd.R_reads' HO_25.out).2.2 x27_2 p1065 q1065
          cases e1065
          replace p1065 := eq_true p1065
          replace q1065 := eq_true q1065
          go_wp2_with (first | ((with_reducible refine gate_callee (f := 17) rfl ?_); refine goA 33 Try.func17 #[.slice A0 l0.length c0, .int .i64 (rd t1062 x27_2)] ?_; (with_reducible refine (exposure_Count.calls k2 _ _ l0 (rd t1062 x27_2) t1066 _ (by exact Cb HR0.out HB.out) HC0.out A18.out).mono ?_); rintro e w23 ⟨rfl, hb⟩; refine ⟨_, rfl, ?_⟩; replace HO_6 := rB HO_6 hb; replace HO_25 := rB HO_25 hb; replace HB := hbS HB hb))
          go_roundg k2
          case measure => have := HK1.out; have := HK2.out; omega
          case rel => exact ⟨(x6_2), (wrap64 (x27_2 + 1)), (by first | rfl | (simp; done) | (simp [*]; done)), H', ⟨by have := HK1.out; have := HK2.out; omega⟩, ⟨HO_6.out⟩, ⟨HO_25.out⟩, ⟨by repeat (first | exact HB.out | apply bN | apply b1 | apply bA)⟩⟩
        ·rw [if_neg c17] at H
         exact absurd H (by simp)
       ·rw [if_neg c16] at H
        exact absurd H (by simp)
      ·rw [if_neg c15] at H
       have c15b0 : decide (x27_2 < (t1062.length : Int)) = false := decide_eq_false c15
       clear c15
       obtain rfl := Option.some.inj H
       go_wp2
       go_ret
       exact ⟨_, by first | rfl | (simp [errW_none, errW_some] <;> rfl) | (simp [*, errW_none, errW_some] <;> rfl), HO_6.out, by repeat (first | exact HB.out | apply bN | apply b1 | apply bA)⟩
set_option maxHeartbeats 8000000 in
set_option maxRecDepth 100000 in
theorem api_Use_47.calls_end (P0_ : Nat → Prop) (u : Value) (l0 : List S50) (A2 : Option Addr) (c2 : Nat) (l2 : List S50) (w0 w : World) (hB : Below w0.heap.size w0 w) (ho0 : Kd.R k50 50 w w0.heap.size P0_ u l0) (hC : Kd.C k50 w A2 l2.length l2) (hm : 0 < l2.length) (hlim : l0.length + l2.length < 8796093022208) :
  Calls Try.prog 47 #[u, .int .i64 (l0.length : Int), .slice A2 l2.length c2] w fun e w' => ∃ v0_ : Value, e = .returned (v0_) ∧ Kd.R k50 50 w' w0.heap.size (fun k_ => (P0_ k_ ∨ w.heap.size ≤ k_)) v0_ (l0 ++ l2) ∧ Below w0.heap.size w0 w' ∧ Kept w w' (fun k_ => P0_ k_) := by
 have HO := mk0 (Rm ho0 (ok' := fun k_ => (P0_ k_ ∨ w.heap.size ≤ k_)) (fun _ hk => .inl hk))
 have HP := mk0 (fun k (hk : u.ownBlock = some k) => (ho0.1 k hk : P0_ k))
 have HC := mk0 hC
 have HB := mk0 hB
 have hz1 : ¬ ((l2.length : Int) = 0) := by omega
 have HL := mk0 hlim
 have key : ∀ (n : Nat) (_ : n = l0.length), (∃ A c, u = .slice A n c ∧ n ≤ c ∧ (A = none → c = 0) ∧ c ≤ maxLen ∧ ∀ ad, A = some ad → ∃ g, ad = ⟨g, 0, none⟩) := by
  rintro n rfl
  rcases R_opened ho0 with ⟨rfl, rfl⟩ | ⟨g, cap, cur, inner, rfl, _, _, _, h1, h2, _⟩
  ·exact ⟨none, 0, rfl, Nat.le_refl _, fun _ => rfl, by decide, fun _ h => by cases h⟩
  ·exact ⟨some ⟨g, 0, none⟩, cap, rfl, h1, fun h => (by cases h), h2, fun ad h => ⟨g, by cases h; rfl⟩⟩
 clear ho0 hC hB hlim
 obtain ⟨A, c, rfl, hnc, hA0, hcm, hA⟩ := key _ rfl
 clear key
 cases A with
 | none =>
  obtain rfl := hA0 rfl
  have h0 : l0.length = 0 := by omega
  obtain rfl := List.eq_nil_of_length_eq_zero h0
  simp only [List.length_nil, Int.natCast_zero] at HO ⊢
  go_enter Try.func47, Try.ntmps47
  go_wp2_with (first | (at_builtin; refine Kd.R_append_rows k50 (Rr := k50.K w) (w0 := w0) w0.heap.size rfl (.tmp 23) (.tmp 24) 39 50 (.agg #[(.int .i64 0), (.int .i64 0)]) 16 rfl Try.underlying39 info50 rfl (by decide) (by omega) _ [] l2 _ _ _ (fun k_ => (P0_ k_ ∨ w.heap.size ≤ k_)) (fun _ => False) rfl rfl ?aO ?aR (fun _ _ h => api_Use_47.mk h) (fun _ h => h.elim) ?aF ?aB ?aS ?aL ?_; (case aR => exact HC.out); (case aB => exact HB.out); (case aF => exact (fun _ h => .inr h)); (case aO => exact HO.out); (case aS => exact (bZ HB.out)); (case aL => have := HL.out; omega); intro v9 w9 ho hb hg hat))
  go_ret
  exact ⟨_, rfl, ho, hb, Kept.of_grown hg (Kept.refl _ _) (fun k hk => .inl (HP.out k hk))⟩
 | some ad =>
  obtain ⟨g, rfl⟩ := hA ad rfl
  go_enter Try.func47, Try.ntmps47
  go_wp2_with (first | (at_builtin; refine Kd.R_append_rows k50 (Rr := k50.K w) (w0 := w0) w0.heap.size rfl (.tmp 23) (.tmp 24) 39 50 (.agg #[(.int .i64 0), (.int .i64 0)]) 16 rfl Try.underlying39 info50 rfl (by decide) (by omega) _ l0 l2 _ _ _ (fun k_ => (P0_ k_ ∨ w.heap.size ≤ k_)) (fun _ => False) rfl rfl ?aO ?aR (fun _ _ h => api_Use_47.mk h) (fun _ h => h.elim) ?aF ?aB ?aS ?aL ?_; (case aR => exact HC.out); (case aB => exact HB.out); (case aF => exact (fun _ h => .inr h)); (case aO => exact HO.out); (case aS => exact (bZ HB.out)); (case aL => have := HL.out; omega); intro v9 w9 ho hb hg hat))
  all_goals (go_ret; exact ⟨_, rfl, ho, hb, Kept.of_grown hg (Kept.refl _ _) (fun k hk => .inl (HP.out k hk))⟩)
set_option maxHeartbeats 8000000 in
set_option maxRecDepth 100000 in
theorem api_Use_47.calls_shift (P0_ : Nat → Prop) (g c n m i : Nat) (cur : Array Value) (inner : List Value) (okr : Nat → Prop) (l0 : List S50) (ad : Addr) (c2 : Nat) (l2 : List S50) (w0 w : World) (hB : Below w0.heap.size w0 w) (hge : w0.heap.size ≤ g) (hp : P0_ g)
  (hb : w.heap[g]? = some (.cells cur 50 (0, 0))) (hcm : c ≤ maxLen) (hs : cur.size = c * 2) (hl0 : l0.length = n) (hl2 : l2.length = m) (hin : cur.toList.take (n * 2) = inner) (hrep : Reps (k50.M w w0.heap.size okr) 2 l0 inner)
  (hC : Kd.C k50 w (some ad) m l2) (hvb : ad.block ≠ g) (hm : 0 < m) (hi : i < n) (hroom : n + m ≤ c) :
  Calls Try.prog 47 #[.slice (some ⟨g, 0, none⟩) n c, .int .i64 (i : Int), .slice (some ad) m c2] w fun e w' => ∃ v0_ : Value, e = .returned (v0_) ∧ Kd.R k50 50 w' w0.heap.size (fun k_ => (P0_ k_ ∨ w.heap.size ≤ k_)) v0_ (l0.take i ++ l2 ++ l0.drop i) ∧ Below w0.heap.size w0 w' ∧ Kept w w' (fun k_ => P0_ k_) := by
 subst hl2
 have hsz : (Try.prog.info? 50).map (·.size) = some 2 := by
  obtain ⟨i0, h, e⟩ := Option.map_eq_some_iff.1 info50
  simp only [Prod.mk.injEq] at e
  rw [h, Option.map_some, e.2.1]
 obtain ⟨vs, hvr, hvc⟩ := ReadsRow.inner_ hC
 have hvl : vs.length = l2.length * 2 := hvr.1
 have hil : inner.length = n * 2 := by rw [hrep.1, hl0]
 have h1v : ∀ u ∈ vs, u.oneCell' = true := Kd.reps_one hvr (by decide) (fun _ _ h => k50.K_one h)
 have h1i : ∀ u ∈ inner, u.oneCell' = true := Kd.reps_one hrep (by decide) (fun _ _ h => k50.K_one (k50.K_of_M h))
 have hgw : g < w.heap.size := (Array.getElem?_eq_some_iff.1 hb).1
 have hcl : cur.toList.length = c * 2 := by simpa using hs
 obtain ⟨X1, hX1⟩ : ∃ X1, X1 = cur.toList.take (i * 2 + l2.length * 2) ++ inner.drop (i * 2) ++ cur.toList.drop (i * 2 + l2.length * 2 + (inner.drop (i * 2)).length) := ⟨_, rfl⟩
 obtain ⟨X2, hX2⟩ : ∃ X2, X2 = X1.take (i * 2) ++ vs ++ X1.drop (i * 2 + vs.length) := ⟨_, rfl⟩
 obtain ⟨e2, s2, s1⟩ := shift_cells cur.toList inner vs (i * 2) (l2.length * 2) (n * 2) hin hil (by omega) hvl (by omega) X1 X2 hX1 hX2
 have hmn1 : Nat.min (n + l2.length - i) (n + l2.length - (i + l2.length)) = n - i := by simp only [Nat.min_def]; split <;> omega
 have hmn2 : Nat.min l2.length (n + l2.length - i) = l2.length := by simp only [Nat.min_def]; split <;> omega
 obtain ⟨W1, hW1⟩ : ∃ W1, W1 = w.drew.setRow g X1.toArray := ⟨_, rfl⟩
 have hb1 : W1.heap[g]? = some (.cells X1.toArray 50 (0, 0)) := by rw [hW1]; exact setRow_heap w.drew g cur _ _ _ hb
 have hcp1 : ∀ ty dc sc, (Builtin.copy_ #[39, 39] ty #[.slice (some ⟨g, (i + l2.length) * 2, none⟩) (n + l2.length - (i + l2.length)) dc, .slice (some ⟨g, i * 2, none⟩) (n + l2.length - i) sc]).run Try.prog w.drew = .ok (goInt (Nat.min (n + l2.length - i) (n + l2.length - (i + l2.length)) : Nat)) W1 := fun ty dc sc => by
  rw [run_copy_rowN w.drew _ _ ty 50 2 g ((i + l2.length) * 2) (n + l2.length - (i + l2.length)) dc ⟨g, i * 2, none⟩ (n + l2.length - i) sc cur 50 (inner.drop (i * 2)) Try.underlying39 hsz hb (by rw [lD, hil, hmn1]; omega)
   (fun j v hj => by
    rw [Addr.add_lit, show (w.drew).cell? ⟨g, i * 2 + j, none⟩ = w.cell? ⟨g, i * 2 + j, none⟩ from rfl, blk_cell hb]
    rw [List.getElem?_drop, ← hin, List.getElem?_take] at hj
    split at hj
    ·rw [← Array.getElem?_toList]; exact hj
    ·cases hj)
   (by rw [lD, hil, hs]; omega) (fun v hv => h1i v (List.mem_of_mem_drop hv))]
  rw [hW1, hX1, Nat.add_mul]
 have hcp2 : ∀ (W : World), W.heap = W1.heap → ∀ ty dc, (Builtin.copy_ #[39, 39] ty #[.slice (some ⟨g, i * 2, none⟩) (n + l2.length - i) dc, .slice (some ad) l2.length c2]).run Try.prog W = .ok (goInt (Nat.min l2.length (n + l2.length - i) : Nat)) (W.setRow g X2.toArray) := fun W hWh ty dc => by
  have hbW : W.heap[g]? = some (.cells X1.toArray 50 (0, 0)) := by rw [hWh]; exact hb1
  rw [run_copy_rowN W _ _ ty 50 2 g (i * 2) (n + l2.length - i) dc ad l2.length c2 X1.toArray 50 vs Try.underlying39 hsz hbW (by rw [hvl, hmn2])
   (fun j v hj => by
    have hc := hvc j v hj
    have : W.cell? (ad.add j) = W1.cell? (ad.add j) := by simp only [World.cell?, hWh]
    rw [this, hW1, cell_setRow_other _ _ _ _ (by rw [add_block]; exact hvb)]
    exact hc)
   (by rw [hvl]; simp only [List.size_toArray, s1, hcl]; omega) h1v]
  rw [hX2]
 have hz1 : ¬ ((l2.length : Int) = 0) := by omega
 have hz2 : ¬ ((i : Int) = (n : Int)) := by omega
 have hov : ∀ lb cb, (callFunc 72 #[.slice (some ad) l2.length c2, .slice (some ⟨g, (i + l2.length) * 2, none⟩) lb cb]).run Try.prog w = .ok (.value (.bool false)) w := fun lb cb => by
  obtain ⟨u0, hu0⟩ : ∃ u0, vs[0]? = some u0 := ⟨_, List.getElem?_eq_getElem (by omega)⟩
  obtain ⟨cura, ta, fa, ha, h0a⟩ := block_of_cell (hvc 0 u0 hu0)
  rw [add_block] at ha
  rw [run_callFunc_extern Try.func72 (by kernel_rfl) (by kernel_rfl) (by kernel_rfl) (e := Extern.SlicesOverlaps.overlaps #[39, 39] #[4]) (by kernel_rfl),
   run_overlaps_own w 39 4 50 Try.underlying39 2 Try.sizeOf50 ad ⟨g, (i + l2.length) * 2, none⟩ l2.length c2 lb cb hvb cur 50 hb (by omega) cura ta fa ha h0a]
  rfl
 have hw1 : IntKind.i64.wrap ((i : Int) + (l2.length : Int)) = (i : Int) + (l2.length : Int) := by rw [IntKind.wrap_i64]; unfold maxLen at hcm; omega
 have hb1' : (0 : Int) ≤ (i : Int) + (l2.length : Int) := by omega
 have hin' : i ≤ n := by omega
 have htn : ((i : Int) + (l2.length : Int)).toNat = i + l2.length := by omega
 have hb2 : ¬ (c = i + l2.length) := by omega
 have hb3 : (i : Int) ≤ (n : Int) + (l2.length : Int) := by omega
 have hb4 : ¬ (c = i) := by omega
 have HF := mk0 (show ∀ W : World, W.heap = W1.heap → W.grownBy (W.setRow g X2.toArray) (some g) ∧ Kd.R k50 50 (W.setRow g X2.toArray) w0.heap.size (fun k_ => (P0_ k_ ∨ w.heap.size ≤ k_)) (.slice (some ⟨g, 0, none⟩) (n + l2.length) c) (l0.take i ++ l2 ++ l0.drop i) from fun W hWh => by
  have hlen : (l0.take i ++ l2 ++ l0.drop i).length = n + l2.length := by simp only [List.length_append, lT, lD, hl0]; omega
  have hrp : Reps (k50.M (W.setRow g X2.toArray) w0.heap.size (fun k => (P0_ k ∨ w.heap.size ≤ k) ∧ some k ≠ (Value.slice (some ⟨g, 0, none⟩) (n + l2.length) c).ownBlock)) 2 (l0.take i ++ l2 ++ l0.drop i) (inner.take (i * 2) ++ vs ++ inner.drop (i * 2)) :=
   Kd.reps_append (Kd.reps_append ((Kd.reps_take hrep (by omega)).imp_ (fun _ _ h => api_Use_47.mv h)) (hvr.imp_ (fun _ _ h => api_Use_47.mk h))) ((Kd.reps_drop hrep).imp_ (fun _ _ h => api_Use_47.mv h))
  have h := R_built (d := k50) (w := W.setRow g X2.toArray) (e := 50) (base := w0.heap.size) (ok := fun k_ => (P0_ k_ ∨ w.heap.size ≤ k_)) (g := g) (cap := c) (arr := X2.toArray) (xs := l0.take i ++ l2 ++ l0.drop i) (inner := inner.take (i * 2) ++ vs ++ inner.drop (i * 2))
   (setRow_heap W g X1.toArray _ _ _ (by rw [hWh]; exact hb1)) hge (.inl hp) (by rw [hlen]; exact hroom) hcm (by simp only [List.size_toArray, s2, hcl]; rfl) (by rw [hlen]; show X2.take ((n + l2.length) * 2) = _; rw [Nat.add_mul]; exact e2) (by rw [hlen]; exact hrp)
  rw [hlen] at h
  exact ⟨grown_setRow W g _, h⟩)
 have HW := mk0 (show Below w0.heap.size w0 W1 ∧ Kept w W1 (fun k_ => P0_ k_) from by
  rw [hW1]
  have hgr : w.drew.grownBy (w.drew.setRow g X1.toArray) (some g) := grown_setRow _ g _
  have hbd : Below w0.heap.size w0 w.drew := below_step hB (below_drew (Below.refl _ _))
  exact ⟨hbd.grown hgr hbd.size (fun k hk => by cases hk; exact hge), Kept.of_grown hgr (Kept.drew (Kept.refl _ _)) (fun k hk => by cases hk; exact .inl hp)⟩)
 have mixed : Try.prog.follows Departure.mixedOrders = true := by kernel_rfl
 have hc63 : c ≤ 9223372036854775807 := by unfold maxLen at hcm; omega
 clear hB hrep hvr hvc hX1 hX2 e2 hW1 hb hb1 hin hC hsz hvl hil h1v h1i hgw hcl s1 s2 hcm hmn1 hmn2 hs
 go_enter Try.func47, Try.ntmps47
 go_wp2_with (simp only [hov])
 go_region_law_o (refine step_copy_runI rfl _ _ 39 39 rfl _ _ (by simp [Act.eval, Act.put]) (by simp [Act.eval, Act.put]) (hcp1 _ _ _) ?_)
 go_wp2_with (at_builtin; refine wpList_copy_runI _ rfl _ _ 39 39 rfl _ _ rfl rfl (hcp2 _ rfl _ _) ?_)
 go_ret
 exact ⟨_, rfl, (HF.out _ rfl).2, HW.out.1.grown (HF.out _ rfl).1 HW.out.1.size (fun k hk => by cases hk; exact hge), Kept.of_grown (HF.out _ rfl).1 HW.out.2 (fun k hk => by cases hk; exact .inl hp)⟩
set_option maxHeartbeats 8000000 in
set_option maxRecDepth 100000 in
theorem api_Use_47.calls_grow (P0_ : Nat → Prop) (g c n m i : Nat) (cur : Array Value) (inner : List Value) (okr : Nat → Prop) (l0 : List S50) (ad : Addr) (c2 : Nat) (l2 : List S50) (w0 w : World) (hB : Below w0.heap.size w0 w)
  (hb : w.heap[g]? = some (.cells cur 50 (0, 0))) (hnc : n ≤ c) (hl0 : l0.length = n) (hl2 : l2.length = m) (hin : cur.toList.take (n * 2) = inner) (hrep : Reps (k50.M w w0.heap.size okr) 2 l0 inner)
  (hC : Kd.C k50 w (some ad) m l2) (hm : 0 < m) (hi : i < n) (hroom : c < n + m) (hlim : n + m < 8796093022208) :
  Calls Try.prog 47 #[.slice (some ⟨g, 0, none⟩) n c, .int .i64 (i : Int), .slice (some ad) m c2] w fun e w' => ∃ v0_ : Value, e = .returned (v0_) ∧ Kd.R k50 50 w' w0.heap.size (fun k_ => (P0_ k_ ∨ w.heap.size ≤ k_)) v0_ (l0.take i ++ l2 ++ l0.drop i) ∧ Below w0.heap.size w0 w' ∧ Kept w w' (fun k_ => P0_ k_) := by
 subst hl2
 obtain ⟨i0, hi0, he0⟩ := Option.map_eq_some_iff.1 info50
 simp only [Prod.mk.injEq] at he0
 obtain ⟨hz0, hzs, hzb⟩ := he0
 have hsz : (Try.prog.info? 50).map (·.size) = some 2 := by rw [hi0, Option.map_some, hzs]
 obtain ⟨vs, hvr, hvc⟩ := ReadsRow.inner_ hC
 have hvl : vs.length = l2.length * 2 := hvr.1
 have hil : inner.length = n * 2 := by rw [hrep.1, hl0]
 have h1v : ∀ u ∈ vs, u.oneCell' = true := Kd.reps_one hvr (by decide) (fun _ _ h => k50.K_one h)
 have h1i : ∀ u ∈ inner, u.oneCell' = true := Kd.reps_one hrep (by decide) (fun _ _ h => k50.K_one (k50.K_of_M h))
 have hgw : g < w.heap.size := (Array.getElem?_eq_some_iff.1 hb).1
 have hcur : ∀ j v, inner[j]? = some v → w.cell? ⟨g, j, none⟩ = some v := fun j v hj => by
  rw [blk_cell hb]
  rw [← hin, List.getElem?_take] at hj
  split at hj
  ·rw [← Array.getElem?_toList]; exact hj
  ·cases hj
 have hvw : ∀ j u, vs[j]? = some u → ad.block < w.heap.size := fun j u hj => by
  have := World.block_lt_of_cell? w _ (hvc j u hj)
  rwa [add_block] at this
 have hold : (Builtin.firstCells i0.size i (.slice (some ⟨g, 0, none⟩) i c)).run Try.prog w.drew = .ok (inner.take (i * 2)).toArray w.drew := by
  rw [hzs]
  exact run_firstCells_some w.drew 2 i ⟨g, 0, none⟩ i c (inner.take (i * 2)) (by rw [lT, hil]; omega) (fun j v hj => by
   rw [add_plain]
   rw [List.getElem?_take] at hj
   split at hj
   ·exact hcur j v hj
   ·cases hj)
 have hik : i + (n + l2.length - i) = n + l2.length := by omega
 have hkk : (n : Int) + (l2.length : Int) - (i : Int) = ((n + l2.length - i : Nat) : Int) := by omega
 obtain ⟨G, hG⟩ : ∃ G, G = grownCap w (n + l2.length) c 50 := ⟨_, rfl⟩
 obtain ⟨ROW, hROW⟩ : ∃ ROW : Array Value, ROW = (inner.take (i * 2)).toArray ++ Builtin.zeroCells (Value.agg #[(.int .i64 0), (.int .i64 0)]).cells (n + l2.length - i) ++ Builtin.zeroCells (Value.agg #[(.int .i64 0), (.int .i64 0)]).cells (G - (n + l2.length)) := ⟨_, rfl⟩
 have hrz : ∀ ty, (Builtin.append_ #[39, 3] ty #[.slice (some ⟨g, 0, none⟩) i c, .int .i64 ((n : Int) + (l2.length : Int) - (i : Int))]).run Try.prog w =
   .ok (.slice (some ⟨w.heap.size, 0, none⟩) (n + l2.length) G) (w.drew.alloc (.cells ROW 50)) := fun ty => by
  have h := Lib.run_append_grow_zeros w 39 3 ty 50 i0 _ .i64 .i64 Try.underlying39 Try.underlying3 hi0 hz0 (some ⟨g, 0, none⟩) i c (inner.take (i * 2)) hold (n + l2.length - i) (by omega) (by rw [hzs]; decide) (by omega) (by omega) (by rw [hzb]; omega) (by rw [hzb, hik]; exact growslice_fits hroom (by omega))
  rw [hik] at h
  rw [hkk, hROW, hG]
  exact h
 have hGn : n + l2.length ≤ G := by rw [hG]; exact grownCap_ge w _ _ _
 have hGm : G ≤ maxLen := by rw [hG]; exact grownCap_le_maxLen w (n + l2.length) c 50 (by unfold maxLen; omega)
 have hRs : ROW.size = G * 2 := by
  rw [hROW]
  simp only [Array.size_append, size_zeroCells, List.size_toArray, lT, hil]
  show min (i * 2) (n * 2) + (n + l2.length - i) * 2 + (G - (n + l2.length)) * 2 = G * 2
  omega
 have hRt : ROW.toList.take (i * 2) = inner.take (i * 2) := by
  rw [hROW, Array.append_assoc, Array.toList_append, List.take_append_of_le_length (by rw [lT, hil]; omega), List.take_take, Nat.min_self]
 obtain ⟨X1, hX1⟩ : ∃ X1, X1 = ROW.toList.take (i * 2) ++ vs ++ ROW.toList.drop (i * 2 + vs.length) := ⟨_, rfl⟩
 obtain ⟨X2, hX2⟩ : ∃ X2, X2 = X1.take (i * 2 + l2.length * 2) ++ inner.drop (i * 2) ++ X1.drop (i * 2 + l2.length * 2 + (inner.drop (i * 2)).length) := ⟨_, rfl⟩
 have hRl : ROW.toList.length = G * 2 := by simpa using hRs
 obtain ⟨e2, s2, s1⟩ := grow_cells ROW.toList inner vs (i * 2) (l2.length * 2) (n * 2) hRt hil (by omega) hvl (by omega) X1 X2 hX1 hX2
 have hmn1 : Nat.min l2.length (n + l2.length - i) = l2.length := by simp only [Nat.min_def]; split <;> omega
 have hmn2 : Nat.min (n - i) (n + l2.length - (i + l2.length)) = n - i := by simp only [Nat.min_def]; split <;> omega
 obtain ⟨W1, hW1⟩ : ∃ W1, W1 = w.drew.alloc (.cells ROW 50) := ⟨_, rfl⟩
 have hb1 : W1.heap[w.heap.size]? = some (.cells ROW 50 (0, 0)) := by rw [hW1]; exact heap_alloc_new w.drew (.cells ROW 50)
 have hOb : ∀ x v, x.block < w.heap.size → w.cell? x = some v → W1.cell? x = some v := fun x v hx h => by
  have : W1.heap[x.block]? = w.heap[x.block]? := by rw [hW1]; simp only [World.alloc]; exact Array.getElem?_push_lt hx ▸ (Array.getElem?_eq_getElem hx).symm
  rw [World.cell?_of_block this]; exact h
 have hcpA : ∀ (W : World), W.heap = W1.heap → ∀ ty dc, (Builtin.copy_ #[39, 39] ty #[.slice (some ⟨w.heap.size, i * 2, none⟩) (n + l2.length - i) dc, .slice (some ad) l2.length c2]).run Try.prog W = .ok (goInt (Nat.min l2.length (n + l2.length - i) : Nat)) (W.setRow w.heap.size X1.toArray) := fun W hWh ty dc => by
  rw [run_copy_rowN W _ _ ty 50 2 w.heap.size (i * 2) (n + l2.length - i) dc ad l2.length c2 ROW 50 vs Try.underlying39 hsz (by rw [hWh]; exact hb1) (by rw [hvl, hmn1])
   (fun j v hj => by
    have : W.cell? (ad.add j) = W1.cell? (ad.add j) := by simp only [World.cell?, hWh]
    rw [this]
    exact hOb _ _ (by rw [add_block]; exact hvw j v hj) (hvc j v hj))
   (by rw [hvl, hRs]; omega) h1v]
  rw [hX1]
 have hcpB : ∀ (W : World), W.heap = (W1.setRow w.heap.size X1.toArray).heap → ∀ ty dc sc, (Builtin.copy_ #[39, 39] ty #[.slice (some ⟨w.heap.size, (i + l2.length) * 2, none⟩) (n + l2.length - (i + l2.length)) dc, .slice (some ⟨g, i * 2, none⟩) (n - i) sc]).run Try.prog W = .ok (goInt (Nat.min (n - i) (n + l2.length - (i + l2.length)) : Nat)) (W.setRow w.heap.size X2.toArray) := fun W hWh ty dc sc => by
  rw [run_copy_rowN W _ _ ty 50 2 w.heap.size ((i + l2.length) * 2) (n + l2.length - (i + l2.length)) dc ⟨g, i * 2, none⟩ (n - i) sc X1.toArray 50 (inner.drop (i * 2)) Try.underlying39 hsz (by rw [hWh]; exact setRow_heap W1 _ _ _ _ _ hb1) (by rw [lD, hil, hmn2]; omega)
   (fun j v hj => by
    rw [Addr.add_lit]
    have : W.cell? ⟨g, i * 2 + j, none⟩ = (W1.setRow w.heap.size X1.toArray).cell? ⟨g, i * 2 + j, none⟩ := by simp only [World.cell?, hWh]
    rw [this, cell_setRow_other _ _ _ _ (by show g ≠ _; omega)]
    rw [List.getElem?_drop] at hj
    exact hOb _ _ hgw (hcur _ _ hj))
   (by rw [lD, hil]; simp only [List.size_toArray, s1, hRl]; omega) (fun v hv => h1i v (List.mem_of_mem_drop hv))]
  rw [hX2, Nat.add_mul]
 have hz1 : ¬ ((l2.length : Int) = 0) := by omega
 have hz2 : ¬ ((i : Int) = (n : Int)) := by omega
 have hz3 : (c : Int) < (n : Int) + (l2.length : Int) := by omega
 have hG63 : G ≤ 9223372036854775807 := by unfold maxLen at hGm; omega
 have hGi : ¬ (G = i) := by omega
 have hGim : ¬ (G = i + l2.length) := by omega
 have hci : ¬ (c = i) := by omega
 have hbN : g ≠ w.heap.size := by omega
 have hw1 : IntKind.i64.wrap ((i : Int) + (l2.length : Int)) = (i : Int) + (l2.length : Int) := by rw [IntKind.wrap_i64]; omega
 have hb1' : (0 : Int) ≤ (i : Int) + (l2.length : Int) := by omega
 have hin' : i ≤ n := by omega
 have htn : ((i : Int) + (l2.length : Int)).toNat = i + l2.length := by omega
 have hb3 : (i : Int) ≤ (n : Int) := by omega
 have HF := mk0 (show ∀ W : World, W.heap = (W1.setRow w.heap.size X1.toArray).heap → Kd.R k50 50 (W.setRow w.heap.size X2.toArray) w0.heap.size (fun k_ => (P0_ k_ ∨ w.heap.size ≤ k_)) (.slice (some ⟨w.heap.size, 0, none⟩) (n + l2.length) G) (l0.take i ++ l2 ++ l0.drop i) from fun W hWh => by
  have hlen : (l0.take i ++ l2 ++ l0.drop i).length = n + l2.length := by simp only [List.length_append, lT, lD, hl0]; omega
  have hrp : Reps (k50.M (W.setRow w.heap.size X2.toArray) w0.heap.size (fun k => (P0_ k ∨ w.heap.size ≤ k) ∧ some k ≠ (Value.slice (some ⟨w.heap.size, 0, none⟩) (n + l2.length) G).ownBlock)) 2 (l0.take i ++ l2 ++ l0.drop i) (inner.take (i * 2) ++ vs ++ inner.drop (i * 2)) :=
   Kd.reps_append (Kd.reps_append ((Kd.reps_take hrep (by omega)).imp_ (fun _ _ h => api_Use_47.mv h)) (hvr.imp_ (fun _ _ h => api_Use_47.mk h))) ((Kd.reps_drop hrep).imp_ (fun _ _ h => api_Use_47.mv h))
  have h := R_built (d := k50) (w := W.setRow w.heap.size X2.toArray) (e := 50) (base := w0.heap.size) (ok := fun k_ => (P0_ k_ ∨ w.heap.size ≤ k_)) (g := w.heap.size) (cap := G) (arr := X2.toArray) (xs := l0.take i ++ l2 ++ l0.drop i) (inner := inner.take (i * 2) ++ vs ++ inner.drop (i * 2))
   (setRow_heap W _ X1.toArray _ _ _ (by rw [hWh]; exact setRow_heap W1 _ _ _ _ _ hb1)) hB.size (.inr (Nat.le_refl _)) (by rw [hlen]; exact hGn) hGm (by simp only [List.size_toArray, s2, hRl]; rfl) (by rw [hlen]; show X2.take ((n + l2.length) * 2) = _; rw [Nat.add_mul]; exact e2) (by rw [hlen]; exact hrp)
  rw [hlen] at h
  exact h)
 have HW := mk0 (show ∀ W1' W2 : World, Below w.heap.size w W1' → W1'.heap.size = w.heap.size + 1 → W2 = W1'.setRow w.heap.size X1.toArray → Below w.heap.size w (W2.drew.setRow w.heap.size X2.toArray) from fun W1' W2 hb1' hsz1 h2 => by
  subst h2
  have g1 := grown_setRow W1' w.heap.size X1.toArray
  have b1 : Below w.heap.size w (W1'.setRow w.heap.size X1.toArray) := hb1'.grown g1 (by omega) (fun k hk => by cases hk; exact Nat.le_refl _)
  have b2 : Below w.heap.size w (W1'.setRow w.heap.size X1.toArray).drew := below_step b1 (below_drew (Below.refl _ _))
  exact b2.grown (grown_setRow _ _ _) b2.size (fun k hk => by cases hk; exact Nat.le_refl _))
 have HB := mk0 hB
 have mixed : Try.prog.follows Departure.mixedOrders = true := by kernel_rfl
 clear hB hrep hvr hvc hX1 hX2 e2 hb hb1 hin hC hsz hvl hil h1v h1i s1 s2 hmn1 hmn2 hcur hvw hold hik hkk hG hROW hRs hRt hRl hOb hGm hi0 hz0 hzs hzb
 subst hW1
 have hE1 : ((w.alloc (.cells ROW 50)).drew).heap = (w.drew.alloc (.cells ROW 50)).heap := rfl
 have hF1 : (((w.alloc (.cells ROW 50)).drew.setRow w.heap.size X1.toArray).drew).heap = ((w.drew.alloc (.cells ROW 50)).setRow w.heap.size X1.toArray).heap := rfl
 go_enter Try.func47, Try.ntmps47
 go_wp2_with (first
  | (at_builtin; refine Lib.wpList_append_run _ rfl _ _ _ _ rfl _ _ rfl rfl _ _ (hrz _) ?_)
  | (at_builtin; refine wpList_copy_runI _ rfl _ _ 39 39 rfl _ _ rfl rfl (hcpA _ hE1 _ _) ?_)
  | (at_builtin; refine wpList_copy_runI _ rfl _ _ 39 39 rfl _ _ rfl rfl (hcpB _ rfl _ _ _) ?_))
 go_region_law_o (refine step_copy_runI rfl _ _ 39 39 rfl (.slice (some ⟨w.heap.size, (i + l2.length) * 2, none⟩) (n + l2.length - (i + l2.length)) (G - (i + l2.length))) (.slice (some ⟨g, i * 2, none⟩) (n - i) (c - i)) (by simp [Act.eval, Act.put]) (by simp [Act.eval, Act.put]) (hcpB _ hF1 3 (G - (i + l2.length)) (c - i)) ?_)
 go_wp2
 go_ret
 have hbel := HW.out (w.alloc (.cells ROW 50)).drew _ (below_step (bA (Below.refl _ _) _) (below_drew (Below.refl _ _))) (Array.size_push _) rfl
 exact ⟨_, rfl, HF.out _ hF1, below_step HB.out hbel, Kept.of_below hbel _⟩
set_option maxHeartbeats 8000000 in
theorem api_Use_47.calls (P0_ : Nat → Prop) (u9000_ : Value) (l0 : List S50) (a1 : Int) (A2 : Option Addr) (c2 : Nat) (l2 : List S50) (r : List S50) (w0 w : World) (hB : Below w0.heap.size w0 w) (ho0 : Kd.R k50 50 w w0.heap.size P0_ u9000_ l0) (hr2 : ∀ W_, Kept w W_ (fun k_ => P0_ k_) → Kd.C k50 W_ A2 l2.length l2) (hc2 : l2.length ≤ c2) (h : api_Use_47.f l0 a1 l2 = some r) :
  Calls Try.prog 47 #[u9000_, .int .i64 a1, .slice A2 l2.length c2] w fun e w' => ∃ v0_ : Value, e = .returned (v0_) ∧ Kd.R k50 50 w' w0.heap.size (fun k_ => (P0_ k_ ∨ w.heap.size ≤ k_)) v0_ r ∧ Below w0.heap.size w0 w' ∧ Kept w w' (fun k_ => P0_ k_) := by
 unfold api_Use_47.f at h
 by_cases h1 : 0 ≤ a1
 case neg => rw [if_neg h1] at h; cases h
 rw [if_pos h1] at h
 by_cases h2 : a1 ≤ (l0.length : Int)
 case neg => rw [if_neg h2] at h; cases h
 rw [if_pos h2] at h
 by_cases hm : 0 < l2.length
 case neg => rw [if_neg hm] at h; cases h
 rw [if_pos hm] at h
 by_cases hlim : l0.length + l2.length < 8796093022208
 case neg => rw [if_neg hlim] at h; cases h
 rw [if_pos hlim] at h
 have hr := Option.some.inj h
 clear h
 subst hr
 obtain ⟨i, rfl⟩ : ∃ i : Nat, a1 = (i : Int) := ⟨a1.toNat, by omega⟩
 rw [Int.toNat_natCast]
 have hC := hr2 w (Kept.refl _ _)
 by_cases hi : i = l0.length
 ·subst hi
  rw [List.take_length, List.drop_length, List.append_nil]
  exact api_Use_47.calls_end P0_ u9000_ l0 A2 c2 l2 w0 w hB ho0 hC hm hlim
 ·obtain ⟨ad, rfl, _⟩ := hC.2.2 hm
  rcases R_opened ho0 with ⟨rfl, rfl⟩ | ⟨g, cap, cur, inner, rfl, hge, hok, hb, hn, hcap, hs, hin, hrep⟩
  ·simp at h2 hi; omega
  ·by_cases hroom : l0.length + l2.length ≤ cap
   ·have hne : ad.block ≠ g := by
     intro he
     have hk : Kept w (w.setRow g #[]) (fun k_ => P0_ k_) := Kept.of_grown (grown_setRow w g #[]) (Kept.refl _ _) (fun k hk => by cases hk; exact .inl hok)
     obtain ⟨vs, hvr, hvc⟩ := ReadsRow.inner_ (hr2 _ hk)
     have hvl : vs.length = l2.length * 2 := hvr.1
     have hc := hvc 0 _ (List.getElem?_eq_getElem (by omega))
     obtain ⟨cura, ta, fa, ha, h0a⟩ := block_of_cell hc
     rw [add_block, he, setRow_heap w g cur _ _ _ hb] at ha
     cases ha
     simp at h0a
    exact api_Use_47.calls_shift P0_ g cap l0.length l2.length i cur inner _ l0 ad c2 l2 w0 w hB hge hok hb hcap hs rfl rfl hin hrep hC hne hm (by omega) hroom
   ·exact api_Use_47.calls_grow P0_ g cap l0.length l2.length i cur inner _ l0 ad c2 l2 w0 w hB hb hn rfl rfl hin hrep hC hm (by omega) (by omega) hlim
set_option maxHeartbeats 8000000 in
set_option maxRecDepth 100000 in
theorem exposure_Record.calls (k : Nat) (A0 : Option Addr) (c0 : Nat) (l0 : List (S50)) (A1 : Option Addr) (c1 : Nat) (l1 : List Int) (r1 : List (S50)) (r2 : Int) (w : World) (hr0 : Kd.C k50 w A0 l0.length l0) (hc0 : l0.length ≤ c0) (hr1 : Kd.C (Kd.int .i64) w A1 l1.length l1) (hc1 : l1.length ≤ c1) (h : exposure_Record.f k l0 l1 = some (r1, r2)) :
  Calls Try.prog 22 #[.slice A0 l0.length c0, .slice A1 l1.length c1] w fun e w' => ∃ v0_ : Value, e = .returned (.tuple #[v0_, .int .i64 r2]) ∧ Kd.R k50 50 w' w.heap.size (fun _ => True) v0_ r1 ∧ Below w.heap.size w w' := by
 have hu50 := Try.underlying50
 have HR0 := mk0 hr0
 have HC0 := mk0 hc0
 clear hr0 hc0
 have HR1 := mk0 hr1
 have HC1 := mk0 hc1
 clear hr1 hc1
 have HB := mk0 (Below.refl w.heap.size w)
 have H : (exposure_Record.l0 k l0 l1 l1 (l1.length : Int) 0) = some (r1, r2) := h
 clear h
 have H' := mk0 H
 clear H
 go_enter Try.func22, Try.ntmps22
 go_wp2
 go_loopg [17] k (fun kq v17 w' => ∃ (x17_1 : Int), v17 = .int .i64 x17_1 ∧ Aside0 (exposure_Record.l0 kq l0 l1 l1 (l1.length : Int) x17_1 = some (r1, r2)) ∧ Aside0 (kq ≤ k) ∧ Aside0 (Below w.heap.size w w'))
 case atStart => exact ⟨(0), (by first | rfl | (simp; done) | (simp [*]; done)), H', ⟨Nat.le_refl _⟩, ⟨by repeat (first | exact HB.out | apply bN | apply b1 | apply bA)⟩⟩
 case round =>
  clear H'
  try clear c1
  try clear c2
  try clear p2
  obtain ⟨x17_1, rfl, HA, HK1, HB⟩ := hrel
  cases gk with
  | zero => exact absurd HA.out (by simp [exposure_Record.l0])
  | succ k1 =>
   have H := HA.out
   clear HA
   simp only [exposure_Record.l0] at H
   by_cases c3 : x17_1 < (l1.length : Int)
   ·rw [if_pos c3] at H
    have c3b0 : decide (x17_1 < (l1.length : Int)) = true := decide_eq_true c3
    clear c3
    by_cases c4 : 0 ≤ x17_1
    ·rw [if_pos c4] at H
     have c4b0 : decide (0 ≤ x17_1) = true := decide_eq_true c4
     clear c4
     by_cases c5 : x17_1 < (l1.length : Int)
     ·rw [if_pos c5] at H
      have c5b0 : decide (x17_1 < (l1.length : Int)) = true := decide_eq_true c5
      clear c5
      have c6b0 := eq_true (of_decide_eq_true (by assumption) : 0 ≤ x17_1)
      by_cases c7 : x17_1 ≤ (l1.length : Int)
      ·rw [if_pos c7] at H
       have c7b0 := eq_true c7
       have c7b1 : decide (x17_1 ≤ (l1.length : Int)) = true := decide_eq_true c7
       clear c7
       obtain ⟨t1088, A8, H⟩ := bindA H
       by_cases c9 : t1088 = true
       ·subst c9
        have H1 : (some (([] : List (S50)), 7)) = some (r1, r2) := by rw [if_pos rfl] at H; exact H
        clear H
        have H := H1
        clear H1
        simp only [Option.some.injEq, Prod.mk.injEq] at H
        obtain ⟨rfl, rfl⟩ := H
        have p1086 : 0 ≤ (x17_1 : Int) := of_decide_eq_true (by assumption)
        have q1086 : x17_1 < (l1.length : Int) := of_decide_eq_true (by assumption)
        obtain ⟨ad1086, e1086, hx1086_0⟩ := Kd.at_int HR1.out x17_1 p1086 q1086
        cases e1086
        replace hx1086_0 := (HB.out.cell (World.block_lt_of_cell? w _ hx1086_0)).trans hx1086_0
        replace p1086 := eq_true p1086
        replace q1086 := eq_true q1086
        obtain ⟨i010, hi010, _, hsz10, _⟩ := info_parts info3
        obtain ⟨hcut10, hA10, hC10⟩ := print_take_of (P := Try.prog) (Value.int .i64) 0 46 3 .i64 Try.underlying46 hi010 hsz10 (some ad1086) c1 l1 x17_1 (of_decide_eq_true (by assumption)) (of_decide_eq_true (by assumption)) HC1.out
        have HR1087 := mk0 (Kd.C_of_reads (h1 := fun _ => rfl) (hA10 _ (Kd.reads_of_C HR1.out)))
        have HC1087 := mk0 hC10
        clear hA10 hC10 hi010 hsz10
        go_wp2_with (first | ((with_reducible refine gate_callee (f := 42) rfl ?_); refine goesL_ (some 26) rfl rfl Try.func42 (by kernel_rfl) rfl #[.slice (some ad1086) (l1.take (x17_1 : Int).toNat).length c1, .int .i64 (rd l1 x17_1)] rfl (by (try simp only [mA, mC, mN]); first | done | (rw [show (l1.take (x17_1 : Int).toNat).length = x17_1.toNat from (by rw [lT]; have h_ : (x17_1 : Int) ≤ (l1.length : Int) := of_decide_eq_true (by assumption); omega)] <;> rfl) | rfl | (simp only [lD, lT]; rfl)) ?_; (with_reducible refine (slices_Contains_int_int.calls k1 _ _ (l1.take (x17_1 : Int).toNat) (rd l1 x17_1) true _ ?side1 ?side2 A8.out).mono ?_); (case side1 => repeat (first | exact (Cb HR1087.out HB.out) | (with_reducible refine Kd.C_alloc ?_ _) | (with_reducible refine Kd.C_drewN ?_ _) | (with_reducible refine Kd.C_drew ?_))); (case side2 => exact HC1087.out); rintro e w' ⟨rfl, ⟨nd, rfl⟩⟩; refine ⟨_, rfl, ?_⟩))
        go_ret2
        exact ⟨_, by first | rfl | (simp [errW_none, errW_some] <;> rfl) | (simp [*, errW_none, errW_some] <;> rfl), by first | exact Kd.R_nil _ _ _ _ _ | exact Kd.N_nil _ _ _ _ _ | exact Kd.V_nil _ _ _ _ _ | exact Kd.Q_nil _ _ _ _ _ | exact Kd.S_nil _ _ _ _ _, by repeat (first | exact HB.out | apply bN | apply b1 | apply bA)⟩
       ·replace c9 := Bool.eq_false_iff.mpr c9
        subst c9
        have H1 : (exposure_Record.l0 k1 l0 l1 l1 (l1.length : Int) (wrap64 (x17_1 + 1))) = some (r1, r2) := by rw [if_neg (show ¬ (false = true) by decide)] at H; exact H
        clear H
        have H := H1
        clear H1
        have H' := mk0 H
        clear H
        have p1086 : 0 ≤ (x17_1 : Int) := of_decide_eq_true (by assumption)
        have q1086 : x17_1 < (l1.length : Int) := of_decide_eq_true (by assumption)
        obtain ⟨ad1086, e1086, hx1086_0⟩ := Kd.at_int HR1.out x17_1 p1086 q1086
        cases e1086
        replace hx1086_0 := (HB.out.cell (World.block_lt_of_cell? w _ hx1086_0)).trans hx1086_0
        replace p1086 := eq_true p1086
        replace q1086 := eq_true q1086
        obtain ⟨i011, hi011, _, hsz11, _⟩ := info_parts info3
        obtain ⟨hcut11, hA11, hC11⟩ := print_take_of (P := Try.prog) (Value.int .i64) 0 46 3 .i64 Try.underlying46 hi011 hsz11 (some ad1086) c1 l1 x17_1 (of_decide_eq_true (by assumption)) (of_decide_eq_true (by assumption)) HC1.out
        have HR1087 := mk0 (Kd.C_of_reads (h1 := fun _ => rfl) (hA11 _ (Kd.reads_of_C HR1.out)))
        have HC1087 := mk0 hC11
        clear hA11 hC11 hi011 hsz11
        go_wp2_with (first | ((with_reducible refine gate_callee (f := 42) rfl ?_); refine goesL_ (some 26) rfl rfl Try.func42 (by kernel_rfl) rfl #[.slice (some ad1086) (l1.take (x17_1 : Int).toNat).length c1, .int .i64 (rd l1 x17_1)] rfl (by (try simp only [mA, mC, mN]); first | done | (rw [show (l1.take (x17_1 : Int).toNat).length = x17_1.toNat from (by rw [lT]; have h_ : (x17_1 : Int) ≤ (l1.length : Int) := of_decide_eq_true (by assumption); omega)] <;> rfl) | rfl | (simp only [lD, lT]; rfl)) ?_; (with_reducible refine (slices_Contains_int_int.calls k1 _ _ (l1.take (x17_1 : Int).toNat) (rd l1 x17_1) false _ ?side1 ?side2 A8.out).mono ?_); (case side1 => repeat (first | exact (Cb HR1087.out HB.out) | (with_reducible refine Kd.C_alloc ?_ _) | (with_reducible refine Kd.C_drewN ?_ _) | (with_reducible refine Kd.C_drew ?_))); (case side2 => exact HC1087.out); rintro e w' ⟨rfl, ⟨nd, rfl⟩⟩; refine ⟨_, rfl, ?_⟩))
        go_roundg k1
        case measure => have := HK1.out; omega
        case rel => exact ⟨(wrap64 (x17_1 + 1)), (by first | rfl | (simp; done) | (simp [*]; done)), H', ⟨by have := HK1.out; omega⟩, ⟨by repeat (first | exact HB.out | apply bN | apply b1 | apply bA)⟩⟩
      ·rw [if_neg c7] at H
       exact absurd H (by simp)
     ·rw [if_neg c5] at H
      exact absurd H (by simp)
    ·rw [if_neg c4] at H
     exact absurd H (by simp)
   ·rw [if_neg c3] at H
    have c3b0 : decide (x17_1 < (l1.length : Int)) = false := decide_eq_false c3
    clear c3
    have H' := mk0 H
    clear H
    go_wp2
    go_loopg [30] k1 (fun kq v30 w' => ∃ (x30_2 : Int), v30 = .int .i64 x30_2 ∧ Aside0 (exposure_Record.l1 kq l0 l1 l1 (l1.length : Int) x30_2 = some (r1, r2)) ∧ Aside0 (kq ≤ k1) ∧ Aside0 (Below w.heap.size w w'))
    case atStart => exact ⟨(0), (by first | rfl | (simp; done) | (simp [*]; done)), H', ⟨Nat.le_refl _⟩, ⟨by repeat (first | exact HB.out | apply bN | apply b1 | apply bA)⟩⟩
    case round =>
     clear H'
     try clear c1
     try clear p1
     try clear q1
     try clear hx1
     try clear c2
     try clear p2
     try clear c3
     try clear c3b0
     try clear c4
     try clear c4b0
     try clear c5
     try clear c5b0
     try clear c6
     try clear c6b0
     try clear p6
     try clear c7
     try clear c7b0
     try clear c7b1
     try clear c9
     try clear p10
     try clear q10
     try clear hx10
     try clear hx1086_0
     try clear p1086
     try clear p2
     try clear q1086
     obtain ⟨x30_2, rfl, HA, HK2, HB⟩ := hrel
     cases gk with
     | zero => exact absurd HA.out (by simp [exposure_Record.l1])
     | succ k2 =>
      have H := HA.out
      clear HA
      simp only [exposure_Record.l1] at H
      by_cases c12 : x30_2 < (l1.length : Int)
      ·rw [if_pos c12] at H
       have c12b0 : decide (x30_2 < (l1.length : Int)) = true := decide_eq_true c12
       clear c12
       by_cases c13 : 0 ≤ x30_2
       ·rw [if_pos c13] at H
        have c13b0 : decide (0 ≤ x30_2) = true := decide_eq_true c13
        clear c13
        by_cases c14 : x30_2 < (l1.length : Int)
        ·rw [if_pos c14] at H
         have c14b0 : decide (x30_2 < (l1.length : Int)) = true := decide_eq_true c14
         clear c14
         by_cases c15 : (rd l1 x30_2) < 1
         ·rw [if_pos c15] at H
          have c15b0 : decide ((rd l1 x30_2) < 1) = true := decide_eq_true c15
          clear c15
          simp only [Option.some.injEq, Prod.mk.injEq] at H
          obtain ⟨rfl, rfl⟩ := H
          have p1089 : 0 ≤ (x30_2 : Int) := of_decide_eq_true (by assumption)
          have q1089 : x30_2 < (l1.length : Int) := of_decide_eq_true (by assumption)
          obtain ⟨ad1089, e1089, hx1089_0⟩ := Kd.at_int HR1.out x30_2 p1089 q1089
          cases e1089
          replace hx1089_0 := (HB.out.cell (World.block_lt_of_cell? w _ hx1089_0)).trans hx1089_0
          replace p1089 := eq_true p1089
          replace q1089 := eq_true q1089
          go_wp2
          go_ret2
          exact ⟨_, by first | rfl | (simp [errW_none, errW_some] <;> rfl) | (simp [*, errW_none, errW_some] <;> rfl), by first | exact Kd.R_nil _ _ _ _ _ | exact Kd.N_nil _ _ _ _ _ | exact Kd.V_nil _ _ _ _ _ | exact Kd.Q_nil _ _ _ _ _ | exact Kd.S_nil _ _ _ _ _, by repeat (first | exact HB.out | apply bN | apply b1 | apply bA)⟩
         ·rw [if_neg c15] at H
          have c15b0 : decide ((rd l1 x30_2) < 1) = false := decide_eq_false c15
          clear c15
          by_cases c16 : (rd l1 x30_2) > 9999999
          ·rw [if_pos c16] at H
           have c16b0 : decide (9999999 < (rd l1 x30_2)) = true := decide_eq_true c16
           clear c16
           simp only [Option.some.injEq, Prod.mk.injEq] at H
           obtain ⟨rfl, rfl⟩ := H
           have p1089 : 0 ≤ (x30_2 : Int) := of_decide_eq_true (by assumption)
           have q1089 : x30_2 < (l1.length : Int) := of_decide_eq_true (by assumption)
           obtain ⟨ad1089, e1089, hx1089_0⟩ := Kd.at_int HR1.out x30_2 p1089 q1089
           cases e1089
           replace hx1089_0 := (HB.out.cell (World.block_lt_of_cell? w _ hx1089_0)).trans hx1089_0
           replace p1089 := eq_true p1089
           replace q1089 := eq_true q1089
           go_wp2
           go_ret2
           exact ⟨_, by first | rfl | (simp [errW_none, errW_some] <;> rfl) | (simp [*, errW_none, errW_some] <;> rfl), by first | exact Kd.R_nil _ _ _ _ _ | exact Kd.N_nil _ _ _ _ _ | exact Kd.V_nil _ _ _ _ _ | exact Kd.Q_nil _ _ _ _ _ | exact Kd.S_nil _ _ _ _ _, by repeat (first | exact HB.out | apply bN | apply b1 | apply bA)⟩
          ·rw [if_neg c16] at H
           have c16b0 : decide (9999999 < (rd l1 x30_2)) = false := decide_eq_false c16
           clear c16
           have H' := mk0 H
           clear H
           have p1089 : 0 ≤ (x30_2 : Int) := of_decide_eq_true (by assumption)
           have q1089 : x30_2 < (l1.length : Int) := of_decide_eq_true (by assumption)
           obtain ⟨ad1089, e1089, hx1089_0⟩ := Kd.at_int HR1.out x30_2 p1089 q1089
           cases e1089
           replace hx1089_0 := (HB.out.cell (World.block_lt_of_cell? w _ hx1089_0)).trans hx1089_0
           replace p1089 := eq_true p1089
           replace q1089 := eq_true q1089
           go_wp2
           go_roundg k2
           case measure => have := HK1.out; have := HK2.out; omega
           case rel => exact ⟨(wrap64 (x30_2 + 1)), (by first | rfl | (simp; done) | (simp [*]; done)), H', ⟨by have := HK1.out; have := HK2.out; omega⟩, ⟨by repeat (first | exact HB.out | apply bN | apply b1 | apply bA)⟩⟩
        ·rw [if_neg c14] at H
         exact absurd H (by simp)
       ·rw [if_neg c13] at H
        exact absurd H (by simp)
      ·rw [if_neg c12] at H
       have c12b0 : decide (x30_2 < (l1.length : Int)) = false := decide_eq_false c12
       clear c12
       obtain ⟨t1090, A17, H⟩ := bindA H
       have H' := mk0 H
       clear H
       go_wp2_with (first | ((with_reducible refine gate_callee (f := 43) rfl ?_); refine goA 42 Try.func43 #[.slice A0 l0.length c0] ?_; (with_reducible refine (exposure_normal.calls k2 _ _ l0 t1090 _ ?side1 ?side2 A17.out).mono ?_); (case side1 => repeat (first | exact (Cb HR0.out HB.out) | (with_reducible refine Kd.C_alloc ?_ _) | (with_reducible refine Kd.C_drewN ?_ _) | (with_reducible refine Kd.C_drew ?_))); (case side2 => exact HC0.out); rintro e w18 ⟨v1091, rfl, ho0, hb⟩; refine ⟨_, rfl, ?_⟩; have HO1092 := mk0 (Rl ho0 (bZ (by repeat (first | exact HB.out | apply bN | apply b1 | apply bA)))); replace HB := (by first | exact hbS HB hb | exact hbD HB hb)))
       go_loopg [10, 45] k2 (fun kq v10 v45 w' => ∃ (x10_3 : List (S50)) (x45_3 : Int), v45 = .int .i64 x45_3 ∧ Aside0 (exposure_Record.l2 kq x10_3 l1 (l1.length : Int) x45_3 = some (r1, r2)) ∧ Aside0 (kq ≤ k2) ∧ Aside0 (Kd.R k50 50 w' w.heap.size (fun _ => True) v10 x10_3) ∧ Aside0 (Below w.heap.size w w'))
       case atStart => exact ⟨(t1090), (0), (by first | rfl | (simp; done) | (simp [*]; done)), H', ⟨Nat.le_refl _⟩, ⟨by (with_reducible repeat apply Kd.R_drewN); exact HO1092.out⟩, ⟨by repeat (first | exact HB.out | apply bN | apply b1 | apply bA)⟩⟩
       case round =>
        clear H'
        try clear c1
        try clear p1
        try clear q1
        try clear hx1
        try clear c2
        try clear p2
        try clear c3
        try clear c3b0
        try clear c4
        try clear c4b0
        try clear c5
        try clear c5b0
        try clear c6
        try clear c6b0
        try clear p6
        try clear c7
        try clear c7b0
        try clear c7b1
        try clear c9
        try clear p10
        try clear q10
        try clear hx10
        try clear c12
        try clear c12b0
        try clear c13
        try clear c13b0
        try clear c14
        try clear c14b0
        try clear c15
        try clear c15b0
        try clear c16
        try clear c16b0
        try clear hx1086_0
        try clear hx1089_0
        try clear p1
        try clear p10
        try clear p1086
        try clear p1089
        try clear p2
        try clear p6
        try clear q1
        try clear q10
        try clear q1086
        try clear q1089
        obtain ⟨x10_3, x45_3, rfl, HA, HK3, HO_10, HB⟩ := hrel
        cases gk with
        | zero => exact absurd HA.out (by simp [exposure_Record.l2])
        | succ k3 =>
         have H := HA.out
         clear HA
         simp only [exposure_Record.l2] at H
         by_cases c19 : x45_3 < (l1.length : Int)
         ·rw [if_pos c19] at H
          have c19b0 : decide (x45_3 < (l1.length : Int)) = true := decide_eq_true c19
          clear c19
          by_cases c20 : 0 ≤ x45_3
          ·rw [if_pos c20] at H
           have c20b0 : decide (0 ≤ x45_3) = true := decide_eq_true c20
           clear c20
           by_cases c21 : x45_3 < (l1.length : Int)
           ·rw [if_pos c21] at H
            have c21b0 : decide (x45_3 < (l1.length : Int)) = true := decide_eq_true c21
            clear c21
            obtain ⟨⟨t1094, t1095⟩, A22, H⟩ := bindA H
            by_cases c23 : t1095 = true
            ·subst c23
             have H1 : (if 0 ≤ t1094 then (if t1094 < (x10_3.length : Int) then ((exposure_bounded.f (wrap64 (((rd_T50 x10_3 t1094).f1) + 1))).bind fun t1097 => (exposure_Record.l2 k3 (x10_3.set (t1094 : Int).toNat (⟨(rd_T50 x10_3 t1094).f0, t1097⟩ : S50)) l1 (l1.length : Int) (wrap64 (x45_3 + 1)))) else (none)) else (none)) = some (r1, r2) := by rw [if_pos rfl] at H; exact H
             clear H
             have H := H1
             clear H1
             by_cases c24 : 0 ≤ t1094
             ·rw [if_pos c24] at H
              have c24b0 : decide (0 ≤ t1094) = true := decide_eq_true c24
              clear c24
              by_cases c25 : t1094 < (x10_3.length : Int)
              ·rw [if_pos c25] at H
               have c25b0 : decide (t1094 < (x10_3.length : Int)) = true := decide_eq_true c25
               clear c25
               obtain ⟨t1097, A26, H⟩ := bindA H
               obtain ⟨y1098, hy1098⟩ : ∃ y_ : List (S50), y_ = (x10_3.set (t1094 : Int).toNat (⟨(rd_T50 x10_3 t1094).f0, t1097⟩ : S50)) := ⟨_, rfl⟩
               replace H : (exposure_Record.l2 k3 y1098 l1 (l1.length : Int) (wrap64 (x45_3 + 1))) = some (r1, r2) := by first | (rw [hy1098]; with_reducible exact H) | (have H2_ := (Option.bind_some _ _).symm.trans H; rw [hy1098]; with_reducible exact H2_) | (have H2_ := (Option.bind_some _ _).symm.trans H; with_reducible exact H2_) | with_reducible exact H | (rw [hy1098]; exact H) | exact H
               have Ny1098 := mk0 hy1098
               clear hy1098
               have H' := mk0 H
               clear H
               have p1093 : 0 ≤ (x45_3 : Int) := of_decide_eq_true (by assumption)
               have q1093 : x45_3 < (l1.length : Int) := of_decide_eq_true (by assumption)
               obtain ⟨ad1093, e1093, hx1093_0⟩ := Kd.at_int HR1.out x45_3 p1093 q1093
               cases e1093
               replace hx1093_0 := (HB.out.cell (World.block_lt_of_cell? w _ hx1093_0)).trans hx1093_0
               replace p1093 := eq_true p1093
               replace q1093 := eq_true q1093
               obtain ⟨Ao28, co28, eo28⟩ := Kd.R_slice HO_10.out
               subst eo28
               go_wp2_with (first | ((with_reducible refine gate_callee (f := 44) rfl ?_); refine goA 52 Try.func44 #[.slice Ao28 x10_3.length co28, .int .i64 (rd l1 x45_3), .func (.func 45) #[] #[]] ?_; (with_reducible refine (api_Use_int.calls k3 _ _ x10_3 (rd l1 x45_3) 0 t1094 true _ ?side1 ?side2 A22.out).mono ?_); (case side1 => repeat (first | exact (Kd.R_reads' HO_10.out).2.2 | (with_reducible refine Kd.C_alloc ?_ _) | (with_reducible refine Kd.C_drewN ?_ _) | (with_reducible refine Kd.C_drew ?_))); (case side2 => exact (Kd.R_reads' HO_10.out).2.1); rintro e w29 ⟨rfl, hb⟩; refine ⟨_, rfl, ?_⟩; replace HO_10 := (by first | exact rB HO_10 hb | exact rD HO_10 hb); replace HB := (by first | exact hbS HB hb | exact hbD HB hb); have p1096 : 0 ≤ (t1094 : Int) := of_decide_eq_true (by assumption); have q1096 : t1094 < (x10_3.length : Int) := of_decide_eq_true (by assumption); obtain ⟨ad1096, e1096, hx1096_0, hx1096_1⟩ := at_T50 (Kd.R_reads' HO_10.out).2.2 t1094 p1096 q1096; cases e1096; replace p1096 := eq_true p1096; replace q1096 := eq_true q1096) | ((with_reducible refine gate_callee (f := 31) rfl ?_); refine goA 64 Try.func31 #[.int .i64 (wrap64 (((rd_T50 x10_3 t1094).f1) + 1))] ?_; (with_reducible refine (exposure_bounded.calls (wrap64 (((rd_T50 x10_3 t1094).f1) + 1)) t1097 _ A26.out).mono ?_); rintro e w30 ⟨rfl, hb⟩; refine ⟨_, rfl, ?_⟩; replace HO_10 := (by first | exact rB HO_10 hb | exact rD HO_10 hb); replace HB := (by first | exact hbS HB hb | exact hbD HB hb); have p27 : 0 ≤ (t1094 : Int) := of_decide_eq_true (by assumption); have q27 : (t1094 : Int) < ((x10_3.length : Int) : Int) := of_decide_eq_true (by assumption); obtain ⟨go27, co27, eo27, gb27, gl27, cl27, HG27⟩ := Kd.R_form HO_10.out (by omega); (first | cases eo27 | (injection eo27 with ea_ en_ ec_; (first | subst ea_ | (injection ea_ with ea_; subst ea_)); subst ec_; clear en_)); have GB27 := mk0 gb27; have GG27 := mk0 HG27; clear gb27 gl27 HG27; (first | simp only [add_plain] at hx1096_0 | skip); (first | simp only [add_plain] at hx1096_1 | skip); obtain ⟨ce27, hcl27, hM27, hcc27, hfr27⟩ := Kd.R_elem HO_10.out z50 (t1094 : Int) p27 q27; obtain rfl := k50_openM hM27; have hx27_0 : w30.cell? ⟨go27, (t1094 : Int).toNat * 2, none⟩ = some (.int .i64 ((rd_T50 x10_3 t1094).f0)) := hcc27 0 _ rfl; have hx27_1 : w30.cell? ⟨go27, (t1094 : Int).toNat * 2 + 1, none⟩ = some (.int .i64 ((rd_T50 x10_3 t1094).f1)) := hcc27 1 _ rfl; have hf27_0 : w30.frozen? ⟨go27, (t1094 : Int).toNat * 2, none⟩ = false := hfr27 0; have hf27_1 : w30.frozen? ⟨go27, (t1094 : Int).toNat * 2 + 1, none⟩ = false := hfr27 1; clear hcl27 hcc27 hfr27 hM27; replace p27 := eq_true p27; replace q27 := eq_true q27; have HX31 := mk0 (show Kd.R k50 50 w30 w.heap.size (fun _ => True) (.slice (some ⟨go27, 0, none⟩) x10_3.length co28) x10_3 from (by (with_reducible repeat apply Kd.R_drewN); exact HO_10.out)); obtain ⟨ce31, hcl31, hM31, hcc31, hfr31⟩ := Kd.R_elem HX31.out z50 (t1094 : Int) (of_decide_eq_true (by assumption)) (by have h_ : (t1094 : Int) < ((x10_3.length : Int) : Int) := of_decide_eq_true (by assumption); first | exact h_ | (have e_ := (Kd.R_reads' HO_10.out).1; omega) | simpa using h_); obtain rfl := k50_openM hM31; have HP31 := Kd.R_seg HX31.out (t1094 : Int) (of_decide_eq_true (by assumption)) (by have h_ : (t1094 : Int) < ((x10_3.length : Int) : Int) := of_decide_eq_true (by assumption); first | exact h_ | (have e_ := (Kd.R_reads' HO_10.out).1; omega) | simpa using h_) (seg := [.int .i64 t1097]) (j := 1) hcl31 hcc31 (show 2 ≤ 2 from by decide) (x' := (⟨(rd_T50 x10_3 t1094).f0, t1097⟩ : S50)) (k50_mkM _ _ _ (⟨(rd_T50 x10_3 t1094).f0, t1097⟩ : S50) ) (fun _ hk => hk); have hx31_1 := hcc31 1 _ rfl; (try simp only [show (k50).sz = 2 from rfl, Nat.mul_one, Nat.add_zero] at hx31_1); have hf31_1 := hfr31 1; (try simp only [show (k50).sz = 2 from rfl, Nat.mul_one, Nat.add_zero] at hf31_1); clear hcl31 hcc31 hfr31 hM31) | ((with_reducible refine gate_store (t := 3) (p := 66) rfl ?_); refine store_event (t := 3) (p := 66) (v := ?vo_w32) (w1 := (w30.setCell ⟨go27, (t1094 : Int).toNat * 2 + 1, none⟩ (.int .i64 t1097))) ?hg ?ho ?hn ?hr ?_; (case ho => rfl); (case hg => rfl); (case hn => rfl); (case hr => go_simp <;> rfl); intro w32 hw; have hg : w30.grownBy w32 (some go27) := (by rw [hw]; exact HP31.2); have hp_ : Kd.R k50 50 w32 w.heap.size (fun _ => True) (.slice (some ⟨go27, 0, none⟩) x10_3.length co28) y1098 := (by rw [hw, Ny1098.out]; exact HP31.1); clear HP31; replace HO_10 := mk0 (hp_); replace HB := mk0 ((by rw [hw]; exact bS (HB.out) GB27.out : Below w.heap.size w w32)); clear hg hw hp_))
               go_roundg k3
               case measure => have := HK1.out; have := HK2.out; have := HK3.out; omega
               case rel => exact ⟨(y1098), (wrap64 (x45_3 + 1)), (by first | rfl | (simp; done) | (simp [*]; done)), H', ⟨by have := HK1.out; have := HK2.out; have := HK3.out; omega⟩, ⟨by (with_reducible repeat apply Kd.R_drewN); exact HO_10.out⟩, ⟨by repeat (first | exact HB.out | apply bN | apply b1 | apply bA)⟩⟩
              ·rw [if_neg c25] at H
               exact absurd H (by simp)
             ·rw [if_neg c24] at H
              exact absurd H (by simp)
            ·replace c23 := Bool.eq_false_iff.mpr c23
             subst c23
             have H1 : ((api_Use_47.f x10_3 t1094 (([(⟨rd l1 x45_3, 1⟩ : S50)] : List (S50)))).bind fun t1102 => (exposure_Record.l2 k3 t1102 l1 (l1.length : Int) (wrap64 (x45_3 + 1)))) = some (r1, r2) := by rw [if_neg (show ¬ (false = true) by decide)] at H; exact H
             clear H
             have H := H1
             clear H1
             obtain ⟨y1099, hy1099⟩ : ∃ y_ : List (S50), y_ = (([(⟨rd l1 x45_3, 1⟩ : S50)] : List (S50))) := ⟨_, rfl⟩
             replace H : ((api_Use_47.f x10_3 t1094 y1099).bind fun t1102 => (exposure_Record.l2 k3 t1102 l1 (l1.length : Int) (wrap64 (x45_3 + 1)))) = some (r1, r2) := by first | (rw [hy1099]; with_reducible exact H) | (have H2_ := (Option.bind_some _ _).symm.trans H; rw [hy1099]; with_reducible exact H2_) | (have H2_ := (Option.bind_some _ _).symm.trans H; with_reducible exact H2_) | with_reducible exact H | (rw [hy1099]; exact H) | exact H
             have Ny1099 := mk0 hy1099
             clear hy1099
             obtain ⟨t1102, A33, H⟩ := bindA H
             have H' := mk0 H
             clear H
             have p1093 : 0 ≤ (x45_3 : Int) := of_decide_eq_true (by assumption)
             have q1093 : x45_3 < (l1.length : Int) := of_decide_eq_true (by assumption)
             obtain ⟨ad1093, e1093, hx1093_0⟩ := Kd.at_int HR1.out x45_3 p1093 q1093
             cases e1093
             replace hx1093_0 := (HB.out.cell (World.block_lt_of_cell? w _ hx1093_0)).trans hx1093_0
             replace p1093 := eq_true p1093
             replace q1093 := eq_true q1093
             obtain ⟨Ao34, co34, eo34⟩ := Kd.R_slice HO_10.out
             subst eo34
             go_wp2_with (first | ((with_reducible refine gate_callee (f := 44) rfl ?_); refine goA 52 Try.func44 #[.slice Ao34 x10_3.length co34, .int .i64 (rd l1 x45_3), .func (.func 45) #[] #[]] ?_; (with_reducible refine (api_Use_int.calls k3 _ _ x10_3 (rd l1 x45_3) 0 t1094 false _ ?side1 ?side2 A22.out).mono ?_); (case side1 => repeat (first | exact (Kd.R_reads' HO_10.out).2.2 | (with_reducible refine Kd.C_alloc ?_ _) | (with_reducible refine Kd.C_drewN ?_ _) | (with_reducible refine Kd.C_drew ?_))); (case side2 => exact (Kd.R_reads' HO_10.out).2.1); rintro e w35 ⟨rfl, hb⟩; refine ⟨_, rfl, ?_⟩; replace HO_10 := (by first | exact rB HO_10 hb | exact rD HO_10 hb); replace HB := (by first | exact hbS HB hb | exact hbD HB hb)) | ((with_reducible refine gate_dst (N := 71) rfl ?_); refine Kd.R_lit k50 _ 50 ?hg (N := 71) ?hd (xs := ([(⟨rd l1 x45_3, 1⟩ : S50)] : List (S50))) (inner := [.int .i64 (rd l1 x45_3), .int .i64 1]) (ok := fun _ => True) (okp := fun _ => True) ?hr ?hp (fun _ hk => hk) trivial (Below.refl _ _) (Nat.le_refl _) (by simp) ?_; (case hd => rfl); (case hg => rfl); (case hr => go_simp <;> rfl); (case hp => exact (Reps.c2 (show Kd.M k50 _ _ _ (⟨rd l1 x45_3, 1⟩ : S50) [.int .i64 (rd l1 x45_3), .int .i64 1] from (k50_mkM _ _ _ (⟨rd l1 x45_3, 1⟩ : S50) )) (Reps.none _ _))); intro v1100 w36 ho37 hb hg_ hnew_; clear hg_ hnew_; (first | rw [← Ny1099.out] at ho37 | (simp only [Int.reduceToNat] at ho37; rw [← Ny1099.out] at ho37)); have HO1101 := mk0 (Rl (Rn ho37 (Rq (by (with_reducible repeat apply Kd.R_drewN); exact HO_10.out))) (bZ (by repeat (first | exact HB.out | apply bN | apply b1 | apply bA)))); replace HO_10 := mk0 (Re (by (with_reducible repeat apply Kd.R_drewN); exact HO_10.out) (Rs ho37) hb); replace HB := (by first | exact hbS HB hb | exact hbD HB hb); clear hb ho37; obtain ⟨Ao38, co38, eo38⟩ := Kd.R_slice HO1101.out; subst eo38) | ((with_reducible refine gate_callee (f := 47) rfl ?_); refine goA 72 Try.func47 #[.slice Ao34 x10_3.length co34, .int .i64 t1094, .slice Ao38 y1099.length co38] ?_; (with_reducible refine (api_Use_47.calls (fun k_ => some k_ = (.slice Ao34 x10_3.length co34 : Value).ownBlock) (.slice Ao34 x10_3.length co34) x10_3 t1094 _ _ y1099 t1102 w _ ?side1 ?side2 ?side3 ?side4 A33.out).mono ?_); (case side1 => repeat (first | (with_reducible first | exact HB.out | apply bA | apply bN | apply b1) | exact HB.out)); (case side2 => exact Kd.R_tight rfl HO_10.out); (case side3 => exact Kd.C_kept_own (HO1101.out) (fun k_ hk_ hs_ => (hk_.2) hs_)); (case side4 => exact (Kd.R_reads' HO1101.out).2.1); rintro e w39 ⟨v1103, rfl, ho0, hb, hkp⟩; refine ⟨_, rfl, ?_⟩; have HO1104 := mk0 (Rm (ok' := fun k_ => some k_ ≠ (.slice Ao38 y1099.length co38 : Value).ownBlock) ho0 (fun k_ hk_ => Or.elim hk_ (fun hs_ => fun e_ => (((HO1101.out).1 k_ e_.symm).2) hs_) (fun hn_ => (Kd.fresh' (Rq (by (with_reducible repeat apply Kd.R_drewN); exact HO1101.out)) k_ hn_)))); replace HO1101 := mk0 (Rm (ok' := fun k_ => some k_ ≠ (v1103 : Value).ownBlock) (Kd.R_keptB (HO1101.out) hkp (fun k_ hk_ hs_ => (hk_.2) hs_)) (fun k_ hk_ => fun e_ => Or.elim (ho0.1 k_ e_.symm) (fun hs_ => hk_.2.1 hs_) (fun hn_ => Nat.not_le.2 hk_.2.2 hn_))); replace HB := mk0 (hb); clear HO_10; (try clear hkp)))
             go_roundg k3
             case measure => have := HK1.out; have := HK2.out; have := HK3.out; omega
             case rel => exact ⟨(t1102), (wrap64 (x45_3 + 1)), (by first | rfl | (simp; done) | (simp [*]; done)), H', ⟨by have := HK1.out; have := HK2.out; have := HK3.out; omega⟩, ⟨by (with_reducible repeat apply Kd.R_drewN); exact Rm HO1104.out tv⟩, ⟨by repeat (first | exact HB.out | apply bN | apply b1 | apply bA)⟩⟩
           ·rw [if_neg c21] at H
            exact absurd H (by simp)
          ·rw [if_neg c20] at H
           exact absurd H (by simp)
         ·rw [if_neg c19] at H
          have c19b0 : decide (x45_3 < (l1.length : Int)) = false := decide_eq_false c19
          clear c19
          simp only [Option.some.injEq, Prod.mk.injEq] at H
          obtain ⟨rfl, rfl⟩ := H
          go_wp2
          go_ret2
          exact ⟨_, by first | rfl | (simp [errW_none, errW_some] <;> rfl) | (simp [*, errW_none, errW_some] <;> rfl), by (with_reducible repeat apply Kd.R_drewN); exact HO_10.out, by repeat (first | exact HB.out | apply bN | apply b1 | apply bA)⟩
def examboardlaw37_ExposureCap.T18 : Bool × List (List Nat × List Nat) := (true, [([], []), ([0], [0]), ([1], [1]), ([2], [2]), ([3, 2], [2, 3]), ([2, 4], [2, 4]), ([5, 2], [5]), ([6], [6]), ([6], [6]), ([6], [6]), ([8, 9, 6, 6], [6, 8, 9]), ([7, 10, 10, 6], [6, 7, 10]), ([11, 6], [6, 11]), ([6, 12], [6, 12])])
def examboardlaw37_ExposureCap.B18 : List Nat := [0, 1, 3, 7, 15, 31, 63, 127, 127, 127, 895, 2047, 4095, 8191]
theorem examboardlaw37_ExposureCap.tab18 : rtab .any (opsOf Try.f9 18) = examboardlaw37_ExposureCap.T18 := by kernel_rfl
theorem examboardlaw37_ExposureCap.bits18 : waitsOk examboardlaw37_ExposureCap.T18.2 examboardlaw37_ExposureCap.B18 = true := by kernel_rfl
set_option maxHeartbeats 8000000 in
set_option maxRecDepth 100000 in
theorem examboardlaw37_ExposureCap.calls (k : Nat) (a0_0 : Bool) (A0_1 : Option Addr) (c0_1 : Nat) (l0_1 : List Int) (A0_2 : Option Addr) (c0_2 : Nat) (l0_2 : List Int) (a1 : Int) (A2 : Option Addr) (c2 : Nat) (l2 : List Bool) (r : Bool) (w : World) (hr0_1 : Kd.C (Kd.int .u32) w A0_1 l0_1.length l0_1) (hc0_1 : l0_1.length ≤ c0_1) (hr0_2 : Kd.C (Kd.int .u32) w A0_2 l0_2.length l0_2) (hc0_2 : l0_2.length ≤ c0_2) (hr2 : Kd.C Kd.bool w A2 l2.length l2) (hc2 : l2.length ≤ c2) (h : examboardlaw37_ExposureCap.f k a0_0 l0_1 l0_2 a1 l2 = some r) :
  Calls Try.prog 9 #[.agg #[.bool a0_0, .slice A0_1 l0_1.length c0_1, .slice A0_2 l0_2.length c0_2], .int .i64 a1, .slice A2 l2.length c2] w fun e w' => e = .returned (.bool r) ∧ Below w.heap.size w w' := by
 have hu29 := Try.underlying29
 have HR0_1 := mk0 hr0_1
 have HC0_1 := mk0 hc0_1
 clear hr0_1 hc0_1
 have HR0_2 := mk0 hr0_2
 have HC0_2 := mk0 hc0_2
 clear hr0_2 hc0_2
 have HR2 := mk0 hr2
 have HC2 := mk0 hc2
 clear hr2 hc2
 have HB := mk0 (Below.refl w.heap.size w)
 have H : ((examboardlaw37_large.f a0_0 l0_1 l0_2).bind fun t1106 => (if t1106 = true then (examboardlaw37_ExposureCap.j0 k a1 l2 true a0_0 l0_1 l0_2) else ((ratio_Sign.f k a0_0 l0_1 l0_2).bind fun t1107 => (if t1107 < 0 then (examboardlaw37_ExposureCap.j0 k a1 l2 true a0_0 l0_1 l0_2) else (if a1 < 0 then (examboardlaw37_ExposureCap.j0 k a1 l2 true a0_0 l0_1 l0_2) else (if a1 > 1000 then (examboardlaw37_ExposureCap.j0 k a1 l2 true a0_0 l0_1 l0_2) else (examboardlaw37_ExposureCap.j0 k a1 l2 (decide ((l2.length : Int) > 100)) a0_0 l0_1 l0_2))))))) = some r := h
 clear h
 have HC4 := mk0 H
 clear H
 go_enter Try.func9, Try.ntmps9
 go_upto_region 1 with (first | ((with_reducible refine gate_dst (N := 3) rfl ?_); (try (refine gate_guard (by rfl) ?_; dsimp only)); refine box_event rfl (N := 3) rfl (cs := #[.bool a0_0, .slice A0_1 l0_1.length c0_1, .slice A0_2 l0_2.length c0_2]) (t := 29) (by go_simp <;> rfl) ?_; intro gb1105 hg w5 hbox hb; have BK1105 := mk0 (hbox); have GE1105 := geB hg HB; replace HB := hbS HB hb; clear hb hbox hg))
 (try simp only [Act.put, sA, sZ, sS])
 go_cut [37] (fun v37 wc => ∃ (kq : Nat) (x37_3 : Bool), v37 = .bool x37_3 ∧ Aside0 (examboardlaw37_ExposureCap.j0 kq a1 l2 x37_3 a0_0 l0_1 l0_2 = some r) ∧ Aside0 (kq ≤ k) ∧ Aside0 (wc.heap[gb1105]? = some (.cells #[.bool a0_0, (.slice A0_1 l0_1.length c0_1), (.slice A0_2 l0_2.length c0_2)] 29 (0, 0))) ∧ Aside0 (Below w.heap.size w wc))
 case first =>
  have H := HC4.out
  clear HC4
  obtain ⟨t1106, A6, H⟩ := bindA H
  by_cases c7 : t1106 = true
  ·subst c7
   have H1 : (examboardlaw37_ExposureCap.j0 k a1 l2 true a0_0 l0_1 l0_2) = some r := by rw [if_pos rfl] at H; exact H
   clear H
   have H := H1
   clear H1
   have H' := mk0 H
   clear H
   obtain ⟨hcz8_0, hcz8_1, hcz8_2, hfz8_0, hfz8_1, hfz8_2⟩ := cz3 BK1105
   go_wp2_with (first | ((with_reducible refine gate_callee (f := 10) rfl ?_); refine goA 19 Try.func10 #[.agg #[.bool a0_0, .slice A0_1 l0_1.length c0_1, .slice A0_2 l0_2.length c0_2]] ?_; (with_reducible refine (examboardlaw37_large.calls a0_0 _ _ l0_1 _ _ l0_2 true _ (by exact Cb HR0_1.out HB.out) HC0_1.out (by exact Cb HR0_2.out HB.out) HC0_2.out A6.out).mono ?_); rintro e w9 ⟨rfl, hb⟩; refine ⟨_, rfl, ?_⟩; replace BK1105 := bkB BK1105 hb; replace HB := hbS HB hb))
   go_meet
   case rel => exact ⟨_, (true), (by first | rfl | (simp; done) | (simp [*]; done)), H', ⟨by first | omega | exact Nat.le_refl _⟩, ⟨BK1105.out⟩, ⟨by repeat (first | exact HB.out | apply bN | apply b1 | apply bA | refine bS ?_ GE1105.out)⟩⟩
  ·replace c7 := Bool.eq_false_iff.mpr c7
   subst c7
   have H1 : ((ratio_Sign.f k a0_0 l0_1 l0_2).bind fun t1107 => (if t1107 < 0 then (examboardlaw37_ExposureCap.j0 k a1 l2 true a0_0 l0_1 l0_2) else (if a1 < 0 then (examboardlaw37_ExposureCap.j0 k a1 l2 true a0_0 l0_1 l0_2) else (if a1 > 1000 then (examboardlaw37_ExposureCap.j0 k a1 l2 true a0_0 l0_1 l0_2) else (examboardlaw37_ExposureCap.j0 k a1 l2 (decide ((l2.length : Int) > 100)) a0_0 l0_1 l0_2))))) = some r := by rw [if_neg (show ¬ (false = true) by decide)] at H; exact H
   clear H
   have H := H1
   clear H1
   obtain ⟨t1107, A10, H⟩ := bindA H
   by_cases c11 : t1107 < 0
   ·rw [if_pos c11] at H
    have c11b0 : decide (t1107 < 0) = true := decide_eq_true c11
    clear c11
    (first | rw [c11b0] | (simp only [i64_w, i32_w]; rw [c11b0]) | skip)
    have H' := mk0 H
    clear H
    obtain ⟨hcz12_0, hcz12_1, hcz12_2, hfz12_0, hfz12_1, hfz12_2⟩ := cz3 BK1105
    go_wp2_with (first | ((with_reducible refine gate_callee (f := 10) rfl ?_); refine goA 19 Try.func10 #[.agg #[.bool a0_0, .slice A0_1 l0_1.length c0_1, .slice A0_2 l0_2.length c0_2]] ?_; (with_reducible refine (examboardlaw37_large.calls a0_0 _ _ l0_1 _ _ l0_2 false _ (by exact Cb HR0_1.out HB.out) HC0_1.out (by exact Cb HR0_2.out HB.out) HC0_2.out A6.out).mono ?_); rintro e w13 ⟨rfl, hb⟩; refine ⟨_, rfl, ?_⟩; replace BK1105 := bkB BK1105 hb; replace HB := hbS HB hb; obtain ⟨hcz14_0, hcz14_1, hcz14_2, hfz14_0, hfz14_1, hfz14_2⟩ := cz3 BK1105) | (go_at_call 15; (with_reducible refine (ratio_Sign.calls k a0_0 _ _ l0_1 _ _ l0_2 t1107 _ (by exact Cb HR0_1.out HB.out) HC0_1.out (by exact Cb HR0_2.out HB.out) HC0_2.out A10.out).mono ?_); rintro e w15 ⟨rfl, hb⟩; replace BK1105 := bkB BK1105 hb; replace HB := hbS HB hb))
    go_meet
    case rel => exact ⟨_, (true), (by first | rfl | (simp; done) | (simp [*]; done)), H', ⟨by first | omega | exact Nat.le_refl _⟩, ⟨BK1105.out⟩, ⟨by repeat (first | exact HB.out | apply bN | apply b1 | apply bA | refine bS ?_ GE1105.out)⟩⟩
   ·rw [if_neg c11] at H
    have c11b0 : decide (t1107 < 0) = false := decide_eq_false c11
    clear c11
    (first | rw [c11b0] | (simp only [i64_w, i32_w]; rw [c11b0]) | skip)
    by_cases c16 : a1 < 0
    ·rw [if_pos c16] at H
     have c16b0 : decide (a1 < 0) = true := decide_eq_true c16
     clear c16
     have H' := mk0 H
     clear H
     obtain ⟨hcz17_0, hcz17_1, hcz17_2, hfz17_0, hfz17_1, hfz17_2⟩ := cz3 BK1105
     go_wp2_with (first | ((with_reducible refine gate_callee (f := 10) rfl ?_); refine goA 19 Try.func10 #[.agg #[.bool a0_0, .slice A0_1 l0_1.length c0_1, .slice A0_2 l0_2.length c0_2]] ?_; (with_reducible refine (examboardlaw37_large.calls a0_0 _ _ l0_1 _ _ l0_2 false _ (by exact Cb HR0_1.out HB.out) HC0_1.out (by exact Cb HR0_2.out HB.out) HC0_2.out A6.out).mono ?_); rintro e w18 ⟨rfl, hb⟩; refine ⟨_, rfl, ?_⟩; replace BK1105 := bkB BK1105 hb; replace HB := hbS HB hb; obtain ⟨hcz19_0, hcz19_1, hcz19_2, hfz19_0, hfz19_1, hfz19_2⟩ := cz3 BK1105) | (go_at_call 15; (with_reducible refine (ratio_Sign.calls k a0_0 _ _ l0_1 _ _ l0_2 t1107 _ (by exact Cb HR0_1.out HB.out) HC0_1.out (by exact Cb HR0_2.out HB.out) HC0_2.out A10.out).mono ?_); rintro e w20 ⟨rfl, hb⟩; replace BK1105 := bkB BK1105 hb; replace HB := hbS HB hb))
     go_meet
     case rel => exact ⟨_, (true), (by first | rfl | (simp; done) | (simp [*]; done)), H', ⟨by first | omega | exact Nat.le_refl _⟩, ⟨BK1105.out⟩, ⟨by repeat (first | exact HB.out | apply bN | apply b1 | apply bA | refine bS ?_ GE1105.out)⟩⟩
    ·rw [if_neg c16] at H
     have c16b0 : decide (a1 < 0) = false := decide_eq_false c16
     clear c16
     by_cases c21 : a1 > 1000
     ·rw [if_pos c21] at H
      have c21b0 : decide (1000 < a1) = true := decide_eq_true c21
      clear c21
      have H' := mk0 H
      clear H
      obtain ⟨hcz22_0, hcz22_1, hcz22_2, hfz22_0, hfz22_1, hfz22_2⟩ := cz3 BK1105
      go_wp2_with (first | ((with_reducible refine gate_callee (f := 10) rfl ?_); refine goA 19 Try.func10 #[.agg #[.bool a0_0, .slice A0_1 l0_1.length c0_1, .slice A0_2 l0_2.length c0_2]] ?_; (with_reducible refine (examboardlaw37_large.calls a0_0 _ _ l0_1 _ _ l0_2 false _ (by exact Cb HR0_1.out HB.out) HC0_1.out (by exact Cb HR0_2.out HB.out) HC0_2.out A6.out).mono ?_); rintro e w23 ⟨rfl, hb⟩; refine ⟨_, rfl, ?_⟩; replace BK1105 := bkB BK1105 hb; replace HB := hbS HB hb; obtain ⟨hcz24_0, hcz24_1, hcz24_2, hfz24_0, hfz24_1, hfz24_2⟩ := cz3 BK1105) | (go_at_call 15; (with_reducible refine (ratio_Sign.calls k a0_0 _ _ l0_1 _ _ l0_2 t1107 _ (by exact Cb HR0_1.out HB.out) HC0_1.out (by exact Cb HR0_2.out HB.out) HC0_2.out A10.out).mono ?_); rintro e w25 ⟨rfl, hb⟩; replace BK1105 := bkB BK1105 hb; replace HB := hbS HB hb))
      go_meet
      case rel => exact ⟨_, (true), (by first | rfl | (simp; done) | (simp [*]; done)), H', ⟨by first | omega | exact Nat.le_refl _⟩, ⟨BK1105.out⟩, ⟨by repeat (first | exact HB.out | apply bN | apply b1 | apply bA | refine bS ?_ GE1105.out)⟩⟩
     ·rw [if_neg c21] at H
      have c21b0 : decide (1000 < a1) = false := decide_eq_false c21
      clear c21
      have H' := mk0 H
      clear H
      obtain ⟨hcz26_0, hcz26_1, hcz26_2, hfz26_0, hfz26_1, hfz26_2⟩ := cz3 BK1105
      go_wp2_with (first | ((with_reducible refine gate_callee (f := 10) rfl ?_); refine goA 19 Try.func10 #[.agg #[.bool a0_0, .slice A0_1 l0_1.length c0_1, .slice A0_2 l0_2.length c0_2]] ?_; (with_reducible refine (examboardlaw37_large.calls a0_0 _ _ l0_1 _ _ l0_2 false _ (by exact Cb HR0_1.out HB.out) HC0_1.out (by exact Cb HR0_2.out HB.out) HC0_2.out A6.out).mono ?_); rintro e w27 ⟨rfl, hb⟩; refine ⟨_, rfl, ?_⟩; replace BK1105 := bkB BK1105 hb; replace HB := hbS HB hb; obtain ⟨hcz28_0, hcz28_1, hcz28_2, hfz28_0, hfz28_1, hfz28_2⟩ := cz3 BK1105) | (go_at_call 15; (with_reducible refine (ratio_Sign.calls k a0_0 _ _ l0_1 _ _ l0_2 t1107 _ (by exact Cb HR0_1.out HB.out) HC0_1.out (by exact Cb HR0_2.out HB.out) HC0_2.out A10.out).mono ?_); rintro e w29 ⟨rfl, hb⟩; replace BK1105 := bkB BK1105 hb; replace HB := hbS HB hb))
      go_meet
      case rel => exact ⟨_, (decide ((l2.length : Int) > 100)), (by first | rfl | (simp; done) | (simp [*]; done)), H', ⟨by first | omega | exact Nat.le_refl _⟩, ⟨BK1105.out⟩, ⟨by repeat (first | exact HB.out | apply bN | apply b1 | apply bA | refine bS ?_ GE1105.out)⟩⟩
 case rest =>
  clear HC4
  try clear c1
  try clear c2
  try clear p2
  try clear c7
  try clear c9
  try clear c10
  try clear c11
  try clear c11b0
  try clear c16
  try clear c16b0
  try clear c21
  try clear c21b0
  try clear hcz12_0
  try clear hcz12_1
  try clear hcz12_2
  try clear hcz14_0
  try clear hcz14_1
  try clear hcz14_2
  try clear hcz17_0
  try clear hcz17_1
  try clear hcz17_2
  try clear hcz19_0
  try clear hcz19_1
  try clear hcz19_2
  try clear hcz22_0
  try clear hcz22_1
  try clear hcz22_2
  try clear hcz24_0
  try clear hcz24_1
  try clear hcz24_2
  try clear hcz26_0
  try clear hcz26_1
  try clear hcz26_2
  try clear hcz28_0
  try clear hcz28_1
  try clear hcz28_2
  try clear hcz8_0
  try clear hcz8_1
  try clear hcz8_2
  try clear hfz12_0
  try clear hfz12_1
  try clear hfz12_2
  try clear hfz14_0
  try clear hfz14_1
  try clear hfz14_2
  try clear hfz17_0
  try clear hfz17_1
  try clear hfz17_2
  try clear hfz19_0
  try clear hfz19_1
  try clear hfz19_2
  try clear hfz22_0
  try clear hfz22_1
  try clear hfz22_2
  try clear hfz24_0
  try clear hfz24_1
  try clear hfz24_2
  try clear hfz26_0
  try clear hfz26_1
  try clear hfz26_2
  try clear hfz28_0
  try clear hfz28_1
  try clear hfz28_2
  try clear hfz8_0
  try clear hfz8_1
  try clear hfz8_2
  obtain ⟨kq, x37_3, rfl, HA, HJ3, BK1105, HB⟩ := hcut
  cases kq with
  | zero => exact absurd HA.out (by simp [examboardlaw37_ExposureCap.j0])
  | succ kj3 =>
   have H := HA.out
   clear HA
   simp only [examboardlaw37_ExposureCap.j0] at H
   by_cases c30 : x37_3 = true
   ·subst c30
    have H1 : (some true) = some r := by rw [if_pos rfl] at H; exact H
    clear H
    have H := H1
    clear H1
    obtain rfl := Option.some.inj H
    go_wp2
    go_ret
    exact ⟨by first | rfl | (simp [errW_none, errW_some] <;> rfl) | (simp [*, errW_none, errW_some] <;> rfl), by repeat (first | exact HB.out | apply bN | apply b1 | apply bA | refine bS ?_ GE1105.out)⟩
   ·replace c30 := Bool.eq_false_iff.mpr c30
    subst c30
    have H1 : ((ratio_Of.f kj3 1 1).bind fun bt1108 => ((exposure_Eligible.f kj3 0 0 bt1108.1 bt1108.2.1 bt1108.2.2.1 0).bind fun t1117 => (if t1117 = true then (examboardlaw37_ExposureCap.l0 kj3 a1 l2 ([] : List (S50)) 0 a0_0 l0_1 l0_2) else (some false)))) = some r := by rw [if_neg (show ¬ (false = true) by decide)] at H; exact H
    clear H
    have H := H1
    clear H1
    obtain ⟨⟨t1108, t1109, t1112, t1115⟩, A31, H⟩ := bindA H
    obtain ⟨t1117, A32, H⟩ := bindA H
    by_cases c33 : t1117 = true
    ·subst c33
     have H1 : (examboardlaw37_ExposureCap.l0 kj3 a1 l2 ([] : List (S50)) 0 a0_0 l0_1 l0_2) = some r := by rw [if_pos rfl] at H; exact H
     clear H
     have H := H1
     clear H1
     have H' := mk0 H
     clear H
     go_wp2_with (first | ((with_reducible refine gate_callee (f := 16) rfl ?_); refine goA 39 Try.func16 #[.int .i64 1, .int .i64 1] ?_; (with_reducible refine (ratio_Of.calls kj3 1 1 t1108 t1109 t1112 t1115 _ A31.out).mono ?_); rintro e w34 ⟨v1110, v1113, rfl, ho0, ho1, hb⟩; refine ⟨_, rfl, ?_⟩; have HO1111 := mk0 (Rl (Rm (ok' := fun k_ => True) ho0 tv) (bZ HB.out)); have HO1114 := mk0 (Vl (Vm (ok' := fun k_ => some k_ ≠ (v1110 : Value).ownBlock ∧ k_ ≠ gb1105) ho1 (fun k_ hk_ => ⟨hk_.2, (Kd.freshB BK1105.out k_ hk_.1)⟩)) (bZ HB.out)); replace BK1105 := bkB BK1105 hb; replace HB := hbS HB hb) | ((with_reducible refine gate_dst (N := 7) rfl ?_); (try (refine gate_guard (by rfl) ?_; dsimp only)); refine box_event rfl (N := 7) rfl (cs := #[.bool false, .slice none 0 0, .slice none 0 0]) (t := 29) (by go_simp <;> rfl) ?_; intro gb1116 hg w35 hbox hb; replace HO1111 := rB HO1111 hb; replace HO1114 := vB HO1114 hg hb; have BK1116 := mk0 (hbox); have GE1116 := geB hg HB; replace HB := hbS HB hb; have NB1105_1116 := nbA hg BK1105; have NB1116_1105 := nbB hg BK1105; replace BK1105 := bkB BK1105 hb; clear hb hbox hg; have hnb36 := NB1116_1105.out; have hnc36 := NB1105_1116.out; obtain ⟨hcz37_0, hcz37_1, hcz37_2, hfz37_0, hfz37_1, hfz37_2⟩ := cz3 BK1116; obtain ⟨Ao38, co38, eo38⟩ := Kd.R_slice HO1111.out; subst eo38; obtain ⟨Ao39, co39, eo39⟩ := Kd.V_slice HO1114.out; subst eo39) | ((with_reducible refine gate_callee (f := 13) rfl ?_); refine goA 43 Try.func13 #[.int .i64 0, .int .i64 0, .agg #[.bool t1108, .slice Ao38 t1109.length co38, .slice Ao39 t1112.length co39], .int .i64 0] ?_; (with_reducible refine (exposure_Eligible.calls kj3 0 0 t1108 _ _ t1109 _ _ t1112 0 true _ (by refine (Kd.R_reads' (e := 87) (base := w.heap.size) (ok := fun k_ => True) (n := t1109.length) (c := co38) ?_).2.2; exact ((Rm (Rf (p := ⟨gb1116, 2, none⟩) (Rf (p := ⟨gb1116, 1, none⟩) (Rf (p := ⟨gb1116, 0, none⟩) (Rt HO1111.out BK1116.out (by decide)) (fun _ hk => hk.2) (.bool t1108)) (fun _ hk => hk.2) (.slice Ao38 t1109.length co38)) (fun _ hk => hk.2) (.slice Ao39 t1112.length co39)) (fun _ h_ => h_.1)))) (by exact (Kd.R_reads' HO1111.out).2.1) (by refine (Kd.V_reads' (e := 87) (base := w.heap.size) (ok := fun k_ => ((some k_ ≠ (.slice Ao38 t1109.length co38 : Value).ownBlock ∧ k_ ≠ gb1105) ∧ k_ ≠ gb1116)) (n := t1112.length) (c := co39) ?_).2.2; exact ((Vm (Vf (p := ⟨gb1116, 2, none⟩) (Vf (p := ⟨gb1116, 1, none⟩) (Vf (p := ⟨gb1116, 0, none⟩) (Vm HO1114.out (fun k_ hk => (⟨hk, hk.2⟩ : _ ∧ k_ ≠ gb1116))) (fun _ hk => hk.2) (.bool t1108)) (fun _ hk => hk.2) (.slice Ao38 t1109.length co38)) (fun _ hk => hk.2) (.slice Ao39 t1112.length co39)) (fun _ h_ => h_.1)))) (by exact (Kd.V_reads' HO1114.out).2.1) A32.out).mono ?_); rintro e w40 ⟨rfl, hb⟩; refine ⟨_, rfl, ?_⟩; replace HO1111 := mk0 (Rb ((Rm (Rf (p := ⟨gb1116, 2, none⟩) (Rf (p := ⟨gb1116, 1, none⟩) (Rf (p := ⟨gb1116, 0, none⟩) (Rt HO1111.out BK1116.out (by decide)) (fun _ hk => hk.2) (.bool t1108)) (fun _ hk => hk.2) (.slice Ao38 t1109.length co38)) (fun _ hk => hk.2) (.slice Ao39 t1112.length co39)) (fun _ h_ => h_.1))) hb); replace HO1114 := mk0 (Kd.V_below ((Vm (Vf (p := ⟨gb1116, 2, none⟩) (Vf (p := ⟨gb1116, 1, none⟩) (Vf (p := ⟨gb1116, 0, none⟩) (Vm HO1114.out (fun k_ hk => (⟨hk, hk.2⟩ : _ ∧ k_ ≠ gb1116))) (fun _ hk => hk.2) (.bool t1108)) (fun _ hk => hk.2) (.slice Ao38 t1109.length co38)) (fun _ hk => hk.2) (.slice Ao39 t1112.length co39)) (fun _ h_ => h_.1))) hb); replace BK1105 := mk0 (blk_below (g := gb1105) (o := .cells #[.bool a0_0, .slice A0_1 l0_1.length c0_1, .slice A0_2 l0_2.length c0_2] 29 (0, 0)) (by refine blk_far ?_ NB1105_1116.out _; refine blk_far ?_ NB1105_1116.out _; refine blk_far ?_ NB1105_1116.out _; exact BK1105.out) hb); replace BK1116 := mk0 (blk_below (g := gb1116) (o := .cells #[.bool t1108, .slice Ao38 t1109.length co38, .slice Ao39 t1112.length co39] 29 (0, 0)) (by refine blk_put (cs := #[.bool t1108, .slice Ao38 t1109.length co38, .slice none 0 0]) ?_ 2 _ rfl; refine blk_put (cs := #[.bool t1108, .slice none 0 0, .slice none 0 0]) ?_ 1 _ rfl; refine blk_put (cs := #[.bool false, .slice none 0 0, .slice none 0 0]) ?_ 0 _ rfl; exact BK1116.out) hb); replace HB := mk0 (below_step (by repeat (first | exact HB.out | refine bS ?_ GE1116.out)) hb)))
     go_loopg [9, 10] kj3 (fun kq v9 v10 w' => ∃ (x9_2 : List (S50)) (x10_2 : Int), v10 = .int .i64 x10_2 ∧ Aside0 (examboardlaw37_ExposureCap.l0 kq a1 l2 x9_2 x10_2 a0_0 l0_1 l0_2 = some r) ∧ Aside0 (kq ≤ kj3) ∧ Aside0 (Kd.R k50 50 w' w.heap.size (fun _ => True) v9 x9_2) ∧ Aside0 (Kd.R (Kd.int .u32) 87 w' w.heap.size (fun _ => True) (.slice Ao38 t1109.length co38) t1109) ∧ Aside0 (Kd.V (Kd.int .u32) 87 w' w.heap.size (fun k_ => some k_ ≠ (v9 : Value).ownBlock ∧ some k_ ≠ ((.slice Ao38 t1109.length co38) : Value).ownBlock ∧ k_ ≠ gb1105 ∧ k_ ≠ gb1116) (.slice Ao39 t1112.length co39) t1112) ∧ Aside0 (w'.heap[gb1105]? = some (.cells #[.bool a0_0, (.slice A0_1 l0_1.length c0_1), (.slice A0_2 l0_2.length c0_2)] 29 (0, 0))) ∧ Aside0 (w'.heap[gb1116]? = some (.cells #[.bool t1108, (.slice Ao38 t1109.length co38), (.slice Ao39 t1112.length co39)] 29 (0, 0))) ∧ Aside0 (Below w.heap.size w w'))
     case atStart => exact ⟨(([] : List (S50))), (0), (by first | rfl | (simp; done) | (simp [*]; done)), H', ⟨Nat.le_refl _⟩, ⟨by first | exact Kd.R_nil _ _ _ _ _ | exact Kd.N_nil _ _ _ _ _ | exact Kd.V_nil _ _ _ _ _ | exact Kd.Q_nil _ _ _ _ _ | exact Kd.S_nil _ _ _ _ _⟩, ⟨HO1111.out⟩, ⟨Vm HO1114.out (fun _ hk => ⟨(by simp [Value.ownBlock]), ⟨hk.1.1, ⟨hk.1.2, hk.2⟩⟩⟩)⟩, ⟨BK1105.out⟩, ⟨BK1116.out⟩, ⟨by repeat (first | exact HB.out | apply bN | apply b1 | apply bA | refine bS ?_ GE1105.out | refine bS ?_ GE1116.out)⟩⟩
     case round =>
      clear H'
      try clear c1
      try clear c2
      try clear p2
      try clear c3
      try clear c7
      try clear c9
      try clear c10
      try clear c11
      try clear c11b0
      try clear c13
      try clear c16
      try clear c16b0
      try clear c21
      try clear c21b0
      try clear c30
      try clear c33
      try clear c36
      try clear hcz12_0
      try clear hcz12_1
      try clear hcz12_2
      try clear hcz14_0
      try clear hcz14_1
      try clear hcz14_2
      try clear hcz17_0
      try clear hcz17_1
      try clear hcz17_2
      try clear hcz19_0
      try clear hcz19_1
      try clear hcz19_2
      try clear hcz22_0
      try clear hcz22_1
      try clear hcz22_2
      try clear hcz24_0
      try clear hcz24_1
      try clear hcz24_2
      try clear hcz26_0
      try clear hcz26_1
      try clear hcz26_2
      try clear hcz28_0
      try clear hcz28_1
      try clear hcz28_2
      try clear hcz37_0
      try clear hcz37_1
      try clear hcz37_2
      try clear hcz8_0
      try clear hcz8_1
      try clear hcz8_2
      try clear hfz12_0
      try clear hfz12_1
      try clear hfz12_2
      try clear hfz14_0
      try clear hfz14_1
      try clear hfz14_2
      try clear hfz17_0
      try clear hfz17_1
      try clear hfz17_2
      try clear hfz19_0
      try clear hfz19_1
      try clear hfz19_2
      try clear hfz22_0
      try clear hfz22_1
      try clear hfz22_2
      try clear hfz24_0
      try clear hfz24_1
      try clear hfz24_2
      try clear hfz26_0
      try clear hfz26_1
      try clear hfz26_2
      try clear hfz28_0
      try clear hfz28_1
      try clear hfz28_2
      try clear hfz37_0
      try clear hfz37_1
      try clear hfz37_2
      try clear hfz8_0
      try clear hfz8_1
      try clear hfz8_2
      try clear p2
      obtain ⟨x9_2, x10_2, rfl, HA, HK2, HO_9, HO_1117001, HO_1117002, BK1105, BK1116, HB⟩ := hrel
      cases gk with
      | zero => exact absurd HA.out (by simp [examboardlaw37_ExposureCap.l0])
      | succ k2 =>
       have H := HA.out
       clear HA
       simp only [examboardlaw37_ExposureCap.l0] at H
       by_cases c41 : x10_2 < (l2.length : Int)
       ·rw [if_pos c41] at H
        have c41b0 : decide (x10_2 < (l2.length : Int)) = true := decide_eq_true c41
        clear c41
        obtain ⟨t1118, A42, H⟩ := bindA H
        have HC43 := mk0 H
        clear H
        obtain ⟨Ao44, co44, eo44⟩ := Kd.R_slice HO_9.out
        subst eo44
        go_upto_region 11 with (first | ((with_reducible refine gate_callee (f := 17) rfl ?_); refine goA 52 Try.func17 #[.slice Ao44 x9_2.length co44, .int .i64 7] ?_; (with_reducible refine (exposure_Count.calls k2 _ _ x9_2 7 t1118 _ (by exact (Kd.R_reads' HO_9.out).2.2) (by exact (Kd.R_reads' HO_9.out).2.1) A42.out).mono ?_); rintro e w45 ⟨rfl, hb⟩; refine ⟨_, rfl, ?_⟩; replace HO_9 := rB HO_9 hb; replace HO_1117001 := rB HO_1117001 hb; replace HO_1117002 := mk0 (Kd.V_below HO_1117002.out hb); replace BK1105 := bkB BK1105 hb; replace BK1116 := bkB BK1116 hb; replace HB := hbS HB hb))
        (try simp only [Act.put, sA, sZ, sS])
        go_cut [63] (fun v63 wc => ∃ (kq : Nat) (x63_42 : Bool), v63 = .bool x63_42 ∧ Aside0 (examboardlaw37_ExposureCap.j2 kq a1 l2 x9_2 x10_2 t1118 x63_42 a0_0 l0_1 l0_2 = some r) ∧ Aside0 (kq ≤ k2) ∧ Aside0 (Kd.R k50 50 wc w.heap.size (fun _ => True) (.slice Ao44 x9_2.length co44) x9_2) ∧ Aside0 (Kd.R (Kd.int .u32) 87 wc w.heap.size (fun _ => True) (.slice Ao38 t1109.length co38) t1109) ∧ Aside0 (Kd.V (Kd.int .u32) 87 wc w.heap.size (fun k_ => some k_ ≠ ((.slice Ao44 x9_2.length co44) : Value).ownBlock ∧ some k_ ≠ ((.slice Ao38 t1109.length co38) : Value).ownBlock ∧ k_ ≠ gb1105 ∧ k_ ≠ gb1116) (.slice Ao39 t1112.length co39) t1112) ∧ Aside0 (wc.heap[gb1105]? = some (.cells #[.bool a0_0, (.slice A0_1 l0_1.length c0_1), (.slice A0_2 l0_2.length c0_2)] 29 (0, 0))) ∧ Aside0 (wc.heap[gb1116]? = some (.cells #[.bool t1108, (.slice Ao38 t1109.length co38), (.slice Ao39 t1112.length co39)] 29 (0, 0))) ∧ Aside0 (Below w.heap.size w wc))
        case first =>
         have H := HC43.out
         clear HC43
         by_cases c46 : 0 ≤ x10_2
         ·rw [if_pos c46] at H
          have c46b0 : decide (0 ≤ x10_2) = true := decide_eq_true c46
          clear c46
          (first | rw [c46b0] | (simp only [i64_w, i32_w]; rw [c46b0]) | skip)
          obtain ⟨bq47, hbq47⟩ : ∃ b_ : Bool, b_ = (rdOf false l2 x10_2) := ⟨_, rfl⟩
          replace H : (if bq47 = true then ((exposure_Eligible.f k2 t1118 x10_2 a0_0 l0_1 l0_2 a1).bind fun t1120 => (examboardlaw37_ExposureCap.j2 k2 a1 l2 x9_2 x10_2 t1118 t1120 a0_0 l0_1 l0_2)) else (examboardlaw37_ExposureCap.j2 k2 a1 l2 x9_2 x10_2 t1118 false a0_0 l0_1 l0_2)) = some r := by rw [← hbq47] at H; exact H
          have Nbq47 := mk0 hbq47
          clear hbq47
          by_cases c48 : bq47 = true
          ·subst c48
           have H1 : ((exposure_Eligible.f k2 t1118 x10_2 a0_0 l0_1 l0_2 a1).bind fun t1120 => (examboardlaw37_ExposureCap.j2 k2 a1 l2 x9_2 x10_2 t1118 t1120 a0_0 l0_1 l0_2)) = some r := by rw [if_pos rfl] at H; exact H
           clear H
           have H := H1
           clear H1
           obtain ⟨t1120, A49, H⟩ := bindA H
           have H' := mk0 H
           clear H
           have p1119 : 0 ≤ (x10_2 : Int) := of_decide_eq_true (by assumption)
           have q1119 : x10_2 < (l2.length : Int) := of_decide_eq_true (by assumption)
           obtain ⟨ad1119, e1119, hx1119_0⟩ := Kd.at_bool HR2.out x10_2 p1119 q1119
           (try rw [← Nbq47.out] at hx1119_0)
           cases e1119
           replace hx1119_0 := (HB.out.cell (World.block_lt_of_cell? w _ hx1119_0)).trans hx1119_0
           replace p1119 := eq_true p1119
           replace q1119 := eq_true q1119
           have hnb50 := NB1105_1116.out
           have hnc50 := NB1116_1105.out
           obtain ⟨hcz51_0, hcz51_1, hcz51_2, hfz51_0, hfz51_1, hfz51_2⟩ := cz3 BK1105
           go_wp2_with (first | (go_at_call 13; (with_reducible refine (exposure_Eligible.calls k2 t1118 x10_2 a0_0 _ _ l0_1 _ _ l0_2 a1 t1120 _ (by exact Cb HR0_1.out HB.out) HC0_1.out (by exact Cb HR0_2.out HB.out) HC0_2.out A49.out).mono ?_); rintro e w52 ⟨rfl, hb⟩; replace HO_9 := rB HO_9 hb; replace HO_1117001 := rB HO_1117001 hb; replace HO_1117002 := mk0 (Kd.V_below HO_1117002.out hb); replace BK1105 := bkB BK1105 hb; replace BK1116 := bkB BK1116 hb; replace HB := mk0 (below_step (by repeat (first | exact HB.out | apply bN | apply b1 | apply bA | refine bS ?_ GE1105.out | refine bS ?_ GE1116.out)) hb)))
           go_meet
           case rel => exact ⟨_, (t1120), (by first | rfl | (simp; done) | (simp [*]; done)), H', ⟨by have := HJ3.out; have := HK2.out; first | omega | exact Nat.le_refl _⟩, ⟨HO_9.out⟩, ⟨HO_1117001.out⟩, ⟨HO_1117002.out⟩, ⟨BK1105.out⟩, ⟨BK1116.out⟩, ⟨by repeat (first | exact HB.out | apply bN | apply b1 | apply bA | refine bS ?_ GE1105.out | refine bS ?_ GE1116.out)⟩⟩
          ·replace c48 := Bool.eq_false_iff.mpr c48
           subst c48
           have H1 : (examboardlaw37_ExposureCap.j2 k2 a1 l2 x9_2 x10_2 t1118 false a0_0 l0_1 l0_2) = some r := by rw [if_neg (show ¬ (false = true) by decide)] at H; exact H
           clear H
           have H := H1
           clear H1
           have H' := mk0 H
           clear H
           have p1119 : 0 ≤ (x10_2 : Int) := of_decide_eq_true (by assumption)
           have q1119 : x10_2 < (l2.length : Int) := of_decide_eq_true (by assumption)
           obtain ⟨ad1119, e1119, hx1119_0⟩ := Kd.at_bool HR2.out x10_2 p1119 q1119
           (try rw [← Nbq47.out] at hx1119_0)
           cases e1119
           replace hx1119_0 := (HB.out.cell (World.block_lt_of_cell? w _ hx1119_0)).trans hx1119_0
           replace p1119 := eq_true p1119
           replace q1119 := eq_true q1119
           go_wp2
           go_meet
           case rel => exact ⟨_, (false), (by first | rfl | (simp; done) | (simp [*]; done)), H', ⟨by have := HJ3.out; have := HK2.out; first | omega | exact Nat.le_refl _⟩, ⟨HO_9.out⟩, ⟨HO_1117001.out⟩, ⟨HO_1117002.out⟩, ⟨BK1105.out⟩, ⟨BK1116.out⟩, ⟨by repeat (first | exact HB.out | apply bN | apply b1 | apply bA | refine bS ?_ GE1105.out | refine bS ?_ GE1116.out)⟩⟩
         ·rw [if_neg c46] at H
          exact absurd H (by simp)
        case rest =>
         clear HC43
         try clear c1
         try clear p1
         try clear q1
         try clear hx1
         try clear c2
         try clear p2
         try clear c3
         try clear c4
         try clear q4
         try clear c5
         try clear c7
         try clear c9
         try clear c10
         try clear c11
         try clear c11b0
         try clear p11
         try clear q11
         try clear hx11
         try clear c13
         try clear c16
         try clear c16b0
         try clear c17
         try clear c21
         try clear c21b0
         try clear c30
         try clear c33
         try clear c36
         try clear c41
         try clear c41b0
         try clear c46
         try clear c46b0
         try clear q47
         try clear c48
         try clear c50
         try clear hcz12_0
         try clear hcz12_1
         try clear hcz12_2
         try clear hcz14_0
         try clear hcz14_1
         try clear hcz14_2
         try clear hcz17_0
         try clear hcz17_1
         try clear hcz17_2
         try clear hcz19_0
         try clear hcz19_1
         try clear hcz19_2
         try clear hcz22_0
         try clear hcz22_1
         try clear hcz22_2
         try clear hcz24_0
         try clear hcz24_1
         try clear hcz24_2
         try clear hcz26_0
         try clear hcz26_1
         try clear hcz26_2
         try clear hcz28_0
         try clear hcz28_1
         try clear hcz28_2
         try clear hcz37_0
         try clear hcz37_1
         try clear hcz37_2
         try clear hcz51_0
         try clear hcz51_1
         try clear hcz51_2
         try clear hcz8_0
         try clear hcz8_1
         try clear hcz8_2
         try clear hfz12_0
         try clear hfz12_1
         try clear hfz12_2
         try clear hfz14_0
         try clear hfz14_1
         try clear hfz14_2
         try clear hfz17_0
         try clear hfz17_1
         try clear hfz17_2
         try clear hfz19_0
         try clear hfz19_1
         try clear hfz19_2
         try clear hfz22_0
         try clear hfz22_1
         try clear hfz22_2
         try clear hfz24_0
         try clear hfz24_1
         try clear hfz24_2
         try clear hfz26_0
         try clear hfz26_1
         try clear hfz26_2
         try clear hfz28_0
         try clear hfz28_1
         try clear hfz28_2
         try clear hfz37_0
         try clear hfz37_1
         try clear hfz37_2
         try clear hfz51_0
         try clear hfz51_1
         try clear hfz51_2
         try clear hfz8_0
         try clear hfz8_1
         try clear hfz8_2
         try clear hx1119_0
         try clear p1119
         try clear p2
         try clear q1119
         obtain ⟨kq, x63_42, rfl, HA, HJ42, HO_9, HO_1117001, HO_1117002, BK1105, BK1116, HB⟩ := hcut
         cases kq with
         | zero => exact absurd HA.out (by simp [examboardlaw37_ExposureCap.j2])
         | succ kj42 =>
          have H := HA.out
          clear HA
          simp only [examboardlaw37_ExposureCap.j2] at H
          have HC53 := mk0 H
          clear H
          go_upto_if 63 with (fail)
          go_cut [9] (fun v9 wc => ∃ (kq : Nat) (x9_52 : List (S50)), Aside0 (examboardlaw37_ExposureCap.j3 kq a1 l2 x9_52 x10_2 a0_0 l0_1 l0_2 = some r) ∧ Aside0 (kq ≤ kj42) ∧ Aside0 (Kd.R k50 50 wc w.heap.size (fun _ => True) v9 x9_52) ∧ Aside0 (Kd.R (Kd.int .u32) 87 wc w.heap.size (fun _ => True) (.slice Ao38 t1109.length co38) t1109) ∧ Aside0 (Kd.V (Kd.int .u32) 87 wc w.heap.size (fun k_ => some k_ ≠ (v9 : Value).ownBlock ∧ some k_ ≠ ((.slice Ao38 t1109.length co38) : Value).ownBlock ∧ k_ ≠ gb1105 ∧ k_ ≠ gb1116) (.slice Ao39 t1112.length co39) t1112) ∧ Aside0 (wc.heap[gb1105]? = some (.cells #[.bool a0_0, (.slice A0_1 l0_1.length c0_1), (.slice A0_2 l0_2.length c0_2)] 29 (0, 0))) ∧ Aside0 (wc.heap[gb1116]? = some (.cells #[.bool t1108, (.slice Ao38 t1109.length co38), (.slice Ao39 t1112.length co39)] 29 (0, 0))) ∧ Aside0 (Below w.heap.size w wc))
          case first =>
           have H := HC53.out
           clear HC53
           by_cases c54 : x63_42 = true
           ·subst c54
            have H1 : ((exposure_Record.f kj42 x9_2 (([7] : List Int))).bind fun bt1124 => (if bt1124.2 = 0 then ((exposure_Count.f kj42 bt1124.1 7).bind fun t1128 => (if t1128 = (wrap64 (t1118 + 1)) then (examboardlaw37_ExposureCap.j3 kj42 a1 l2 bt1124.1 x10_2 a0_0 l0_1 l0_2) else (some false))) else (some false))) = some r := by rw [if_pos rfl] at H; exact H
            clear H
            have H := H1
            clear H1
            obtain ⟨y1121, hy1121⟩ : ∃ y_ : List Int, y_ = (([7] : List Int)) := ⟨_, rfl⟩
            replace H : ((exposure_Record.f kj42 x9_2 y1121).bind fun bt1124 => (if bt1124.2 = 0 then ((exposure_Count.f kj42 bt1124.1 7).bind fun t1128 => (if t1128 = (wrap64 (t1118 + 1)) then (examboardlaw37_ExposureCap.j3 kj42 a1 l2 bt1124.1 x10_2 a0_0 l0_1 l0_2) else (some false))) else (some false))) = some r := by first | (rw [hy1121]; with_reducible exact H) | (have H2_ := (Option.bind_some _ _).symm.trans H; rw [hy1121]; with_reducible exact H2_) | (have H2_ := (Option.bind_some _ _).symm.trans H; with_reducible exact H2_) | with_reducible exact H | (rw [hy1121]; exact H) | exact H
            have Ny1121 := mk0 hy1121
            clear hy1121
            obtain ⟨⟨t1124, t1125⟩, A55, H⟩ := bindA H
            by_cases c56 : t1125 = 0
            ·rw [if_pos c56] at H
             have c56b0 : (t1125 == 0) = true := beq_iff_eq.mpr c56
             have c56b1 : (t1125 != 0) = false := bne_eq_false_iff_eq.mpr c56
             clear c56
             (first | rw [c56b0] | (simp only [i64_w, i32_w]; rw [c56b0]) | skip)
             obtain ⟨t1128, A57, H⟩ := bindA H
             by_cases c58 : t1128 = (wrap64 (t1118 + 1))
             ·rw [if_pos c58] at H
              have c58b0 : (t1128 == (wrap64 (t1118 + 1))) = true := beq_iff_eq.mpr c58
              have c58b1 : (t1128 != (wrap64 (t1118 + 1))) = false := bne_eq_false_iff_eq.mpr c58
              clear c58
              have H' := mk0 H
              clear H
              go_wp2_with (first | ((with_reducible refine gate_dst (N := 66) rfl ?_); (try (refine gate_guard (by rfl) ?_; dsimp only)); refine Kd.R_lit (Kd.int .i64) _ 3 ?hg (N := 66) ?hd (xs := ([7] : List Int)) (inner := [.int .i64 7]) (ok := fun _ => True) (okp := fun _ => True) ?hr ?hp (fun _ hk => hk) trivial (Below.refl _ _) (Nat.le_refl _) (by simp) ?_; (case hd => rfl); (case hg => rfl); (case hr => go_simp <;> rfl); (case hp => exact (Reps.one (show Kd.M (Kd.int .i64) _ _ _ 7 [.int .i64 7] from rfl) (Reps.none _ _))); intro v1122 w59 ho60 hb hg_ hnew_; clear hg_ hnew_; (first | rw [← Ny1121.out] at ho60 | (simp only [Int.reduceToNat] at ho60; rw [← Ny1121.out] at ho60)); replace HO_9 := rB HO_9 hb; replace HO_1117001 := rB HO_1117001 hb; replace HO_1117002 := mk0 (Kd.V_elder' HO_1117002.out (Rs ho60) hb); have HO1123 := mk0 (Rl ho60 (bZ HB.out)); replace BK1105 := bkB BK1105 hb; replace BK1116 := bkB BK1116 hb; replace HB := hbS HB hb; clear hb ho60; obtain ⟨Ao61, co61, eo61⟩ := Kd.R_slice HO1123.out; subst eo61) | ((with_reducible refine gate_callee (f := 22) rfl ?_); refine goA 67 Try.func22 #[.slice Ao44 x9_2.length co44, .slice Ao61 y1121.length co61] ?_; (with_reducible refine (exposure_Record.calls kj42 _ _ x9_2 _ _ y1121 t1124 t1125 _ (by exact (Kd.R_reads' HO_9.out).2.2) (by exact (Kd.R_reads' HO_9.out).2.1) (by exact (Kd.R_reads' HO1123.out).2.2) (by exact (Kd.R_reads' HO1123.out).2.1) A55.out).mono ?_); rintro e w62 ⟨v1126, rfl, ho0, hb⟩; refine ⟨_, rfl, ?_⟩; replace HO_1117001 := rB HO_1117001 hb; replace HO_1117002 := mk0 (Kd.V_elder' HO_1117002.out (Rs ho0) hb); replace HO1123 := rB HO1123 hb; have HO1127 := mk0 (Rl (Rn ho0 (Rq HO_9.out)) (bZ HB.out)); replace HO_9 := mk0 (Re HO_9.out (Rs ho0) hb); replace BK1105 := bkB BK1105 hb; replace BK1116 := bkB BK1116 hb; replace HB := hbS HB hb; obtain ⟨Ao63, co63, eo63⟩ := Kd.R_slice HO1127.out; subst eo63) | (go_at_call 17; (with_reducible refine (exposure_Count.calls kj42 _ _ t1124 7 t1128 _ (by exact (Kd.R_reads' HO1127.out).2.2) (by exact (Kd.R_reads' HO1127.out).2.1) A57.out).mono ?_); rintro e w64 ⟨rfl, hb⟩; replace HO_9 := rB HO_9 hb; replace HO_1117001 := rB HO_1117001 hb; replace HO_1117002 := mk0 (Kd.V_below HO_1117002.out hb); replace HO1123 := rB HO1123 hb; replace HO1127 := rB HO1127 hb; replace BK1105 := bkB BK1105 hb; replace BK1116 := bkB BK1116 hb; replace HB := hbS HB hb))
              go_meet
              case rel => exact ⟨_, (t1124), H', ⟨by have := HJ3.out; have := HK2.out; have := HJ42.out; first | omega | exact Nat.le_refl _⟩, ⟨Rm HO1127.out tv⟩, ⟨HO_1117001.out⟩, ⟨Vm HO_1117002.out (fun _ hk => ⟨hk.2, ⟨hk.1.1.2.1, ⟨hk.1.1.2.2.1, hk.1.1.2.2.2⟩⟩⟩)⟩, ⟨BK1105.out⟩, ⟨BK1116.out⟩, ⟨by repeat (first | exact HB.out | apply bN | apply b1 | apply bA | refine bS ?_ GE1105.out | refine bS ?_ GE1116.out)⟩⟩
             ·rw [if_neg c58] at H
              have c58b0 : (t1128 == (wrap64 (t1118 + 1))) = false := beq_eq_false_iff_ne.mpr c58
              have c58b1 : (t1128 != (wrap64 (t1118 + 1))) = true := bne_iff_ne.mpr c58
              obtain rfl := Option.some.inj H
              go_wp2_with (first | ((with_reducible refine gate_dst (N := 66) rfl ?_); (try (refine gate_guard (by rfl) ?_; dsimp only)); refine Kd.R_lit (Kd.int .i64) _ 3 ?hg (N := 66) ?hd (xs := ([7] : List Int)) (inner := [.int .i64 7]) (ok := fun _ => True) (okp := fun _ => True) ?hr ?hp (fun _ hk => hk) trivial (Below.refl _ _) (Nat.le_refl _) (by simp) ?_; (case hd => rfl); (case hg => rfl); (case hr => go_simp <;> rfl); (case hp => exact (Reps.one (show Kd.M (Kd.int .i64) _ _ _ 7 [.int .i64 7] from rfl) (Reps.none _ _))); intro v1122 w65 ho66 hb hg_ hnew_; clear hg_ hnew_; (first | rw [← Ny1121.out] at ho66 | (simp only [Int.reduceToNat] at ho66; rw [← Ny1121.out] at ho66)); replace HO_9 := rB HO_9 hb; replace HO_1117001 := rB HO_1117001 hb; replace HO_1117002 := mk0 (Kd.V_elder' HO_1117002.out (Rs ho66) hb); have HO1123 := mk0 (Rl ho66 (bZ HB.out)); replace BK1105 := bkB BK1105 hb; replace BK1116 := bkB BK1116 hb; replace HB := hbS HB hb; clear hb ho66; obtain ⟨Ao67, co67, eo67⟩ := Kd.R_slice HO1123.out; subst eo67) | ((with_reducible refine gate_callee (f := 22) rfl ?_); refine goA 67 Try.func22 #[.slice Ao44 x9_2.length co44, .slice Ao67 y1121.length co67] ?_; (with_reducible refine (exposure_Record.calls kj42 _ _ x9_2 _ _ y1121 t1124 t1125 _ (by exact (Kd.R_reads' HO_9.out).2.2) (by exact (Kd.R_reads' HO_9.out).2.1) (by exact (Kd.R_reads' HO1123.out).2.2) (by exact (Kd.R_reads' HO1123.out).2.1) A55.out).mono ?_); rintro e w68 ⟨v1126, rfl, ho0, hb⟩; refine ⟨_, rfl, ?_⟩; replace HO_1117001 := rB HO_1117001 hb; replace HO_1117002 := mk0 (Kd.V_elder' HO_1117002.out (Rs ho0) hb); replace HO1123 := rB HO1123 hb; have HO1127 := mk0 (Rl (Rn ho0 (Rq HO_9.out)) (bZ HB.out)); replace HO_9 := mk0 (Re HO_9.out (Rs ho0) hb); replace BK1105 := bkB BK1105 hb; replace BK1116 := bkB BK1116 hb; replace HB := hbS HB hb; obtain ⟨Ao69, co69, eo69⟩ := Kd.R_slice HO1127.out; subst eo69) | (go_at_call 17; (with_reducible refine (exposure_Count.calls kj42 _ _ t1124 7 t1128 _ (by exact (Kd.R_reads' HO1127.out).2.2) (by exact (Kd.R_reads' HO1127.out).2.1) A57.out).mono ?_); rintro e w70 ⟨rfl, hb⟩; replace HO_9 := rB HO_9 hb; replace HO_1117001 := rB HO_1117001 hb; replace HO_1117002 := mk0 (Kd.V_below HO_1117002.out hb); replace HO1123 := rB HO1123 hb; replace HO1127 := rB HO1127 hb; replace BK1105 := bkB BK1105 hb; replace BK1116 := bkB BK1116 hb; replace HB := hbS HB hb))
              go_ret
              exact ⟨by first | rfl | (simp [errW_none, errW_some] <;> rfl) | (simp [*, errW_none, errW_some] <;> rfl), by repeat (first | exact HB.out | apply bN | apply b1 | apply bA | refine bS ?_ GE1105.out | refine bS ?_ GE1116.out)⟩
            ·rw [if_neg c56] at H
             have c56b0 : (t1125 == 0) = false := beq_eq_false_iff_ne.mpr c56
             have c56b1 : (t1125 != 0) = true := bne_iff_ne.mpr c56
             (first | rw [c56b0] | (simp only [i64_w, i32_w]; rw [c56b0]) | skip)
             obtain rfl := Option.some.inj H
             go_wp2_with (first | ((with_reducible refine gate_dst (N := 66) rfl ?_); (try (refine gate_guard (by rfl) ?_; dsimp only)); refine Kd.R_lit (Kd.int .i64) _ 3 ?hg (N := 66) ?hd (xs := ([7] : List Int)) (inner := [.int .i64 7]) (ok := fun _ => True) (okp := fun _ => True) ?hr ?hp (fun _ hk => hk) trivial (Below.refl _ _) (Nat.le_refl _) (by simp) ?_; (case hd => rfl); (case hg => rfl); (case hr => go_simp <;> rfl); (case hp => exact (Reps.one (show Kd.M (Kd.int .i64) _ _ _ 7 [.int .i64 7] from rfl) (Reps.none _ _))); intro v1122 w71 ho72 hb hg_ hnew_; clear hg_ hnew_; (first | rw [← Ny1121.out] at ho72 | (simp only [Int.reduceToNat] at ho72; rw [← Ny1121.out] at ho72)); replace HO_9 := rB HO_9 hb; replace HO_1117001 := rB HO_1117001 hb; replace HO_1117002 := mk0 (Kd.V_elder' HO_1117002.out (Rs ho72) hb); have HO1123 := mk0 (Rl ho72 (bZ HB.out)); replace BK1105 := bkB BK1105 hb; replace BK1116 := bkB BK1116 hb; replace HB := hbS HB hb; clear hb ho72; obtain ⟨Ao73, co73, eo73⟩ := Kd.R_slice HO1123.out; subst eo73) | ((with_reducible refine gate_callee (f := 22) rfl ?_); refine goA 67 Try.func22 #[.slice Ao44 x9_2.length co44, .slice Ao73 y1121.length co73] ?_; (with_reducible refine (exposure_Record.calls kj42 _ _ x9_2 _ _ y1121 t1124 t1125 _ (by exact (Kd.R_reads' HO_9.out).2.2) (by exact (Kd.R_reads' HO_9.out).2.1) (by exact (Kd.R_reads' HO1123.out).2.2) (by exact (Kd.R_reads' HO1123.out).2.1) A55.out).mono ?_); rintro e w74 ⟨v1126, rfl, ho0, hb⟩; refine ⟨_, rfl, ?_⟩; replace HO_1117001 := rB HO_1117001 hb; replace HO_1117002 := mk0 (Kd.V_elder' HO_1117002.out (Rs ho0) hb); replace HO1123 := rB HO1123 hb; have HO1127 := mk0 (Rl (Rn ho0 (Rq HO_9.out)) (bZ HB.out)); replace HO_9 := mk0 (Re HO_9.out (Rs ho0) hb); replace BK1105 := bkB BK1105 hb; replace BK1116 := bkB BK1116 hb; replace HB := hbS HB hb))
             go_ret
             exact ⟨by first | rfl | (simp [errW_none, errW_some] <;> rfl) | (simp [*, errW_none, errW_some] <;> rfl), by repeat (first | exact HB.out | apply bN | apply b1 | apply bA | refine bS ?_ GE1105.out | refine bS ?_ GE1116.out)⟩
           ·replace c54 := Bool.eq_false_iff.mpr c54
            subst c54
            have H1 : (examboardlaw37_ExposureCap.j3 kj42 a1 l2 x9_2 x10_2 a0_0 l0_1 l0_2) = some r := by rw [if_neg (show ¬ (false = true) by decide)] at H; exact H
            clear H
            have H := H1
            clear H1
            have H' := mk0 H
            clear H
            go_wp2
            go_meet
            case rel => exact ⟨_, (x9_2), H', ⟨by have := HJ3.out; have := HK2.out; have := HJ42.out; first | omega | exact Nat.le_refl _⟩, ⟨HO_9.out⟩, ⟨HO_1117001.out⟩, ⟨HO_1117002.out⟩, ⟨BK1105.out⟩, ⟨BK1116.out⟩, ⟨by repeat (first | exact HB.out | apply bN | apply b1 | apply bA | refine bS ?_ GE1105.out | refine bS ?_ GE1116.out)⟩⟩
          case rest =>
           clear HC53
           try clear c1
           try clear p1
           try clear q1
           try clear hx1
           try clear c2
           try clear p2
           try clear c3
           try clear c4
           try clear q4
           try clear c5
           try clear p6
           try clear c7
           try clear c9
           try clear c10
           try clear c11
           try clear c11b0
           try clear p11
           try clear q11
           try clear hx11
           try clear c13
           try clear c16
           try clear c16b0
           try clear c17
           try clear c21
           try clear c21b0
           try clear c22
           try clear c30
           try clear c33
           try clear c36
           try clear c41
           try clear c41b0
           try clear c46
           try clear c46b0
           try clear q47
           try clear c48
           try clear c50
           try clear c54
           try clear c56
           try clear c56b0
           try clear c56b1
           try clear c58
           try clear c58b0
           try clear c58b1
           try clear p64
           try clear hcz12_0
           try clear hcz12_1
           try clear hcz12_2
           try clear hcz14_0
           try clear hcz14_1
           try clear hcz14_2
           try clear hcz17_0
           try clear hcz17_1
           try clear hcz17_2
           try clear hcz19_0
           try clear hcz19_1
           try clear hcz19_2
           try clear hcz22_0
           try clear hcz22_1
           try clear hcz22_2
           try clear hcz24_0
           try clear hcz24_1
           try clear hcz24_2
           try clear hcz26_0
           try clear hcz26_1
           try clear hcz26_2
           try clear hcz28_0
           try clear hcz28_1
           try clear hcz28_2
           try clear hcz37_0
           try clear hcz37_1
           try clear hcz37_2
           try clear hcz51_0
           try clear hcz51_1
           try clear hcz51_2
           try clear hcz8_0
           try clear hcz8_1
           try clear hcz8_2
           try clear hfz12_0
           try clear hfz12_1
           try clear hfz12_2
           try clear hfz14_0
           try clear hfz14_1
           try clear hfz14_2
           try clear hfz17_0
           try clear hfz17_1
           try clear hfz17_2
           try clear hfz19_0
           try clear hfz19_1
           try clear hfz19_2
           try clear hfz22_0
           try clear hfz22_1
           try clear hfz22_2
           try clear hfz24_0
           try clear hfz24_1
           try clear hfz24_2
           try clear hfz26_0
           try clear hfz26_1
           try clear hfz26_2
           try clear hfz28_0
           try clear hfz28_1
           try clear hfz28_2
           try clear hfz37_0
           try clear hfz37_1
           try clear hfz37_2
           try clear hfz51_0
           try clear hfz51_1
           try clear hfz51_2
           try clear hfz8_0
           try clear hfz8_1
           try clear hfz8_2
           try clear hx1119_0
           try clear p1
           try clear p11
           try clear p1119
           try clear p2
           try clear q1
           try clear q11
           try clear q1119
           try clear q4
           try clear q47
           obtain ⟨kq, x9_52, HA, HJ52, HO_9, HO_1117001, HO_1117002, BK1105, BK1116, HB⟩ := hcut
           cases kq with
           | zero => exact absurd HA.out (by simp [examboardlaw37_ExposureCap.j3])
           | succ kj52 =>
            have H := HA.out
            clear HA
            simp only [examboardlaw37_ExposureCap.j3] at H
            obtain ⟨t1129, A75, H⟩ := bindA H
            obtain ⟨⟨t1130, t1131, t1134, t1137⟩, A76, H⟩ := bindA H
            obtain ⟨⟨t1139, t1140, t1143, t1146⟩, A77, H⟩ := bindA H
            by_cases c78 : t1137 = true
            ·subst c78
             have H1 : (if t1146 = true then ((ratio_Mul.f kj52 a0_0 l0_1 l0_2 t1139 t1140 t1143).bind fun bt1148 => ((ratio_Cmp.f kj52 t1130 t1131 t1134 bt1148.1 bt1148.2.1 bt1148.2.2).bind fun t1155 => (if t1155 > 0 then (some false) else (examboardlaw37_ExposureCap.l0 kj52 a1 l2 x9_52 (wrap64 (x10_2 + 1)) a0_0 l0_1 l0_2)))) else (some false)) = some r := by rw [if_pos rfl] at H; exact H
             clear H
             have H := H1
             clear H1
             by_cases c79 : t1146 = true
             ·subst c79
              have H1 : ((ratio_Mul.f kj52 a0_0 l0_1 l0_2 t1139 t1140 t1143).bind fun bt1148 => ((ratio_Cmp.f kj52 t1130 t1131 t1134 bt1148.1 bt1148.2.1 bt1148.2.2).bind fun t1155 => (if t1155 > 0 then (some false) else (examboardlaw37_ExposureCap.l0 kj52 a1 l2 x9_52 (wrap64 (x10_2 + 1)) a0_0 l0_1 l0_2)))) = some r := by rw [if_pos rfl] at H; exact H
              clear H
              have H := H1
              clear H1
              obtain ⟨⟨t1148, t1149, t1152⟩, A80, H⟩ := bindA H
              obtain ⟨t1155, A81, H⟩ := bindA H
              by_cases c82 : t1155 > 0
              ·rw [if_pos c82] at H
               have c82b0 : decide (0 < t1155) = true := decide_eq_true c82
               clear c82
               obtain rfl := Option.some.inj H
               obtain ⟨Ao83, co83, eo83⟩ := Kd.R_slice HO_9.out
               subst eo83
               try go_wp2_with (first | ((with_reducible refine gate_callee (f := 17) rfl ?_); refine goA 82 Try.func17 #[.slice Ao83 x9_52.length co83, .int .i64 7] ?_; (with_reducible refine (exposure_Count.calls kj52 _ _ x9_52 7 t1129 _ (by exact (Kd.R_reads' HO_9.out).2.2) (by exact (Kd.R_reads' HO_9.out).2.1) A75.out).mono ?_); rintro e w84 ⟨rfl, hb⟩; refine ⟨_, rfl, ?_⟩; replace HO_9 := rB HO_9 hb; replace HO_1117001 := rB HO_1117001 hb; replace HO_1117002 := mk0 (Kd.V_below HO_1117002.out hb); replace BK1105 := bkB BK1105 hb; replace BK1116 := bkB BK1116 hb; replace HB := hbS HB hb) | ((with_reducible refine gate_callee (f := 16) rfl ?_); refine goA 83 Try.func16 #[.int .i64 t1129, .int .i64 1] ?_; (with_reducible refine (ratio_Of.calls kj52 t1129 1 t1130 t1131 t1134 true _ A76.out).mono ?_); rintro e w85 ⟨v1132, v1135, rfl, ho0, ho1, hb⟩; refine ⟨_, rfl, ?_⟩; replace HO_1117002 := mk0 (Kd.V_elder' HO_1117002.out (Rs ho0) hb); have HO1133 := mk0 (Rl (Rn (Rm (ok' := fun k_ => True) ho0 tv) (Rq HO_1117001.out)) (bZ HB.out)); have HO1136 := mk0 (Vl (Vm (ok' := fun k_ => some k_ ≠ (v1132 : Value).ownBlock ∧ some k_ ≠ (.slice Ao83 x9_52.length co83 : Value).ownBlock ∧ some k_ ≠ (.slice Ao38 t1109.length co38 : Value).ownBlock ∧ k_ ≠ gb1105 ∧ k_ ≠ gb1116) ho1 (fun k_ hk_ => ⟨hk_.2, (Kd.fresh' (Rq HO_9.out) k_ hk_.1), (Kd.fresh' (Rq HO_1117001.out) k_ hk_.1), (Kd.freshB BK1105.out k_ hk_.1), (Kd.freshB BK1116.out k_ hk_.1)⟩)) (bZ HB.out)); replace HO_9 := rB HO_9 hb; replace HO_1117001 := mk0 (Re HO_1117001.out (Rs ho0) hb); replace BK1105 := bkB BK1105 hb; replace BK1116 := bkB BK1116 hb; replace HB := hbS HB hb) | ((with_reducible refine gate_dst (N := 14) rfl ?_); (try (refine gate_guard (by rfl) ?_; dsimp only)); refine box_event rfl (N := 14) rfl (cs := #[.bool false, .slice none 0 0, .slice none 0 0]) (t := 29) (by go_simp <;> rfl) ?_; intro gb1138 hg w86 hbox hb; replace HO_9 := rB HO_9 hb; replace HO_1117001 := rB HO_1117001 hb; replace HO_1117002 := vB HO_1117002 hg hb; replace HO1133 := rB HO1133 hb; replace HO1136 := vB HO1136 hg hb; have BK1138 := mk0 (hbox); have GE1138 := geB hg HB; replace HB := hbS HB hb; have NB1105_1138 := nbA hg BK1105; have NB1138_1105 := nbB hg BK1105; replace BK1105 := bkB BK1105 hb; have NB1116_1138 := nbA hg BK1116; have NB1138_1116 := nbB hg BK1116; replace BK1116 := bkB BK1116 hb; clear hb hbox hg; have hnb87 := NB1138_1105.out; have hnc87 := NB1105_1138.out; have hnb88 := NB1138_1116.out; have hnc88 := NB1116_1138.out; obtain ⟨hcz89_0, hcz89_1, hcz89_2, hfz89_0, hfz89_1, hfz89_2⟩ := cz3 BK1138; obtain ⟨Ao90, co90, eo90⟩ := Kd.R_slice HO1133.out; subst eo90; obtain ⟨Ao91, co91, eo91⟩ := Kd.V_slice HO1136.out; subst eo91) | ((with_reducible refine gate_callee (f := 16) rfl ?_); refine goA 91 Try.func16 #[.int .i64 (wrap64 ((wrap64 (x10_2 + 1)) + a1)), .int .i64 1] ?_; (with_reducible refine (ratio_Of.calls kj52 (wrap64 ((wrap64 (x10_2 + 1)) + a1)) 1 t1139 t1140 t1143 true _ A77.out).mono ?_); rintro e w92 ⟨v1141, v1144, rfl, ho0, ho1, hb⟩; refine ⟨_, rfl, ?_⟩; replace HO_1117002 := mk0 (Kd.V_elder' ((Vm (Vf (p := ⟨gb1138, 2, none⟩) (Vf (p := ⟨gb1138, 1, none⟩) (Vf (p := ⟨gb1138, 0, none⟩) (Vm HO_1117002.out (fun k_ hk => (⟨hk, hk.2⟩ : _ ∧ k_ ≠ gb1138))) (fun _ hk => hk.2) (.bool t1130)) (fun _ hk => hk.2) (.slice Ao90 t1131.length co90)) (fun _ hk => hk.2) (.slice Ao91 t1134.length co91)) (fun _ h_ => h_.1))) (Rs ho0) hb); replace HO1136 := mk0 (Kd.V_elder' ((Vm (Vf (p := ⟨gb1138, 2, none⟩) (Vf (p := ⟨gb1138, 1, none⟩) (Vf (p := ⟨gb1138, 0, none⟩) (Vm HO1136.out (fun k_ hk => (⟨hk, hk.2⟩ : _ ∧ k_ ≠ gb1138))) (fun _ hk => hk.2) (.bool t1130)) (fun _ hk => hk.2) (.slice Ao90 t1131.length co90)) (fun _ hk => hk.2) (.slice Ao91 t1134.length co91)) (fun _ h_ => h_.1))) (Rs ho0) hb); have HO1142 := mk0 (Rl (Rn (Rn (Rm (ok' := fun k_ => True) ho0 tv) (Rq ((Rm (Rf (p := ⟨gb1138, 2, none⟩) (Rf (p := ⟨gb1138, 1, none⟩) (Rf (p := ⟨gb1138, 0, none⟩) (Rt HO_1117001.out BK1138.out (by decide)) (fun _ hk => hk.2) (.bool t1130)) (fun _ hk => hk.2) (.slice Ao90 t1131.length co90)) (fun _ hk => hk.2) (.slice Ao91 t1134.length co91)) (fun _ h_ => h_.1))))) (Rq ((Rm (Rf (p := ⟨gb1138, 2, none⟩) (Rf (p := ⟨gb1138, 1, none⟩) (Rf (p := ⟨gb1138, 0, none⟩) (Rt HO1133.out BK1138.out (by decide)) (fun _ hk => hk.2) (.bool t1130)) (fun _ hk => hk.2) (.slice Ao90 t1131.length co90)) (fun _ hk => hk.2) (.slice Ao91 t1134.length co91)) (fun _ h_ => h_.1))))) (bZ (by repeat (first | exact HB.out | refine bS ?_ GE1116.out | refine bS ?_ GE1138.out)))); have HO1145 := mk0 (Vl (Vm (ok' := fun k_ => some k_ ≠ (v1141 : Value).ownBlock ∧ some k_ ≠ (.slice Ao83 x9_52.length co83 : Value).ownBlock ∧ some k_ ≠ (.slice Ao38 t1109.length co38 : Value).ownBlock ∧ some k_ ≠ (.slice Ao90 t1131.length co90 : Value).ownBlock ∧ k_ ≠ gb1105 ∧ k_ ≠ gb1116 ∧ k_ ≠ gb1138) ho1 (fun k_ hk_ => ⟨hk_.2, (Kd.fresh' (Rq ((Rm (Rf (p := ⟨gb1138, 2, none⟩) (Rf (p := ⟨gb1138, 1, none⟩) (Rf (p := ⟨gb1138, 0, none⟩) (Rt HO_9.out BK1138.out (by decide)) (fun _ hk => hk.2) (.bool t1130)) (fun _ hk => hk.2) (.slice Ao90 t1131.length co90)) (fun _ hk => hk.2) (.slice Ao91 t1134.length co91)) (fun _ h_ => h_.1)))) k_ hk_.1), (Kd.fresh' (Rq ((Rm (Rf (p := ⟨gb1138, 2, none⟩) (Rf (p := ⟨gb1138, 1, none⟩) (Rf (p := ⟨gb1138, 0, none⟩) (Rt HO_1117001.out BK1138.out (by decide)) (fun _ hk => hk.2) (.bool t1130)) (fun _ hk => hk.2) (.slice Ao90 t1131.length co90)) (fun _ hk => hk.2) (.slice Ao91 t1134.length co91)) (fun _ h_ => h_.1)))) k_ hk_.1), (Kd.fresh' (Rq ((Rm (Rf (p := ⟨gb1138, 2, none⟩) (Rf (p := ⟨gb1138, 1, none⟩) (Rf (p := ⟨gb1138, 0, none⟩) (Rt HO1133.out BK1138.out (by decide)) (fun _ hk => hk.2) (.bool t1130)) (fun _ hk => hk.2) (.slice Ao90 t1131.length co90)) (fun _ hk => hk.2) (.slice Ao91 t1134.length co91)) (fun _ h_ => h_.1)))) k_ hk_.1), (Kd.freshB (g := gb1105) (o := .cells #[.bool a0_0, .slice A0_1 l0_1.length c0_1, .slice A0_2 l0_2.length c0_2] 29 (0, 0)) (by refine blk_far ?_ NB1105_1138.out _; refine blk_far ?_ NB1105_1138.out _; refine blk_far ?_ NB1105_1138.out _; exact BK1105.out) k_ hk_.1), (Kd.freshB (g := gb1116) (o := .cells #[.bool t1108, .slice Ao38 t1109.length co38, .slice Ao39 t1112.length co39] 29 (0, 0)) (by refine blk_far ?_ NB1116_1138.out _; refine blk_far ?_ NB1116_1138.out _; refine blk_far ?_ NB1116_1138.out _; exact BK1116.out) k_ hk_.1), (Kd.freshB (g := gb1138) (o := .cells #[.bool t1130, .slice Ao90 t1131.length co90, .slice Ao91 t1134.length co91] 29 (0, 0)) (by refine blk_put (cs := #[.bool t1130, .slice Ao90 t1131.length co90, .slice none 0 0]) ?_ 2 _ rfl; refine blk_put (cs := #[.bool t1130, .slice none 0 0, .slice none 0 0]) ?_ 1 _ rfl; refine blk_put (cs := #[.bool false, .slice none 0 0, .slice none 0 0]) ?_ 0 _ rfl; exact BK1138.out) k_ hk_.1)⟩)) (bZ (by repeat (first | exact HB.out | refine bS ?_ GE1116.out | refine bS ?_ GE1138.out)))); replace HO_9 := mk0 (Rb ((Rm (Rf (p := ⟨gb1138, 2, none⟩) (Rf (p := ⟨gb1138, 1, none⟩) (Rf (p := ⟨gb1138, 0, none⟩) (Rt HO_9.out BK1138.out (by decide)) (fun _ hk => hk.2) (.bool t1130)) (fun _ hk => hk.2) (.slice Ao90 t1131.length co90)) (fun _ hk => hk.2) (.slice Ao91 t1134.length co91)) (fun _ h_ => h_.1))) hb); replace HO_1117001 := mk0 (Re ((Rm (Rf (p := ⟨gb1138, 2, none⟩) (Rf (p := ⟨gb1138, 1, none⟩) (Rf (p := ⟨gb1138, 0, none⟩) (Rt HO_1117001.out BK1138.out (by decide)) (fun _ hk => hk.2) (.bool t1130)) (fun _ hk => hk.2) (.slice Ao90 t1131.length co90)) (fun _ hk => hk.2) (.slice Ao91 t1134.length co91)) (fun _ h_ => h_.1))) (Rs ho0) hb); replace HO1133 := mk0 (Re ((Rm (Rf (p := ⟨gb1138, 2, none⟩) (Rf (p := ⟨gb1138, 1, none⟩) (Rf (p := ⟨gb1138, 0, none⟩) (Rt HO1133.out BK1138.out (by decide)) (fun _ hk => hk.2) (.bool t1130)) (fun _ hk => hk.2) (.slice Ao90 t1131.length co90)) (fun _ hk => hk.2) (.slice Ao91 t1134.length co91)) (fun _ h_ => h_.1))) (Rs ho0) hb); replace BK1105 := mk0 (blk_below (g := gb1105) (o := .cells #[.bool a0_0, .slice A0_1 l0_1.length c0_1, .slice A0_2 l0_2.length c0_2] 29 (0, 0)) (by refine blk_far ?_ NB1105_1138.out _; refine blk_far ?_ NB1105_1138.out _; refine blk_far ?_ NB1105_1138.out _; exact BK1105.out) hb); replace BK1116 := mk0 (blk_below (g := gb1116) (o := .cells #[.bool t1108, .slice Ao38 t1109.length co38, .slice Ao39 t1112.length co39] 29 (0, 0)) (by refine blk_far ?_ NB1116_1138.out _; refine blk_far ?_ NB1116_1138.out _; refine blk_far ?_ NB1116_1138.out _; exact BK1116.out) hb); replace BK1138 := mk0 (blk_below (g := gb1138) (o := .cells #[.bool t1130, .slice Ao90 t1131.length co90, .slice Ao91 t1134.length co91] 29 (0, 0)) (by refine blk_put (cs := #[.bool t1130, .slice Ao90 t1131.length co90, .slice none 0 0]) ?_ 2 _ rfl; refine blk_put (cs := #[.bool t1130, .slice none 0 0, .slice none 0 0]) ?_ 1 _ rfl; refine blk_put (cs := #[.bool false, .slice none 0 0, .slice none 0 0]) ?_ 0 _ rfl; exact BK1138.out) hb); replace HB := mk0 (below_step (by repeat (first | exact HB.out | refine bS ?_ GE1116.out | refine bS ?_ GE1138.out)) hb)) | ((with_reducible refine gate_dst (N := 16) rfl ?_); (try (refine gate_guard (by rfl) ?_; dsimp only)); refine box_event rfl (N := 16) rfl (cs := #[.bool false, .slice none 0 0, .slice none 0 0]) (t := 29) (by go_simp <;> rfl) ?_; intro gb1147 hg w93 hbox hb; replace HO_9 := rB HO_9 hb; replace HO_1117001 := rB HO_1117001 hb; replace HO_1117002 := vB HO_1117002 hg hb; replace HO1133 := rB HO1133 hb; replace HO1136 := vB HO1136 hg hb; replace HO1142 := rB HO1142 hb; replace HO1145 := vB HO1145 hg hb; have BK1147 := mk0 (hbox); have GE1147 := geB hg HB; replace HB := hbS HB hb; have NB1105_1147 := nbA hg BK1105; have NB1147_1105 := nbB hg BK1105; replace BK1105 := bkB BK1105 hb; have NB1116_1147 := nbA hg BK1116; have NB1147_1116 := nbB hg BK1116; replace BK1116 := bkB BK1116 hb; have NB1138_1147 := nbA hg BK1138; have NB1147_1138 := nbB hg BK1138; replace BK1138 := bkB BK1138 hb; clear hb hbox hg; have hnb94 := NB1147_1105.out; have hnc94 := NB1105_1147.out; have hnb95 := NB1147_1116.out; have hnc95 := NB1116_1147.out; have hnb96 := NB1147_1138.out; have hnc96 := NB1138_1147.out; obtain ⟨hcz97_0, hcz97_1, hcz97_2, hfz97_0, hfz97_1, hfz97_2⟩ := cz3 BK1147; obtain ⟨Ao98, co98, eo98⟩ := Kd.R_slice HO1142.out; subst eo98; obtain ⟨Ao99, co99, eo99⟩ := Kd.V_slice HO1145.out; subst eo99))
               have n0_ : Aside0 (Kd.R k50 50 (((w93.setCell ⟨gb1147, 0, none⟩ (.bool t1139)).setCell ⟨gb1147, 1, none⟩ (.slice Ao98 t1140.length co98)).setCell ⟨gb1147, 2, none⟩ (.slice Ao99 t1143.length co99)) w.heap.size (fun _ => True) (.slice Ao83 x9_52.length co83) x9_52) := ⟨Rm (Rf (p := ⟨gb1147, 2, none⟩) (Rf (p := ⟨gb1147, 1, none⟩) (Rf (p := ⟨gb1147, 0, none⟩) (Rt HO_9.out BK1147.out (by decide)) (fun _ hk => hk.2) (.bool t1139)) (fun _ hk => hk.2) (.slice Ao98 t1140.length co98)) (fun _ hk => hk.2) (.slice Ao99 t1143.length co99)) tv⟩
               have n1_ : Aside0 (Kd.R (Kd.int .u32) 87 (((w93.setCell ⟨gb1147, 0, none⟩ (.bool t1139)).setCell ⟨gb1147, 1, none⟩ (.slice Ao98 t1140.length co98)).setCell ⟨gb1147, 2, none⟩ (.slice Ao99 t1143.length co99)) w.heap.size (fun k_ => some k_ ≠ (.slice Ao90 t1131.length co90 : Value).ownBlock ∧ some k_ ≠ (.slice Ao98 t1140.length co98 : Value).ownBlock) (.slice Ao38 t1109.length co38) t1109) := ⟨Rm (Rf (p := ⟨gb1147, 2, none⟩) (Rf (p := ⟨gb1147, 1, none⟩) (Rf (p := ⟨gb1147, 0, none⟩) (Rt HO_1117001.out BK1147.out (by decide)) (fun _ hk => hk.2) (.bool t1139)) (fun _ hk => hk.2) (.slice Ao98 t1140.length co98)) (fun _ hk => hk.2) (.slice Ao99 t1143.length co99)) (fun _ hk => ⟨hk.1.1.2, hk.1.2⟩)⟩
               have n2_ : Aside0 (Kd.V (Kd.int .u32) 87 (((w93.setCell ⟨gb1147, 0, none⟩ (.bool t1139)).setCell ⟨gb1147, 1, none⟩ (.slice Ao98 t1140.length co98)).setCell ⟨gb1147, 2, none⟩ (.slice Ao99 t1143.length co99)) w.heap.size (fun k_ => some k_ ≠ (.slice Ao83 x9_52.length co83 : Value).ownBlock ∧ some k_ ≠ (.slice Ao38 t1109.length co38 : Value).ownBlock ∧ some k_ ≠ (.slice Ao90 t1131.length co90 : Value).ownBlock ∧ some k_ ≠ (.slice Ao98 t1140.length co98 : Value).ownBlock ∧ k_ ≠ gb1105 ∧ k_ ≠ gb1116 ∧ k_ ≠ gb1138 ∧ k_ ≠ gb1147) (.slice Ao39 t1112.length co39) t1112) := ⟨Vm (Vf (p := ⟨gb1147, 2, none⟩) (Vf (p := ⟨gb1147, 1, none⟩) (Vf (p := ⟨gb1147, 0, none⟩) (Vm HO_1117002.out (fun k_ hk => (⟨hk, hk.2⟩ : _ ∧ k_ ≠ gb1147))) (fun _ hk => hk.2) (.bool t1139)) (fun _ hk => hk.2) (.slice Ao98 t1140.length co98)) (fun _ hk => hk.2) (.slice Ao99 t1143.length co99)) (fun _ hk => ⟨hk.1.1.1.1.1.1, ⟨hk.1.1.1.1.1.2.1, ⟨hk.1.1.1.1.2, ⟨hk.1.1.2, ⟨hk.1.1.1.1.1.2.2.1, ⟨hk.1.1.1.1.1.2.2.2, ⟨hk.1.1.1.2, hk.1.2⟩⟩⟩⟩⟩⟩⟩)⟩
               have n3_ : Aside0 (Kd.R (Kd.int .u32) 87 (((w93.setCell ⟨gb1147, 0, none⟩ (.bool t1139)).setCell ⟨gb1147, 1, none⟩ (.slice Ao98 t1140.length co98)).setCell ⟨gb1147, 2, none⟩ (.slice Ao99 t1143.length co99)) w.heap.size (fun k_ => some k_ ≠ (.slice Ao38 t1109.length co38 : Value).ownBlock ∧ some k_ ≠ (.slice Ao98 t1140.length co98 : Value).ownBlock) (.slice Ao90 t1131.length co90) t1131) := ⟨Rm (Rf (p := ⟨gb1147, 2, none⟩) (Rf (p := ⟨gb1147, 1, none⟩) (Rf (p := ⟨gb1147, 0, none⟩) (Rt HO1133.out BK1147.out (by decide)) (fun _ hk => hk.2) (.bool t1139)) (fun _ hk => hk.2) (.slice Ao98 t1140.length co98)) (fun _ hk => hk.2) (.slice Ao99 t1143.length co99)) (fun _ hk => ⟨hk.1.1.2, hk.1.2⟩)⟩
               have n4_ : Aside0 (Kd.V (Kd.int .u32) 87 (((w93.setCell ⟨gb1147, 0, none⟩ (.bool t1139)).setCell ⟨gb1147, 1, none⟩ (.slice Ao98 t1140.length co98)).setCell ⟨gb1147, 2, none⟩ (.slice Ao99 t1143.length co99)) w.heap.size (fun k_ => some k_ ≠ (.slice Ao83 x9_52.length co83 : Value).ownBlock ∧ some k_ ≠ (.slice Ao38 t1109.length co38 : Value).ownBlock ∧ some k_ ≠ (.slice Ao90 t1131.length co90 : Value).ownBlock ∧ some k_ ≠ (.slice Ao98 t1140.length co98 : Value).ownBlock ∧ k_ ≠ gb1105 ∧ k_ ≠ gb1116 ∧ k_ ≠ gb1138 ∧ k_ ≠ gb1147) (.slice Ao91 t1134.length co91) t1134) := ⟨Vm (Vf (p := ⟨gb1147, 2, none⟩) (Vf (p := ⟨gb1147, 1, none⟩) (Vf (p := ⟨gb1147, 0, none⟩) (Vm HO1136.out (fun k_ hk => (⟨hk, hk.2⟩ : _ ∧ k_ ≠ gb1147))) (fun _ hk => hk.2) (.bool t1139)) (fun _ hk => hk.2) (.slice Ao98 t1140.length co98)) (fun _ hk => hk.2) (.slice Ao99 t1143.length co99)) (fun _ hk => ⟨hk.1.1.1.1.2.1, ⟨hk.1.1.1.1.2.2.1, ⟨hk.1.1.1.1.1, ⟨hk.1.1.2, ⟨hk.1.1.1.1.2.2.2.1, ⟨hk.1.1.1.1.2.2.2.2, ⟨hk.1.1.1.2, hk.1.2⟩⟩⟩⟩⟩⟩⟩)⟩
               have n5_ : Aside0 (Kd.R (Kd.int .u32) 87 (((w93.setCell ⟨gb1147, 0, none⟩ (.bool t1139)).setCell ⟨gb1147, 1, none⟩ (.slice Ao98 t1140.length co98)).setCell ⟨gb1147, 2, none⟩ (.slice Ao99 t1143.length co99)) w.heap.size (fun k_ => some k_ ≠ (.slice Ao38 t1109.length co38 : Value).ownBlock ∧ some k_ ≠ (.slice Ao90 t1131.length co90 : Value).ownBlock) (.slice Ao98 t1140.length co98) t1140) := ⟨Rm (Rf (p := ⟨gb1147, 2, none⟩) (Rf (p := ⟨gb1147, 1, none⟩) (Rf (p := ⟨gb1147, 0, none⟩) (Rt HO1142.out BK1147.out (by decide)) (fun _ hk => hk.2) (.bool t1139)) (fun _ hk => hk.2) (.slice Ao98 t1140.length co98)) (fun _ hk => hk.2) (.slice Ao99 t1143.length co99)) (fun _ hk => ⟨hk.1.1.2, hk.1.2⟩)⟩
               have n6_ : Aside0 (Kd.V (Kd.int .u32) 87 (((w93.setCell ⟨gb1147, 0, none⟩ (.bool t1139)).setCell ⟨gb1147, 1, none⟩ (.slice Ao98 t1140.length co98)).setCell ⟨gb1147, 2, none⟩ (.slice Ao99 t1143.length co99)) w.heap.size (fun k_ => some k_ ≠ (.slice Ao83 x9_52.length co83 : Value).ownBlock ∧ some k_ ≠ (.slice Ao38 t1109.length co38 : Value).ownBlock ∧ some k_ ≠ (.slice Ao90 t1131.length co90 : Value).ownBlock ∧ some k_ ≠ (.slice Ao98 t1140.length co98 : Value).ownBlock ∧ k_ ≠ gb1105 ∧ k_ ≠ gb1116 ∧ k_ ≠ gb1138 ∧ k_ ≠ gb1147) (.slice Ao99 t1143.length co99) t1143) := ⟨Vm (Vf (p := ⟨gb1147, 2, none⟩) (Vf (p := ⟨gb1147, 1, none⟩) (Vf (p := ⟨gb1147, 0, none⟩) (Vm HO1145.out (fun k_ hk => (⟨hk, hk.2⟩ : _ ∧ k_ ≠ gb1147))) (fun _ hk => hk.2) (.bool t1139)) (fun _ hk => hk.2) (.slice Ao98 t1140.length co98)) (fun _ hk => hk.2) (.slice Ao99 t1143.length co99)) (fun _ hk => ⟨hk.1.1.2.1, ⟨hk.1.1.2.2.1, ⟨hk.1.1.2.2.2.1, ⟨hk.1.1.1, ⟨hk.1.1.2.2.2.2.1, ⟨hk.1.1.2.2.2.2.2.1, ⟨hk.1.1.2.2.2.2.2.2, hk.1.2⟩⟩⟩⟩⟩⟩⟩)⟩
               have n7_ : Aside0 ((((w93.setCell ⟨gb1147, 0, none⟩ (.bool t1139)).setCell ⟨gb1147, 1, none⟩ (.slice Ao98 t1140.length co98)).setCell ⟨gb1147, 2, none⟩ (.slice Ao99 t1143.length co99)).heap[gb1105]? = some (.cells #[.bool a0_0, .slice A0_1 l0_1.length c0_1, .slice A0_2 l0_2.length c0_2] 29 (0, 0))) := ⟨by refine blk_far ?_ NB1105_1147.out _; refine blk_far ?_ NB1105_1147.out _; refine blk_far ?_ NB1105_1147.out _; exact BK1105.out⟩
               have n8_ : Aside0 ((((w93.setCell ⟨gb1147, 0, none⟩ (.bool t1139)).setCell ⟨gb1147, 1, none⟩ (.slice Ao98 t1140.length co98)).setCell ⟨gb1147, 2, none⟩ (.slice Ao99 t1143.length co99)).heap[gb1116]? = some (.cells #[.bool t1108, .slice Ao38 t1109.length co38, .slice Ao39 t1112.length co39] 29 (0, 0))) := ⟨by refine blk_far ?_ NB1116_1147.out _; refine blk_far ?_ NB1116_1147.out _; refine blk_far ?_ NB1116_1147.out _; exact BK1116.out⟩
               have n9_ : Aside0 ((((w93.setCell ⟨gb1147, 0, none⟩ (.bool t1139)).setCell ⟨gb1147, 1, none⟩ (.slice Ao98 t1140.length co98)).setCell ⟨gb1147, 2, none⟩ (.slice Ao99 t1143.length co99)).heap[gb1138]? = some (.cells #[.bool t1130, .slice Ao90 t1131.length co90, .slice Ao91 t1134.length co91] 29 (0, 0))) := ⟨by refine blk_far ?_ NB1138_1147.out _; refine blk_far ?_ NB1138_1147.out _; refine blk_far ?_ NB1138_1147.out _; exact BK1138.out⟩
               have n10_ : Aside0 ((((w93.setCell ⟨gb1147, 0, none⟩ (.bool t1139)).setCell ⟨gb1147, 1, none⟩ (.slice Ao98 t1140.length co98)).setCell ⟨gb1147, 2, none⟩ (.slice Ao99 t1143.length co99)).heap[gb1147]? = some (.cells #[.bool t1139, .slice Ao98 t1140.length co98, .slice Ao99 t1143.length co99] 29 (0, 0))) := ⟨by refine blk_put (cs := #[.bool t1139, .slice Ao98 t1140.length co98, .slice none 0 0]) ?_ 2 _ rfl; refine blk_put (cs := #[.bool t1139, .slice none 0 0, .slice none 0 0]) ?_ 1 _ rfl; refine blk_put (cs := #[.bool false, .slice none 0 0, .slice none 0 0]) ?_ 0 _ rfl; exact BK1147.out⟩
               have n11_ : Aside0 (Below w.heap.size w (((w93.setCell ⟨gb1147, 0, none⟩ (.bool t1139)).setCell ⟨gb1147, 1, none⟩ (.slice Ao98 t1140.length co98)).setCell ⟨gb1147, 2, none⟩ (.slice Ao99 t1143.length co99))) := ⟨by repeat (first | exact HB.out | apply bN | apply b1 | apply bA | refine bS ?_ GE1105.out | refine bS ?_ GE1116.out | refine bS ?_ GE1138.out | refine bS ?_ GE1147.out)⟩
               (try clear HO_9)
               (try clear HO_1117001)
               (try clear HO_1117002)
               (try clear HO1133)
               (try clear HO1136)
               (try clear HO1142)
               (try clear HO1145)
               (try clear BK1105)
               (try clear BK1116)
               (try clear BK1138)
               (try clear BK1147)
               (try clear HB)
               generalize (((w93.setCell ⟨gb1147, 0, none⟩ (.bool t1139)).setCell ⟨gb1147, 1, none⟩ (.slice Ao98 t1140.length co98)).setCell ⟨gb1147, 2, none⟩ (.slice Ao99 t1143.length co99)) = w100 at n0_ n1_ n2_ n3_ n4_ n5_ n6_ n7_ n8_ n9_ n10_ n11_ ⊢
               have HO_9 := n0_
               have HO_1117001 := n1_
               have HO_1117002 := n2_
               have HO1133 := n3_
               have HO1136 := n4_
               have HO1142 := n5_
               have HO1145 := n6_
               have BK1105 := n7_
               have BK1116 := n8_
               have BK1138 := n9_
               have BK1147 := n10_
               have HB := n11_
               clear n0_ n1_ n2_ n3_ n4_ n5_ n6_ n7_ n8_ n9_ n10_ n11_
               replace HO_9 := mk0 (Kd.R_drew HO_9.out)
               replace HO_1117001 := mk0 (Kd.R_drew HO_1117001.out)
               replace HO_1117002 := mk0 (Kd.V_drew HO_1117002.out)
               replace HO1133 := mk0 (Kd.R_drew HO1133.out)
               replace HO1136 := mk0 (Kd.V_drew HO1136.out)
               replace HO1142 := mk0 (Kd.R_drew HO1142.out)
               replace HO1145 := mk0 (Kd.V_drew HO1145.out)
               replace BK1105 := mk0 (blk_drew BK1105.out)
               replace BK1116 := mk0 (blk_drew BK1116.out)
               replace BK1138 := mk0 (blk_drew BK1138.out)
               replace BK1147 := mk0 (blk_drew BK1147.out)
               replace HB := mk0 (b1 HB.out)
               refine start_ (n := 14) (S := fun w' => w'.cell? ⟨gb1138, 0, none⟩ = some (.bool t1130) ∧ w'.cell? ⟨gb1138, 1, none⟩ = some (.slice Ao90 t1131.length co90) ∧ w'.cell? ⟨gb1138, 2, none⟩ = some (.slice Ao91 t1134.length co91) ∧ w'.cell? ⟨gb1105, 0, none⟩ = some (.bool a0_0) ∧ w'.cell? ⟨gb1105, 1, none⟩ = some (.slice A0_1 l0_1.length c0_1) ∧ w'.cell? ⟨gb1105, 2, none⟩ = some (.slice A0_2 l0_2.length c0_2) ∧ w'.cell? ⟨gb1147, 0, none⟩ = some (.bool t1139) ∧ w'.cell? ⟨gb1147, 1, none⟩ = some (.slice Ao98 t1140.length co98) ∧ w'.cell? ⟨gb1147, 2, none⟩ = some (.slice Ao99 t1143.length co99)) (ds := []) (bv 14 0) (by kernel_rfl) rfl rfl ⟨(blk_cell BK1138.out 0).trans rfl, (blk_cell BK1138.out 1).trans rfl, (blk_cell BK1138.out 2).trans rfl, (blk_cell BK1105.out 0).trans rfl, (blk_cell BK1105.out 1).trans rfl, (blk_cell BK1105.out 2).trans rfl, (blk_cell BK1147.out 0).trans rfl, (blk_cell BK1147.out 1).trans rfl, (blk_cell BK1147.out 2).trans rfl⟩ (fun hHeld => ?_); refine with_tabW examboardlaw37_ExposureCap.tab18 examboardlaw37_ExposureCap.bits18 (fun HT_ HW_ => ?_)
               generalize w100.drew = w101 at HO_9 HO_1117001 HO_1117002 HO1133 HO1136 HO1142 HO1145 BK1105 BK1116 BK1138 BK1147 HB hHeld ⊢
               refine puA (i := 0) (N := 94) (v := ?_) (a' := ?_) (bv 14 1) HT_ ?_ ?_ ?_; rotate_left; (intro w'; go_simp; with_reducible rfl); rotate_left; (simp only [Act.put, sA, sZ, sS, i64_w, i32_w]; rfl)
               refine puA (i := 1) (N := 95) (v := ?_) (a' := ?_) (bv 14 3) HT_ ?_ ?_ ?_; rotate_left; (intro w'; go_simp; with_reducible rfl); rotate_left; (simp only [Act.put, sA, sZ, sS, i64_w, i32_w]; rfl)
               refine puA (i := 2) (N := 96) (v := ?_) (a' := ?_) (bv 14 7) HT_ ?_ ?_ ?_; rotate_left; (intro w'; go_simp; with_reducible rfl); rotate_left; (simp only [Act.put, sA, sZ, sS, i64_w, i32_w]; rfl)
               refine puA (i := 3) (N := 97) (v := ?_) (a' := ?_) (bv 14 15) HT_ ?_ ?_ ?_; rotate_left; (intro w'; go_simp; with_reducible rfl); rotate_left; (simp only [Act.put, sA, sZ, sS, i64_w, i32_w]; rfl)
               refine puA (i := 4) (N := 98) (v := ?_) (a' := ?_) (bv 14 31) HT_ ?_ ?_ ?_; rotate_left; (intro w'; go_simp; with_reducible rfl); rotate_left; (simp only [Act.put, sA, sZ, sS, i64_w, i32_w]; rfl)
               refine puA (i := 5) (N := 99) (v := ?_) (a' := ?_) (bv 14 63) HT_ ?_ ?_ ?_; rotate_left; (intro w'; go_simp; with_reducible rfl); rotate_left; (simp only [Act.put, sA, sZ, sS, i64_w, i32_w]; rfl)
               refine puA (i := 6) (N := 100) (v := ?_) (a' := ?_) (bv 14 127) HT_ ?_ ?_ ?_; rotate_left; (intro w'; go_simp; with_reducible rfl); rotate_left; (simp only [Act.put, sA, sZ, sS, i64_w, i32_w]; rfl)
               refine take_ (i := 7) (N := some 101) (v := ?_) (a' := ?_) (bv 14 255) rfl rfl (take_ofW HT_.out HW_.out (by kernel_rfl)) (fun _ _ _ h => h) (Or.inl ⟨by rfl, ?_⟩) hHeld ?_ ?_; rotate_left; (rintro w' ⟨s0, s1, s2, s3, s4, s5, s6, s7, s8⟩; go_simp; with_reducible rfl); rotate_left; (simp only [Act.put, sA, sZ, sS, i64_w, i32_w]; rfl)
               refine take_ (i := 8) (N := some 102) (v := ?_) (a' := ?_) (bv 14 511) rfl rfl (take_ofW HT_.out HW_.out (by kernel_rfl)) (fun _ _ _ h => h) (Or.inl ⟨by rfl, ?_⟩) hHeld ?_ ?_; rotate_left; (rintro w' ⟨s0, s1, s2, s3, s4, s5, s6, s7, s8⟩; go_simp; with_reducible rfl); rotate_left; (simp only [Act.put, sA, sZ, sS, i64_w, i32_w]; rfl)
               refine take_ (i := 9) (N := some 103) (v := ?_) (a' := ?_) (bv 14 1023) rfl rfl (take_ofW HT_.out HW_.out (by kernel_rfl)) (fun _ _ _ h => h) (Or.inl ⟨by rfl, ?_⟩) hHeld ?_ ?_; rotate_left; (rintro w' ⟨s0, s1, s2, s3, s4, s5, s6, s7, s8⟩; go_simp; with_reducible rfl); rotate_left; (simp only [Act.put, sA, sZ, sS, i64_w, i32_w]; rfl)
               refine one_ (i := 10) (N := some 104) (bv 14 2047) rfl rfl (one_of HT_.out (by kernel_rfl)) (by decide) (fun K hK => ?_)
               refine goes_ Try.func27 (by kernel_rfl) rfl #[.agg #[.bool a0_0, .slice A0_1 l0_1.length c0_1, .slice A0_2 l0_2.length c0_2], .agg #[.bool t1139, .slice Ao98 t1140.length co98, .slice Ao99 t1143.length co99]] (by rfl) rfl rfl (by go_simp <;> rfl) ?_
               with_reducible refine (ratio_Mul.calls kj52 a0_0 (fun k_ => k_ < w.heap.size) _ _ l0_1 _ _ l0_2 t1139 (fun k_ => some k_ = (.slice Ao98 t1140.length co98 : Value).ownBlock) _ _ t1140 _ _ t1143 t1148 t1149 t1152 _ ?side1 ?side2 ?side3 ?side4 ?side5 ?side6 A80.out).mono ?_
               (case side1 => exact Kd.V_mk HC0_1.out (Kd.F_below (Kd.C_F (Kd.heap_int .u32) HR0_1.out) (by repeat (first | exact HB.out | apply bN | apply b1 | apply bA | refine bS ?_ GE1105.out | refine bS ?_ GE1116.out | refine bS ?_ GE1138.out | refine bS ?_ GE1147.out))))
               (case side2 => repeat (first | exact (Cb HR0_2.out HB.out) | (with_reducible refine Kd.C_alloc ?_ _) | (with_reducible refine Kd.C_drewN ?_ _) | (with_reducible refine Kd.C_drew ?_)))
               (case side3 => exact HC0_2.out)
               (case side4 => exact Kd.R_V (Kd.R_tight rfl (Rt (Rt (Rt (Rt (Kd.R_apart' (HO1142.out) (Kd.R_typed HO_9.out) (by decide)) BK1105.out (by decide)) BK1116.out (by decide)) BK1138.out (by decide)) BK1147.out (by decide))))
               (case side5 => repeat (first | exact (Kd.V_reads' HO1145.out).2.2 | (with_reducible refine Kd.C_alloc ?_ _) | (with_reducible refine Kd.C_drewN ?_ _) | (with_reducible refine Kd.C_drew ?_)))
               (case side6 => exact (Kd.V_reads' HO1145.out).2.1)
               rintro e w102 ⟨v1150, v1153, rfl, ho0, ho1, hb⟩
               refine ⟨_, rfl, ?_⟩
               replace HO_1117002 := mk0 (Kd.V_elder' HO_1117002.out (Rs ho0) hb)
               replace HO1136 := mk0 (Kd.V_elder' HO1136.out (Rs ho0) hb)
               replace HO1145 := mk0 (Kd.V_elder' HO1145.out (Rs ho0) hb)
               have HO1151 := mk0 (Rl (Rn (Rn (Rn (Rm (ok' := fun k_ => True) ho0 tv) (Rq HO_1117001.out)) (Rq HO1133.out)) (Rq HO1142.out)) (bZ (by repeat (first | exact HB.out | apply bN | apply b1 | apply bA | refine bS ?_ GE1105.out | refine bS ?_ GE1116.out | refine bS ?_ GE1138.out | refine bS ?_ GE1147.out))))
               have HO1154 := mk0 (Vl (Vm (ok' := fun k_ => some k_ ≠ (v1150 : Value).ownBlock ∧ some k_ ≠ (.slice Ao83 x9_52.length co83 : Value).ownBlock ∧ some k_ ≠ (.slice Ao38 t1109.length co38 : Value).ownBlock ∧ some k_ ≠ (.slice Ao90 t1131.length co90 : Value).ownBlock ∧ k_ ≠ gb1105 ∧ k_ ≠ gb1116 ∧ k_ ≠ gb1138 ∧ k_ ≠ gb1147) ho1 (fun k_ hk_ => ⟨hk_.2, Or.elim hk_.1 (fun hs_ => Or.elim hs_ (fun hs_ => fun e_ => Nat.not_le.2 hs_ (Rs HO_9.out k_ e_.symm)) (fun hs_ => ((Rt (Rt (Rt (Rt (Kd.R_apart' (HO1142.out) (Kd.R_typed HO_9.out) (by decide)) BK1105.out (by decide)) BK1116.out (by decide)) BK1138.out (by decide)) BK1147.out (by decide)).1 k_ hs_.symm).1.1.1.1.2)) (fun hn_ => (Kd.fresh' (Rq HO_9.out) k_ hn_)), Or.elim hk_.1 (fun hs_ => Or.elim hs_ (fun hs_ => fun e_ => Nat.not_le.2 hs_ (Rs HO_1117001.out k_ e_.symm)) (fun hs_ => ((Rt (Rt (Rt (Rt (Kd.R_apart' (HO1142.out) (Kd.R_typed HO_9.out) (by decide)) BK1105.out (by decide)) BK1116.out (by decide)) BK1138.out (by decide)) BK1147.out (by decide)).1 k_ hs_.symm).1.1.1.1.1.1)) (fun hn_ => (Kd.fresh' (Rq HO_1117001.out) k_ hn_)), Or.elim hk_.1 (fun hs_ => Or.elim hs_ (fun hs_ => fun e_ => Nat.not_le.2 hs_ (Rs HO1133.out k_ e_.symm)) (fun hs_ => ((Rt (Rt (Rt (Rt (Kd.R_apart' (HO1142.out) (Kd.R_typed HO_9.out) (by decide)) BK1105.out (by decide)) BK1116.out (by decide)) BK1138.out (by decide)) BK1147.out (by decide)).1 k_ hs_.symm).1.1.1.1.1.2)) (fun hn_ => (Kd.fresh' (Rq HO1133.out) k_ hn_)), Or.elim hk_.1 (fun hs_ => Or.elim hs_ (fun hs_ => fun e_ => Nat.not_le.2 hs_ (by rw [e_]; exact GE1105.out)) (fun hs_ => ((Rt (Rt (Rt (Rt (Kd.R_apart' (HO1142.out) (Kd.R_typed HO_9.out) (by decide)) BK1105.out (by decide)) BK1116.out (by decide)) BK1138.out (by decide)) BK1147.out (by decide)).1 k_ hs_.symm).1.1.1.2)) (fun hn_ => (Kd.freshB BK1105.out k_ hn_)), Or.elim hk_.1 (fun hs_ => Or.elim hs_ (fun hs_ => fun e_ => Nat.not_le.2 hs_ (by rw [e_]; exact GE1116.out)) (fun hs_ => ((Rt (Rt (Rt (Rt (Kd.R_apart' (HO1142.out) (Kd.R_typed HO_9.out) (by decide)) BK1105.out (by decide)) BK1116.out (by decide)) BK1138.out (by decide)) BK1147.out (by decide)).1 k_ hs_.symm).1.1.2)) (fun hn_ => (Kd.freshB BK1116.out k_ hn_)), Or.elim hk_.1 (fun hs_ => Or.elim hs_ (fun hs_ => fun e_ => Nat.not_le.2 hs_ (by rw [e_]; exact GE1138.out)) (fun hs_ => ((Rt (Rt (Rt (Rt (Kd.R_apart' (HO1142.out) (Kd.R_typed HO_9.out) (by decide)) BK1105.out (by decide)) BK1116.out (by decide)) BK1138.out (by decide)) BK1147.out (by decide)).1 k_ hs_.symm).1.2)) (fun hn_ => (Kd.freshB BK1138.out k_ hn_)), Or.elim hk_.1 (fun hs_ => Or.elim hs_ (fun hs_ => fun e_ => Nat.not_le.2 hs_ (by rw [e_]; exact GE1147.out)) (fun hs_ => ((Rt (Rt (Rt (Rt (Kd.R_apart' (HO1142.out) (Kd.R_typed HO_9.out) (by decide)) BK1105.out (by decide)) BK1116.out (by decide)) BK1138.out (by decide)) BK1147.out (by decide)).1 k_ hs_.symm).2)) (fun hn_ => (Kd.freshB BK1147.out k_ hn_))⟩)) (bZ (by repeat (first | exact HB.out | apply bN | apply b1 | apply bA | refine bS ?_ GE1105.out | refine bS ?_ GE1116.out | refine bS ?_ GE1138.out | refine bS ?_ GE1147.out))))
               replace HO_9 := rB HO_9 hb
               replace HO_1117001 := mk0 (Re HO_1117001.out (Rs ho0) hb)
               replace HO1133 := mk0 (Re HO1133.out (Rs ho0) hb)
               replace HO1142 := mk0 (Re HO1142.out (Rs ho0) hb)
               replace BK1105 := bkB BK1105 hb
               replace BK1116 := bkB BK1116 hb
               replace BK1138 := bkB BK1138 hb
               replace BK1147 := bkB BK1147 hb
               replace HB := mk0 (below_step (by repeat (first | exact HB.out | apply bN | apply b1 | apply bA | refine bS ?_ GE1105.out | refine bS ?_ GE1116.out | refine bS ?_ GE1138.out | refine bS ?_ GE1147.out)) hb)
               obtain ⟨Ao103, co103, eo103⟩ := Kd.R_slice HO1151.out
               (first | subst eo103 | (injection eo103 with f1_ f2_ f3_; have f4_ := f1_.symm; have f5_ := f3_.symm; clear f1_ f2_ f3_; subst f4_; subst f5_))
               obtain ⟨Ao104, co104, eo104⟩ := Kd.V_slice HO1154.out
               (first | subst eo104 | (injection eo104 with f1_ f2_ f3_; have f4_ := f1_.symm; have f5_ := f3_.symm; clear f1_ f2_ f3_; subst f4_; subst f5_))
               refine hK.out _ _ ⟨(blk_cell BK1138.out 0).trans rfl, (blk_cell BK1138.out 1).trans rfl, (blk_cell BK1138.out 2).trans rfl, (blk_cell BK1105.out 0).trans rfl, (blk_cell BK1105.out 1).trans rfl, (blk_cell BK1105.out 2).trans rfl, (blk_cell BK1147.out 0).trans rfl, (blk_cell BK1147.out 1).trans rfl, (blk_cell BK1147.out 2).trans rfl⟩ (fun hHeld => ?_)
               clear hK K
               refine norm_ (a' := ?_) ?_ ?_
               rotate_left
               ·show Act.put _ (some 104) _ = _
                simp only [Act.put, sA, sZ, sS, i64_w, i32_w]
                rfl
               refine one_ (i := 11) (N := some 105) (bv 14 4095) rfl rfl (one_of HT_.out (by kernel_rfl)) (by decide) (fun K hK => ?_)
               refine goes_ Try.func26 (by kernel_rfl) rfl #[.agg #[.bool t1130, .slice Ao90 t1131.length co90, .slice Ao91 t1134.length co91], .agg #[.bool t1148, .slice Ao103 t1149.length co103, .slice Ao104 t1152.length co104]] (by rfl) rfl rfl (by go_simp <;> rfl) ?_
               with_reducible refine (ratio_Cmp.calls kj52 t1130 _ _ t1131 _ _ t1134 t1148 _ _ t1149 _ _ t1152 t1155 _ ?side1 ?side2 ?side3 ?side4 ?side5 ?side6 ?side7 ?side8 A81.out).mono ?_
               (case side1 => repeat (first | exact (Kd.R_reads' HO1133.out).2.2 | (with_reducible refine Kd.C_alloc ?_ _) | (with_reducible refine Kd.C_drewN ?_ _) | (with_reducible refine Kd.C_drew ?_)))
               (case side2 => exact (Kd.R_reads' HO1133.out).2.1)
               (case side3 => repeat (first | exact (Kd.V_reads' HO1136.out).2.2 | (with_reducible refine Kd.C_alloc ?_ _) | (with_reducible refine Kd.C_drewN ?_ _) | (with_reducible refine Kd.C_drew ?_)))
               (case side4 => exact (Kd.V_reads' HO1136.out).2.1)
               (case side5 => repeat (first | exact (Kd.R_reads' HO1151.out).2.2 | (with_reducible refine Kd.C_alloc ?_ _) | (with_reducible refine Kd.C_drewN ?_ _) | (with_reducible refine Kd.C_drew ?_)))
               (case side6 => exact (Kd.R_reads' HO1151.out).2.1)
               (case side7 => repeat (first | exact (Kd.V_reads' HO1154.out).2.2 | (with_reducible refine Kd.C_alloc ?_ _) | (with_reducible refine Kd.C_drewN ?_ _) | (with_reducible refine Kd.C_drew ?_)))
               (case side8 => exact (Kd.V_reads' HO1154.out).2.1)
               rintro e w105 ⟨rfl, hb⟩
               refine ⟨_, rfl, ?_⟩
               replace HO_9 := rB HO_9 hb
               replace HO_1117001 := rB HO_1117001 hb
               replace HO_1117002 := mk0 (Kd.V_below HO_1117002.out hb)
               replace HO1133 := rB HO1133 hb
               replace HO1136 := mk0 (Kd.V_below HO1136.out hb)
               replace HO1142 := rB HO1142 hb
               replace HO1145 := mk0 (Kd.V_below HO1145.out hb)
               replace HO1151 := rB HO1151 hb
               replace HO1154 := mk0 (Kd.V_below HO1154.out hb)
               replace BK1105 := bkB BK1105 hb
               replace BK1116 := bkB BK1116 hb
               replace BK1138 := bkB BK1138 hb
               replace BK1147 := bkB BK1147 hb
               replace HB := mk0 (below_step (by repeat (first | exact HB.out | apply bN | apply b1 | apply bA | refine bS ?_ GE1105.out | refine bS ?_ GE1116.out | refine bS ?_ GE1138.out | refine bS ?_ GE1147.out)) hb)
               refine hK.out _ _ ⟨(blk_cell BK1138.out 0).trans rfl, (blk_cell BK1138.out 1).trans rfl, (blk_cell BK1138.out 2).trans rfl, (blk_cell BK1105.out 0).trans rfl, (blk_cell BK1105.out 1).trans rfl, (blk_cell BK1105.out 2).trans rfl, (blk_cell BK1147.out 0).trans rfl, (blk_cell BK1147.out 1).trans rfl, (blk_cell BK1147.out 2).trans rfl⟩ (fun hHeld => ?_)
               clear hK K
               refine norm_ (a' := ?_) ?_ ?_
               rotate_left
               ·show Act.put _ (some 105) _ = _
                simp only [Act.put, sA, sZ, sS, i64_w, i32_w]
                rfl
               refine puA (i := 12) (N := 106) (v := ?_) (a' := ?_) (bv 14 8191) HT_ ?_ ?_ ?_; rotate_left; (intro w'; go_simp; with_reducible rfl); rotate_left; (simp only [Act.put, sA, sZ, sS, i64_w, i32_w]; rfl)
               refine puA (i := 13) (N := 107) (v := ?_) (a' := ?_) (bv 14 16383) HT_ ?_ ?_ ?_; rotate_left; (intro w'; go_simp; with_reducible rfl); rotate_left; (simp only [Act.put, sA, sZ, sS, i64_w, i32_w]; rfl)
               refine done_ (done_of HT_.out (by kernel_rfl)) ?_
               try go_wp2
               go_ret
               exact ⟨by first | rfl | (simp [errW_none, errW_some] <;> rfl) | (simp [*, errW_none, errW_some] <;> rfl), by repeat (first | exact HB.out | apply bN | apply b1 | apply bA | refine bS ?_ GE1105.out | refine bS ?_ GE1116.out | refine bS ?_ GE1138.out | refine bS ?_ GE1147.out)⟩
              ·rw [if_neg c82] at H
               have c82b0 : decide (0 < t1155) = false := decide_eq_false c82
               clear c82
               have H' := mk0 H
               clear H
               obtain ⟨Ao106, co106, eo106⟩ := Kd.R_slice HO_9.out
               subst eo106
               try go_wp2_with (first | ((with_reducible refine gate_callee (f := 17) rfl ?_); refine goA 82 Try.func17 #[.slice Ao106 x9_52.length co106, .int .i64 7] ?_; (with_reducible refine (exposure_Count.calls kj52 _ _ x9_52 7 t1129 _ (by exact (Kd.R_reads' HO_9.out).2.2) (by exact (Kd.R_reads' HO_9.out).2.1) A75.out).mono ?_); rintro e w107 ⟨rfl, hb⟩; refine ⟨_, rfl, ?_⟩; replace HO_9 := rB HO_9 hb; replace HO_1117001 := rB HO_1117001 hb; replace HO_1117002 := mk0 (Kd.V_below HO_1117002.out hb); replace BK1105 := bkB BK1105 hb; replace BK1116 := bkB BK1116 hb; replace HB := hbS HB hb) | ((with_reducible refine gate_callee (f := 16) rfl ?_); refine goA 83 Try.func16 #[.int .i64 t1129, .int .i64 1] ?_; (with_reducible refine (ratio_Of.calls kj52 t1129 1 t1130 t1131 t1134 true _ A76.out).mono ?_); rintro e w108 ⟨v1132, v1135, rfl, ho0, ho1, hb⟩; refine ⟨_, rfl, ?_⟩; replace HO_1117002 := mk0 (Kd.V_elder' HO_1117002.out (Rs ho0) hb); have HO1133 := mk0 (Rl (Rn (Rm (ok' := fun k_ => True) ho0 tv) (Rq HO_1117001.out)) (bZ HB.out)); have HO1136 := mk0 (Vl (Vm (ok' := fun k_ => some k_ ≠ (v1132 : Value).ownBlock ∧ some k_ ≠ (.slice Ao106 x9_52.length co106 : Value).ownBlock ∧ some k_ ≠ (.slice Ao38 t1109.length co38 : Value).ownBlock ∧ k_ ≠ gb1105 ∧ k_ ≠ gb1116) ho1 (fun k_ hk_ => ⟨hk_.2, (Kd.fresh' (Rq HO_9.out) k_ hk_.1), (Kd.fresh' (Rq HO_1117001.out) k_ hk_.1), (Kd.freshB BK1105.out k_ hk_.1), (Kd.freshB BK1116.out k_ hk_.1)⟩)) (bZ HB.out)); replace HO_9 := rB HO_9 hb; replace HO_1117001 := mk0 (Re HO_1117001.out (Rs ho0) hb); replace BK1105 := bkB BK1105 hb; replace BK1116 := bkB BK1116 hb; replace HB := hbS HB hb) | ((with_reducible refine gate_dst (N := 14) rfl ?_); (try (refine gate_guard (by rfl) ?_; dsimp only)); refine box_event rfl (N := 14) rfl (cs := #[.bool false, .slice none 0 0, .slice none 0 0]) (t := 29) (by go_simp <;> rfl) ?_; intro gb1138 hg w109 hbox hb; replace HO_9 := rB HO_9 hb; replace HO_1117001 := rB HO_1117001 hb; replace HO_1117002 := vB HO_1117002 hg hb; replace HO1133 := rB HO1133 hb; replace HO1136 := vB HO1136 hg hb; have BK1138 := mk0 (hbox); have GE1138 := geB hg HB; replace HB := hbS HB hb; have NB1105_1138 := nbA hg BK1105; have NB1138_1105 := nbB hg BK1105; replace BK1105 := bkB BK1105 hb; have NB1116_1138 := nbA hg BK1116; have NB1138_1116 := nbB hg BK1116; replace BK1116 := bkB BK1116 hb; clear hb hbox hg; have hnb110 := NB1138_1105.out; have hnc110 := NB1105_1138.out; have hnb111 := NB1138_1116.out; have hnc111 := NB1116_1138.out; obtain ⟨hcz112_0, hcz112_1, hcz112_2, hfz112_0, hfz112_1, hfz112_2⟩ := cz3 BK1138; obtain ⟨Ao113, co113, eo113⟩ := Kd.R_slice HO1133.out; subst eo113; obtain ⟨Ao114, co114, eo114⟩ := Kd.V_slice HO1136.out; subst eo114) | ((with_reducible refine gate_callee (f := 16) rfl ?_); refine goA 91 Try.func16 #[.int .i64 (wrap64 ((wrap64 (x10_2 + 1)) + a1)), .int .i64 1] ?_; (with_reducible refine (ratio_Of.calls kj52 (wrap64 ((wrap64 (x10_2 + 1)) + a1)) 1 t1139 t1140 t1143 true _ A77.out).mono ?_); rintro e w115 ⟨v1141, v1144, rfl, ho0, ho1, hb⟩; refine ⟨_, rfl, ?_⟩; replace HO_1117002 := mk0 (Kd.V_elder' ((Vm (Vf (p := ⟨gb1138, 2, none⟩) (Vf (p := ⟨gb1138, 1, none⟩) (Vf (p := ⟨gb1138, 0, none⟩) (Vm HO_1117002.out (fun k_ hk => (⟨hk, hk.2⟩ : _ ∧ k_ ≠ gb1138))) (fun _ hk => hk.2) (.bool t1130)) (fun _ hk => hk.2) (.slice Ao113 t1131.length co113)) (fun _ hk => hk.2) (.slice Ao114 t1134.length co114)) (fun _ h_ => h_.1))) (Rs ho0) hb); replace HO1136 := mk0 (Kd.V_elder' ((Vm (Vf (p := ⟨gb1138, 2, none⟩) (Vf (p := ⟨gb1138, 1, none⟩) (Vf (p := ⟨gb1138, 0, none⟩) (Vm HO1136.out (fun k_ hk => (⟨hk, hk.2⟩ : _ ∧ k_ ≠ gb1138))) (fun _ hk => hk.2) (.bool t1130)) (fun _ hk => hk.2) (.slice Ao113 t1131.length co113)) (fun _ hk => hk.2) (.slice Ao114 t1134.length co114)) (fun _ h_ => h_.1))) (Rs ho0) hb); have HO1142 := mk0 (Rl (Rn (Rn (Rm (ok' := fun k_ => True) ho0 tv) (Rq ((Rm (Rf (p := ⟨gb1138, 2, none⟩) (Rf (p := ⟨gb1138, 1, none⟩) (Rf (p := ⟨gb1138, 0, none⟩) (Rt HO_1117001.out BK1138.out (by decide)) (fun _ hk => hk.2) (.bool t1130)) (fun _ hk => hk.2) (.slice Ao113 t1131.length co113)) (fun _ hk => hk.2) (.slice Ao114 t1134.length co114)) (fun _ h_ => h_.1))))) (Rq ((Rm (Rf (p := ⟨gb1138, 2, none⟩) (Rf (p := ⟨gb1138, 1, none⟩) (Rf (p := ⟨gb1138, 0, none⟩) (Rt HO1133.out BK1138.out (by decide)) (fun _ hk => hk.2) (.bool t1130)) (fun _ hk => hk.2) (.slice Ao113 t1131.length co113)) (fun _ hk => hk.2) (.slice Ao114 t1134.length co114)) (fun _ h_ => h_.1))))) (bZ (by repeat (first | exact HB.out | refine bS ?_ GE1116.out | refine bS ?_ GE1138.out)))); have HO1145 := mk0 (Vl (Vm (ok' := fun k_ => some k_ ≠ (v1141 : Value).ownBlock ∧ some k_ ≠ (.slice Ao106 x9_52.length co106 : Value).ownBlock ∧ some k_ ≠ (.slice Ao38 t1109.length co38 : Value).ownBlock ∧ some k_ ≠ (.slice Ao113 t1131.length co113 : Value).ownBlock ∧ k_ ≠ gb1105 ∧ k_ ≠ gb1116 ∧ k_ ≠ gb1138) ho1 (fun k_ hk_ => ⟨hk_.2, (Kd.fresh' (Rq ((Rm (Rf (p := ⟨gb1138, 2, none⟩) (Rf (p := ⟨gb1138, 1, none⟩) (Rf (p := ⟨gb1138, 0, none⟩) (Rt HO_9.out BK1138.out (by decide)) (fun _ hk => hk.2) (.bool t1130)) (fun _ hk => hk.2) (.slice Ao113 t1131.length co113)) (fun _ hk => hk.2) (.slice Ao114 t1134.length co114)) (fun _ h_ => h_.1)))) k_ hk_.1), (Kd.fresh' (Rq ((Rm (Rf (p := ⟨gb1138, 2, none⟩) (Rf (p := ⟨gb1138, 1, none⟩) (Rf (p := ⟨gb1138, 0, none⟩) (Rt HO_1117001.out BK1138.out (by decide)) (fun _ hk => hk.2) (.bool t1130)) (fun _ hk => hk.2) (.slice Ao113 t1131.length co113)) (fun _ hk => hk.2) (.slice Ao114 t1134.length co114)) (fun _ h_ => h_.1)))) k_ hk_.1), (Kd.fresh' (Rq ((Rm (Rf (p := ⟨gb1138, 2, none⟩) (Rf (p := ⟨gb1138, 1, none⟩) (Rf (p := ⟨gb1138, 0, none⟩) (Rt HO1133.out BK1138.out (by decide)) (fun _ hk => hk.2) (.bool t1130)) (fun _ hk => hk.2) (.slice Ao113 t1131.length co113)) (fun _ hk => hk.2) (.slice Ao114 t1134.length co114)) (fun _ h_ => h_.1)))) k_ hk_.1), (Kd.freshB (g := gb1105) (o := .cells #[.bool a0_0, .slice A0_1 l0_1.length c0_1, .slice A0_2 l0_2.length c0_2] 29 (0, 0)) (by refine blk_far ?_ NB1105_1138.out _; refine blk_far ?_ NB1105_1138.out _; refine blk_far ?_ NB1105_1138.out _; exact BK1105.out) k_ hk_.1), (Kd.freshB (g := gb1116) (o := .cells #[.bool t1108, .slice Ao38 t1109.length co38, .slice Ao39 t1112.length co39] 29 (0, 0)) (by refine blk_far ?_ NB1116_1138.out _; refine blk_far ?_ NB1116_1138.out _; refine blk_far ?_ NB1116_1138.out _; exact BK1116.out) k_ hk_.1), (Kd.freshB (g := gb1138) (o := .cells #[.bool t1130, .slice Ao113 t1131.length co113, .slice Ao114 t1134.length co114] 29 (0, 0)) (by refine blk_put (cs := #[.bool t1130, .slice Ao113 t1131.length co113, .slice none 0 0]) ?_ 2 _ rfl; refine blk_put (cs := #[.bool t1130, .slice none 0 0, .slice none 0 0]) ?_ 1 _ rfl; refine blk_put (cs := #[.bool false, .slice none 0 0, .slice none 0 0]) ?_ 0 _ rfl; exact BK1138.out) k_ hk_.1)⟩)) (bZ (by repeat (first | exact HB.out | refine bS ?_ GE1116.out | refine bS ?_ GE1138.out)))); replace HO_9 := mk0 (Rb ((Rm (Rf (p := ⟨gb1138, 2, none⟩) (Rf (p := ⟨gb1138, 1, none⟩) (Rf (p := ⟨gb1138, 0, none⟩) (Rt HO_9.out BK1138.out (by decide)) (fun _ hk => hk.2) (.bool t1130)) (fun _ hk => hk.2) (.slice Ao113 t1131.length co113)) (fun _ hk => hk.2) (.slice Ao114 t1134.length co114)) (fun _ h_ => h_.1))) hb); replace HO_1117001 := mk0 (Re ((Rm (Rf (p := ⟨gb1138, 2, none⟩) (Rf (p := ⟨gb1138, 1, none⟩) (Rf (p := ⟨gb1138, 0, none⟩) (Rt HO_1117001.out BK1138.out (by decide)) (fun _ hk => hk.2) (.bool t1130)) (fun _ hk => hk.2) (.slice Ao113 t1131.length co113)) (fun _ hk => hk.2) (.slice Ao114 t1134.length co114)) (fun _ h_ => h_.1))) (Rs ho0) hb); replace HO1133 := mk0 (Re ((Rm (Rf (p := ⟨gb1138, 2, none⟩) (Rf (p := ⟨gb1138, 1, none⟩) (Rf (p := ⟨gb1138, 0, none⟩) (Rt HO1133.out BK1138.out (by decide)) (fun _ hk => hk.2) (.bool t1130)) (fun _ hk => hk.2) (.slice Ao113 t1131.length co113)) (fun _ hk => hk.2) (.slice Ao114 t1134.length co114)) (fun _ h_ => h_.1))) (Rs ho0) hb); replace BK1105 := mk0 (blk_below (g := gb1105) (o := .cells #[.bool a0_0, .slice A0_1 l0_1.length c0_1, .slice A0_2 l0_2.length c0_2] 29 (0, 0)) (by refine blk_far ?_ NB1105_1138.out _; refine blk_far ?_ NB1105_1138.out _; refine blk_far ?_ NB1105_1138.out _; exact BK1105.out) hb); replace BK1116 := mk0 (blk_below (g := gb1116) (o := .cells #[.bool t1108, .slice Ao38 t1109.length co38, .slice Ao39 t1112.length co39] 29 (0, 0)) (by refine blk_far ?_ NB1116_1138.out _; refine blk_far ?_ NB1116_1138.out _; refine blk_far ?_ NB1116_1138.out _; exact BK1116.out) hb); replace BK1138 := mk0 (blk_below (g := gb1138) (o := .cells #[.bool t1130, .slice Ao113 t1131.length co113, .slice Ao114 t1134.length co114] 29 (0, 0)) (by refine blk_put (cs := #[.bool t1130, .slice Ao113 t1131.length co113, .slice none 0 0]) ?_ 2 _ rfl; refine blk_put (cs := #[.bool t1130, .slice none 0 0, .slice none 0 0]) ?_ 1 _ rfl; refine blk_put (cs := #[.bool false, .slice none 0 0, .slice none 0 0]) ?_ 0 _ rfl; exact BK1138.out) hb); replace HB := mk0 (below_step (by repeat (first | exact HB.out | refine bS ?_ GE1116.out | refine bS ?_ GE1138.out)) hb)) | ((with_reducible refine gate_dst (N := 16) rfl ?_); (try (refine gate_guard (by rfl) ?_; dsimp only)); refine box_event rfl (N := 16) rfl (cs := #[.bool false, .slice none 0 0, .slice none 0 0]) (t := 29) (by go_simp <;> rfl) ?_; intro gb1147 hg w116 hbox hb; replace HO_9 := rB HO_9 hb; replace HO_1117001 := rB HO_1117001 hb; replace HO_1117002 := vB HO_1117002 hg hb; replace HO1133 := rB HO1133 hb; replace HO1136 := vB HO1136 hg hb; replace HO1142 := rB HO1142 hb; replace HO1145 := vB HO1145 hg hb; have BK1147 := mk0 (hbox); have GE1147 := geB hg HB; replace HB := hbS HB hb; have NB1105_1147 := nbA hg BK1105; have NB1147_1105 := nbB hg BK1105; replace BK1105 := bkB BK1105 hb; have NB1116_1147 := nbA hg BK1116; have NB1147_1116 := nbB hg BK1116; replace BK1116 := bkB BK1116 hb; have NB1138_1147 := nbA hg BK1138; have NB1147_1138 := nbB hg BK1138; replace BK1138 := bkB BK1138 hb; clear hb hbox hg; have hnb117 := NB1147_1105.out; have hnc117 := NB1105_1147.out; have hnb118 := NB1147_1116.out; have hnc118 := NB1116_1147.out; have hnb119 := NB1147_1138.out; have hnc119 := NB1138_1147.out; obtain ⟨hcz120_0, hcz120_1, hcz120_2, hfz120_0, hfz120_1, hfz120_2⟩ := cz3 BK1147; obtain ⟨Ao121, co121, eo121⟩ := Kd.R_slice HO1142.out; subst eo121; obtain ⟨Ao122, co122, eo122⟩ := Kd.V_slice HO1145.out; subst eo122))
               have n0_ : Aside0 (Kd.R k50 50 (((w116.setCell ⟨gb1147, 0, none⟩ (.bool t1139)).setCell ⟨gb1147, 1, none⟩ (.slice Ao121 t1140.length co121)).setCell ⟨gb1147, 2, none⟩ (.slice Ao122 t1143.length co122)) w.heap.size (fun _ => True) (.slice Ao106 x9_52.length co106) x9_52) := ⟨Rm (Rf (p := ⟨gb1147, 2, none⟩) (Rf (p := ⟨gb1147, 1, none⟩) (Rf (p := ⟨gb1147, 0, none⟩) (Rt HO_9.out BK1147.out (by decide)) (fun _ hk => hk.2) (.bool t1139)) (fun _ hk => hk.2) (.slice Ao121 t1140.length co121)) (fun _ hk => hk.2) (.slice Ao122 t1143.length co122)) tv⟩
               have n1_ : Aside0 (Kd.R (Kd.int .u32) 87 (((w116.setCell ⟨gb1147, 0, none⟩ (.bool t1139)).setCell ⟨gb1147, 1, none⟩ (.slice Ao121 t1140.length co121)).setCell ⟨gb1147, 2, none⟩ (.slice Ao122 t1143.length co122)) w.heap.size (fun k_ => some k_ ≠ (.slice Ao113 t1131.length co113 : Value).ownBlock ∧ some k_ ≠ (.slice Ao121 t1140.length co121 : Value).ownBlock) (.slice Ao38 t1109.length co38) t1109) := ⟨Rm (Rf (p := ⟨gb1147, 2, none⟩) (Rf (p := ⟨gb1147, 1, none⟩) (Rf (p := ⟨gb1147, 0, none⟩) (Rt HO_1117001.out BK1147.out (by decide)) (fun _ hk => hk.2) (.bool t1139)) (fun _ hk => hk.2) (.slice Ao121 t1140.length co121)) (fun _ hk => hk.2) (.slice Ao122 t1143.length co122)) (fun _ hk => ⟨hk.1.1.2, hk.1.2⟩)⟩
               have n2_ : Aside0 (Kd.V (Kd.int .u32) 87 (((w116.setCell ⟨gb1147, 0, none⟩ (.bool t1139)).setCell ⟨gb1147, 1, none⟩ (.slice Ao121 t1140.length co121)).setCell ⟨gb1147, 2, none⟩ (.slice Ao122 t1143.length co122)) w.heap.size (fun k_ => some k_ ≠ (.slice Ao106 x9_52.length co106 : Value).ownBlock ∧ some k_ ≠ (.slice Ao38 t1109.length co38 : Value).ownBlock ∧ some k_ ≠ (.slice Ao113 t1131.length co113 : Value).ownBlock ∧ some k_ ≠ (.slice Ao121 t1140.length co121 : Value).ownBlock ∧ k_ ≠ gb1105 ∧ k_ ≠ gb1116 ∧ k_ ≠ gb1138 ∧ k_ ≠ gb1147) (.slice Ao39 t1112.length co39) t1112) := ⟨Vm (Vf (p := ⟨gb1147, 2, none⟩) (Vf (p := ⟨gb1147, 1, none⟩) (Vf (p := ⟨gb1147, 0, none⟩) (Vm HO_1117002.out (fun k_ hk => (⟨hk, hk.2⟩ : _ ∧ k_ ≠ gb1147))) (fun _ hk => hk.2) (.bool t1139)) (fun _ hk => hk.2) (.slice Ao121 t1140.length co121)) (fun _ hk => hk.2) (.slice Ao122 t1143.length co122)) (fun _ hk => ⟨hk.1.1.1.1.1.1, ⟨hk.1.1.1.1.1.2.1, ⟨hk.1.1.1.1.2, ⟨hk.1.1.2, ⟨hk.1.1.1.1.1.2.2.1, ⟨hk.1.1.1.1.1.2.2.2, ⟨hk.1.1.1.2, hk.1.2⟩⟩⟩⟩⟩⟩⟩)⟩
               have n3_ : Aside0 (Kd.R (Kd.int .u32) 87 (((w116.setCell ⟨gb1147, 0, none⟩ (.bool t1139)).setCell ⟨gb1147, 1, none⟩ (.slice Ao121 t1140.length co121)).setCell ⟨gb1147, 2, none⟩ (.slice Ao122 t1143.length co122)) w.heap.size (fun k_ => some k_ ≠ (.slice Ao38 t1109.length co38 : Value).ownBlock ∧ some k_ ≠ (.slice Ao121 t1140.length co121 : Value).ownBlock) (.slice Ao113 t1131.length co113) t1131) := ⟨Rm (Rf (p := ⟨gb1147, 2, none⟩) (Rf (p := ⟨gb1147, 1, none⟩) (Rf (p := ⟨gb1147, 0, none⟩) (Rt HO1133.out BK1147.out (by decide)) (fun _ hk => hk.2) (.bool t1139)) (fun _ hk => hk.2) (.slice Ao121 t1140.length co121)) (fun _ hk => hk.2) (.slice Ao122 t1143.length co122)) (fun _ hk => ⟨hk.1.1.2, hk.1.2⟩)⟩
               have n4_ : Aside0 (Kd.V (Kd.int .u32) 87 (((w116.setCell ⟨gb1147, 0, none⟩ (.bool t1139)).setCell ⟨gb1147, 1, none⟩ (.slice Ao121 t1140.length co121)).setCell ⟨gb1147, 2, none⟩ (.slice Ao122 t1143.length co122)) w.heap.size (fun k_ => some k_ ≠ (.slice Ao106 x9_52.length co106 : Value).ownBlock ∧ some k_ ≠ (.slice Ao38 t1109.length co38 : Value).ownBlock ∧ some k_ ≠ (.slice Ao113 t1131.length co113 : Value).ownBlock ∧ some k_ ≠ (.slice Ao121 t1140.length co121 : Value).ownBlock ∧ k_ ≠ gb1105 ∧ k_ ≠ gb1116 ∧ k_ ≠ gb1138 ∧ k_ ≠ gb1147) (.slice Ao114 t1134.length co114) t1134) := ⟨Vm (Vf (p := ⟨gb1147, 2, none⟩) (Vf (p := ⟨gb1147, 1, none⟩) (Vf (p := ⟨gb1147, 0, none⟩) (Vm HO1136.out (fun k_ hk => (⟨hk, hk.2⟩ : _ ∧ k_ ≠ gb1147))) (fun _ hk => hk.2) (.bool t1139)) (fun _ hk => hk.2) (.slice Ao121 t1140.length co121)) (fun _ hk => hk.2) (.slice Ao122 t1143.length co122)) (fun _ hk => ⟨hk.1.1.1.1.2.1, ⟨hk.1.1.1.1.2.2.1, ⟨hk.1.1.1.1.1, ⟨hk.1.1.2, ⟨hk.1.1.1.1.2.2.2.1, ⟨hk.1.1.1.1.2.2.2.2, ⟨hk.1.1.1.2, hk.1.2⟩⟩⟩⟩⟩⟩⟩)⟩
               have n5_ : Aside0 (Kd.R (Kd.int .u32) 87 (((w116.setCell ⟨gb1147, 0, none⟩ (.bool t1139)).setCell ⟨gb1147, 1, none⟩ (.slice Ao121 t1140.length co121)).setCell ⟨gb1147, 2, none⟩ (.slice Ao122 t1143.length co122)) w.heap.size (fun k_ => some k_ ≠ (.slice Ao38 t1109.length co38 : Value).ownBlock ∧ some k_ ≠ (.slice Ao113 t1131.length co113 : Value).ownBlock) (.slice Ao121 t1140.length co121) t1140) := ⟨Rm (Rf (p := ⟨gb1147, 2, none⟩) (Rf (p := ⟨gb1147, 1, none⟩) (Rf (p := ⟨gb1147, 0, none⟩) (Rt HO1142.out BK1147.out (by decide)) (fun _ hk => hk.2) (.bool t1139)) (fun _ hk => hk.2) (.slice Ao121 t1140.length co121)) (fun _ hk => hk.2) (.slice Ao122 t1143.length co122)) (fun _ hk => ⟨hk.1.1.2, hk.1.2⟩)⟩
               have n6_ : Aside0 (Kd.V (Kd.int .u32) 87 (((w116.setCell ⟨gb1147, 0, none⟩ (.bool t1139)).setCell ⟨gb1147, 1, none⟩ (.slice Ao121 t1140.length co121)).setCell ⟨gb1147, 2, none⟩ (.slice Ao122 t1143.length co122)) w.heap.size (fun k_ => some k_ ≠ (.slice Ao106 x9_52.length co106 : Value).ownBlock ∧ some k_ ≠ (.slice Ao38 t1109.length co38 : Value).ownBlock ∧ some k_ ≠ (.slice Ao113 t1131.length co113 : Value).ownBlock ∧ some k_ ≠ (.slice Ao121 t1140.length co121 : Value).ownBlock ∧ k_ ≠ gb1105 ∧ k_ ≠ gb1116 ∧ k_ ≠ gb1138 ∧ k_ ≠ gb1147) (.slice Ao122 t1143.length co122) t1143) := ⟨Vm (Vf (p := ⟨gb1147, 2, none⟩) (Vf (p := ⟨gb1147, 1, none⟩) (Vf (p := ⟨gb1147, 0, none⟩) (Vm HO1145.out (fun k_ hk => (⟨hk, hk.2⟩ : _ ∧ k_ ≠ gb1147))) (fun _ hk => hk.2) (.bool t1139)) (fun _ hk => hk.2) (.slice Ao121 t1140.length co121)) (fun _ hk => hk.2) (.slice Ao122 t1143.length co122)) (fun _ hk => ⟨hk.1.1.2.1, ⟨hk.1.1.2.2.1, ⟨hk.1.1.2.2.2.1, ⟨hk.1.1.1, ⟨hk.1.1.2.2.2.2.1, ⟨hk.1.1.2.2.2.2.2.1, ⟨hk.1.1.2.2.2.2.2.2, hk.1.2⟩⟩⟩⟩⟩⟩⟩)⟩
               have n7_ : Aside0 ((((w116.setCell ⟨gb1147, 0, none⟩ (.bool t1139)).setCell ⟨gb1147, 1, none⟩ (.slice Ao121 t1140.length co121)).setCell ⟨gb1147, 2, none⟩ (.slice Ao122 t1143.length co122)).heap[gb1105]? = some (.cells #[.bool a0_0, .slice A0_1 l0_1.length c0_1, .slice A0_2 l0_2.length c0_2] 29 (0, 0))) := ⟨by refine blk_far ?_ NB1105_1147.out _; refine blk_far ?_ NB1105_1147.out _; refine blk_far ?_ NB1105_1147.out _; exact BK1105.out⟩
               have n8_ : Aside0 ((((w116.setCell ⟨gb1147, 0, none⟩ (.bool t1139)).setCell ⟨gb1147, 1, none⟩ (.slice Ao121 t1140.length co121)).setCell ⟨gb1147, 2, none⟩ (.slice Ao122 t1143.length co122)).heap[gb1116]? = some (.cells #[.bool t1108, .slice Ao38 t1109.length co38, .slice Ao39 t1112.length co39] 29 (0, 0))) := ⟨by refine blk_far ?_ NB1116_1147.out _; refine blk_far ?_ NB1116_1147.out _; refine blk_far ?_ NB1116_1147.out _; exact BK1116.out⟩
               have n9_ : Aside0 ((((w116.setCell ⟨gb1147, 0, none⟩ (.bool t1139)).setCell ⟨gb1147, 1, none⟩ (.slice Ao121 t1140.length co121)).setCell ⟨gb1147, 2, none⟩ (.slice Ao122 t1143.length co122)).heap[gb1138]? = some (.cells #[.bool t1130, .slice Ao113 t1131.length co113, .slice Ao114 t1134.length co114] 29 (0, 0))) := ⟨by refine blk_far ?_ NB1138_1147.out _; refine blk_far ?_ NB1138_1147.out _; refine blk_far ?_ NB1138_1147.out _; exact BK1138.out⟩
               have n10_ : Aside0 ((((w116.setCell ⟨gb1147, 0, none⟩ (.bool t1139)).setCell ⟨gb1147, 1, none⟩ (.slice Ao121 t1140.length co121)).setCell ⟨gb1147, 2, none⟩ (.slice Ao122 t1143.length co122)).heap[gb1147]? = some (.cells #[.bool t1139, .slice Ao121 t1140.length co121, .slice Ao122 t1143.length co122] 29 (0, 0))) := ⟨by refine blk_put (cs := #[.bool t1139, .slice Ao121 t1140.length co121, .slice none 0 0]) ?_ 2 _ rfl; refine blk_put (cs := #[.bool t1139, .slice none 0 0, .slice none 0 0]) ?_ 1 _ rfl; refine blk_put (cs := #[.bool false, .slice none 0 0, .slice none 0 0]) ?_ 0 _ rfl; exact BK1147.out⟩
               have n11_ : Aside0 (Below w.heap.size w (((w116.setCell ⟨gb1147, 0, none⟩ (.bool t1139)).setCell ⟨gb1147, 1, none⟩ (.slice Ao121 t1140.length co121)).setCell ⟨gb1147, 2, none⟩ (.slice Ao122 t1143.length co122))) := ⟨by repeat (first | exact HB.out | apply bN | apply b1 | apply bA | refine bS ?_ GE1105.out | refine bS ?_ GE1116.out | refine bS ?_ GE1138.out | refine bS ?_ GE1147.out)⟩
               (try clear HO_9)
               (try clear HO_1117001)
               (try clear HO_1117002)
               (try clear HO1133)
               (try clear HO1136)
               (try clear HO1142)
               (try clear HO1145)
               (try clear BK1105)
               (try clear BK1116)
               (try clear BK1138)
               (try clear BK1147)
               (try clear HB)
               generalize (((w116.setCell ⟨gb1147, 0, none⟩ (.bool t1139)).setCell ⟨gb1147, 1, none⟩ (.slice Ao121 t1140.length co121)).setCell ⟨gb1147, 2, none⟩ (.slice Ao122 t1143.length co122)) = w123 at n0_ n1_ n2_ n3_ n4_ n5_ n6_ n7_ n8_ n9_ n10_ n11_ ⊢
               have HO_9 := n0_
               have HO_1117001 := n1_
               have HO_1117002 := n2_
               have HO1133 := n3_
               have HO1136 := n4_
               have HO1142 := n5_
               have HO1145 := n6_
               have BK1105 := n7_
               have BK1116 := n8_
               have BK1138 := n9_
               have BK1147 := n10_
               have HB := n11_
               clear n0_ n1_ n2_ n3_ n4_ n5_ n6_ n7_ n8_ n9_ n10_ n11_
               replace HO_9 := mk0 (Kd.R_drew HO_9.out)
               replace HO_1117001 := mk0 (Kd.R_drew HO_1117001.out)
               replace HO_1117002 := mk0 (Kd.V_drew HO_1117002.out)
               replace HO1133 := mk0 (Kd.R_drew HO1133.out)
               replace HO1136 := mk0 (Kd.V_drew HO1136.out)
               replace HO1142 := mk0 (Kd.R_drew HO1142.out)
               replace HO1145 := mk0 (Kd.V_drew HO1145.out)
               replace BK1105 := mk0 (blk_drew BK1105.out)
               replace BK1116 := mk0 (blk_drew BK1116.out)
               replace BK1138 := mk0 (blk_drew BK1138.out)
               replace BK1147 := mk0 (blk_drew BK1147.out)
               replace HB := mk0 (b1 HB.out)
               refine start_ (n := 14) (S := fun w' => w'.cell? ⟨gb1138, 0, none⟩ = some (.bool t1130) ∧ w'.cell? ⟨gb1138, 1, none⟩ = some (.slice Ao113 t1131.length co113) ∧ w'.cell? ⟨gb1138, 2, none⟩ = some (.slice Ao114 t1134.length co114) ∧ w'.cell? ⟨gb1105, 0, none⟩ = some (.bool a0_0) ∧ w'.cell? ⟨gb1105, 1, none⟩ = some (.slice A0_1 l0_1.length c0_1) ∧ w'.cell? ⟨gb1105, 2, none⟩ = some (.slice A0_2 l0_2.length c0_2) ∧ w'.cell? ⟨gb1147, 0, none⟩ = some (.bool t1139) ∧ w'.cell? ⟨gb1147, 1, none⟩ = some (.slice Ao121 t1140.length co121) ∧ w'.cell? ⟨gb1147, 2, none⟩ = some (.slice Ao122 t1143.length co122)) (ds := []) (bv 14 0) (by kernel_rfl) rfl rfl ⟨(blk_cell BK1138.out 0).trans rfl, (blk_cell BK1138.out 1).trans rfl, (blk_cell BK1138.out 2).trans rfl, (blk_cell BK1105.out 0).trans rfl, (blk_cell BK1105.out 1).trans rfl, (blk_cell BK1105.out 2).trans rfl, (blk_cell BK1147.out 0).trans rfl, (blk_cell BK1147.out 1).trans rfl, (blk_cell BK1147.out 2).trans rfl⟩ (fun hHeld => ?_); refine with_tabW examboardlaw37_ExposureCap.tab18 examboardlaw37_ExposureCap.bits18 (fun HT_ HW_ => ?_)
               generalize w123.drew = w124 at HO_9 HO_1117001 HO_1117002 HO1133 HO1136 HO1142 HO1145 BK1105 BK1116 BK1138 BK1147 HB hHeld ⊢
               refine puA (i := 0) (N := 94) (v := ?_) (a' := ?_) (bv 14 1) HT_ ?_ ?_ ?_; rotate_left; (intro w'; go_simp; with_reducible rfl); rotate_left; (simp only [Act.put, sA, sZ, sS, i64_w, i32_w]; rfl)
               refine puA (i := 1) (N := 95) (v := ?_) (a' := ?_) (bv 14 3) HT_ ?_ ?_ ?_; rotate_left; (intro w'; go_simp; with_reducible rfl); rotate_left; (simp only [Act.put, sA, sZ, sS, i64_w, i32_w]; rfl)
               refine puA (i := 2) (N := 96) (v := ?_) (a' := ?_) (bv 14 7) HT_ ?_ ?_ ?_; rotate_left; (intro w'; go_simp; with_reducible rfl); rotate_left; (simp only [Act.put, sA, sZ, sS, i64_w, i32_w]; rfl)
               refine puA (i := 3) (N := 97) (v := ?_) (a' := ?_) (bv 14 15) HT_ ?_ ?_ ?_; rotate_left; (intro w'; go_simp; with_reducible rfl); rotate_left; (simp only [Act.put, sA, sZ, sS, i64_w, i32_w]; rfl)
               refine puA (i := 4) (N := 98) (v := ?_) (a' := ?_) (bv 14 31) HT_ ?_ ?_ ?_; rotate_left; (intro w'; go_simp; with_reducible rfl); rotate_left; (simp only [Act.put, sA, sZ, sS, i64_w, i32_w]; rfl)
               refine puA (i := 5) (N := 99) (v := ?_) (a' := ?_) (bv 14 63) HT_ ?_ ?_ ?_; rotate_left; (intro w'; go_simp; with_reducible rfl); rotate_left; (simp only [Act.put, sA, sZ, sS, i64_w, i32_w]; rfl)
               refine puA (i := 6) (N := 100) (v := ?_) (a' := ?_) (bv 14 127) HT_ ?_ ?_ ?_; rotate_left; (intro w'; go_simp; with_reducible rfl); rotate_left; (simp only [Act.put, sA, sZ, sS, i64_w, i32_w]; rfl)
               refine take_ (i := 7) (N := some 101) (v := ?_) (a' := ?_) (bv 14 255) rfl rfl (take_ofW HT_.out HW_.out (by kernel_rfl)) (fun _ _ _ h => h) (Or.inl ⟨by rfl, ?_⟩) hHeld ?_ ?_; rotate_left; (rintro w' ⟨s0, s1, s2, s3, s4, s5, s6, s7, s8⟩; go_simp; with_reducible rfl); rotate_left; (simp only [Act.put, sA, sZ, sS, i64_w, i32_w]; rfl)
               refine take_ (i := 8) (N := some 102) (v := ?_) (a' := ?_) (bv 14 511) rfl rfl (take_ofW HT_.out HW_.out (by kernel_rfl)) (fun _ _ _ h => h) (Or.inl ⟨by rfl, ?_⟩) hHeld ?_ ?_; rotate_left; (rintro w' ⟨s0, s1, s2, s3, s4, s5, s6, s7, s8⟩; go_simp; with_reducible rfl); rotate_left; (simp only [Act.put, sA, sZ, sS, i64_w, i32_w]; rfl)
               refine take_ (i := 9) (N := some 103) (v := ?_) (a' := ?_) (bv 14 1023) rfl rfl (take_ofW HT_.out HW_.out (by kernel_rfl)) (fun _ _ _ h => h) (Or.inl ⟨by rfl, ?_⟩) hHeld ?_ ?_; rotate_left; (rintro w' ⟨s0, s1, s2, s3, s4, s5, s6, s7, s8⟩; go_simp; with_reducible rfl); rotate_left; (simp only [Act.put, sA, sZ, sS, i64_w, i32_w]; rfl)
               refine one_ (i := 10) (N := some 104) (bv 14 2047) rfl rfl (one_of HT_.out (by kernel_rfl)) (by decide) (fun K hK => ?_)
               refine goes_ Try.func27 (by kernel_rfl) rfl #[.agg #[.bool a0_0, .slice A0_1 l0_1.length c0_1, .slice A0_2 l0_2.length c0_2], .agg #[.bool t1139, .slice Ao121 t1140.length co121, .slice Ao122 t1143.length co122]] (by rfl) rfl rfl (by go_simp <;> rfl) ?_
               with_reducible refine (ratio_Mul.calls kj52 a0_0 (fun k_ => k_ < w.heap.size) _ _ l0_1 _ _ l0_2 t1139 (fun k_ => some k_ = (.slice Ao121 t1140.length co121 : Value).ownBlock) _ _ t1140 _ _ t1143 t1148 t1149 t1152 _ ?side1 ?side2 ?side3 ?side4 ?side5 ?side6 A80.out).mono ?_
               (case side1 => exact Kd.V_mk HC0_1.out (Kd.F_below (Kd.C_F (Kd.heap_int .u32) HR0_1.out) (by repeat (first | exact HB.out | apply bN | apply b1 | apply bA | refine bS ?_ GE1105.out | refine bS ?_ GE1116.out | refine bS ?_ GE1138.out | refine bS ?_ GE1147.out))))
               (case side2 => repeat (first | exact (Cb HR0_2.out HB.out) | (with_reducible refine Kd.C_alloc ?_ _) | (with_reducible refine Kd.C_drewN ?_ _) | (with_reducible refine Kd.C_drew ?_)))
               (case side3 => exact HC0_2.out)
               (case side4 => exact Kd.R_V (Kd.R_tight rfl (Rt (Rt (Rt (Rt (Kd.R_apart' (HO1142.out) (Kd.R_typed HO_9.out) (by decide)) BK1105.out (by decide)) BK1116.out (by decide)) BK1138.out (by decide)) BK1147.out (by decide))))
               (case side5 => repeat (first | exact (Kd.V_reads' HO1145.out).2.2 | (with_reducible refine Kd.C_alloc ?_ _) | (with_reducible refine Kd.C_drewN ?_ _) | (with_reducible refine Kd.C_drew ?_)))
               (case side6 => exact (Kd.V_reads' HO1145.out).2.1)
               rintro e w125 ⟨v1150, v1153, rfl, ho0, ho1, hb⟩
               refine ⟨_, rfl, ?_⟩
               replace HO_1117002 := mk0 (Kd.V_elder' HO_1117002.out (Rs ho0) hb)
               replace HO1136 := mk0 (Kd.V_elder' HO1136.out (Rs ho0) hb)
               replace HO1145 := mk0 (Kd.V_elder' HO1145.out (Rs ho0) hb)
               have HO1151 := mk0 (Rl (Rn (Rn (Rn (Rm (ok' := fun k_ => True) ho0 tv) (Rq HO_1117001.out)) (Rq HO1133.out)) (Rq HO1142.out)) (bZ (by repeat (first | exact HB.out | apply bN | apply b1 | apply bA | refine bS ?_ GE1105.out | refine bS ?_ GE1116.out | refine bS ?_ GE1138.out | refine bS ?_ GE1147.out))))
               have HO1154 := mk0 (Vl (Vm (ok' := fun k_ => some k_ ≠ (v1150 : Value).ownBlock ∧ some k_ ≠ (.slice Ao106 x9_52.length co106 : Value).ownBlock ∧ some k_ ≠ (.slice Ao38 t1109.length co38 : Value).ownBlock ∧ some k_ ≠ (.slice Ao113 t1131.length co113 : Value).ownBlock ∧ k_ ≠ gb1105 ∧ k_ ≠ gb1116 ∧ k_ ≠ gb1138 ∧ k_ ≠ gb1147) ho1 (fun k_ hk_ => ⟨hk_.2, Or.elim hk_.1 (fun hs_ => Or.elim hs_ (fun hs_ => fun e_ => Nat.not_le.2 hs_ (Rs HO_9.out k_ e_.symm)) (fun hs_ => ((Rt (Rt (Rt (Rt (Kd.R_apart' (HO1142.out) (Kd.R_typed HO_9.out) (by decide)) BK1105.out (by decide)) BK1116.out (by decide)) BK1138.out (by decide)) BK1147.out (by decide)).1 k_ hs_.symm).1.1.1.1.2)) (fun hn_ => (Kd.fresh' (Rq HO_9.out) k_ hn_)), Or.elim hk_.1 (fun hs_ => Or.elim hs_ (fun hs_ => fun e_ => Nat.not_le.2 hs_ (Rs HO_1117001.out k_ e_.symm)) (fun hs_ => ((Rt (Rt (Rt (Rt (Kd.R_apart' (HO1142.out) (Kd.R_typed HO_9.out) (by decide)) BK1105.out (by decide)) BK1116.out (by decide)) BK1138.out (by decide)) BK1147.out (by decide)).1 k_ hs_.symm).1.1.1.1.1.1)) (fun hn_ => (Kd.fresh' (Rq HO_1117001.out) k_ hn_)), Or.elim hk_.1 (fun hs_ => Or.elim hs_ (fun hs_ => fun e_ => Nat.not_le.2 hs_ (Rs HO1133.out k_ e_.symm)) (fun hs_ => ((Rt (Rt (Rt (Rt (Kd.R_apart' (HO1142.out) (Kd.R_typed HO_9.out) (by decide)) BK1105.out (by decide)) BK1116.out (by decide)) BK1138.out (by decide)) BK1147.out (by decide)).1 k_ hs_.symm).1.1.1.1.1.2)) (fun hn_ => (Kd.fresh' (Rq HO1133.out) k_ hn_)), Or.elim hk_.1 (fun hs_ => Or.elim hs_ (fun hs_ => fun e_ => Nat.not_le.2 hs_ (by rw [e_]; exact GE1105.out)) (fun hs_ => ((Rt (Rt (Rt (Rt (Kd.R_apart' (HO1142.out) (Kd.R_typed HO_9.out) (by decide)) BK1105.out (by decide)) BK1116.out (by decide)) BK1138.out (by decide)) BK1147.out (by decide)).1 k_ hs_.symm).1.1.1.2)) (fun hn_ => (Kd.freshB BK1105.out k_ hn_)), Or.elim hk_.1 (fun hs_ => Or.elim hs_ (fun hs_ => fun e_ => Nat.not_le.2 hs_ (by rw [e_]; exact GE1116.out)) (fun hs_ => ((Rt (Rt (Rt (Rt (Kd.R_apart' (HO1142.out) (Kd.R_typed HO_9.out) (by decide)) BK1105.out (by decide)) BK1116.out (by decide)) BK1138.out (by decide)) BK1147.out (by decide)).1 k_ hs_.symm).1.1.2)) (fun hn_ => (Kd.freshB BK1116.out k_ hn_)), Or.elim hk_.1 (fun hs_ => Or.elim hs_ (fun hs_ => fun e_ => Nat.not_le.2 hs_ (by rw [e_]; exact GE1138.out)) (fun hs_ => ((Rt (Rt (Rt (Rt (Kd.R_apart' (HO1142.out) (Kd.R_typed HO_9.out) (by decide)) BK1105.out (by decide)) BK1116.out (by decide)) BK1138.out (by decide)) BK1147.out (by decide)).1 k_ hs_.symm).1.2)) (fun hn_ => (Kd.freshB BK1138.out k_ hn_)), Or.elim hk_.1 (fun hs_ => Or.elim hs_ (fun hs_ => fun e_ => Nat.not_le.2 hs_ (by rw [e_]; exact GE1147.out)) (fun hs_ => ((Rt (Rt (Rt (Rt (Kd.R_apart' (HO1142.out) (Kd.R_typed HO_9.out) (by decide)) BK1105.out (by decide)) BK1116.out (by decide)) BK1138.out (by decide)) BK1147.out (by decide)).1 k_ hs_.symm).2)) (fun hn_ => (Kd.freshB BK1147.out k_ hn_))⟩)) (bZ (by repeat (first | exact HB.out | apply bN | apply b1 | apply bA | refine bS ?_ GE1105.out | refine bS ?_ GE1116.out | refine bS ?_ GE1138.out | refine bS ?_ GE1147.out))))
               replace HO_9 := rB HO_9 hb
               replace HO_1117001 := mk0 (Re HO_1117001.out (Rs ho0) hb)
               replace HO1133 := mk0 (Re HO1133.out (Rs ho0) hb)
               replace HO1142 := mk0 (Re HO1142.out (Rs ho0) hb)
               replace BK1105 := bkB BK1105 hb
               replace BK1116 := bkB BK1116 hb
               replace BK1138 := bkB BK1138 hb
               replace BK1147 := bkB BK1147 hb
               replace HB := mk0 (below_step (by repeat (first | exact HB.out | apply bN | apply b1 | apply bA | refine bS ?_ GE1105.out | refine bS ?_ GE1116.out | refine bS ?_ GE1138.out | refine bS ?_ GE1147.out)) hb)
               obtain ⟨Ao126, co126, eo126⟩ := Kd.R_slice HO1151.out
               (first | subst eo126 | (injection eo126 with f1_ f2_ f3_; have f4_ := f1_.symm; have f5_ := f3_.symm; clear f1_ f2_ f3_; subst f4_; subst f5_))
               obtain ⟨Ao127, co127, eo127⟩ := Kd.V_slice HO1154.out
               (first | subst eo127 | (injection eo127 with f1_ f2_ f3_; have f4_ := f1_.symm; have f5_ := f3_.symm; clear f1_ f2_ f3_; subst f4_; subst f5_))
               refine hK.out _ _ ⟨(blk_cell BK1138.out 0).trans rfl, (blk_cell BK1138.out 1).trans rfl, (blk_cell BK1138.out 2).trans rfl, (blk_cell BK1105.out 0).trans rfl, (blk_cell BK1105.out 1).trans rfl, (blk_cell BK1105.out 2).trans rfl, (blk_cell BK1147.out 0).trans rfl, (blk_cell BK1147.out 1).trans rfl, (blk_cell BK1147.out 2).trans rfl⟩ (fun hHeld => ?_)
               clear hK K
               refine norm_ (a' := ?_) ?_ ?_
               rotate_left
               ·show Act.put _ (some 104) _ = _
                simp only [Act.put, sA, sZ, sS, i64_w, i32_w]
                rfl
               refine one_ (i := 11) (N := some 105) (bv 14 4095) rfl rfl (one_of HT_.out (by kernel_rfl)) (by decide) (fun K hK => ?_)
               refine goes_ Try.func26 (by kernel_rfl) rfl #[.agg #[.bool t1130, .slice Ao113 t1131.length co113, .slice Ao114 t1134.length co114], .agg #[.bool t1148, .slice Ao126 t1149.length co126, .slice Ao127 t1152.length co127]] (by rfl) rfl rfl (by go_simp <;> rfl) ?_
               with_reducible refine (ratio_Cmp.calls kj52 t1130 _ _ t1131 _ _ t1134 t1148 _ _ t1149 _ _ t1152 t1155 _ ?side1 ?side2 ?side3 ?side4 ?side5 ?side6 ?side7 ?side8 A81.out).mono ?_
               (case side1 => repeat (first | exact (Kd.R_reads' HO1133.out).2.2 | (with_reducible refine Kd.C_alloc ?_ _) | (with_reducible refine Kd.C_drewN ?_ _) | (with_reducible refine Kd.C_drew ?_)))
               (case side2 => exact (Kd.R_reads' HO1133.out).2.1)
               (case side3 => repeat (first | exact (Kd.V_reads' HO1136.out).2.2 | (with_reducible refine Kd.C_alloc ?_ _) | (with_reducible refine Kd.C_drewN ?_ _) | (with_reducible refine Kd.C_drew ?_)))
               (case side4 => exact (Kd.V_reads' HO1136.out).2.1)
               (case side5 => repeat (first | exact (Kd.R_reads' HO1151.out).2.2 | (with_reducible refine Kd.C_alloc ?_ _) | (with_reducible refine Kd.C_drewN ?_ _) | (with_reducible refine Kd.C_drew ?_)))
               (case side6 => exact (Kd.R_reads' HO1151.out).2.1)
               (case side7 => repeat (first | exact (Kd.V_reads' HO1154.out).2.2 | (with_reducible refine Kd.C_alloc ?_ _) | (with_reducible refine Kd.C_drewN ?_ _) | (with_reducible refine Kd.C_drew ?_)))
               (case side8 => exact (Kd.V_reads' HO1154.out).2.1)
               rintro e w128 ⟨rfl, hb⟩
               refine ⟨_, rfl, ?_⟩
               replace HO_9 := rB HO_9 hb
               replace HO_1117001 := rB HO_1117001 hb
               replace HO_1117002 := mk0 (Kd.V_below HO_1117002.out hb)
               replace HO1133 := rB HO1133 hb
               replace HO1136 := mk0 (Kd.V_below HO1136.out hb)
               replace HO1142 := rB HO1142 hb
               replace HO1145 := mk0 (Kd.V_below HO1145.out hb)
               replace HO1151 := rB HO1151 hb
               replace HO1154 := mk0 (Kd.V_below HO1154.out hb)
               replace BK1105 := bkB BK1105 hb
               replace BK1116 := bkB BK1116 hb
               replace BK1138 := bkB BK1138 hb
               replace BK1147 := bkB BK1147 hb
               replace HB := mk0 (below_step (by repeat (first | exact HB.out | apply bN | apply b1 | apply bA | refine bS ?_ GE1105.out | refine bS ?_ GE1116.out | refine bS ?_ GE1138.out | refine bS ?_ GE1147.out)) hb)
               refine hK.out _ _ ⟨(blk_cell BK1138.out 0).trans rfl, (blk_cell BK1138.out 1).trans rfl, (blk_cell BK1138.out 2).trans rfl, (blk_cell BK1105.out 0).trans rfl, (blk_cell BK1105.out 1).trans rfl, (blk_cell BK1105.out 2).trans rfl, (blk_cell BK1147.out 0).trans rfl, (blk_cell BK1147.out 1).trans rfl, (blk_cell BK1147.out 2).trans rfl⟩ (fun hHeld => ?_)
               clear hK K
               refine norm_ (a' := ?_) ?_ ?_
               rotate_left
               ·show Act.put _ (some 105) _ = _
                simp only [Act.put, sA, sZ, sS, i64_w, i32_w]
                rfl
               refine puA (i := 12) (N := 106) (v := ?_) (a' := ?_) (bv 14 8191) HT_ ?_ ?_ ?_; rotate_left; (intro w'; go_simp; with_reducible rfl); rotate_left; (simp only [Act.put, sA, sZ, sS, i64_w, i32_w]; rfl)
               refine puA (i := 13) (N := 107) (v := ?_) (a' := ?_) (bv 14 16383) HT_ ?_ ?_ ?_; rotate_left; (intro w'; go_simp; with_reducible rfl); rotate_left; (simp only [Act.put, sA, sZ, sS, i64_w, i32_w]; rfl)
               refine done_ (done_of HT_.out (by kernel_rfl)) ?_
               try go_wp2
               go_roundg kj52
               case measure => have := HJ3.out; have := HK2.out; have := HJ42.out; have := HJ52.out; omega
               case rel => exact ⟨(x9_52), (wrap64 (x10_2 + 1)), (by first | rfl | (simp; done) | (simp [*]; done)), H', ⟨by have := HJ3.out; have := HK2.out; have := HJ42.out; have := HJ52.out; omega⟩, ⟨HO_9.out⟩, ⟨Rm HO_1117001.out tv⟩, ⟨Vm HO_1117002.out (fun _ hk => ⟨hk.1.1, ⟨hk.1.2.1, ⟨hk.1.2.2.2.2.1, hk.1.2.2.2.2.2.1⟩⟩⟩)⟩, ⟨BK1105.out⟩, ⟨BK1116.out⟩, ⟨by repeat (first | exact HB.out | apply bN | apply b1 | apply bA | refine bS ?_ GE1105.out | refine bS ?_ GE1116.out | refine bS ?_ GE1138.out | refine bS ?_ GE1147.out)⟩⟩
             ·replace c79 := Bool.eq_false_iff.mpr c79
              subst c79
              have H1 : (some false) = some r := by rw [if_neg (show ¬ (false = true) by decide)] at H; exact H
              clear H
              have H := H1
              clear H1
              obtain rfl := Option.some.inj H
              obtain ⟨Ao129, co129, eo129⟩ := Kd.R_slice HO_9.out
              subst eo129
              try go_wp2_with (first | ((with_reducible refine gate_callee (f := 17) rfl ?_); refine goA 82 Try.func17 #[.slice Ao129 x9_52.length co129, .int .i64 7] ?_; (with_reducible refine (exposure_Count.calls kj52 _ _ x9_52 7 t1129 _ (by exact (Kd.R_reads' HO_9.out).2.2) (by exact (Kd.R_reads' HO_9.out).2.1) A75.out).mono ?_); rintro e w130 ⟨rfl, hb⟩; refine ⟨_, rfl, ?_⟩; replace HO_9 := rB HO_9 hb; replace HO_1117001 := rB HO_1117001 hb; replace HO_1117002 := mk0 (Kd.V_below HO_1117002.out hb); replace BK1105 := bkB BK1105 hb; replace BK1116 := bkB BK1116 hb; replace HB := hbS HB hb) | ((with_reducible refine gate_callee (f := 16) rfl ?_); refine goA 83 Try.func16 #[.int .i64 t1129, .int .i64 1] ?_; (with_reducible refine (ratio_Of.calls kj52 t1129 1 t1130 t1131 t1134 true _ A76.out).mono ?_); rintro e w131 ⟨v1132, v1135, rfl, ho0, ho1, hb⟩; refine ⟨_, rfl, ?_⟩; replace HO_1117002 := mk0 (Kd.V_elder' HO_1117002.out (Rs ho0) hb); have HO1133 := mk0 (Rl (Rn (Rm (ok' := fun k_ => True) ho0 tv) (Rq HO_1117001.out)) (bZ HB.out)); have HO1136 := mk0 (Vl (Vm (ok' := fun k_ => some k_ ≠ (v1132 : Value).ownBlock ∧ some k_ ≠ (.slice Ao129 x9_52.length co129 : Value).ownBlock ∧ some k_ ≠ (.slice Ao38 t1109.length co38 : Value).ownBlock ∧ k_ ≠ gb1105 ∧ k_ ≠ gb1116) ho1 (fun k_ hk_ => ⟨hk_.2, (Kd.fresh' (Rq HO_9.out) k_ hk_.1), (Kd.fresh' (Rq HO_1117001.out) k_ hk_.1), (Kd.freshB BK1105.out k_ hk_.1), (Kd.freshB BK1116.out k_ hk_.1)⟩)) (bZ HB.out)); replace HO_9 := rB HO_9 hb; replace HO_1117001 := mk0 (Re HO_1117001.out (Rs ho0) hb); replace BK1105 := bkB BK1105 hb; replace BK1116 := bkB BK1116 hb; replace HB := hbS HB hb) | ((with_reducible refine gate_dst (N := 14) rfl ?_); (try (refine gate_guard (by rfl) ?_; dsimp only)); refine box_event rfl (N := 14) rfl (cs := #[.bool false, .slice none 0 0, .slice none 0 0]) (t := 29) (by go_simp <;> rfl) ?_; intro gb1138 hg w132 hbox hb; replace HO_9 := rB HO_9 hb; replace HO_1117001 := rB HO_1117001 hb; replace HO_1117002 := vB HO_1117002 hg hb; replace HO1133 := rB HO1133 hb; replace HO1136 := vB HO1136 hg hb; have BK1138 := mk0 (hbox); have GE1138 := geB hg HB; replace HB := hbS HB hb; have NB1105_1138 := nbA hg BK1105; have NB1138_1105 := nbB hg BK1105; replace BK1105 := bkB BK1105 hb; have NB1116_1138 := nbA hg BK1116; have NB1138_1116 := nbB hg BK1116; replace BK1116 := bkB BK1116 hb; clear hb hbox hg; have hnb133 := NB1138_1105.out; have hnc133 := NB1105_1138.out; have hnb134 := NB1138_1116.out; have hnc134 := NB1116_1138.out; obtain ⟨hcz135_0, hcz135_1, hcz135_2, hfz135_0, hfz135_1, hfz135_2⟩ := cz3 BK1138; obtain ⟨Ao136, co136, eo136⟩ := Kd.R_slice HO1133.out; subst eo136; obtain ⟨Ao137, co137, eo137⟩ := Kd.V_slice HO1136.out; subst eo137) | ((with_reducible refine gate_callee (f := 16) rfl ?_); refine goA 91 Try.func16 #[.int .i64 (wrap64 ((wrap64 (x10_2 + 1)) + a1)), .int .i64 1] ?_; (with_reducible refine (ratio_Of.calls kj52 (wrap64 ((wrap64 (x10_2 + 1)) + a1)) 1 t1139 t1140 t1143 false _ A77.out).mono ?_); rintro e w138 ⟨v1141, v1144, rfl, ho0, ho1, hb⟩; refine ⟨_, rfl, ?_⟩; replace HO_1117002 := mk0 (Kd.V_elder' ((Vm (Vf (p := ⟨gb1138, 2, none⟩) (Vf (p := ⟨gb1138, 1, none⟩) (Vf (p := ⟨gb1138, 0, none⟩) (Vm HO_1117002.out (fun k_ hk => (⟨hk, hk.2⟩ : _ ∧ k_ ≠ gb1138))) (fun _ hk => hk.2) (.bool t1130)) (fun _ hk => hk.2) (.slice Ao136 t1131.length co136)) (fun _ hk => hk.2) (.slice Ao137 t1134.length co137)) (fun _ h_ => h_.1))) (Rs ho0) hb); replace HO1136 := mk0 (Kd.V_elder' ((Vm (Vf (p := ⟨gb1138, 2, none⟩) (Vf (p := ⟨gb1138, 1, none⟩) (Vf (p := ⟨gb1138, 0, none⟩) (Vm HO1136.out (fun k_ hk => (⟨hk, hk.2⟩ : _ ∧ k_ ≠ gb1138))) (fun _ hk => hk.2) (.bool t1130)) (fun _ hk => hk.2) (.slice Ao136 t1131.length co136)) (fun _ hk => hk.2) (.slice Ao137 t1134.length co137)) (fun _ h_ => h_.1))) (Rs ho0) hb); have HO1142 := mk0 (Rl (Rn (Rn (Rm (ok' := fun k_ => True) ho0 tv) (Rq ((Rm (Rf (p := ⟨gb1138, 2, none⟩) (Rf (p := ⟨gb1138, 1, none⟩) (Rf (p := ⟨gb1138, 0, none⟩) (Rt HO_1117001.out BK1138.out (by decide)) (fun _ hk => hk.2) (.bool t1130)) (fun _ hk => hk.2) (.slice Ao136 t1131.length co136)) (fun _ hk => hk.2) (.slice Ao137 t1134.length co137)) (fun _ h_ => h_.1))))) (Rq ((Rm (Rf (p := ⟨gb1138, 2, none⟩) (Rf (p := ⟨gb1138, 1, none⟩) (Rf (p := ⟨gb1138, 0, none⟩) (Rt HO1133.out BK1138.out (by decide)) (fun _ hk => hk.2) (.bool t1130)) (fun _ hk => hk.2) (.slice Ao136 t1131.length co136)) (fun _ hk => hk.2) (.slice Ao137 t1134.length co137)) (fun _ h_ => h_.1))))) (bZ (by repeat (first | exact HB.out | refine bS ?_ GE1116.out | refine bS ?_ GE1138.out)))); have HO1145 := mk0 (Vl (Vm (ok' := fun k_ => some k_ ≠ (v1141 : Value).ownBlock ∧ some k_ ≠ (.slice Ao129 x9_52.length co129 : Value).ownBlock ∧ some k_ ≠ (.slice Ao38 t1109.length co38 : Value).ownBlock ∧ some k_ ≠ (.slice Ao136 t1131.length co136 : Value).ownBlock ∧ k_ ≠ gb1105 ∧ k_ ≠ gb1116 ∧ k_ ≠ gb1138) ho1 (fun k_ hk_ => ⟨hk_.2, (Kd.fresh' (Rq ((Rm (Rf (p := ⟨gb1138, 2, none⟩) (Rf (p := ⟨gb1138, 1, none⟩) (Rf (p := ⟨gb1138, 0, none⟩) (Rt HO_9.out BK1138.out (by decide)) (fun _ hk => hk.2) (.bool t1130)) (fun _ hk => hk.2) (.slice Ao136 t1131.length co136)) (fun _ hk => hk.2) (.slice Ao137 t1134.length co137)) (fun _ h_ => h_.1)))) k_ hk_.1), (Kd.fresh' (Rq ((Rm (Rf (p := ⟨gb1138, 2, none⟩) (Rf (p := ⟨gb1138, 1, none⟩) (Rf (p := ⟨gb1138, 0, none⟩) (Rt HO_1117001.out BK1138.out (by decide)) (fun _ hk => hk.2) (.bool t1130)) (fun _ hk => hk.2) (.slice Ao136 t1131.length co136)) (fun _ hk => hk.2) (.slice Ao137 t1134.length co137)) (fun _ h_ => h_.1)))) k_ hk_.1), (Kd.fresh' (Rq ((Rm (Rf (p := ⟨gb1138, 2, none⟩) (Rf (p := ⟨gb1138, 1, none⟩) (Rf (p := ⟨gb1138, 0, none⟩) (Rt HO1133.out BK1138.out (by decide)) (fun _ hk => hk.2) (.bool t1130)) (fun _ hk => hk.2) (.slice Ao136 t1131.length co136)) (fun _ hk => hk.2) (.slice Ao137 t1134.length co137)) (fun _ h_ => h_.1)))) k_ hk_.1), (Kd.freshB (g := gb1105) (o := .cells #[.bool a0_0, .slice A0_1 l0_1.length c0_1, .slice A0_2 l0_2.length c0_2] 29 (0, 0)) (by refine blk_far ?_ NB1105_1138.out _; refine blk_far ?_ NB1105_1138.out _; refine blk_far ?_ NB1105_1138.out _; exact BK1105.out) k_ hk_.1), (Kd.freshB (g := gb1116) (o := .cells #[.bool t1108, .slice Ao38 t1109.length co38, .slice Ao39 t1112.length co39] 29 (0, 0)) (by refine blk_far ?_ NB1116_1138.out _; refine blk_far ?_ NB1116_1138.out _; refine blk_far ?_ NB1116_1138.out _; exact BK1116.out) k_ hk_.1), (Kd.freshB (g := gb1138) (o := .cells #[.bool t1130, .slice Ao136 t1131.length co136, .slice Ao137 t1134.length co137] 29 (0, 0)) (by refine blk_put (cs := #[.bool t1130, .slice Ao136 t1131.length co136, .slice none 0 0]) ?_ 2 _ rfl; refine blk_put (cs := #[.bool t1130, .slice none 0 0, .slice none 0 0]) ?_ 1 _ rfl; refine blk_put (cs := #[.bool false, .slice none 0 0, .slice none 0 0]) ?_ 0 _ rfl; exact BK1138.out) k_ hk_.1)⟩)) (bZ (by repeat (first | exact HB.out | refine bS ?_ GE1116.out | refine bS ?_ GE1138.out)))); replace HO_9 := mk0 (Rb ((Rm (Rf (p := ⟨gb1138, 2, none⟩) (Rf (p := ⟨gb1138, 1, none⟩) (Rf (p := ⟨gb1138, 0, none⟩) (Rt HO_9.out BK1138.out (by decide)) (fun _ hk => hk.2) (.bool t1130)) (fun _ hk => hk.2) (.slice Ao136 t1131.length co136)) (fun _ hk => hk.2) (.slice Ao137 t1134.length co137)) (fun _ h_ => h_.1))) hb); replace HO_1117001 := mk0 (Re ((Rm (Rf (p := ⟨gb1138, 2, none⟩) (Rf (p := ⟨gb1138, 1, none⟩) (Rf (p := ⟨gb1138, 0, none⟩) (Rt HO_1117001.out BK1138.out (by decide)) (fun _ hk => hk.2) (.bool t1130)) (fun _ hk => hk.2) (.slice Ao136 t1131.length co136)) (fun _ hk => hk.2) (.slice Ao137 t1134.length co137)) (fun _ h_ => h_.1))) (Rs ho0) hb); replace HO1133 := mk0 (Re ((Rm (Rf (p := ⟨gb1138, 2, none⟩) (Rf (p := ⟨gb1138, 1, none⟩) (Rf (p := ⟨gb1138, 0, none⟩) (Rt HO1133.out BK1138.out (by decide)) (fun _ hk => hk.2) (.bool t1130)) (fun _ hk => hk.2) (.slice Ao136 t1131.length co136)) (fun _ hk => hk.2) (.slice Ao137 t1134.length co137)) (fun _ h_ => h_.1))) (Rs ho0) hb); replace BK1105 := mk0 (blk_below (g := gb1105) (o := .cells #[.bool a0_0, .slice A0_1 l0_1.length c0_1, .slice A0_2 l0_2.length c0_2] 29 (0, 0)) (by refine blk_far ?_ NB1105_1138.out _; refine blk_far ?_ NB1105_1138.out _; refine blk_far ?_ NB1105_1138.out _; exact BK1105.out) hb); replace BK1116 := mk0 (blk_below (g := gb1116) (o := .cells #[.bool t1108, .slice Ao38 t1109.length co38, .slice Ao39 t1112.length co39] 29 (0, 0)) (by refine blk_far ?_ NB1116_1138.out _; refine blk_far ?_ NB1116_1138.out _; refine blk_far ?_ NB1116_1138.out _; exact BK1116.out) hb); replace BK1138 := mk0 (blk_below (g := gb1138) (o := .cells #[.bool t1130, .slice Ao136 t1131.length co136, .slice Ao137 t1134.length co137] 29 (0, 0)) (by refine blk_put (cs := #[.bool t1130, .slice Ao136 t1131.length co136, .slice none 0 0]) ?_ 2 _ rfl; refine blk_put (cs := #[.bool t1130, .slice none 0 0, .slice none 0 0]) ?_ 1 _ rfl; refine blk_put (cs := #[.bool false, .slice none 0 0, .slice none 0 0]) ?_ 0 _ rfl; exact BK1138.out) hb); replace HB := mk0 (below_step (by repeat (first | exact HB.out | refine bS ?_ GE1116.out | refine bS ?_ GE1138.out)) hb)) | ((with_reducible refine gate_dst (N := 16) rfl ?_); (try (refine gate_guard (by rfl) ?_; dsimp only)); refine box_event rfl (N := 16) rfl (cs := #[.bool false, .slice none 0 0, .slice none 0 0]) (t := 29) (by go_simp <;> rfl) ?_; intro gb1147 hg w139 hbox hb; replace HO_9 := rB HO_9 hb; replace HO_1117001 := rB HO_1117001 hb; replace HO_1117002 := vB HO_1117002 hg hb; replace HO1133 := rB HO1133 hb; replace HO1136 := vB HO1136 hg hb; replace HO1142 := rB HO1142 hb; replace HO1145 := vB HO1145 hg hb; have BK1147 := mk0 (hbox); have GE1147 := geB hg HB; replace HB := hbS HB hb; have NB1105_1147 := nbA hg BK1105; have NB1147_1105 := nbB hg BK1105; replace BK1105 := bkB BK1105 hb; have NB1116_1147 := nbA hg BK1116; have NB1147_1116 := nbB hg BK1116; replace BK1116 := bkB BK1116 hb; have NB1138_1147 := nbA hg BK1138; have NB1147_1138 := nbB hg BK1138; replace BK1138 := bkB BK1138 hb; clear hb hbox hg; have hnb140 := NB1147_1105.out; have hnc140 := NB1105_1147.out; have hnb141 := NB1147_1116.out; have hnc141 := NB1116_1147.out; have hnb142 := NB1147_1138.out; have hnc142 := NB1138_1147.out; obtain ⟨hcz143_0, hcz143_1, hcz143_2, hfz143_0, hfz143_1, hfz143_2⟩ := cz3 BK1147; obtain ⟨Ao144, co144, eo144⟩ := Kd.R_slice HO1142.out; subst eo144; obtain ⟨Ao145, co145, eo145⟩ := Kd.V_slice HO1145.out; subst eo145))
              have n0_ : Aside0 (Kd.R k50 50 (((w139.setCell ⟨gb1147, 0, none⟩ (.bool t1139)).setCell ⟨gb1147, 1, none⟩ (.slice Ao144 t1140.length co144)).setCell ⟨gb1147, 2, none⟩ (.slice Ao145 t1143.length co145)) w.heap.size (fun _ => True) (.slice Ao129 x9_52.length co129) x9_52) := ⟨Rm (Rf (p := ⟨gb1147, 2, none⟩) (Rf (p := ⟨gb1147, 1, none⟩) (Rf (p := ⟨gb1147, 0, none⟩) (Rt HO_9.out BK1147.out (by decide)) (fun _ hk => hk.2) (.bool t1139)) (fun _ hk => hk.2) (.slice Ao144 t1140.length co144)) (fun _ hk => hk.2) (.slice Ao145 t1143.length co145)) tv⟩
              have n1_ : Aside0 (Kd.R (Kd.int .u32) 87 (((w139.setCell ⟨gb1147, 0, none⟩ (.bool t1139)).setCell ⟨gb1147, 1, none⟩ (.slice Ao144 t1140.length co144)).setCell ⟨gb1147, 2, none⟩ (.slice Ao145 t1143.length co145)) w.heap.size (fun k_ => some k_ ≠ (.slice Ao136 t1131.length co136 : Value).ownBlock ∧ some k_ ≠ (.slice Ao144 t1140.length co144 : Value).ownBlock) (.slice Ao38 t1109.length co38) t1109) := ⟨Rm (Rf (p := ⟨gb1147, 2, none⟩) (Rf (p := ⟨gb1147, 1, none⟩) (Rf (p := ⟨gb1147, 0, none⟩) (Rt HO_1117001.out BK1147.out (by decide)) (fun _ hk => hk.2) (.bool t1139)) (fun _ hk => hk.2) (.slice Ao144 t1140.length co144)) (fun _ hk => hk.2) (.slice Ao145 t1143.length co145)) (fun _ hk => ⟨hk.1.1.2, hk.1.2⟩)⟩
              have n2_ : Aside0 (Kd.V (Kd.int .u32) 87 (((w139.setCell ⟨gb1147, 0, none⟩ (.bool t1139)).setCell ⟨gb1147, 1, none⟩ (.slice Ao144 t1140.length co144)).setCell ⟨gb1147, 2, none⟩ (.slice Ao145 t1143.length co145)) w.heap.size (fun k_ => some k_ ≠ (.slice Ao129 x9_52.length co129 : Value).ownBlock ∧ some k_ ≠ (.slice Ao38 t1109.length co38 : Value).ownBlock ∧ some k_ ≠ (.slice Ao136 t1131.length co136 : Value).ownBlock ∧ some k_ ≠ (.slice Ao144 t1140.length co144 : Value).ownBlock ∧ k_ ≠ gb1105 ∧ k_ ≠ gb1116 ∧ k_ ≠ gb1138 ∧ k_ ≠ gb1147) (.slice Ao39 t1112.length co39) t1112) := ⟨Vm (Vf (p := ⟨gb1147, 2, none⟩) (Vf (p := ⟨gb1147, 1, none⟩) (Vf (p := ⟨gb1147, 0, none⟩) (Vm HO_1117002.out (fun k_ hk => (⟨hk, hk.2⟩ : _ ∧ k_ ≠ gb1147))) (fun _ hk => hk.2) (.bool t1139)) (fun _ hk => hk.2) (.slice Ao144 t1140.length co144)) (fun _ hk => hk.2) (.slice Ao145 t1143.length co145)) (fun _ hk => ⟨hk.1.1.1.1.1.1, ⟨hk.1.1.1.1.1.2.1, ⟨hk.1.1.1.1.2, ⟨hk.1.1.2, ⟨hk.1.1.1.1.1.2.2.1, ⟨hk.1.1.1.1.1.2.2.2, ⟨hk.1.1.1.2, hk.1.2⟩⟩⟩⟩⟩⟩⟩)⟩
              have n3_ : Aside0 (Kd.R (Kd.int .u32) 87 (((w139.setCell ⟨gb1147, 0, none⟩ (.bool t1139)).setCell ⟨gb1147, 1, none⟩ (.slice Ao144 t1140.length co144)).setCell ⟨gb1147, 2, none⟩ (.slice Ao145 t1143.length co145)) w.heap.size (fun k_ => some k_ ≠ (.slice Ao38 t1109.length co38 : Value).ownBlock ∧ some k_ ≠ (.slice Ao144 t1140.length co144 : Value).ownBlock) (.slice Ao136 t1131.length co136) t1131) := ⟨Rm (Rf (p := ⟨gb1147, 2, none⟩) (Rf (p := ⟨gb1147, 1, none⟩) (Rf (p := ⟨gb1147, 0, none⟩) (Rt HO1133.out BK1147.out (by decide)) (fun _ hk => hk.2) (.bool t1139)) (fun _ hk => hk.2) (.slice Ao144 t1140.length co144)) (fun _ hk => hk.2) (.slice Ao145 t1143.length co145)) (fun _ hk => ⟨hk.1.1.2, hk.1.2⟩)⟩
              have n4_ : Aside0 (Kd.V (Kd.int .u32) 87 (((w139.setCell ⟨gb1147, 0, none⟩ (.bool t1139)).setCell ⟨gb1147, 1, none⟩ (.slice Ao144 t1140.length co144)).setCell ⟨gb1147, 2, none⟩ (.slice Ao145 t1143.length co145)) w.heap.size (fun k_ => some k_ ≠ (.slice Ao129 x9_52.length co129 : Value).ownBlock ∧ some k_ ≠ (.slice Ao38 t1109.length co38 : Value).ownBlock ∧ some k_ ≠ (.slice Ao136 t1131.length co136 : Value).ownBlock ∧ some k_ ≠ (.slice Ao144 t1140.length co144 : Value).ownBlock ∧ k_ ≠ gb1105 ∧ k_ ≠ gb1116 ∧ k_ ≠ gb1138 ∧ k_ ≠ gb1147) (.slice Ao137 t1134.length co137) t1134) := ⟨Vm (Vf (p := ⟨gb1147, 2, none⟩) (Vf (p := ⟨gb1147, 1, none⟩) (Vf (p := ⟨gb1147, 0, none⟩) (Vm HO1136.out (fun k_ hk => (⟨hk, hk.2⟩ : _ ∧ k_ ≠ gb1147))) (fun _ hk => hk.2) (.bool t1139)) (fun _ hk => hk.2) (.slice Ao144 t1140.length co144)) (fun _ hk => hk.2) (.slice Ao145 t1143.length co145)) (fun _ hk => ⟨hk.1.1.1.1.2.1, ⟨hk.1.1.1.1.2.2.1, ⟨hk.1.1.1.1.1, ⟨hk.1.1.2, ⟨hk.1.1.1.1.2.2.2.1, ⟨hk.1.1.1.1.2.2.2.2, ⟨hk.1.1.1.2, hk.1.2⟩⟩⟩⟩⟩⟩⟩)⟩
              have n5_ : Aside0 (Kd.R (Kd.int .u32) 87 (((w139.setCell ⟨gb1147, 0, none⟩ (.bool t1139)).setCell ⟨gb1147, 1, none⟩ (.slice Ao144 t1140.length co144)).setCell ⟨gb1147, 2, none⟩ (.slice Ao145 t1143.length co145)) w.heap.size (fun k_ => some k_ ≠ (.slice Ao38 t1109.length co38 : Value).ownBlock ∧ some k_ ≠ (.slice Ao136 t1131.length co136 : Value).ownBlock) (.slice Ao144 t1140.length co144) t1140) := ⟨Rm (Rf (p := ⟨gb1147, 2, none⟩) (Rf (p := ⟨gb1147, 1, none⟩) (Rf (p := ⟨gb1147, 0, none⟩) (Rt HO1142.out BK1147.out (by decide)) (fun _ hk => hk.2) (.bool t1139)) (fun _ hk => hk.2) (.slice Ao144 t1140.length co144)) (fun _ hk => hk.2) (.slice Ao145 t1143.length co145)) (fun _ hk => ⟨hk.1.1.2, hk.1.2⟩)⟩
              have n6_ : Aside0 (Kd.V (Kd.int .u32) 87 (((w139.setCell ⟨gb1147, 0, none⟩ (.bool t1139)).setCell ⟨gb1147, 1, none⟩ (.slice Ao144 t1140.length co144)).setCell ⟨gb1147, 2, none⟩ (.slice Ao145 t1143.length co145)) w.heap.size (fun k_ => some k_ ≠ (.slice Ao129 x9_52.length co129 : Value).ownBlock ∧ some k_ ≠ (.slice Ao38 t1109.length co38 : Value).ownBlock ∧ some k_ ≠ (.slice Ao136 t1131.length co136 : Value).ownBlock ∧ some k_ ≠ (.slice Ao144 t1140.length co144 : Value).ownBlock ∧ k_ ≠ gb1105 ∧ k_ ≠ gb1116 ∧ k_ ≠ gb1138 ∧ k_ ≠ gb1147) (.slice Ao145 t1143.length co145) t1143) := ⟨Vm (Vf (p := ⟨gb1147, 2, none⟩) (Vf (p := ⟨gb1147, 1, none⟩) (Vf (p := ⟨gb1147, 0, none⟩) (Vm HO1145.out (fun k_ hk => (⟨hk, hk.2⟩ : _ ∧ k_ ≠ gb1147))) (fun _ hk => hk.2) (.bool t1139)) (fun _ hk => hk.2) (.slice Ao144 t1140.length co144)) (fun _ hk => hk.2) (.slice Ao145 t1143.length co145)) (fun _ hk => ⟨hk.1.1.2.1, ⟨hk.1.1.2.2.1, ⟨hk.1.1.2.2.2.1, ⟨hk.1.1.1, ⟨hk.1.1.2.2.2.2.1, ⟨hk.1.1.2.2.2.2.2.1, ⟨hk.1.1.2.2.2.2.2.2, hk.1.2⟩⟩⟩⟩⟩⟩⟩)⟩
              have n7_ : Aside0 ((((w139.setCell ⟨gb1147, 0, none⟩ (.bool t1139)).setCell ⟨gb1147, 1, none⟩ (.slice Ao144 t1140.length co144)).setCell ⟨gb1147, 2, none⟩ (.slice Ao145 t1143.length co145)).heap[gb1105]? = some (.cells #[.bool a0_0, .slice A0_1 l0_1.length c0_1, .slice A0_2 l0_2.length c0_2] 29 (0, 0))) := ⟨by refine blk_far ?_ NB1105_1147.out _; refine blk_far ?_ NB1105_1147.out _; refine blk_far ?_ NB1105_1147.out _; exact BK1105.out⟩
              have n8_ : Aside0 ((((w139.setCell ⟨gb1147, 0, none⟩ (.bool t1139)).setCell ⟨gb1147, 1, none⟩ (.slice Ao144 t1140.length co144)).setCell ⟨gb1147, 2, none⟩ (.slice Ao145 t1143.length co145)).heap[gb1116]? = some (.cells #[.bool t1108, .slice Ao38 t1109.length co38, .slice Ao39 t1112.length co39] 29 (0, 0))) := ⟨by refine blk_far ?_ NB1116_1147.out _; refine blk_far ?_ NB1116_1147.out _; refine blk_far ?_ NB1116_1147.out _; exact BK1116.out⟩
              have n9_ : Aside0 ((((w139.setCell ⟨gb1147, 0, none⟩ (.bool t1139)).setCell ⟨gb1147, 1, none⟩ (.slice Ao144 t1140.length co144)).setCell ⟨gb1147, 2, none⟩ (.slice Ao145 t1143.length co145)).heap[gb1138]? = some (.cells #[.bool t1130, .slice Ao136 t1131.length co136, .slice Ao137 t1134.length co137] 29 (0, 0))) := ⟨by refine blk_far ?_ NB1138_1147.out _; refine blk_far ?_ NB1138_1147.out _; refine blk_far ?_ NB1138_1147.out _; exact BK1138.out⟩
              have n10_ : Aside0 ((((w139.setCell ⟨gb1147, 0, none⟩ (.bool t1139)).setCell ⟨gb1147, 1, none⟩ (.slice Ao144 t1140.length co144)).setCell ⟨gb1147, 2, none⟩ (.slice Ao145 t1143.length co145)).heap[gb1147]? = some (.cells #[.bool t1139, .slice Ao144 t1140.length co144, .slice Ao145 t1143.length co145] 29 (0, 0))) := ⟨by refine blk_put (cs := #[.bool t1139, .slice Ao144 t1140.length co144, .slice none 0 0]) ?_ 2 _ rfl; refine blk_put (cs := #[.bool t1139, .slice none 0 0, .slice none 0 0]) ?_ 1 _ rfl; refine blk_put (cs := #[.bool false, .slice none 0 0, .slice none 0 0]) ?_ 0 _ rfl; exact BK1147.out⟩
              have n11_ : Aside0 (Below w.heap.size w (((w139.setCell ⟨gb1147, 0, none⟩ (.bool t1139)).setCell ⟨gb1147, 1, none⟩ (.slice Ao144 t1140.length co144)).setCell ⟨gb1147, 2, none⟩ (.slice Ao145 t1143.length co145))) := ⟨by repeat (first | exact HB.out | apply bN | apply b1 | apply bA | refine bS ?_ GE1105.out | refine bS ?_ GE1116.out | refine bS ?_ GE1138.out | refine bS ?_ GE1147.out)⟩
              (try clear HO_9)
              (try clear HO_1117001)
              (try clear HO_1117002)
              (try clear HO1133)
              (try clear HO1136)
              (try clear HO1142)
              (try clear HO1145)
              (try clear BK1105)
              (try clear BK1116)
              (try clear BK1138)
              (try clear BK1147)
              (try clear HB)
              generalize (((w139.setCell ⟨gb1147, 0, none⟩ (.bool t1139)).setCell ⟨gb1147, 1, none⟩ (.slice Ao144 t1140.length co144)).setCell ⟨gb1147, 2, none⟩ (.slice Ao145 t1143.length co145)) = w146 at n0_ n1_ n2_ n3_ n4_ n5_ n6_ n7_ n8_ n9_ n10_ n11_ ⊢
              have HO_9 := n0_
              have HO_1117001 := n1_
              have HO_1117002 := n2_
              have HO1133 := n3_
              have HO1136 := n4_
              have HO1142 := n5_
              have HO1145 := n6_
              have BK1105 := n7_
              have BK1116 := n8_
              have BK1138 := n9_
              have BK1147 := n10_
              have HB := n11_
              clear n0_ n1_ n2_ n3_ n4_ n5_ n6_ n7_ n8_ n9_ n10_ n11_
              replace HO_9 := mk0 (Kd.R_drew HO_9.out)
              replace HO_1117001 := mk0 (Kd.R_drew HO_1117001.out)
              replace HO_1117002 := mk0 (Kd.V_drew HO_1117002.out)
              replace HO1133 := mk0 (Kd.R_drew HO1133.out)
              replace HO1136 := mk0 (Kd.V_drew HO1136.out)
              replace HO1142 := mk0 (Kd.R_drew HO1142.out)
              replace HO1145 := mk0 (Kd.V_drew HO1145.out)
              replace BK1105 := mk0 (blk_drew BK1105.out)
              replace BK1116 := mk0 (blk_drew BK1116.out)
              replace BK1138 := mk0 (blk_drew BK1138.out)
              replace BK1147 := mk0 (blk_drew BK1147.out)
              replace HB := mk0 (b1 HB.out)
              refine start_ (n := 14) (S := fun w' => True) (ds := []) (bv 14 0) (by kernel_rfl) rfl rfl trivial (fun hHeld => ?_); refine with_tabW examboardlaw37_ExposureCap.tab18 examboardlaw37_ExposureCap.bits18 (fun HT_ HW_ => ?_)
              generalize w146.drew = w147 at HO_9 HO_1117001 HO_1117002 HO1133 HO1136 HO1142 HO1145 BK1105 BK1116 BK1138 BK1147 HB hHeld ⊢
              refine puA (i := 0) (N := 94) (v := ?_) (a' := ?_) (bv 14 1) HT_ ?_ ?_ ?_; rotate_left; (intro w'; go_simp; with_reducible rfl); rotate_left; (simp only [Act.put, sA, sZ, sS, i64_w, i32_w]; rfl)
              refine puA (i := 1) (N := 95) (v := ?_) (a' := ?_) (bv 14 3) HT_ ?_ ?_ ?_; rotate_left; (intro w'; go_simp; with_reducible rfl); rotate_left; (simp only [Act.put, sA, sZ, sS, i64_w, i32_w]; rfl)
              refine puA (i := 2) (N := 96) (v := ?_) (a' := ?_) (bv 14 7) HT_ ?_ ?_ ?_; rotate_left; (intro w'; go_simp; with_reducible rfl); rotate_left; (simp only [Act.put, sA, sZ, sS, i64_w, i32_w]; rfl)
              refine puA (i := 3) (N := 97) (v := ?_) (a' := ?_) (bv 14 15) HT_ ?_ ?_ ?_; rotate_left; (intro w'; go_simp; with_reducible rfl); rotate_left; (simp only [Act.put, sA, sZ, sS, i64_w, i32_w]; rfl)
              refine puA (i := 4) (N := 98) (v := ?_) (a' := ?_) (bv 14 31) HT_ ?_ ?_ ?_; rotate_left; (intro w'; go_simp; with_reducible rfl); rotate_left; (simp only [Act.put, sA, sZ, sS, i64_w, i32_w]; rfl)
              refine puA (i := 5) (N := 99) (v := ?_) (a' := ?_) (bv 14 63) HT_ ?_ ?_ ?_; rotate_left; (intro w'; go_simp; with_reducible rfl); rotate_left; (simp only [Act.put, sA, sZ, sS, i64_w, i32_w]; rfl)
              refine puA (i := 6) (N := 100) (v := ?_) (a' := ?_) (bv 14 127) HT_ ?_ ?_ ?_; rotate_left; (intro w'; go_simp; with_reducible rfl); rotate_left; (simp only [Act.put, sA, sZ, sS, i64_w, i32_w]; rfl)
              refine puO (i := 7) (N := 101) (a' := ?_) (bv 14 255) HT_ ?_ ?_
              rotate_left
              ·simp only [Act.put, sA, sZ, sS, i64_w, i32_w]
               rfl
              refine puO (i := 8) (N := 102) (a' := ?_) (bv 14 511) HT_ ?_ ?_
              rotate_left
              ·simp only [Act.put, sA, sZ, sS, i64_w, i32_w]
               rfl
              refine puO (i := 9) (N := 103) (a' := ?_) (bv 14 1023) HT_ ?_ ?_
              rotate_left
              ·simp only [Act.put, sA, sZ, sS, i64_w, i32_w]
               rfl
              refine puO (i := 10) (N := 104) (a' := ?_) (bv 14 2047) HT_ ?_ ?_
              rotate_left
              ·simp only [Act.put, sA, sZ, sS, i64_w, i32_w]
               rfl
              refine puO (i := 11) (N := 105) (a' := ?_) (bv 14 4095) HT_ ?_ ?_
              rotate_left
              ·simp only [Act.put, sA, sZ, sS, i64_w, i32_w]
               rfl
              refine puO (i := 12) (N := 106) (a' := ?_) (bv 14 8191) HT_ ?_ ?_
              rotate_left
              ·simp only [Act.put, sA, sZ, sS, i64_w, i32_w]
               rfl
              refine puA (i := 13) (N := 107) (v := ?_) (a' := ?_) (bv 14 16383) HT_ ?_ ?_ ?_; rotate_left; (intro w'; go_simp; with_reducible rfl); rotate_left; (simp only [Act.put, sA, sZ, sS, i64_w, i32_w]; rfl)
              refine done_ (done_of HT_.out (by kernel_rfl)) ?_
              try go_wp2
              go_ret
              exact ⟨by first | rfl | (simp [errW_none, errW_some] <;> rfl) | (simp [*, errW_none, errW_some] <;> rfl), by repeat (first | exact HB.out | apply bN | apply b1 | apply bA | refine bS ?_ GE1105.out | refine bS ?_ GE1116.out | refine bS ?_ GE1138.out | refine bS ?_ GE1147.out)⟩
            ·replace c78 := Bool.eq_false_iff.mpr c78
             subst c78
             have H1 : (some false) = some r := by rw [if_neg (show ¬ (false = true) by decide)] at H; exact H
             clear H
             have H := H1
             clear H1
             obtain rfl := Option.some.inj H
             obtain ⟨Ao148, co148, eo148⟩ := Kd.R_slice HO_9.out
             subst eo148
             try go_wp2_with (first | ((with_reducible refine gate_callee (f := 17) rfl ?_); refine goA 82 Try.func17 #[.slice Ao148 x9_52.length co148, .int .i64 7] ?_; (with_reducible refine (exposure_Count.calls kj52 _ _ x9_52 7 t1129 _ (by exact (Kd.R_reads' HO_9.out).2.2) (by exact (Kd.R_reads' HO_9.out).2.1) A75.out).mono ?_); rintro e w149 ⟨rfl, hb⟩; refine ⟨_, rfl, ?_⟩; replace HO_9 := rB HO_9 hb; replace HO_1117001 := rB HO_1117001 hb; replace HO_1117002 := mk0 (Kd.V_below HO_1117002.out hb); replace BK1105 := bkB BK1105 hb; replace BK1116 := bkB BK1116 hb; replace HB := hbS HB hb) | ((with_reducible refine gate_callee (f := 16) rfl ?_); refine goA 83 Try.func16 #[.int .i64 t1129, .int .i64 1] ?_; (with_reducible refine (ratio_Of.calls kj52 t1129 1 t1130 t1131 t1134 false _ A76.out).mono ?_); rintro e w150 ⟨v1132, v1135, rfl, ho0, ho1, hb⟩; refine ⟨_, rfl, ?_⟩; replace HO_1117002 := mk0 (Kd.V_elder' HO_1117002.out (Rs ho0) hb); have HO1133 := mk0 (Rl (Rn (Rm (ok' := fun k_ => True) ho0 tv) (Rq HO_1117001.out)) (bZ HB.out)); have HO1136 := mk0 (Vl (Vm (ok' := fun k_ => some k_ ≠ (v1132 : Value).ownBlock ∧ some k_ ≠ (.slice Ao148 x9_52.length co148 : Value).ownBlock ∧ some k_ ≠ (.slice Ao38 t1109.length co38 : Value).ownBlock ∧ k_ ≠ gb1105 ∧ k_ ≠ gb1116) ho1 (fun k_ hk_ => ⟨hk_.2, (Kd.fresh' (Rq HO_9.out) k_ hk_.1), (Kd.fresh' (Rq HO_1117001.out) k_ hk_.1), (Kd.freshB BK1105.out k_ hk_.1), (Kd.freshB BK1116.out k_ hk_.1)⟩)) (bZ HB.out)); replace HO_9 := rB HO_9 hb; replace HO_1117001 := mk0 (Re HO_1117001.out (Rs ho0) hb); replace BK1105 := bkB BK1105 hb; replace BK1116 := bkB BK1116 hb; replace HB := hbS HB hb) | ((with_reducible refine gate_dst (N := 14) rfl ?_); (try (refine gate_guard (by rfl) ?_; dsimp only)); refine box_event rfl (N := 14) rfl (cs := #[.bool false, .slice none 0 0, .slice none 0 0]) (t := 29) (by go_simp <;> rfl) ?_; intro gb1138 hg w151 hbox hb; replace HO_9 := rB HO_9 hb; replace HO_1117001 := rB HO_1117001 hb; replace HO_1117002 := vB HO_1117002 hg hb; replace HO1133 := rB HO1133 hb; replace HO1136 := vB HO1136 hg hb; have BK1138 := mk0 (hbox); have GE1138 := geB hg HB; replace HB := hbS HB hb; have NB1105_1138 := nbA hg BK1105; have NB1138_1105 := nbB hg BK1105; replace BK1105 := bkB BK1105 hb; have NB1116_1138 := nbA hg BK1116; have NB1138_1116 := nbB hg BK1116; replace BK1116 := bkB BK1116 hb; clear hb hbox hg; have hnb152 := NB1138_1105.out; have hnc152 := NB1105_1138.out; have hnb153 := NB1138_1116.out; have hnc153 := NB1116_1138.out; obtain ⟨hcz154_0, hcz154_1, hcz154_2, hfz154_0, hfz154_1, hfz154_2⟩ := cz3 BK1138; obtain ⟨Ao155, co155, eo155⟩ := Kd.R_slice HO1133.out; subst eo155; obtain ⟨Ao156, co156, eo156⟩ := Kd.V_slice HO1136.out; subst eo156) | ((with_reducible refine gate_callee (f := 16) rfl ?_); refine goA 91 Try.func16 #[.int .i64 (wrap64 ((wrap64 (x10_2 + 1)) + a1)), .int .i64 1] ?_; (with_reducible refine (ratio_Of.calls kj52 (wrap64 ((wrap64 (x10_2 + 1)) + a1)) 1 t1139 t1140 t1143 t1146 _ A77.out).mono ?_); rintro e w157 ⟨v1141, v1144, rfl, ho0, ho1, hb⟩; refine ⟨_, rfl, ?_⟩; replace HO_1117002 := mk0 (Kd.V_elder' ((Vm (Vf (p := ⟨gb1138, 2, none⟩) (Vf (p := ⟨gb1138, 1, none⟩) (Vf (p := ⟨gb1138, 0, none⟩) (Vm HO_1117002.out (fun k_ hk => (⟨hk, hk.2⟩ : _ ∧ k_ ≠ gb1138))) (fun _ hk => hk.2) (.bool t1130)) (fun _ hk => hk.2) (.slice Ao155 t1131.length co155)) (fun _ hk => hk.2) (.slice Ao156 t1134.length co156)) (fun _ h_ => h_.1))) (Rs ho0) hb); replace HO1136 := mk0 (Kd.V_elder' ((Vm (Vf (p := ⟨gb1138, 2, none⟩) (Vf (p := ⟨gb1138, 1, none⟩) (Vf (p := ⟨gb1138, 0, none⟩) (Vm HO1136.out (fun k_ hk => (⟨hk, hk.2⟩ : _ ∧ k_ ≠ gb1138))) (fun _ hk => hk.2) (.bool t1130)) (fun _ hk => hk.2) (.slice Ao155 t1131.length co155)) (fun _ hk => hk.2) (.slice Ao156 t1134.length co156)) (fun _ h_ => h_.1))) (Rs ho0) hb); have HO1142 := mk0 (Rl (Rn (Rn (Rm (ok' := fun k_ => True) ho0 tv) (Rq ((Rm (Rf (p := ⟨gb1138, 2, none⟩) (Rf (p := ⟨gb1138, 1, none⟩) (Rf (p := ⟨gb1138, 0, none⟩) (Rt HO_1117001.out BK1138.out (by decide)) (fun _ hk => hk.2) (.bool t1130)) (fun _ hk => hk.2) (.slice Ao155 t1131.length co155)) (fun _ hk => hk.2) (.slice Ao156 t1134.length co156)) (fun _ h_ => h_.1))))) (Rq ((Rm (Rf (p := ⟨gb1138, 2, none⟩) (Rf (p := ⟨gb1138, 1, none⟩) (Rf (p := ⟨gb1138, 0, none⟩) (Rt HO1133.out BK1138.out (by decide)) (fun _ hk => hk.2) (.bool t1130)) (fun _ hk => hk.2) (.slice Ao155 t1131.length co155)) (fun _ hk => hk.2) (.slice Ao156 t1134.length co156)) (fun _ h_ => h_.1))))) (bZ (by repeat (first | exact HB.out | refine bS ?_ GE1116.out | refine bS ?_ GE1138.out)))); have HO1145 := mk0 (Vl (Vm (ok' := fun k_ => some k_ ≠ (v1141 : Value).ownBlock ∧ some k_ ≠ (.slice Ao148 x9_52.length co148 : Value).ownBlock ∧ some k_ ≠ (.slice Ao38 t1109.length co38 : Value).ownBlock ∧ some k_ ≠ (.slice Ao155 t1131.length co155 : Value).ownBlock ∧ k_ ≠ gb1105 ∧ k_ ≠ gb1116 ∧ k_ ≠ gb1138) ho1 (fun k_ hk_ => ⟨hk_.2, (Kd.fresh' (Rq ((Rm (Rf (p := ⟨gb1138, 2, none⟩) (Rf (p := ⟨gb1138, 1, none⟩) (Rf (p := ⟨gb1138, 0, none⟩) (Rt HO_9.out BK1138.out (by decide)) (fun _ hk => hk.2) (.bool t1130)) (fun _ hk => hk.2) (.slice Ao155 t1131.length co155)) (fun _ hk => hk.2) (.slice Ao156 t1134.length co156)) (fun _ h_ => h_.1)))) k_ hk_.1), (Kd.fresh' (Rq ((Rm (Rf (p := ⟨gb1138, 2, none⟩) (Rf (p := ⟨gb1138, 1, none⟩) (Rf (p := ⟨gb1138, 0, none⟩) (Rt HO_1117001.out BK1138.out (by decide)) (fun _ hk => hk.2) (.bool t1130)) (fun _ hk => hk.2) (.slice Ao155 t1131.length co155)) (fun _ hk => hk.2) (.slice Ao156 t1134.length co156)) (fun _ h_ => h_.1)))) k_ hk_.1), (Kd.fresh' (Rq ((Rm (Rf (p := ⟨gb1138, 2, none⟩) (Rf (p := ⟨gb1138, 1, none⟩) (Rf (p := ⟨gb1138, 0, none⟩) (Rt HO1133.out BK1138.out (by decide)) (fun _ hk => hk.2) (.bool t1130)) (fun _ hk => hk.2) (.slice Ao155 t1131.length co155)) (fun _ hk => hk.2) (.slice Ao156 t1134.length co156)) (fun _ h_ => h_.1)))) k_ hk_.1), (Kd.freshB (g := gb1105) (o := .cells #[.bool a0_0, .slice A0_1 l0_1.length c0_1, .slice A0_2 l0_2.length c0_2] 29 (0, 0)) (by refine blk_far ?_ NB1105_1138.out _; refine blk_far ?_ NB1105_1138.out _; refine blk_far ?_ NB1105_1138.out _; exact BK1105.out) k_ hk_.1), (Kd.freshB (g := gb1116) (o := .cells #[.bool t1108, .slice Ao38 t1109.length co38, .slice Ao39 t1112.length co39] 29 (0, 0)) (by refine blk_far ?_ NB1116_1138.out _; refine blk_far ?_ NB1116_1138.out _; refine blk_far ?_ NB1116_1138.out _; exact BK1116.out) k_ hk_.1), (Kd.freshB (g := gb1138) (o := .cells #[.bool t1130, .slice Ao155 t1131.length co155, .slice Ao156 t1134.length co156] 29 (0, 0)) (by refine blk_put (cs := #[.bool t1130, .slice Ao155 t1131.length co155, .slice none 0 0]) ?_ 2 _ rfl; refine blk_put (cs := #[.bool t1130, .slice none 0 0, .slice none 0 0]) ?_ 1 _ rfl; refine blk_put (cs := #[.bool false, .slice none 0 0, .slice none 0 0]) ?_ 0 _ rfl; exact BK1138.out) k_ hk_.1)⟩)) (bZ (by repeat (first | exact HB.out | refine bS ?_ GE1116.out | refine bS ?_ GE1138.out)))); replace HO_9 := mk0 (Rb ((Rm (Rf (p := ⟨gb1138, 2, none⟩) (Rf (p := ⟨gb1138, 1, none⟩) (Rf (p := ⟨gb1138, 0, none⟩) (Rt HO_9.out BK1138.out (by decide)) (fun _ hk => hk.2) (.bool t1130)) (fun _ hk => hk.2) (.slice Ao155 t1131.length co155)) (fun _ hk => hk.2) (.slice Ao156 t1134.length co156)) (fun _ h_ => h_.1))) hb); replace HO_1117001 := mk0 (Re ((Rm (Rf (p := ⟨gb1138, 2, none⟩) (Rf (p := ⟨gb1138, 1, none⟩) (Rf (p := ⟨gb1138, 0, none⟩) (Rt HO_1117001.out BK1138.out (by decide)) (fun _ hk => hk.2) (.bool t1130)) (fun _ hk => hk.2) (.slice Ao155 t1131.length co155)) (fun _ hk => hk.2) (.slice Ao156 t1134.length co156)) (fun _ h_ => h_.1))) (Rs ho0) hb); replace HO1133 := mk0 (Re ((Rm (Rf (p := ⟨gb1138, 2, none⟩) (Rf (p := ⟨gb1138, 1, none⟩) (Rf (p := ⟨gb1138, 0, none⟩) (Rt HO1133.out BK1138.out (by decide)) (fun _ hk => hk.2) (.bool t1130)) (fun _ hk => hk.2) (.slice Ao155 t1131.length co155)) (fun _ hk => hk.2) (.slice Ao156 t1134.length co156)) (fun _ h_ => h_.1))) (Rs ho0) hb); replace BK1105 := mk0 (blk_below (g := gb1105) (o := .cells #[.bool a0_0, .slice A0_1 l0_1.length c0_1, .slice A0_2 l0_2.length c0_2] 29 (0, 0)) (by refine blk_far ?_ NB1105_1138.out _; refine blk_far ?_ NB1105_1138.out _; refine blk_far ?_ NB1105_1138.out _; exact BK1105.out) hb); replace BK1116 := mk0 (blk_below (g := gb1116) (o := .cells #[.bool t1108, .slice Ao38 t1109.length co38, .slice Ao39 t1112.length co39] 29 (0, 0)) (by refine blk_far ?_ NB1116_1138.out _; refine blk_far ?_ NB1116_1138.out _; refine blk_far ?_ NB1116_1138.out _; exact BK1116.out) hb); replace BK1138 := mk0 (blk_below (g := gb1138) (o := .cells #[.bool t1130, .slice Ao155 t1131.length co155, .slice Ao156 t1134.length co156] 29 (0, 0)) (by refine blk_put (cs := #[.bool t1130, .slice Ao155 t1131.length co155, .slice none 0 0]) ?_ 2 _ rfl; refine blk_put (cs := #[.bool t1130, .slice none 0 0, .slice none 0 0]) ?_ 1 _ rfl; refine blk_put (cs := #[.bool false, .slice none 0 0, .slice none 0 0]) ?_ 0 _ rfl; exact BK1138.out) hb); replace HB := mk0 (below_step (by repeat (first | exact HB.out | refine bS ?_ GE1116.out | refine bS ?_ GE1138.out)) hb)) | ((with_reducible refine gate_dst (N := 16) rfl ?_); (try (refine gate_guard (by rfl) ?_; dsimp only)); refine box_event rfl (N := 16) rfl (cs := #[.bool false, .slice none 0 0, .slice none 0 0]) (t := 29) (by go_simp <;> rfl) ?_; intro gb1147 hg w158 hbox hb; replace HO_9 := rB HO_9 hb; replace HO_1117001 := rB HO_1117001 hb; replace HO_1117002 := vB HO_1117002 hg hb; replace HO1133 := rB HO1133 hb; replace HO1136 := vB HO1136 hg hb; replace HO1142 := rB HO1142 hb; replace HO1145 := vB HO1145 hg hb; have BK1147 := mk0 (hbox); have GE1147 := geB hg HB; replace HB := hbS HB hb; have NB1105_1147 := nbA hg BK1105; have NB1147_1105 := nbB hg BK1105; replace BK1105 := bkB BK1105 hb; have NB1116_1147 := nbA hg BK1116; have NB1147_1116 := nbB hg BK1116; replace BK1116 := bkB BK1116 hb; have NB1138_1147 := nbA hg BK1138; have NB1147_1138 := nbB hg BK1138; replace BK1138 := bkB BK1138 hb; clear hb hbox hg; have hnb159 := NB1147_1105.out; have hnc159 := NB1105_1147.out; have hnb160 := NB1147_1116.out; have hnc160 := NB1116_1147.out; have hnb161 := NB1147_1138.out; have hnc161 := NB1138_1147.out; obtain ⟨hcz162_0, hcz162_1, hcz162_2, hfz162_0, hfz162_1, hfz162_2⟩ := cz3 BK1147; obtain ⟨Ao163, co163, eo163⟩ := Kd.R_slice HO1142.out; subst eo163; obtain ⟨Ao164, co164, eo164⟩ := Kd.V_slice HO1145.out; subst eo164))
             have n0_ : Aside0 (Kd.R k50 50 (((w158.setCell ⟨gb1147, 0, none⟩ (.bool t1139)).setCell ⟨gb1147, 1, none⟩ (.slice Ao163 t1140.length co163)).setCell ⟨gb1147, 2, none⟩ (.slice Ao164 t1143.length co164)) w.heap.size (fun _ => True) (.slice Ao148 x9_52.length co148) x9_52) := ⟨Rm (Rf (p := ⟨gb1147, 2, none⟩) (Rf (p := ⟨gb1147, 1, none⟩) (Rf (p := ⟨gb1147, 0, none⟩) (Rt HO_9.out BK1147.out (by decide)) (fun _ hk => hk.2) (.bool t1139)) (fun _ hk => hk.2) (.slice Ao163 t1140.length co163)) (fun _ hk => hk.2) (.slice Ao164 t1143.length co164)) tv⟩
             have n1_ : Aside0 (Kd.R (Kd.int .u32) 87 (((w158.setCell ⟨gb1147, 0, none⟩ (.bool t1139)).setCell ⟨gb1147, 1, none⟩ (.slice Ao163 t1140.length co163)).setCell ⟨gb1147, 2, none⟩ (.slice Ao164 t1143.length co164)) w.heap.size (fun k_ => some k_ ≠ (.slice Ao155 t1131.length co155 : Value).ownBlock ∧ some k_ ≠ (.slice Ao163 t1140.length co163 : Value).ownBlock) (.slice Ao38 t1109.length co38) t1109) := ⟨Rm (Rf (p := ⟨gb1147, 2, none⟩) (Rf (p := ⟨gb1147, 1, none⟩) (Rf (p := ⟨gb1147, 0, none⟩) (Rt HO_1117001.out BK1147.out (by decide)) (fun _ hk => hk.2) (.bool t1139)) (fun _ hk => hk.2) (.slice Ao163 t1140.length co163)) (fun _ hk => hk.2) (.slice Ao164 t1143.length co164)) (fun _ hk => ⟨hk.1.1.2, hk.1.2⟩)⟩
             have n2_ : Aside0 (Kd.V (Kd.int .u32) 87 (((w158.setCell ⟨gb1147, 0, none⟩ (.bool t1139)).setCell ⟨gb1147, 1, none⟩ (.slice Ao163 t1140.length co163)).setCell ⟨gb1147, 2, none⟩ (.slice Ao164 t1143.length co164)) w.heap.size (fun k_ => some k_ ≠ (.slice Ao148 x9_52.length co148 : Value).ownBlock ∧ some k_ ≠ (.slice Ao38 t1109.length co38 : Value).ownBlock ∧ some k_ ≠ (.slice Ao155 t1131.length co155 : Value).ownBlock ∧ some k_ ≠ (.slice Ao163 t1140.length co163 : Value).ownBlock ∧ k_ ≠ gb1105 ∧ k_ ≠ gb1116 ∧ k_ ≠ gb1138 ∧ k_ ≠ gb1147) (.slice Ao39 t1112.length co39) t1112) := ⟨Vm (Vf (p := ⟨gb1147, 2, none⟩) (Vf (p := ⟨gb1147, 1, none⟩) (Vf (p := ⟨gb1147, 0, none⟩) (Vm HO_1117002.out (fun k_ hk => (⟨hk, hk.2⟩ : _ ∧ k_ ≠ gb1147))) (fun _ hk => hk.2) (.bool t1139)) (fun _ hk => hk.2) (.slice Ao163 t1140.length co163)) (fun _ hk => hk.2) (.slice Ao164 t1143.length co164)) (fun _ hk => ⟨hk.1.1.1.1.1.1, ⟨hk.1.1.1.1.1.2.1, ⟨hk.1.1.1.1.2, ⟨hk.1.1.2, ⟨hk.1.1.1.1.1.2.2.1, ⟨hk.1.1.1.1.1.2.2.2, ⟨hk.1.1.1.2, hk.1.2⟩⟩⟩⟩⟩⟩⟩)⟩
             have n3_ : Aside0 (Kd.R (Kd.int .u32) 87 (((w158.setCell ⟨gb1147, 0, none⟩ (.bool t1139)).setCell ⟨gb1147, 1, none⟩ (.slice Ao163 t1140.length co163)).setCell ⟨gb1147, 2, none⟩ (.slice Ao164 t1143.length co164)) w.heap.size (fun k_ => some k_ ≠ (.slice Ao38 t1109.length co38 : Value).ownBlock ∧ some k_ ≠ (.slice Ao163 t1140.length co163 : Value).ownBlock) (.slice Ao155 t1131.length co155) t1131) := ⟨Rm (Rf (p := ⟨gb1147, 2, none⟩) (Rf (p := ⟨gb1147, 1, none⟩) (Rf (p := ⟨gb1147, 0, none⟩) (Rt HO1133.out BK1147.out (by decide)) (fun _ hk => hk.2) (.bool t1139)) (fun _ hk => hk.2) (.slice Ao163 t1140.length co163)) (fun _ hk => hk.2) (.slice Ao164 t1143.length co164)) (fun _ hk => ⟨hk.1.1.2, hk.1.2⟩)⟩
             have n4_ : Aside0 (Kd.V (Kd.int .u32) 87 (((w158.setCell ⟨gb1147, 0, none⟩ (.bool t1139)).setCell ⟨gb1147, 1, none⟩ (.slice Ao163 t1140.length co163)).setCell ⟨gb1147, 2, none⟩ (.slice Ao164 t1143.length co164)) w.heap.size (fun k_ => some k_ ≠ (.slice Ao148 x9_52.length co148 : Value).ownBlock ∧ some k_ ≠ (.slice Ao38 t1109.length co38 : Value).ownBlock ∧ some k_ ≠ (.slice Ao155 t1131.length co155 : Value).ownBlock ∧ some k_ ≠ (.slice Ao163 t1140.length co163 : Value).ownBlock ∧ k_ ≠ gb1105 ∧ k_ ≠ gb1116 ∧ k_ ≠ gb1138 ∧ k_ ≠ gb1147) (.slice Ao156 t1134.length co156) t1134) := ⟨Vm (Vf (p := ⟨gb1147, 2, none⟩) (Vf (p := ⟨gb1147, 1, none⟩) (Vf (p := ⟨gb1147, 0, none⟩) (Vm HO1136.out (fun k_ hk => (⟨hk, hk.2⟩ : _ ∧ k_ ≠ gb1147))) (fun _ hk => hk.2) (.bool t1139)) (fun _ hk => hk.2) (.slice Ao163 t1140.length co163)) (fun _ hk => hk.2) (.slice Ao164 t1143.length co164)) (fun _ hk => ⟨hk.1.1.1.1.2.1, ⟨hk.1.1.1.1.2.2.1, ⟨hk.1.1.1.1.1, ⟨hk.1.1.2, ⟨hk.1.1.1.1.2.2.2.1, ⟨hk.1.1.1.1.2.2.2.2, ⟨hk.1.1.1.2, hk.1.2⟩⟩⟩⟩⟩⟩⟩)⟩
             have n5_ : Aside0 (Kd.R (Kd.int .u32) 87 (((w158.setCell ⟨gb1147, 0, none⟩ (.bool t1139)).setCell ⟨gb1147, 1, none⟩ (.slice Ao163 t1140.length co163)).setCell ⟨gb1147, 2, none⟩ (.slice Ao164 t1143.length co164)) w.heap.size (fun k_ => some k_ ≠ (.slice Ao38 t1109.length co38 : Value).ownBlock ∧ some k_ ≠ (.slice Ao155 t1131.length co155 : Value).ownBlock) (.slice Ao163 t1140.length co163) t1140) := ⟨Rm (Rf (p := ⟨gb1147, 2, none⟩) (Rf (p := ⟨gb1147, 1, none⟩) (Rf (p := ⟨gb1147, 0, none⟩) (Rt HO1142.out BK1147.out (by decide)) (fun _ hk => hk.2) (.bool t1139)) (fun _ hk => hk.2) (.slice Ao163 t1140.length co163)) (fun _ hk => hk.2) (.slice Ao164 t1143.length co164)) (fun _ hk => ⟨hk.1.1.2, hk.1.2⟩)⟩
             have n6_ : Aside0 (Kd.V (Kd.int .u32) 87 (((w158.setCell ⟨gb1147, 0, none⟩ (.bool t1139)).setCell ⟨gb1147, 1, none⟩ (.slice Ao163 t1140.length co163)).setCell ⟨gb1147, 2, none⟩ (.slice Ao164 t1143.length co164)) w.heap.size (fun k_ => some k_ ≠ (.slice Ao148 x9_52.length co148 : Value).ownBlock ∧ some k_ ≠ (.slice Ao38 t1109.length co38 : Value).ownBlock ∧ some k_ ≠ (.slice Ao155 t1131.length co155 : Value).ownBlock ∧ some k_ ≠ (.slice Ao163 t1140.length co163 : Value).ownBlock ∧ k_ ≠ gb1105 ∧ k_ ≠ gb1116 ∧ k_ ≠ gb1138 ∧ k_ ≠ gb1147) (.slice Ao164 t1143.length co164) t1143) := ⟨Vm (Vf (p := ⟨gb1147, 2, none⟩) (Vf (p := ⟨gb1147, 1, none⟩) (Vf (p := ⟨gb1147, 0, none⟩) (Vm HO1145.out (fun k_ hk => (⟨hk, hk.2⟩ : _ ∧ k_ ≠ gb1147))) (fun _ hk => hk.2) (.bool t1139)) (fun _ hk => hk.2) (.slice Ao163 t1140.length co163)) (fun _ hk => hk.2) (.slice Ao164 t1143.length co164)) (fun _ hk => ⟨hk.1.1.2.1, ⟨hk.1.1.2.2.1, ⟨hk.1.1.2.2.2.1, ⟨hk.1.1.1, ⟨hk.1.1.2.2.2.2.1, ⟨hk.1.1.2.2.2.2.2.1, ⟨hk.1.1.2.2.2.2.2.2, hk.1.2⟩⟩⟩⟩⟩⟩⟩)⟩
             have n7_ : Aside0 ((((w158.setCell ⟨gb1147, 0, none⟩ (.bool t1139)).setCell ⟨gb1147, 1, none⟩ (.slice Ao163 t1140.length co163)).setCell ⟨gb1147, 2, none⟩ (.slice Ao164 t1143.length co164)).heap[gb1105]? = some (.cells #[.bool a0_0, .slice A0_1 l0_1.length c0_1, .slice A0_2 l0_2.length c0_2] 29 (0, 0))) := ⟨by refine blk_far ?_ NB1105_1147.out _; refine blk_far ?_ NB1105_1147.out _; refine blk_far ?_ NB1105_1147.out _; exact BK1105.out⟩
             have n8_ : Aside0 ((((w158.setCell ⟨gb1147, 0, none⟩ (.bool t1139)).setCell ⟨gb1147, 1, none⟩ (.slice Ao163 t1140.length co163)).setCell ⟨gb1147, 2, none⟩ (.slice Ao164 t1143.length co164)).heap[gb1116]? = some (.cells #[.bool t1108, .slice Ao38 t1109.length co38, .slice Ao39 t1112.length co39] 29 (0, 0))) := ⟨by refine blk_far ?_ NB1116_1147.out _; refine blk_far ?_ NB1116_1147.out _; refine blk_far ?_ NB1116_1147.out _; exact BK1116.out⟩
             have n9_ : Aside0 ((((w158.setCell ⟨gb1147, 0, none⟩ (.bool t1139)).setCell ⟨gb1147, 1, none⟩ (.slice Ao163 t1140.length co163)).setCell ⟨gb1147, 2, none⟩ (.slice Ao164 t1143.length co164)).heap[gb1138]? = some (.cells #[.bool t1130, .slice Ao155 t1131.length co155, .slice Ao156 t1134.length co156] 29 (0, 0))) := ⟨by refine blk_far ?_ NB1138_1147.out _; refine blk_far ?_ NB1138_1147.out _; refine blk_far ?_ NB1138_1147.out _; exact BK1138.out⟩
             have n10_ : Aside0 ((((w158.setCell ⟨gb1147, 0, none⟩ (.bool t1139)).setCell ⟨gb1147, 1, none⟩ (.slice Ao163 t1140.length co163)).setCell ⟨gb1147, 2, none⟩ (.slice Ao164 t1143.length co164)).heap[gb1147]? = some (.cells #[.bool t1139, .slice Ao163 t1140.length co163, .slice Ao164 t1143.length co164] 29 (0, 0))) := ⟨by refine blk_put (cs := #[.bool t1139, .slice Ao163 t1140.length co163, .slice none 0 0]) ?_ 2 _ rfl; refine blk_put (cs := #[.bool t1139, .slice none 0 0, .slice none 0 0]) ?_ 1 _ rfl; refine blk_put (cs := #[.bool false, .slice none 0 0, .slice none 0 0]) ?_ 0 _ rfl; exact BK1147.out⟩
             have n11_ : Aside0 (Below w.heap.size w (((w158.setCell ⟨gb1147, 0, none⟩ (.bool t1139)).setCell ⟨gb1147, 1, none⟩ (.slice Ao163 t1140.length co163)).setCell ⟨gb1147, 2, none⟩ (.slice Ao164 t1143.length co164))) := ⟨by repeat (first | exact HB.out | apply bN | apply b1 | apply bA | refine bS ?_ GE1105.out | refine bS ?_ GE1116.out | refine bS ?_ GE1138.out | refine bS ?_ GE1147.out)⟩
             (try clear HO_9)
             (try clear HO_1117001)
             (try clear HO_1117002)
             (try clear HO1133)
             (try clear HO1136)
             (try clear HO1142)
             (try clear HO1145)
             (try clear BK1105)
             (try clear BK1116)
             (try clear BK1138)
             (try clear BK1147)
             (try clear HB)
             generalize (((w158.setCell ⟨gb1147, 0, none⟩ (.bool t1139)).setCell ⟨gb1147, 1, none⟩ (.slice Ao163 t1140.length co163)).setCell ⟨gb1147, 2, none⟩ (.slice Ao164 t1143.length co164)) = w165 at n0_ n1_ n2_ n3_ n4_ n5_ n6_ n7_ n8_ n9_ n10_ n11_ ⊢
             have HO_9 := n0_
             have HO_1117001 := n1_
             have HO_1117002 := n2_
             have HO1133 := n3_
             have HO1136 := n4_
             have HO1142 := n5_
             have HO1145 := n6_
             have BK1105 := n7_
             have BK1116 := n8_
             have BK1138 := n9_
             have BK1147 := n10_
             have HB := n11_
             clear n0_ n1_ n2_ n3_ n4_ n5_ n6_ n7_ n8_ n9_ n10_ n11_
             replace HO_9 := mk0 (Kd.R_drew HO_9.out)
             replace HO_1117001 := mk0 (Kd.R_drew HO_1117001.out)
             replace HO_1117002 := mk0 (Kd.V_drew HO_1117002.out)
             replace HO1133 := mk0 (Kd.R_drew HO1133.out)
             replace HO1136 := mk0 (Kd.V_drew HO1136.out)
             replace HO1142 := mk0 (Kd.R_drew HO1142.out)
             replace HO1145 := mk0 (Kd.V_drew HO1145.out)
             replace BK1105 := mk0 (blk_drew BK1105.out)
             replace BK1116 := mk0 (blk_drew BK1116.out)
             replace BK1138 := mk0 (blk_drew BK1138.out)
             replace BK1147 := mk0 (blk_drew BK1147.out)
             replace HB := mk0 (b1 HB.out)
             refine start_ (n := 14) (S := fun w' => True) (ds := []) (bv 14 0) (by kernel_rfl) rfl rfl trivial (fun hHeld => ?_); refine with_tabW examboardlaw37_ExposureCap.tab18 examboardlaw37_ExposureCap.bits18 (fun HT_ HW_ => ?_)
             generalize w165.drew = w166 at HO_9 HO_1117001 HO_1117002 HO1133 HO1136 HO1142 HO1145 BK1105 BK1116 BK1138 BK1147 HB hHeld ⊢
             refine puA (i := 0) (N := 94) (v := ?_) (a' := ?_) (bv 14 1) HT_ ?_ ?_ ?_; rotate_left; (intro w'; go_simp; with_reducible rfl); rotate_left; (simp only [Act.put, sA, sZ, sS, i64_w, i32_w]; rfl)
             refine puA (i := 1) (N := 95) (v := ?_) (a' := ?_) (bv 14 3) HT_ ?_ ?_ ?_; rotate_left; (intro w'; go_simp; with_reducible rfl); rotate_left; (simp only [Act.put, sA, sZ, sS, i64_w, i32_w]; rfl)
             refine puA (i := 2) (N := 96) (v := ?_) (a' := ?_) (bv 14 7) HT_ ?_ ?_ ?_; rotate_left; (intro w'; go_simp; with_reducible rfl); rotate_left; (simp only [Act.put, sA, sZ, sS, i64_w, i32_w]; rfl)
             refine puO (i := 3) (N := 97) (a' := ?_) (bv 14 15) HT_ ?_ ?_
             rotate_left
             ·simp only [Act.put, sA, sZ, sS, i64_w, i32_w]
              rfl
             refine puO (i := 4) (N := 98) (a' := ?_) (bv 14 31) HT_ ?_ ?_
             rotate_left
             ·simp only [Act.put, sA, sZ, sS, i64_w, i32_w]
              rfl
             refine puA (i := 5) (N := 99) (v := ?_) (a' := ?_) (bv 14 63) HT_ ?_ ?_ ?_; rotate_left; (intro w'; go_simp; with_reducible rfl); rotate_left; (simp only [Act.put, sA, sZ, sS, i64_w, i32_w]; rfl)
             refine puA (i := 6) (N := 100) (v := ?_) (a' := ?_) (bv 14 127) HT_ ?_ ?_ ?_; rotate_left; (intro w'; go_simp; with_reducible rfl); rotate_left; (simp only [Act.put, sA, sZ, sS, i64_w, i32_w]; rfl)
             refine puO (i := 7) (N := 101) (a' := ?_) (bv 14 255) HT_ ?_ ?_
             rotate_left
             ·simp only [Act.put, sA, sZ, sS, i64_w, i32_w]
              rfl
             refine puO (i := 8) (N := 102) (a' := ?_) (bv 14 511) HT_ ?_ ?_
             rotate_left
             ·simp only [Act.put, sA, sZ, sS, i64_w, i32_w]
              rfl
             refine puO (i := 9) (N := 103) (a' := ?_) (bv 14 1023) HT_ ?_ ?_
             rotate_left
             ·simp only [Act.put, sA, sZ, sS, i64_w, i32_w]
              rfl
             refine puO (i := 10) (N := 104) (a' := ?_) (bv 14 2047) HT_ ?_ ?_
             rotate_left
             ·simp only [Act.put, sA, sZ, sS, i64_w, i32_w]
              rfl
             refine puO (i := 11) (N := 105) (a' := ?_) (bv 14 4095) HT_ ?_ ?_
             rotate_left
             ·simp only [Act.put, sA, sZ, sS, i64_w, i32_w]
              rfl
             refine puO (i := 12) (N := 106) (a' := ?_) (bv 14 8191) HT_ ?_ ?_
             rotate_left
             ·simp only [Act.put, sA, sZ, sS, i64_w, i32_w]
              rfl
             refine puA (i := 13) (N := 107) (v := ?_) (a' := ?_) (bv 14 16383) HT_ ?_ ?_ ?_; rotate_left; (intro w'; go_simp; with_reducible rfl); rotate_left; (simp only [Act.put, sA, sZ, sS, i64_w, i32_w]; rfl)
             refine done_ (done_of HT_.out (by kernel_rfl)) ?_
             try go_wp2
             go_ret
             exact ⟨by first | rfl | (simp [errW_none, errW_some] <;> rfl) | (simp [*, errW_none, errW_some] <;> rfl), by repeat (first | exact HB.out | apply bN | apply b1 | apply bA | refine bS ?_ GE1105.out | refine bS ?_ GE1116.out | refine bS ?_ GE1138.out | refine bS ?_ GE1147.out)⟩
       ·rw [if_neg c41] at H
        have c41b0 : decide (x10_2 < (l2.length : Int)) = false := decide_eq_false c41
        clear c41
        obtain rfl := Option.some.inj H
        go_wp2
        go_ret
        exact ⟨by first | rfl | (simp [errW_none, errW_some] <;> rfl) | (simp [*, errW_none, errW_some] <;> rfl), by repeat (first | exact HB.out | apply bN | apply b1 | apply bA | refine bS ?_ GE1105.out | refine bS ?_ GE1116.out)⟩
    ·replace c33 := Bool.eq_false_iff.mpr c33
     subst c33
     have H1 : (some false) = some r := by rw [if_neg (show ¬ (false = true) by decide)] at H; exact H
     clear H
     have H := H1
     clear H1
     obtain rfl := Option.some.inj H
     go_wp2_with (first | ((with_reducible refine gate_callee (f := 16) rfl ?_); refine goA 39 Try.func16 #[.int .i64 1, .int .i64 1] ?_; (with_reducible refine (ratio_Of.calls kj3 1 1 t1108 t1109 t1112 t1115 _ A31.out).mono ?_); rintro e w167 ⟨v1110, v1113, rfl, ho0, ho1, hb⟩; refine ⟨_, rfl, ?_⟩; have HO1111 := mk0 (Rl (Rm (ok' := fun k_ => True) ho0 tv) (bZ HB.out)); have HO1114 := mk0 (Vl (Vm (ok' := fun k_ => some k_ ≠ (v1110 : Value).ownBlock ∧ k_ ≠ gb1105) ho1 (fun k_ hk_ => ⟨hk_.2, (Kd.freshB BK1105.out k_ hk_.1)⟩)) (bZ HB.out)); replace BK1105 := bkB BK1105 hb; replace HB := hbS HB hb) | ((with_reducible refine gate_dst (N := 7) rfl ?_); (try (refine gate_guard (by rfl) ?_; dsimp only)); refine box_event rfl (N := 7) rfl (cs := #[.bool false, .slice none 0 0, .slice none 0 0]) (t := 29) (by go_simp <;> rfl) ?_; intro gb1116 hg w168 hbox hb; replace HO1111 := rB HO1111 hb; replace HO1114 := vB HO1114 hg hb; have BK1116 := mk0 (hbox); have GE1116 := geB hg HB; replace HB := hbS HB hb; have NB1105_1116 := nbA hg BK1105; have NB1116_1105 := nbB hg BK1105; replace BK1105 := bkB BK1105 hb; clear hb hbox hg; have hnb169 := NB1116_1105.out; have hnc169 := NB1105_1116.out; obtain ⟨hcz170_0, hcz170_1, hcz170_2, hfz170_0, hfz170_1, hfz170_2⟩ := cz3 BK1116; obtain ⟨Ao171, co171, eo171⟩ := Kd.R_slice HO1111.out; subst eo171; obtain ⟨Ao172, co172, eo172⟩ := Kd.V_slice HO1114.out; subst eo172) | ((with_reducible refine gate_callee (f := 13) rfl ?_); refine goA 43 Try.func13 #[.int .i64 0, .int .i64 0, .agg #[.bool t1108, .slice Ao171 t1109.length co171, .slice Ao172 t1112.length co172], .int .i64 0] ?_; (with_reducible refine (exposure_Eligible.calls kj3 0 0 t1108 _ _ t1109 _ _ t1112 0 false _ (by refine (Kd.R_reads' (e := 87) (base := w.heap.size) (ok := fun k_ => True) (n := t1109.length) (c := co171) ?_).2.2; exact ((Rm (Rf (p := ⟨gb1116, 2, none⟩) (Rf (p := ⟨gb1116, 1, none⟩) (Rf (p := ⟨gb1116, 0, none⟩) (Rt HO1111.out BK1116.out (by decide)) (fun _ hk => hk.2) (.bool t1108)) (fun _ hk => hk.2) (.slice Ao171 t1109.length co171)) (fun _ hk => hk.2) (.slice Ao172 t1112.length co172)) (fun _ h_ => h_.1)))) (by exact (Kd.R_reads' HO1111.out).2.1) (by refine (Kd.V_reads' (e := 87) (base := w.heap.size) (ok := fun k_ => ((some k_ ≠ (.slice Ao171 t1109.length co171 : Value).ownBlock ∧ k_ ≠ gb1105) ∧ k_ ≠ gb1116)) (n := t1112.length) (c := co172) ?_).2.2; exact ((Vm (Vf (p := ⟨gb1116, 2, none⟩) (Vf (p := ⟨gb1116, 1, none⟩) (Vf (p := ⟨gb1116, 0, none⟩) (Vm HO1114.out (fun k_ hk => (⟨hk, hk.2⟩ : _ ∧ k_ ≠ gb1116))) (fun _ hk => hk.2) (.bool t1108)) (fun _ hk => hk.2) (.slice Ao171 t1109.length co171)) (fun _ hk => hk.2) (.slice Ao172 t1112.length co172)) (fun _ h_ => h_.1)))) (by exact (Kd.V_reads' HO1114.out).2.1) A32.out).mono ?_); rintro e w173 ⟨rfl, hb⟩; refine ⟨_, rfl, ?_⟩; replace HO1111 := mk0 (Rb ((Rm (Rf (p := ⟨gb1116, 2, none⟩) (Rf (p := ⟨gb1116, 1, none⟩) (Rf (p := ⟨gb1116, 0, none⟩) (Rt HO1111.out BK1116.out (by decide)) (fun _ hk => hk.2) (.bool t1108)) (fun _ hk => hk.2) (.slice Ao171 t1109.length co171)) (fun _ hk => hk.2) (.slice Ao172 t1112.length co172)) (fun _ h_ => h_.1))) hb); replace HO1114 := mk0 (Kd.V_below ((Vm (Vf (p := ⟨gb1116, 2, none⟩) (Vf (p := ⟨gb1116, 1, none⟩) (Vf (p := ⟨gb1116, 0, none⟩) (Vm HO1114.out (fun k_ hk => (⟨hk, hk.2⟩ : _ ∧ k_ ≠ gb1116))) (fun _ hk => hk.2) (.bool t1108)) (fun _ hk => hk.2) (.slice Ao171 t1109.length co171)) (fun _ hk => hk.2) (.slice Ao172 t1112.length co172)) (fun _ h_ => h_.1))) hb); replace BK1105 := mk0 (blk_below (g := gb1105) (o := .cells #[.bool a0_0, .slice A0_1 l0_1.length c0_1, .slice A0_2 l0_2.length c0_2] 29 (0, 0)) (by refine blk_far ?_ NB1105_1116.out _; refine blk_far ?_ NB1105_1116.out _; refine blk_far ?_ NB1105_1116.out _; exact BK1105.out) hb); replace BK1116 := mk0 (blk_below (g := gb1116) (o := .cells #[.bool t1108, .slice Ao171 t1109.length co171, .slice Ao172 t1112.length co172] 29 (0, 0)) (by refine blk_put (cs := #[.bool t1108, .slice Ao171 t1109.length co171, .slice none 0 0]) ?_ 2 _ rfl; refine blk_put (cs := #[.bool t1108, .slice none 0 0, .slice none 0 0]) ?_ 1 _ rfl; refine blk_put (cs := #[.bool false, .slice none 0 0, .slice none 0 0]) ?_ 0 _ rfl; exact BK1116.out) hb); replace HB := mk0 (below_step (by repeat (first | exact HB.out | refine bS ?_ GE1116.out)) hb)))
     go_ret
     exact ⟨by first | rfl | (simp [errW_none, errW_some] <;> rfl) | (simp [*, errW_none, errW_some] <;> rfl), by repeat (first | exact HB.out | apply bN | apply b1 | apply bA | refine bS ?_ GE1105.out | refine bS ?_ GE1116.out)⟩
end Go.Proofs.Ythamhjmhgcpdgaa.Q
end
section
namespace Go.Proofs.Ythamhjmhgcpdgaa.Ord
open Go.RowKit Go.Proofs.YthamhjmhgcpdgaaW.PrintWords Go.Proofs.Ythamhjmhgcpdgaa.Q Go.Proofs.Ythamhjmhgcpdgaa.Lp
set_option linter.unusedVariables false
set_option linter.unusedSimpArgs false
def bd (a : Int) : Int := if a < 0 then 0 else if a > 1000000 then 1000000 else a
theorem bd_bounds (a : Int) : 0 ≤ bd a ∧ bd a ≤ 1000000 := by unfold bd; split <;> (try split) <;> omega
theorem bd_id {a : Int} (h0 : 0 ≤ a) (h1 : a ≤ 1000000) : bd a = a := by unfold bd; split <;> (try split) <;> omega
def tot : List S50 → Int → Int
 | [], _ => 0
 | u :: l, x => (if u.f0 = x then bd u.f1 else 0) + tot l x
def cnt (l : List S50) (x : Int) : Int := bd (tot l x)
theorem tot_nonneg (l : List S50) (x : Int) : 0 ≤ tot l x := by
 induction l with
 | nil => exact Int.le_refl _
 | cons u l ih => have := (bd_bounds u.f1).1; unfold tot; split <;> omega
theorem tot_append (a b : List S50) (x : Int) : tot (a ++ b) x = tot a x + tot b x := by
 induction a with
 | nil => simp [tot]
 | cons u a ih => simp only [List.cons_append, tot, ih]; omega
theorem cnt_bounds (l : List S50) (x : Int) : 0 ≤ cnt l x ∧ cnt l x ≤ 1000000 := bd_bounds _
theorem tot_absent {l : List S50} {x : Int} (h : ∀ u ∈ l, u.f0 ≠ x) : tot l x = 0 := by
 induction l with
 | nil => rfl
 | cons u l ih =>
  have := ih (fun v hv => h v (List.mem_cons_of_mem _ hv))
  unfold tot
  rw [if_neg (h u List.mem_cons_self), this]
  rfl
def SS (l : List S50) : Prop := l.Pairwise (fun a b => a.f0 < b.f0)
def Pos (l : List S50) : Prop := ∀ u ∈ l, 1 ≤ u.f1 ∧ u.f1 ≤ 1000000
theorem tot_head {u : S50} {l : List S50} (h : SS (u :: l)) (hp : Pos (u :: l)) : tot (u :: l) u.f0 = u.f1 := by
 have h1 := (List.pairwise_cons.1 h).1
 have h2 := hp u List.mem_cons_self
 unfold tot
 rw [if_pos rfl, bd_id (by omega) h2.2, tot_absent (fun v hv => by have := h1 v hv; omega)]
 omega
theorem tot_tail {u : S50} {l : List S50} {x : Int} (h : u.f0 ≠ x) : tot (u :: l) x = tot l x := by
 rw [tot, if_neg h]; omega
theorem tot_le {l : List S50} (h : SS l) (hp : Pos l) (x : Int) : tot l x ≤ 1000000 := by
 induction l with
 | nil => show (0 : Int) ≤ _; omega
 | cons u l ih =>
  by_cases hx : u.f0 = x
  ·subst hx
   rw [tot_head h hp]
   exact (hp u List.mem_cons_self).2
  ·rw [tot_tail hx]
   exact ih (List.pairwise_cons.1 h).2 (fun v hv => hp v (List.mem_cons_of_mem _ hv))
theorem cnt_canon {l : List S50} (h : SS l) (hp : Pos l) (x : Int) : cnt l x = tot l x := bd_id (tot_nonneg l x) (tot_le h hp x)
theorem canon_eq : ∀ {a b : List S50}, SS a → Pos a → SS b → Pos b → (∀ x, tot a x = tot b x) → a = b
 | [], [], _, _, _, _, _ => rfl
 | [], v :: b, _, _, hb, pb, h => by
  have h1 := h v.f0
  rw [tot_head hb pb] at h1
  have := (pb v List.mem_cons_self).1
  simp only [tot] at h1
  omega
 | u :: a, [], ha, pa, _, _, h => by
  have h1 := h u.f0
  rw [tot_head ha pa] at h1
  have := (pa u List.mem_cons_self).1
  simp only [tot] at h1
  omega
 | u :: a, v :: b, ha, pa, hb, pb, h => by
  have ha1 := (List.pairwise_cons.1 ha).1
  have hb1 := (List.pairwise_cons.1 hb).1
  have e : u.f0 = v.f0 := by
   rcases Int.lt_trichotomy u.f0 v.f0 with h1 | h1 | h1
   ·have h2 := h u.f0
    rw [tot_head ha pa, tot_tail (by omega), tot_absent (fun w hw => by have := hb1 w hw; omega)] at h2
    have := (pa u List.mem_cons_self).1
    omega
   ·exact h1
   ·have h2 := h v.f0
    rw [tot_head hb pb, tot_tail (by omega), tot_absent (fun w hw => by have := ha1 w hw; omega)] at h2
    have := (pb v List.mem_cons_self).1
    omega
  have e1 : u.f1 = v.f1 := by
   have h2 := h u.f0
   rw [tot_head ha pa, e, tot_head hb pb] at h2
   exact h2
  have huv : u = v := by cases u; cases v; simp_all
  subst huv
  rw [canon_eq (List.pairwise_cons.1 ha).2 (fun w hw => pa w (List.mem_cons_of_mem _ hw)) (List.pairwise_cons.1 hb).2 (fun w hw => pb w (List.mem_cons_of_mem _ hw)) (fun x => by
   by_cases hx : u.f0 = x
   ·subst hx
    rw [tot_absent (fun w hw => by have := ha1 w hw; omega), tot_absent (fun w hw => by have := hb1 w hw; omega)]
   ·have := h x
    rw [tot_tail hx, tot_tail hx] at this
    exact this)]
theorem keeps_iff (d : Array Int) (j : Nat) : Lib.keeps d j = true ↔ (j = 0 ∨ d[j]! ≠ d[j - 1]!) := by
 unfold Lib.keeps
 simp
theorem compact_mem (zs : List Int) (x : Int) : x ∈ Lib.compact zs ↔ x ∈ zs := by
 unfold Lib.compact Lib.compactUpTo
 simp only [List.mem_map, List.mem_filter, List.mem_range]
 constructor
 ·rintro ⟨j, ⟨hj, _⟩, rfl⟩
  have : zs.toArray[j]! = zs[j] := by simp [hj]
  rw [this]
  exact List.getElem_mem hj
 ·intro hx
  obtain ⟨j, hj, rfl⟩ := List.mem_iff_getElem.1 hx
  clear hx
  induction j with
  | zero => exact ⟨0, ⟨hj, (keeps_iff _ _).2 (.inl rfl)⟩, by simp [hj]⟩
  | succ j ih =>
   by_cases hk : Lib.keeps zs.toArray (j + 1) = true
   ·exact ⟨j + 1, ⟨hj, hk⟩, by simp [hj]⟩
   ·have h1 : zs[j + 1] = zs[j]'(by omega) := by
     have h2 : ¬ (j + 1 = 0 ∨ zs.toArray[j + 1]! ≠ zs.toArray[j + 1 - 1]!) := fun h => hk ((keeps_iff _ _).2 h)
     have h3 : zs.toArray[j + 1]! = zs.toArray[j]! := by
      rcases Classical.em (zs.toArray[j + 1]! = zs.toArray[j]!) with h | h
      ·exact h
      ·exact absurd (.inr (by simpa using h)) h2
     have e1 : zs.toArray[j + 1]! = zs[j + 1] := by simp [hj]
     have e2 : zs.toArray[j]! = zs[j]'(by omega) := by simp [show j < zs.length by omega]
     rw [← e1, h3, e2]
    rw [h1]
    exact ih (by omega)
theorem compact_sorted {zs : List Int} (h : zs.Pairwise (· ≤ ·)) : (Lib.compact zs).Pairwise (· < ·) := by
 unfold Lib.compact Lib.compactUpTo
 rw [List.pairwise_map]
 have hr : ((List.range zs.length).filter (Lib.keeps zs.toArray)).Pairwise (fun i j => i < j ∧ j < zs.length ∧ Lib.keeps zs.toArray j = true) := by
  have h1 : ((List.range zs.length).filter (Lib.keeps zs.toArray)).Pairwise (· < ·) := List.Pairwise.filter _ List.pairwise_lt_range
  refine List.Pairwise.imp_of_mem ?_ h1
  intro a b _ hb hab
  rw [List.mem_filter, List.mem_range] at hb
  exact ⟨hab, hb.1, hb.2⟩
 refine hr.imp ?_
 rintro i j ⟨hij, hj, hk⟩
 have e1 : zs.toArray[j]! = zs[j] := by simp [hj]
 have e2 : zs.toArray[i]! = zs[i]'(by omega) := by simp [show i < zs.length by omega]
 have e3 : zs.toArray[j - 1]! = zs[j - 1]'(by omega) := by simp [show j - 1 < zs.length by omega]
 have h2 := (keeps_iff _ _).1 hk
 rw [e1, e3] at h2
 rw [e1, e2]
 have h3 : zs[j - 1]'(by omega) ≤ zs[j] := List.pairwise_iff_getElem.1 h (j - 1) j (by omega) hj (by omega)
 have h4 : zs[i]'(by omega) ≤ zs[j - 1]'(by omega) := by
  rcases Nat.lt_or_ge i (j - 1) with h | h'
  ·exact List.pairwise_iff_getElem.1 ‹_› i (j - 1) (by omega) (by omega) h
  ·have : i = j - 1 := by omega
   subst this
   exact Int.le_refl _
 rcases h2 with h2 | h2
 ·omega
 ·omega
def sorted (zs : List Int) : List Int := zs.mergeSort fun x y => decide (x ≤ y)
theorem sorted_le (zs : List Int) : (sorted zs).Pairwise (· ≤ ·) := by
 have := List.pairwise_mergeSort (le := fun x y : Int => decide (x ≤ y)) (fun a b c h1 h2 => by simp at *; omega) (fun a b => by simp; omega) zs
 exact this.imp (fun h => by simpa using h)
theorem sorted_mem (zs : List Int) (x : Int) : x ∈ sorted zs ↔ x ∈ zs := List.mem_mergeSort
def keys (zs : List Int) : List Int := Lib.compact (sorted zs)
theorem keys_mem (zs : List Int) (x : Int) : x ∈ keys zs ↔ x ∈ zs := by unfold keys; rw [compact_mem, sorted_mem]
theorem keys_sorted (zs : List Int) : (keys zs).Pairwise (· < ·) := compact_sorted (sorted_le zs)
theorem keys_length (zs : List Int) : (keys zs).length ≤ zs.length := by
 unfold keys
 refine Nat.le_trans (MyWords.compact_length _) ?_
 unfold sorted
 rw [List.length_mergeSort]
 exact Nat.le_refl _
def nrm (l : List S50) (ks : List Int) : List S50 := (ks.filter (fun x => decide (0 < cnt l x))).map (fun x => (⟨x, cnt l x⟩ : S50))
theorem nrm_ss (l : List S50) {ks : List Int} (h : ks.Pairwise (· < ·)) : SS (nrm l ks) := by
 unfold SS nrm
 rw [List.pairwise_map]
 exact List.Pairwise.filter _ h
theorem nrm_pos (l : List S50) (ks : List Int) : Pos (nrm l ks) := by
 intro u hu
 unfold nrm at hu
 simp only [List.mem_map, List.mem_filter, decide_eq_true_eq] at hu
 obtain ⟨x, ⟨_, hx⟩, rfl⟩ := hu
 exact ⟨by show 1 ≤ cnt l x; omega, (cnt_bounds l x).2⟩
theorem nrm_tot (l : List S50) : ∀ {ks : List Int}, ks.Pairwise (· < ·) → ∀ x, tot (nrm l ks) x = if x ∈ ks then cnt l x else 0
 | [], _, x => by simp [nrm, tot]
 | y :: ks, h, x => by
  have h1 := (List.pairwise_cons.1 h).1
  have ih := nrm_tot l (List.pairwise_cons.1 h).2 x
  have c0 := cnt_bounds l y
  unfold nrm at ih ⊢
  rw [List.filter_cons]
  by_cases hx : y = x
  ·subst hx
   have hn : y ∉ ks := fun hm => by have := h1 y hm; omega
   rw [if_neg hn] at ih
   rw [if_pos List.mem_cons_self]
   by_cases hc : 0 < cnt l y
   ·rw [if_pos (decide_eq_true hc), List.map_cons, tot, ih]
    simp only [if_true]
    rw [bd_id c0.1 c0.2]
    omega
   ·rw [if_neg (by simpa using hc), ih]
    omega
  ·have e : (x ∈ y :: ks) ↔ x ∈ ks := by simp [Ne.symm hx]
   simp only [e]
   by_cases hc : 0 < cnt l y
   ·rw [if_pos (decide_eq_true hc), List.map_cons, tot_tail hx, ih]
   ·rw [if_neg (by simpa using hc), ih]
theorem tot_mem {l : List S50} {x : Int} (h : x ∉ l.map (·.f0)) : tot l x = 0 := tot_absent (fun u hu he => h (List.mem_map.2 ⟨u, hu, he⟩))
theorem nrm_keys_tot (l : List S50) (x : Int) : tot (nrm l (keys (l.map (·.f0)))) x = cnt l x := by
 rw [nrm_tot l (keys_sorted _) x]
 split
 ·rfl
 ·rename_i h
  rw [keys_mem] at h
  unfold cnt
  rw [tot_mem h]
  rfl
theorem nrm_length (l : List S50) (ks : List Int) : (nrm l ks).length ≤ ks.length := by
 unfold nrm
 rw [List.length_map]
 exact List.length_filter_le _ _
theorem split_at {l : List S50} {i : Nat} (h : i < l.length) : l = l.take i ++ l.getD i z50 :: l.drop (i + 1) := by
 rw [← getD_drop l z50 i h, List.take_append_drop]
theorem put_found {a : List S50} (ha : SS a) (pa : Pos a) {i : Nat} (hi : i < a.length) {id : Int} (he : (a.getD i z50).f0 = id) :
  SS (a.set i ⟨(a.getD i z50).f0, bd ((a.getD i z50).f1 + 1)⟩) ∧ Pos (a.set i ⟨(a.getD i z50).f0, bd ((a.getD i z50).f1 + 1)⟩) ∧ ∀ x, tot (a.set i ⟨(a.getD i z50).f0, bd ((a.getD i z50).f1 + 1)⟩) x = if x = id then bd (tot a x + 1) else tot a x := by
 obtain ⟨u, hu⟩ : ∃ u, u = a.getD i z50 := ⟨_, rfl⟩
 have hsplit := split_at hi
 rw [← hu] at hsplit he ⊢
 obtain ⟨p, hp⟩ : ∃ p, p = a.take i := ⟨_, rfl⟩
 obtain ⟨q, hq⟩ : ∃ q, q = a.drop (i + 1) := ⟨_, rfl⟩
 rw [← hp, ← hq] at hsplit
 have hpl : p.length = i := by rw [hp, List.length_take]; omega
 have hset : a.set i ⟨u.f0, bd (u.f1 + 1)⟩ = p ++ ⟨u.f0, bd (u.f1 + 1)⟩ :: q := by
  rw [hsplit, ← hpl, List.set_append_right _ _ (Nat.le_refl _), Nat.sub_self, List.set_cons_zero]
 rw [hset]
 have hu1 := pa u (by rw [hsplit]; simp)
 have b1 := bd_bounds (u.f1 + 1)
 have b2 : 1 ≤ bd (u.f1 + 1) := by unfold bd; split <;> (try split) <;> omega
 rw [hsplit] at ha pa
 refine ⟨?_, ?_, ?_⟩
 ·unfold SS at ha ⊢
  rw [List.pairwise_append] at ha ⊢
  refine ⟨ha.1, ?_, ?_⟩
  ·rw [List.pairwise_cons] at ha ⊢
   exact ⟨ha.2.1.1, ha.2.1.2⟩
  ·intro x hx y hy
   rcases List.mem_cons.1 hy with rfl | hy
   ·exact ha.2.2 x hx u List.mem_cons_self
   ·exact ha.2.2 x hx y (List.mem_cons_of_mem _ hy)
 ·intro x hx
  rcases List.mem_append.1 hx with hx | hx
  ·exact pa x (List.mem_append_left _ hx)
  ·rcases List.mem_cons.1 hx with rfl | hx
   ·exact ⟨b2, b1.2⟩
   ·exact pa x (List.mem_append_right _ (List.mem_cons_of_mem _ hx))
 ·intro x
  rw [hsplit, tot_append, tot_append, tot, tot]
  unfold SS at ha
  rw [List.pairwise_append, List.pairwise_cons] at ha
  by_cases hx : x = id
  ·subst hx
   rw [if_pos rfl, if_pos he, if_pos he, tot_absent (l := p) (fun v hv => by have := ha.2.2 v hv u List.mem_cons_self; omega), tot_absent (l := q) (fun v hv => by have := ha.2.1.1 v hv; omega), bd_id b1.1 b1.2, bd_id (by omega) hu1.2]
   simp only [Int.zero_add, Int.add_zero]
  ·rw [if_neg hx, if_neg (by rw [he]; exact fun h => hx h.symm), if_neg (by rw [he]; exact fun h => hx h.symm)]
theorem put_new {a : List S50} (ha : SS a) (pa : Pos a) {i : Nat} (hi : i ≤ a.length) {id : Int} (h1 : ∀ u ∈ a.take i, u.f0 < id) (h2 : ∀ u ∈ a.drop i, id < u.f0) :
  SS (a.take i ++ [⟨id, 1⟩] ++ a.drop i) ∧ Pos (a.take i ++ [⟨id, 1⟩] ++ a.drop i) ∧ ∀ x, tot (a.take i ++ [⟨id, 1⟩] ++ a.drop i) x = if x = id then bd (tot a x + 1) else tot a x := by
 obtain ⟨p, hp⟩ : ∃ p, p = a.take i := ⟨_, rfl⟩
 obtain ⟨q, hq⟩ : ∃ q, q = a.drop i := ⟨_, rfl⟩
 have hsplit : a = p ++ q := by rw [hp, hq, List.take_append_drop]
 rw [← hp, ← hq]
 rw [← hp] at h1
 rw [← hq] at h2
 clear hp hq
 subst hsplit
 refine ⟨?_, ?_, ?_⟩
 ·unfold SS at ha ⊢
  rw [List.append_assoc, List.pairwise_append] at ⊢
  rw [List.pairwise_append] at ha
  refine ⟨ha.1, ?_, ?_⟩
  ·rw [List.singleton_append, List.pairwise_cons]
   exact ⟨h2, ha.2.1⟩
  ·intro x hx y hy
   rw [List.singleton_append] at hy
   rcases List.mem_cons.1 hy with rfl | hy
   ·exact h1 x hx
   ·exact ha.2.2 x hx y hy
 ·intro x hx
  rw [List.append_assoc, List.singleton_append] at hx
  rcases List.mem_append.1 hx with hx | hx
  ·exact pa x (List.mem_append_left _ hx)
  ·rcases List.mem_cons.1 hx with rfl | hx
   ·exact ⟨by show (1 : Int) ≤ 1; omega, by show (1 : Int) ≤ 1000000; omega⟩
   ·exact pa x (List.mem_append_right _ hx)
 ·intro x
  rw [List.append_assoc, List.singleton_append, tot_append, tot_append, tot]
  by_cases hx : x = id
  ·subst hx
   rw [if_pos rfl, if_pos rfl, tot_absent (l := p) (fun v hv => by have := h1 v hv; omega), tot_absent (l := q) (fun v hv => by have := h2 v hv; omega)]
   rfl
  ·rw [if_neg hx, if_neg (fun h => hx h.symm)]
   omega
end Go.Proofs.Ythamhjmhgcpdgaa.Ord
end
