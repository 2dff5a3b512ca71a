/- The law examboardlaw37.ExposureAccepts: for every input it answers true, and each argument reads behind the call as it read before. No condition. -/
import Derived.Test.YthamhjmhgcpdgaaRows
import Derived.Test.YthamhjmhgcpdgaaZExposureAccepts4
namespace Go.Proofs.Ythamhjmhgcpdgaa.exposureAccepts
open Go.ChangeShapes Go.WideShapes Go.ChangeAt Go.RowKit Go.Proofs.Ythamhjmhgcpdgaa.MyWords Go.Proofs.Ythamhjmhgcpdgaa.Big Go.Proofs.Ythamhjmhgcpdgaa.Q
set_option linter.unusedVariables false
theorem own : ownKnob Try.prog.godebug = none := by kernel_rfl
theorem laidOut : laidOutB Try.prog = true := by kernel_rfl
set_option maxRecDepth 100000 in
theorem lifted (os : Os) (started : os.Started) (H : Type) (enc : TypeId × Value → H) :
    ReturnsInHanded {} Try.checked os 3 .any (Rows.exposureAcceptsSpec.pre6 enc Try.prog Try.f3 Rows.exposureAcceptsRow.domain false) (Rows.exposureAcceptsSpec.post enc Try.prog Try.f3 false true false false) := by
  refine returnsInHanded_of_change_sized (C := Try.checked) own started (by kernel_rfl) Try.func3
    (ChangeSpec.witness6 (enc := enc) (C := Try.checked) false ⟨#[], #[.int .u64 0, .agg #[.bool false, .slice none 0 0, .slice none 0 0]], []⟩ 8 (by kernel_rfl) (by kernel_rfl) (by kernel_rfl) (by kernel_rfl)) ?_
  intro W base args ds gs before hval0 hW hcnd hsz0 _
  have hsz : (DataW.weightsEach Try.prog (Try.f3.params.toList ++ Rows.exposureAcceptsSpec.plain.varTypes Try.prog) (ds ++ gs)).all (· ≤ reachBytes) = true := hsz0
  have hval : ∀ (j : Nat) t v, Try.f3.params[j]? = some t → args[j]? = some v → Value.okWide Try.prog W .any base t v := hval0
  have hW' := hW
  obtain ⟨p, q, hA0, hV, rfl, hfz, hnd⟩ := hW
  have hA : DataW.TrodAll enc Try.prog W 0 (fun _ => true) true Try.f3.params.toList args.toList ds p := hA0
  rw [Try.params3] at hA hval hsz
  obtain ⟨v0, vs0, d0, ds0, p0, q0, hargs, rfl, rfl, h0, r0⟩ := trodAll_cons hA
  obtain ⟨v1, vs1, d1, ds1, p1, q1, rfl, rfl, rfl, h1, r1⟩ := trodAll_cons r0
  obtain ⟨rfl, rfl, rfl⟩ := trodAll_nil r1
  obtain rfl : args = #[v0, v1] := by cases args; simp_all
  obtain ⟨rfl, rfl⟩ := trodVars_none hV
  obtain ⟨a0, rfl, rfl, rfl, w0⟩ := open_int Try.underlying23 (hval 0 23 v0 rfl rfl) h0
  have k1 := h1
  have lt1 : ∀ x ∈ p1, x.block < W.heap.size := by obtain ⟨m, hm⟩ := k1; exact DataW.trod_lt m _ _ _ hm
  obtain ⟨b1, A1, n1, c1, z1, B1, m1, e1, y1, rfl, w1, u1⟩ := open_ratio Try.underlying29 Try.underlying27 Try.underlying4 Try.underlying25 Try.underlying25 Try.underlying87 (by kernel_rfl) (by kernel_rfl) (by kernel_rfl) (by kernel_rfl) (by kernel_rfl) (by kernel_rfl) rfl rfl rfl rfl (hval 1 29 v1 rfl rfl) h1
  obtain ⟨l1, rfl, hr1, hc1, ok1⟩ := row_C w1
  obtain ⟨s1, rfl, hs1, he1, od1⟩ := row_C u1
  clear hA0 hval0 hsz0 hsz
  obtain ⟨k, hk⟩ := Go.Proofs.YthamhjmhgcpdgaaW.PrintWords.Ev.rounds (accepts_law a0 b1 ok1 od1)
  refine (examboardlaw37_ExposureAccepts.calls k a0 b1 A1 c1 l1 B1 e1 s1 true W hr1 hc1 hs1 he1 hk).mono fun e W' ⟨he, bel⟩ => ?_
  subst he
  exact ⟨_, rfl, _, _, _, [], _, [], hW', trodAll_mk1 (shut_bool Try.underlying4 _), (trodAll_cons_mk (shut_int Try.underlying23 w0) (trodAll_cons_mk (Below.trod laidOut (by kernel_rfl) (of_decide_eq_true (by kernel_rfl)) k1 bel lt1) trodAll_mk0)), rfl, bel.frame _, fun h => by cases h⟩
theorem over : Rows.exposureAcceptsRow.holds Try.pinned (OpenSpec.ofChange Rows.exposureAcceptsSpec) :=
  OpenClaim.holds_of_wide 3 Try.f3 rfl rfl rfl rfl rfl rfl rfl ⟨rfl, rfl, rfl, rfl, rfl⟩ rfl rfl rfl rfl rfl (by kernel_rfl) Try.func3 (by kernel_rfl)
    (of_decide_eq_true (by kernel_rfl)) (by unfold Func.isWrapper; first | (rw [if_pos (by decide +kernel)]; kernel_rfl) | (rw [if_neg (by decide +kernel)]; exact ⟨rfl, rfl⟩))
    (fun os started H enc _ => lifted os started H enc)
theorem proved : Rows.ExposureAcceptsSaid := over
end Go.Proofs.Ythamhjmhgcpdgaa.exposureAccepts
namespace Go.Proofs.Ythamhjmhgcpdgaa
theorem exposureAccepts_holds : Rows.ExposureAcceptsSaid := exposureAccepts.proved
#print axioms exposureAccepts_holds
end Go.Proofs.Ythamhjmhgcpdgaa
