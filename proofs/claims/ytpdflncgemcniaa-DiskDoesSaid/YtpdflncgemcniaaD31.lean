/- PROVED HERE: DiskDoesSaid, with no condition ahead of it: cairnlaw01.DiskDoes returns true at every input, and what it read reads as it did. -/
import Derived.Test.YtpdflncgemcniaaRows
import Derived.Test.YtpdflncgemcniaaD30
namespace Go.Proofs.Ytpdflncgemcniaa
open Go.ChangeShapes Go.WideShapes Go.ChangeAt Go.RowKit Go.Deep

theorem own : ownKnob Try.prog.godebug = none := by kernel_rfl
theorem laidOut : laidOutB Try.prog = true := by kernel_rfl

set_option maxRecDepth 100000 in
theorem lifted (os : Os) (started : os.Started) (H : Type) (enc : TypeId × Value → H) :
    ReturnsInHanded {} Try.checked os 3 .any (Rows.diskDoesSpec.pre6 enc Try.prog Try.f3 Rows.diskDoesRow.domain false) (Rows.diskDoesSpec.post enc Try.prog Try.f3 false true false false) := by
  refine returnsInHanded_of_change_sized (C := Try.checked) own started (by kernel_rfl) Try.func3
    (ChangeSpec.witness6 (enc := enc) (C := Try.checked) false ⟨#[], #[.agg #[.int .i64 0, .slice none 0 0, .slice none 0 0, .slice none 0 0, .int .i64 0], .slice none 0 0], []⟩ 8 (by kernel_rfl) (by kernel_rfl) (by kernel_rfl) (by kernel_rfl)) ?_
  intro W base args ds gs before hval0 hW hcnd hsz0 _
  have hsz : (DataW.weightsEach Try.prog (Try.f3.params.toList ++ Rows.diskDoesSpec.plain.varTypes Try.prog) (ds ++ gs)).all (· ≤ reachBytes) = true := hsz0
  have hval : ∀ (j : Nat) t v, Try.f3.params[j]? = some t → args[j]? = some v → Value.okWide Try.prog W .any base t v := hval0
  have hW' := hW
  obtain ⟨p, q, hA0, hV, rfl, hfz, hnd⟩ := hW
  have hA : DataW.TrodAll enc Try.prog W 0 (fun _ => true) true Try.f3.params.toList args.toList ds p := hA0
  rw [Try.params3] at hA hval hsz
  obtain ⟨v0, v1, d0, d1, p0, p1, rfl, rfl, rfl, h0, h1⟩ := trodAll_two hA
  obtain ⟨rfl, rfl⟩ := trodVars_none hV
  have k0 := h0
  have k1 := h1
  have lt0 : ∀ x ∈ p0, x.block < W.heap.size := by obtain ⟨m, hm⟩ := k0; exact DataW.trod_lt m _ _ _ hm
  have lt1 : ∀ x ∈ p1, x.block < W.heap.size := by obtain ⟨m, hm⟩ := k1; exact DataW.trod_lt m _ _ _ hm
  obtain ⟨cs, rfl, hcs⟩ := okWide_struct Try.underlying24 (hval 0 24 v0 rfl rfl)
  obtain ⟨a, len, cap, rfl⟩ := okWide_slice Try.underlying25 (hval 1 25 v1 rfl rfl)
  rw [List.all_eq_true] at hsz
  have z0 : (d0.weights Try.prog 24).all (· ≤ reachBytes) = true := by
    rw [List.all_eq_true]
    exact fun y hy => hsz y (DataW.weights_mem_each (j := 0) rfl rfl y hy)
  have z1 : (d1.weights Try.prog 25).all (· ≤ reachBytes) = true := by
    rw [List.all_eq_true]
    exact fun y hy => hsz y (DataW.weights_mem_each (j := 1) rfl rfl y hy)
  obtain ⟨n0, h0⟩ := h0
  obtain ⟨n1, h1⟩ := h1
  obtain ⟨k, f, u, pl, e0, hp, bk, bf, bu, wk⟩ := plan_in h0 z0
  obtain ⟨v, ps, e1, hops, hl, hrd⟩ := ops_in h1 z1
  simp only [Value.cells] at e0 e1
  obtain rfl : cs = #[.int .i64 pl.crash, k, f, u, .int .i64 pl.room] := by cases cs; simp_all
  obtain rfl : Value.slice a len cap = v := by simpa using e1
  clear hA0 hval0 hsz0 hsz
  refine (diskDoes3 W (fun b => b < W.heap.size) pl ⟨bk, bf, bu, wk⟩ k f u hp _ ps hops hl hrd (fun _ h => h)).mono fun e W' ⟨he, bel⟩ => ?_
  subst he
  exact ⟨_, rfl, _, _, _, [], _, [], hW', trodAll_mk1 (shut_bool Try.underlying4 _),
    trodAll_mk2 (Below.trod laidOut (by kernel_rfl) (of_decide_eq_true (by kernel_rfl)) k0 bel lt0) (Below.trod laidOut (by kernel_rfl) (of_decide_eq_true (by kernel_rfl)) k1 bel lt1), rfl, bel.frame _, fun h => by cases h⟩

theorem over : Rows.diskDoesRow.holds Try.pinned (OpenSpec.ofChange Rows.diskDoesSpec) :=
  OpenClaim.holds_of_wide 3 Try.f3 rfl rfl rfl rfl rfl rfl rfl ⟨rfl, rfl, rfl, rfl, rfl⟩ rfl rfl rfl rfl rfl (by kernel_rfl) Try.func3 (by kernel_rfl)
    (of_decide_eq_true (by kernel_rfl)) (by unfold Func.isWrapper; first | (rw [if_pos (by decide +kernel)]; kernel_rfl) | (rw [if_neg (by decide +kernel)]; exact ⟨rfl, rfl⟩))
    (fun os started H enc _ => lifted os started H enc)

/-- DiskDoes returns true at every input. -/
theorem diskDoes_holds : Rows.DiskDoesSaid := over

#print axioms diskDoes_holds
end Go.Proofs.Ytpdflncgemcniaa
