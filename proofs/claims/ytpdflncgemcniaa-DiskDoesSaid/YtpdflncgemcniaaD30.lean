/- PROVED HERE: the arguments of DiskDoes, as they are read: a plan, and operations. PROVED HERE: how an operation and a slice of operations lie in memory when they came in as arguments of DiskDoes; no condition beyond that they read. -/
import Derived.Test.YtpdflncgemcniaaD04
import Derived.ProofKit
import Derived.OpenShut
import Derived.SizedLaws
import Derived.ChangeOld
import Derived.Deep.Slices
import Derived.Test.YtpdflncgemcniaaD29
namespace Go.Proofs.Ytpdflncgemcniaa
open Go.ChangeShapes Go.WideShapes Go.ChangeAt Go.RowKit Go.Deep

theorem C3 : Try.prog.cellsOf 3 = 1 := by kernel_rfl
theorem C5 : Try.prog.cellsOf 5 = 1 := by kernel_rfl
theorem C9 : Try.prog.cellsOf 9 = 1 := by kernel_rfl
theorem C22 : Try.prog.cellsOf 22 = 1 := by kernel_rfl
theorem C33 : Try.prog.cellsOf 33 = 1 := by kernel_rfl
theorem C24 : Try.prog.cellsOf 24 = 5 := by kernel_rfl
theorem C35 : Try.prog.cellsOf 35 = 11 := by kernel_rfl
theorem B3 : Try.prog.bytesOf 3 = 8 := by kernel_rfl
theorem B5 : Try.prog.bytesOf 5 = 1 := by kernel_rfl
theorem B35 : Try.prog.bytesOf 35 = 168 := by kernel_rfl

theorem Try.elem3 : Try.prog.underlying 3 = some (.int .i64) := by kernel_rfl
theorem Try.elem5b : Try.prog.underlying 5 = some (.int .u8) := by kernel_rfl

section
variable {H : Type} {enc : TypeId × Value → H} {W : World} {n : Nat}

theorem cell_plain {a : Addr} {v : Value} (h : W.cell? a = some v) : a = ⟨a.block, a.off, none⟩ ∧ a.block < W.heap.size := by
  have h2 := World.block_lt_of_cell? W a h
  refine ⟨?_, h2⟩
  obtain ⟨b, o, s⟩ := a
  cases s with
  | none => rfl
  | some s =>
    simp only [World.cell?] at h
    split at h <;> simp at h

theorem ints_in {cs : List Value} {x : DataW H × List MemPlace} (h : DataW.trod enc Try.prog W 0 (fun _ => true) true n 22 cs = some x) (hz : (x.1.weights Try.prog 22).all (· ≤ reachBytes) = true) :
    ∃ (v : Value) (l : List Int), cs = [v] ∧ SlR iv W.heap (fun b => b < W.heap.size) v l ∧ l.length ≤ 17592186044416 ∧ ∀ y ∈ l, -9223372036854775808 ≤ y ∧ y < 9223372036854775808 := by
  rcases open_ints Try.underlying22 Try.elem3 C3 h with ⟨hcs, hx⟩ | ⟨a, len, cap, zs, hcs, _, hl, hm, hzl, hx, hcell, hwz⟩
  · exact ⟨_, [], hcs, .inl SlAt.nil, by simp, by simp⟩
  · have hzl : zs.length = cap := by simpa using hzl
    have hsz : cap * 8 ≤ 140737488351232 := by
      rw [hx] at hz
      have := List.all_eq_true.1 hz (((lits (H := H) .i64 (zs.take len)).length + (lits (H := H) .i64 (zs.drop len)).length) * Try.prog.bytesOf 3) (by simp [DataW.weights, Try.underlying22])
      simp only [lits, List.length_map, List.length_take, List.length_drop, B3, reachBytes, decide_eq_true_eq] at this
      omega
    refine ⟨_, zs.take len, hcs, ?_, by rw [List.length_take]; omega, fun y hy => ?_⟩
    · by_cases h0 : len = 0
      · subst h0
        exact .inr ⟨rfl, a, cap, rfl⟩
      · have hc0 := hcell 0 (by omega)
        obtain ⟨e, hlt⟩ := cell_plain hc0
        have ea : a.add 0 = a := rfl
        rw [ea] at e hlt
        have hll : (zs.take len).length = len := by rw [List.length_take]; omega
        refine .inl (.inr ⟨a.block, a.off, cap, by rw [hll, ← e], by rw [hll]; exact hl, hlt, fun i y hi => ?_⟩)
        have hil : i < len := by have := (List.getElem?_eq_some_iff.1 hi).1; omega
        have h1 := hcell i (by omega)
        rw [e, Addr.add_lit, cell_cel] at h1
        rw [List.getElem?_take_of_lt hil] at hi
        rw [h1]
        simp [iv, List.getD, hi]
    · have h1 := bounds_i64 (hwz y (List.mem_of_mem_take hy))
      omega

theorem bytes_in {cs : List Value} {x : DataW H × List MemPlace} (h : DataW.trod enc Try.prog W 0 (fun _ => true) true n 33 cs = some x) (hz : (x.1.weights Try.prog 33).all (· ≤ reachBytes) = true) :
    ∃ (v : Value) (l : Bs), cs = [v] ∧ SlR u8 W.heap (fun b => b < W.heap.size) v l ∧ l.length ≤ 140737488355328 := by
  rcases open_ints Try.underlying33 Try.elem5b C5 h with ⟨hcs, hx⟩ | ⟨a, len, cap, zs, hcs, _, hl, hm, hzl, hx, hcell, hwz⟩
  · exact ⟨_, [], hcs, .inl SlAt.nil, by simp⟩
  · have hzl : zs.length = cap := by simpa using hzl
    have hsz : cap * 1 ≤ 140737488351232 := by
      rw [hx] at hz
      have := List.all_eq_true.1 hz (((lits (H := H) .u8 (zs.take len)).length + (lits (H := H) .u8 (zs.drop len)).length) * Try.prog.bytesOf 5) (by simp [DataW.weights, Try.underlying33])
      simp only [lits, List.length_map, List.length_take, List.length_drop, B5, reachBytes, decide_eq_true_eq] at this
      omega
    refine ⟨_, (zs.take len).map fun z => UInt8.ofNat z.toNat, hcs, ?_, by rw [List.length_map, List.length_take]; omega⟩
    by_cases h0 : len = 0
    · subst h0
      exact .inr ⟨rfl, a, cap, rfl⟩
    · have hc0 := hcell 0 (by omega)
      obtain ⟨e, hlt⟩ := cell_plain hc0
      have ea : a.add 0 = a := rfl
      rw [ea] at e hlt
      have hll : ((zs.take len).map fun z => UInt8.ofNat z.toNat).length = len := by rw [List.length_map, List.length_take]; omega
      refine .inl (.inr ⟨a.block, a.off, cap, by rw [hll, ← e], by rw [hll]; exact hl, hlt, fun i y hi => ?_⟩)
      have hil : i < len := by have := (List.getElem?_eq_some_iff.1 hi).1; omega
      have h1 := hcell i (by omega)
      rw [e, Addr.add_lit, cell_cel] at h1
      rw [List.getElem?_map, List.getElem?_take_of_lt hil, Option.map_eq_some_iff] at hi
      obtain ⟨z, hz1, rfl⟩ := hi
      have hb := bounds_u8 (hwz z (List.mem_of_getElem? hz1))
      rw [h1]
      simp only [u8, List.getD, hz1, Option.getD_some]
      congr 2
      rw [UInt8.toNat_ofNat']
      omega

theorem agg_weights {t : TypeId} {fs : Array Field} {parts : List (DataW H)} (hs : Try.prog.underlying t = some (.struct fs)) (hz : ((DataW.agg parts).weights Try.prog t).all (· ≤ reachBytes) = true) {j : Nat} {ft : TypeId} {d : DataW H} (ht : (fs.toList.map (·.type))[j]? = some ft) (hd : parts[j]? = some d) :
    (d.weights Try.prog ft).all (· ≤ reachBytes) = true := by
  rw [List.all_eq_true] at hz ⊢
  intro k hk
  refine hz k ?_
  simp only [DataW.weights, hs]
  exact DataW.weights_mem_each ht hd k hk

theorem str_in {cs : List Value} {x : DataW H × List MemPlace} (h : DataW.trod enc Try.prog W 0 (fun _ => true) true n 9 cs = some x) : ∃ s : ByteArray, cs = [.string s] ∧ s.size ≤ maxLen := by
  obtain ⟨s, h1, _, h3⟩ := DataW.trod_string Try.underlying9 h
  exact ⟨s, h1, h3⟩

theorem int_in {cs : List Value} {x : DataW H × List MemPlace} (h : DataW.trod enc Try.prog W 0 (fun _ => true) true n 3 cs = some x) : ∃ z : Int, cs = [.int .i64 z] ∧ -9223372036854775808 ≤ z ∧ z < 9223372036854775808 := by
  obtain ⟨z, h1, _, h3⟩ := DataW.trod_int Try.elem3 h
  have := bounds_i64 h3
  exact ⟨z, h1, by omega, by omega⟩

set_option maxRecDepth 100000 in
/-- A plan's five cells. -/
theorem plan_in {cs : List Value} {x : DataW H × List MemPlace} (h : DataW.trod enc Try.prog W 0 (fun _ => true) true n 24 cs = some x) (hz : (x.1.weights Try.prog 24).all (· ≤ reachBytes) = true) :
    ∃ (k f u : Value) (p : Pl), cs = [.int .i64 p.crash, k, f, u, .int .i64 p.room] ∧ IsPlanR W.heap (fun b => b < W.heap.size) k f u p ∧ p.keep.length ≤ 17592186044416 ∧ p.fail.length ≤ 17592186044416 ∧ p.full.length ≤ 17592186044416 ∧ ∀ x ∈ p.keep, -9223372036854775808 ≤ x ∧ x < 9223372036854775808 := by
  obtain ⟨xs, m, _, hx, hlen, hxl, hf⟩ := DataW.trod_struct Try.underlying24 h
  rw [C24] at hlen
  match cs, hlen with
  | [c0, c1, c2, c3, c4], _ =>
    match xs, hxl with
    | [y0, y1, y2, y3, y4], _ =>
      have g0 : DataW.trod enc Try.prog W 0 (fun _ => true) true m 3 [c0] = some y0 := by simpa [C3] using hf 0 _ rfl
      have g1 : DataW.trod enc Try.prog W 0 (fun _ => true) true m 22 [c1] = some y1 := by simpa [C22] using hf 1 _ rfl
      have g2 : DataW.trod enc Try.prog W 0 (fun _ => true) true m 22 [c2] = some y2 := by simpa [C22] using hf 2 _ rfl
      have g3 : DataW.trod enc Try.prog W 0 (fun _ => true) true m 22 [c3] = some y3 := by simpa [C22] using hf 3 _ rfl
      have g4 : DataW.trod enc Try.prog W 0 (fun _ => true) true m 3 [c4] = some y4 := by simpa [C3] using hf 4 _ rfl
      subst hx
      obtain ⟨z0, e0, _⟩ := int_in g0
      obtain ⟨v1, l1, e1, s1, b1, r1⟩ := ints_in g1 (agg_weights Try.underlying24 hz (j := 1) rfl rfl)
      obtain ⟨v2, l2, e2, s2, b2, r2⟩ := ints_in g2 (agg_weights Try.underlying24 hz (j := 2) rfl rfl)
      obtain ⟨v3, l3, e3, s3, b3, r3⟩ := ints_in g3 (agg_weights Try.underlying24 hz (j := 3) rfl rfl)
      obtain ⟨z4, e4, _⟩ := int_in g4
      simp only [List.cons.injEq, and_true] at e0 e1 e2 e3 e4
      subst e0 e1 e2 e3 e4
      exact ⟨_, _, _, ⟨z0, l1, l2, l3, z4⟩, rfl, ⟨s1, s2, s3⟩, b1, b2, b3, r1⟩

theorem list_choose {α : Type} {P : Nat → α → Prop} : ∀ n : Nat, (∀ i, i < n → ∃ q, P i q) → ∃ ps : List α, ps.length = n ∧ ∀ i q, ps[i]? = some q → P i q
  | 0, _ => ⟨[], rfl, fun i q h => by simp at h⟩
  | n + 1, h => by
    obtain ⟨ps, h1, h2⟩ := list_choose n fun i hi => h i (by omega)
    obtain ⟨q, hq⟩ := h n (by omega)
    refine ⟨ps ++ [q], by simp [h1], fun i q' hi => ?_⟩
    rcases Nat.lt_or_ge i n with hlt | hge
    · rw [List.getElem?_append_left (by omega)] at hi
      exact h2 i q' hi
    · have hlen := (List.getElem?_eq_some_iff.1 hi).1
      simp [h1] at hlen
      have e : i = n := by omega
      subst e
      rw [List.getElem?_append_right (by omega)] at hi
      simp [h1] at hi
      subst hi
      exact hq

theorem weightsAll_mem {e : TypeId} : ∀ {l : List (DataW H)} {d : DataW H}, d ∈ l → ∀ k ∈ d.weights Try.prog e, k ∈ DataW.weightsAll Try.prog e l
  | d' :: r, d, hd, k, hk => by
    simp only [DataW.weightsAll, List.mem_append]
    rcases List.mem_cons.1 hd with rfl | h
    · exact Or.inl hk
    · exact Or.inr (weightsAll_mem h k hk)
end
end Go.Proofs.Ytpdflncgemcniaa
namespace Go.Proofs.Ytpdflncgemcniaa
open Go.ChangeShapes Go.WideShapes Go.ChangeAt Go.RowKit Go.Deep

section
variable {H : Type} {enc : TypeId × Value → H} {W : World} {n : Nat}

set_option maxRecDepth 100000 in
/-- An operation's eleven cells. -/
theorem op_in {cs : List Value} {x : DataW H × List MemPlace} (h : DataW.trod enc Try.prog W 0 (fun _ => true) true n 35 cs = some x) (hz : (x.1.weights Try.prog 35).all (· ≤ reachBytes) = true) :
    ∃ q : OP, cs = opl q ∧ IsOp W.heap (fun b => b < W.heap.size) q.vd q.k q.f q.u q.o ∧ OpRd q.o := by
  obtain ⟨xs, m, _, hx, hlen, hxl, hf⟩ := DataW.trod_struct Try.underlying35 h
  rw [C35] at hlen
  match cs, hlen with
  | [c0, c1, c2, c3, c4, c5, c6, c7, c8, c9, c10], _ =>
    match xs, hxl with
    | [y0, y1, y2, y3, y4, y5, y6], _ =>
      have g0 : DataW.trod enc Try.prog W 0 (fun _ => true) true m 3 [c0] = some y0 := by simpa [C3] using hf 0 _ rfl
      have g1 : DataW.trod enc Try.prog W 0 (fun _ => true) true m 9 [c1] = some y1 := by simpa [C9] using hf 1 _ rfl
      have g2 : DataW.trod enc Try.prog W 0 (fun _ => true) true m 9 [c2] = some y2 := by simpa [C9] using hf 2 _ rfl
      have g3 : DataW.trod enc Try.prog W 0 (fun _ => true) true m 3 [c3] = some y3 := by simpa [C3] using hf 3 _ rfl
      have g4 : DataW.trod enc Try.prog W 0 (fun _ => true) true m 3 [c4] = some y4 := by simpa [C3] using hf 4 _ rfl
      have g5 : DataW.trod enc Try.prog W 0 (fun _ => true) true m 33 [c5] = some y5 := by simpa [C33] using hf 5 _ rfl
      have g6 : DataW.trod enc Try.prog W 0 (fun _ => true) true m 24 [c6, c7, c8, c9, c10] = some y6 := by simpa [C24] using hf 6 _ rfl
      subst hx
      obtain ⟨z0, e0, _⟩ := int_in g0
      obtain ⟨s1, e1, b1⟩ := str_in g1
      obtain ⟨s2, e2, b2⟩ := str_in g2
      obtain ⟨z3, e3, r3⟩ := int_in g3
      obtain ⟨z4, e4, r4⟩ := int_in g4
      obtain ⟨vd, l5, e5, p5, b5⟩ := bytes_in g5 (agg_weights Try.underlying35 hz (j := 5) rfl rfl)
      obtain ⟨k, f, u, p, e6, p6, bk, bf, bu, wk⟩ := plan_in g6 (agg_weights Try.underlying35 hz (j := 6) rfl rfl)
      simp only [List.cons.injEq, and_true] at e0 e1 e2 e3 e4 e5 e6
      obtain ⟨e6, e7, e8, e9, e10⟩ := e6
      subst e0 e1 e2 e3 e4 e5 e6 e7 e8 e9 e10
      exact ⟨⟨⟨z0, s1, s2, z3, z4, l5, p⟩, _, _, _, _⟩, rfl, ⟨p5, p6⟩, ⟨b1, b2, r3, r4, b5, by show p.keep.length ≤ _; omega, by show p.fail.length ≤ _; omega, by show p.full.length ≤ _; omega, wk⟩⟩

/-- A slice of operations. -/
theorem ops_in {cs : List Value} {x : DataW H × List MemPlace} (h : DataW.trod enc Try.prog W 0 (fun _ => true) true n 25 cs = some x) (hz : (x.1.weights Try.prog 25).all (· ≤ reachBytes) = true) :
    ∃ (v : Value) (ps : List OP), cs = [v] ∧ IsOps W.heap (fun b => b < W.heap.size) v ps ∧ ps.length ≤ 1000000000000 ∧ ∀ q ∈ ps, OpRd q.o := by
  rcases open_slice Try.underlying25 h with ⟨hcs, _⟩ | ⟨a, len, cap, m, k, D, Pl, hcs, _, hl, _, hmm, hx, hel⟩
  · exact ⟨_, [], hcs, ⟨.inl ⟨⟨_, _, rfl⟩, rfl⟩, by simp⟩, by simp, by simp⟩
  · have hm : m = cap := by simpa using hmm
    subst hm
    subst hx
    rw [List.all_eq_true] at hz
    have hsz : m * 168 ≤ 140737488351232 := by
      have := hz ((((List.range len).map D).length + ((List.range (m - len)).map fun j => D (len + j)).length) * Try.prog.bytesOf 35) (by simp [DataW.weights, Try.underlying25])
      simp only [List.length_map, List.length_range, B35, reachBytes, decide_eq_true_eq] at this
      omega
    have each : ∀ i, i < len → ∃ q : OP, W.cells? 0 (a.add (i * 11)) 11 = some (opl q) ∧ IsOp W.heap (fun b => b < W.heap.size) q.vd q.k q.f q.u q.o ∧ OpRd q.o := by
      intro i hi
      obtain ⟨cs', h1, h2⟩ := hel i (by omega)
      rw [C35] at h1
      obtain ⟨q, rfl, h3, h4⟩ := op_in h2 (by
        rw [List.all_eq_true]
        intro y hy
        refine hz y ?_
        simp only [DataW.weights, Try.underlying25]
        refine List.mem_cons_of_mem _ (List.mem_append_left _ (weightsAll_mem ?_ y hy))
        exact List.mem_map.2 ⟨i, List.mem_range.2 hi, rfl⟩)
      exact ⟨q, h1, h3, h4⟩
    obtain ⟨ps, hpl, hps⟩ := list_choose (P := fun i q => W.cells? 0 (a.add (i * 11)) 11 = some (opl q) ∧ IsOp W.heap (fun b => b < W.heap.size) q.vd q.k q.f q.u q.o ∧ OpRd q.o) len each
    have hin : ∀ q ∈ ps, IsOp W.heap (fun b => b < W.heap.size) q.vd q.k q.f q.u q.o ∧ OpRd q.o := fun q hq => by
      obtain ⟨i, hi⟩ := List.mem_iff_getElem?.1 hq
      exact (hps i q hi).2
    refine ⟨_, ps, hcs, ⟨?_, fun q hq => (hin q hq).1⟩, by omega, fun q hq => (hin q hq).2⟩
    by_cases h0 : len = 0
    · subst h0
      exact .inl ⟨⟨_, _, rfl⟩, List.eq_nil_of_length_eq_zero hpl⟩
    · right
      obtain ⟨q0, hq0, _⟩ := each 0 (by omega)
      obtain ⟨_, _, hc0⟩ := World.cells?_some hq0
      have h00 : W.cell? a = some (.int .i64 q0.o.kind) := by have := hc0 0 (by omega); simpa [Addr.add, opl] using this
      obtain ⟨e, hlt⟩ := cell_plain h00
      refine ⟨a.block, a.off, m, by rw [hpl, ← e], by omega, hlt, fun i p hi j hj => ?_⟩
      obtain ⟨_, _, hc⟩ := World.cells?_some (hps i p hi).1
      have h1 := hc j hj
      rw [e, add_add, Addr.add_lit, cell_cel] at h1
      rw [← h1, Nat.add_assoc]
end
end Go.Proofs.Ytpdflncgemcniaa
