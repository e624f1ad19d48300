/- PROVED HERE: the contract of looks. No conditions beyond the premises that each theorem names. -/
import Derived.Test.YtpdflncgemcniaaD03
import Derived.Test.YtpdflncgemcniaaD26
import Derived.RangeFuncFrom
namespace Go.Proofs.Ytpdflncgemcniaa
open Go.RowKit Go.Shelf
attribute [local go_sem] Oper.semAt_some

/-- Any block. -/
abbrev AnyB : Nat → Prop := fun _ => True

def AllTold (w : World) (l : List (Bs × Bs)) (v : Value) (w' : World) : Prop := IsFiles w'.heap AnyB v l ∧ Old w w'

theorem ToldPost.all {w w' : World} {l : List (Bs × Bs)} {e : Ending} (h : ToldPost w l e w') : ∃ v, e = .returned v ∧ AllTold w l v w' := by
  obtain ⟨v, e, h1, h2⟩ := h
  exact ⟨v, e, h1.mono fun _ _ => trivial, h2⟩

theorem IsFiles.old {w w' : World} {F : Nat → Prop} {v : Value} {l : List (Bs × Bs)} (s : IsFiles w.heap F v l) (o : Old w w') : IsFiles w'.heap F v l := s.fr o fun _ _ f => f

/-- What the looks of a listing come to: what Size and Read answer for a file that is told. -/
theorem live_file {S : Dk} {K : Nat} (wf : Wf S K) {k : Nat} {p : Bs × Bs} (h : (liveOf S)[k]? = some p) : p.1.length ≤ 32 ∧ p.2.length ≤ 268435456 ∧ sizeF S p.1 = ((p.2.length : Int), 0) ∧ readF S p.1 0 p.2.length = (p.2, 0) := by
  unfold liveOf at h
  cases hd : S.died with
  | true => rw [hd] at h; simp at h
  | false =>
    rw [hd] at h
    simp only [Bool.false_eq_true, if_false, toldOf, List.getElem?_map, Option.map_eq_some_iff] at h
    obtain ⟨f, hf, rfl⟩ := h
    have hmem := List.mem_of_getElem? hf
    have hfl := wf.each f hmem
    have hfind : findF f.name S.files = some f := by
      cases hq : findF f.name S.files with
      | none =>
        have := List.find?_eq_none.1 hq f hmem
        simp at this
      | some g =>
        obtain ⟨hg, hn⟩ := findF_mem hq
        by_cases e : g = f
        · rw [e]
        · have h1 := pair_at (fun a b (h : a.name ≠ b.name) => Ne.symm h) wf.names hg hmem e
          exact absurd hn h1
    refine ⟨hfl.name, hfl.data, ?_, ?_⟩
    · show sizeF S f.name = (((dataOf f).length : Int), 0)
      simp [sizeF, hd, hfind]
    · show readF S f.name 0 ((dataOf f).length : Int) = (dataOf f, 0)
      simp [readF, hd, hfind]

theorem eql_nilFunc (x : Value) (W : World) : (binOp .eql 84 (.func (.func 64) #[] #[x]) .nilFunc).run Try.prog W = .ok (.bool false) W := by kernel_rfl

theorem Blk.own {W W' : World} {row : Option Nat} {b : Nat} {c : Array Value} {T : TypeId} (s : Blk W.heap b c T) (hg : W.grownBy W' row) (hr : ∀ r, row = some r → ∃ o : Obj, W.heap[r]? = some o ∧ o.isCells = false) : Blk W'.heap b c T :=
  (hg.block b s.lt fun e => by
    obtain ⟨o, h1, h2⟩ := hr b e.symm
    unfold Blk at s
    rw [s] at h1
    cases h1
    cases h2).trans s

theorem KeepCells.own {W W' : World} {row : Option Nat} (hg : W.grownBy W' row) (hr : ∀ r, row = some r → ∃ o : Obj, W.heap[r]? = some o ∧ o.isCells = false) : KeepCells (fun _ => False) W W' :=
  ⟨hg.size, fun b c T z e _ => (hg.block b (Array.getElem?_eq_some_iff.1 e).1 fun e' => by
    obtain ⟨o, h1, h2⟩ := hr b e'.symm
    rw [e] at h1
    cases h1
    cases h2).trans e⟩

theorem IsFiles.bound {h : Array Obj} {F : Nat → Prop} {v : Value} {l : List (Bs × Bs)} (s : IsFiles h F v l) : IsFiles h (fun b => b < h.size) v l := by
  obtain ⟨rs, e, h1, h2⟩ := s
  exact ⟨rs, e, h1.mono fun b hb _ => by obtain ⟨_, cur, e'⟩ := h1.owned hb; exact (Array.getElem?_eq_some_iff.1 e').1, fun r hr => (h2 r hr).monot fun b _ t => t.lt⟩

theorem IsFiles.offR {h : Array Obj} {F : Nat → Prop} {v : Value} {l : List (Bs × Bs)} {b0 : Nat} {c : Array Value} (s : IsFiles h F v l) (hb : Blk h b0 c 4) : IsFiles h (fun b => F b ∧ b ≠ b0) v l := by
  obtain ⟨rs, e, h1, h2⟩ := s
  exact ⟨rs, e, h1.mono fun b e hb' => ⟨hb', fun e' => by
    obtain ⟨_, cur, e2⟩ := h1.owned e
    unfold Blk at hb
    rw [e', hb] at e2
    simp at e2⟩, fun r hr => (h2 r hr).monot fun b hb' t => ⟨hb', fun e' => by
    rw [e'] at t
    exact absurd (t.eq hb.tag) (by decide)⟩⟩

theorem _root_.Go.RowKit.Below.old {w W W' : World} (h : Below w.heap.size w W) (o : Old W W') : Below w.heap.size w W' := h.trans (o.to_below h.size fun _ f => f.elim)

theorem deferred_own {W W' : World} {row : Option Nat} {D : Nat} {o : Obj} (h : W.heap[D]? = some o) (hg : W.grownBy W' row) (hr : ∀ r, row = some r → D < r) : W'.heap[D]? = some o :=
  (hg.block D (Array.getElem?_eq_some_iff.1 h).1 fun e => absurd (hr D e.symm) (Nat.lt_irrefl _)).trans h

theorem prefix_snoc {α : Type} {pre L : List α} {x y : α} (h : pre <+: L) (hy : L[pre.length]? = some y) : (x = y → pre ++ [x] <+: L) ∧ (x ≠ y → ¬ pre ++ [x] <+: L) := by
  obtain ⟨t, rfl⟩ := h
  rw [List.getElem?_append_right (Nat.le_refl _), Nat.sub_self] at hy
  cases t with
  | nil => simp at hy
  | cons z t =>
    simp at hy
    subst hy
    refine ⟨fun e => ⟨t, by simp [e]⟩, fun e hp => ?_⟩
    have := (List.prefix_append_right_inj pre).1 hp
    obtain ⟨u, hu⟩ := this
    simp at hu
    exact e hu.1

theorem Below.turn {W W' w : World} {row : Option Nat} {B : Nat} (hs : Below w.heap.size w W) (hg : W.grownBy W' row) (hB : w.heap.size ≤ B) (hr : ∀ r, row = some r → B ≤ r) : Below w.heap.size w W' :=
  hs.grown hg hs.size fun k e => Nat.le_trans hB (hr k e)

/-- The law on a range over a function, at the wide fence, the temporaries behind the assignment told by a function. -/
theorem range_wide {P : Program} {α : Type} {g : Operand} {ps : Array Tmp} {assign body : Code} {Q : Exit → Act → World → Prop} {a : Act} {w : World} (n : Nat) (h1 : 1 ≤ n) {gf : Nat} {lb : Array Value} (hg : a.eval g = .func (.func gf) #[] lb)
    (eg : ∀ args w, (callFunc gf args).run P w = .ok (.enter gf args) w)
    {encs : α → Array Value} {Kp : World → World → Prop} {S Sp : List α → Prop} {N : Nat} (hseq : SeqStopsK Fence.wide (n - 1) P gf lb encs Kp S Sp N w)
    (hKt : ∀ {A B C : World}, Kp A B → Kp B C → Kp A C) (hKb : ∀ (W : World) (l : Nat) (o o' : Obj), w.heap.size ≤ l → W.heap[l]? = some o → o.isCells = false → o.isWalk = false → Kp W (W.putObj l o')) (hps : ∀ x, (encs x).size = ps.size)
    (I : List α → World → Prop) (Ix : Code → List α → World → Prop) (hI : OwnFrom w.heap.size I) (hIx : ∀ c, OwnFrom w.heap.size (Ix c)) (h0 : I [] w) (f : α → Array Value → Array Value)
    (hassign : ∀ (l : Nat) (x : α) (W : World) (K : Act → World → Prop), K { tmps := f x a.tmps, defers := [] } W →
      assign.wpIn (Fence.wide.inRound l) (n - 1 - 1) P (Exit.then K (fun _ _ _ => False)) { tmps := (ps.zip (encs x)).foldl (fun t (p, v) => t.setIfInBounds p v) a.tmps, defers := [] } W)
    (hbody : ∀ (l : Nat) (pre : List α) (x : α) (W : World), I pre W → pre.length < N → body.wpIn (Fence.wide.inRound l) (n - 1 - 1) P (ownPostK Kp I Ix (pre ++ [x]) W) { tmps := f x a.tmps, defers := [] } W)
    (hdone : ∀ (D : Nat) (xs : List α) (W : World), w.heap.size ≤ D → S xs → I xs W → W.heap[D]? = some (.deferred (some [])) → Q .normal { a with defers := { target := .collected D, args := #[] } :: a.defers } W)
    (hstop : ∀ (D : Nat) (c : Code) (pre : List α) (W : World), w.heap.size ≤ D → Sp pre → Ix c pre W → W.heap[D]? = some (.deferred (some [])) → c.wp P Q { a with defers := { target := .collected D, args := #[] } :: a.defers } W) :
    (Code.rangeFunc g ps assign body).wp P Q a w :=
  (wpIn_wide (n := n)).1 (wpIn_rangeFunc_ownF (F := Fence.wide) rfl h1 hg trivial eg hseq hKt hKb (Below.refl _ _) hps I Ix hI hIx h0 (fun x => { tmps := f x a.tmps, defers := [] }) hassign hbody hdone
    (fun D c pre W hD hS hX hK => wpIn_wide.2 (hstop D c pre W hD hS hX hK)))

def LooksPost (w : World) (e : Ending) (w' : World) : Prop := e = .returned (.bool true) ∧ Below w.heap.size w w'

section
variable {w : World} {d m : Nat} {S : Dk} {r : DRep} {r' : MDRep} {F F' : Nat → Prop}

set_option maxRecDepth 100000 in
set_option maxHeartbeats 8000000 in
theorem looks14 (h : IsDisk w.heap d S r F) (hm : IsModel w.heap m S r' F') {K : Nat} (wf : Wf S K) (hK : K ≤ 1000000) :
    Calls Try.prog 14 #[.pointer (some ⟨d, 0, none⟩), .pointer (some ⟨m, 0, none⟩)] w (LooksPost w) := by
  obtain ⟨w1, hw1⟩ : ∃ w1, w.alloc (.cells #[.bool false] 4) = w1 := ⟨_, rfl⟩
  have o1 : Old w w1 := by rw [← hw1]; exact (Fr.refl _ _).alloc _
  have bR : Blk w1.heap w.heap.size #[.bool false] 4 := by rw [← hw1]; exact blk_new w _ 4
  have hz1 : w1.heap.size = w.heap.size + 1 := by rw [← hw1]; simp
  have h1 := h.fr o1 fun _ _ f => f
  have m1 := hm.fr o1 fun _ _ f => f
  have HH := Lib.hid h1
  have H0 := Lib.hid h
  have M0 := Lib.hid hm
  have HM := Lib.hid m1
  have HO1 := Lib.hid o1
  have HBR := Lib.hid bR
  have HZ1 := Lib.hid hz1
  have HWF := Lib.hid wf
  have hN : w1.cell? ⟨m, 6, none⟩ = some (.int .i64 S.n) := by rw [m1.blk.rules.1]; rfl
  have hD : w1.cell? ⟨m, 7, none⟩ = some (.bool S.died) := by rw [m1.blk.rules.1]; rfl
  have HN := Lib.hid hN
  have HD := Lib.hid hD
  have hll : (liveOf S).length ≤ 1000000 := by
    have := wf.few
    unfold liveOf
    split
    · simp
    · rw [toldOf_length]; omega
  have hlt : (toldOf true S.files).length ≤ 1000000 := by have := wf.few; rw [toldOf_length]; omega
  clear h hm o1 bR hz1 h1 m1 wf hN hD
  refine (callsIn_wide (n := 6)).1 (callsIn_of_wp_marks (F := Fence.wide) Try.func14 rfl trivial (wpIn_wide.2 ?_) rfl)
  simp only [Try.ntmps14, List.size_toArray, List.length_cons, List.length_nil, Nat.reduceAdd, Nat.reduceSub, Array.replicate_succ, Array.replicate_zero, List.push_toArray, List.append_toArray, List.nil_append, List.cons_append]
  go_wp2_with fail
  refine wp_region_litsG (by kernel_rfl) (by kernel_rfl) (by simp) (fun L val W1 => Old w1 W1 ∧
    (L 18 = true → IsFiles W1.heap AnyB (val 18) (liveOf S)) ∧
    (L 20 = true → IsFiles W1.heap AnyB (val 20) (liveOf S)) ∧
    (L 26 = true → IsFiles W1.heap AnyB (val 26) (toldOf true S.files)) ∧
    (L 28 = true → IsFiles W1.heap AnyB (val 28) (toldOf true S.files)) ∧
    (L 0 = true → val 0 = .pointer (some ⟨d, 0, none⟩)) ∧
    (L 1 = true → val 1 = .int .i64 S.n) ∧
    (L 2 = true → val 2 = .pointer (some ⟨m, 0, none⟩)) ∧
    (L 3 = true → val 3 = .pointer (some ⟨m, 0, none⟩)) ∧
    (L 4 = true → val 4 = .pointer (some ⟨m, 6, none⟩)) ∧
    (L 5 = true → val 5 = .int .i64 S.n) ∧
    (L 6 = true → val 6 = .bool false) ∧
    (L 7 = true → val 7 = .bool false) ∧
    (L 8 = true → val 8 = .pointer (some ⟨d, 0, none⟩)) ∧
    (L 9 = true → val 9 = .bool S.died) ∧
    (L 10 = true → val 10 = .pointer (some ⟨m, 0, none⟩)) ∧
    (L 11 = true → val 11 = .pointer (some ⟨m, 0, none⟩)) ∧
    (L 12 = true → val 12 = .pointer (some ⟨m, 7, none⟩)) ∧
    (L 13 = true → val 13 = .bool S.died) ∧
    (L 14 = true → val 14 = .bool false) ∧
    (L 15 = true → val 15 = .bool false) ∧
    (L 16 = true → val 16 = .bool false) ∧
    (L 17 = true → val 17 = .pointer (some ⟨d, 0, none⟩)) ∧
    (L 19 = true → val 19 = .pointer (some ⟨m, 0, none⟩)) ∧
    (L 21 = true → val 21 = .bool true) ∧
    (L 22 = true → val 22 = .bool false) ∧
    (L 23 = true → val 23 = .bool false) ∧
    (L 24 = true → val 24 = .bool false) ∧
    (L 25 = true → val 25 = .pointer (some ⟨d, 0, none⟩)) ∧
    (L 27 = true → val 27 = .pointer (some ⟨m, 0, none⟩)) ∧
    (L 29 = true → val 29 = .bool true) ∧
    (L 30 = true → val 30 = .bool false) ∧
    (L 31 = true → val 31 = .bool false)) ?h0 ?hs ?he
  case h0 => exact ⟨(Fr.refl _ _).drew, by simp⟩
  case hs =>
    refine ⟨?_, ?_, ?_, ?_, ?_, ?_, ?_, ?_, ?_, ?_, ?_, ?_, ?_, ?_, ?_, ?_, ?_, ?_, ?_, ?_, ?_, ?_, ?_, ?_, ?_, ?_, ?_, ?_, ?_, ?_, ?_, ?_, trivial⟩
    all_goals
      intro L val W1 a ha hB hLi hd
      simp [putL, Act.put] at ha
      subst ha
      simp [Region.binds] at hd
      obtain ⟨ho, s18, s20, s26, s28, p0, p1, p2, p3, p4, p5, p6, p7, p8, p9, p10, p11, p12, p13, p14, p15, p16, p17, p19, p21, p22, p23, p24, p25, p27, p29, p30, p31⟩ := hB
    case refine_1 =>
      refine ⟨by (intro j b e; simp at e), ?_⟩
      go_simp
      simp only [StepOk, upd, valPut, ↓reduceIte, Nat.reduceEqDiff]
      and_intros
      all_goals first | assumption | (intro h; cases h; done) | (intro _; assumption) | (simp_all; done)
    case refine_2 =>
      refine ⟨by (intro j b e; simp at e), ?_⟩
      have q0 := p0 (by simp [hd])
      have hcall := ops11 (HH.out.fr ho fun _ _ f => f)
      go_simp
      show Calls Try.prog 11 _ W1 _
      refine hcall.mono ?_
      rintro e W2 ⟨rfl, rfl⟩
      refine ⟨_, rfl, ?_⟩
      simp only [upd, valPut, ↓reduceIte, Nat.reduceEqDiff]
      and_intros
      all_goals first | assumption | (intro h; cases h; done) | (intro _; assumption) | (simp_all; done)
    case refine_3 =>
      refine ⟨by (intro j b e; simp at e), ?_⟩
      go_simp
      simp only [StepOk, upd, valPut, ↓reduceIte, Nat.reduceEqDiff]
      and_intros
      all_goals first | assumption | (intro h; cases h; done) | (intro _; assumption) | (simp_all; done)
    case refine_4 =>
      refine ⟨by (intro j b e; simp at e), ?_⟩
      have q2 := p2 (by simp [hd])
      go_simp
      simp only [StepOk, upd, valPut, ↓reduceIte, Nat.reduceEqDiff]
      and_intros
      all_goals first | assumption | (intro h; cases h; done) | (intro _; assumption) | (simp_all; done)
    case refine_5 =>
      refine ⟨by (intro j b e; simp at e), ?_⟩
      have q3 := p3 (by simp [hd])
      go_simp
      simp only [StepOk, upd, valPut, ↓reduceIte, Nat.reduceEqDiff]
      and_intros
      all_goals first | assumption | (intro h; cases h; done) | (intro _; assumption) | (simp_all; done)
    case refine_6 =>
      refine ⟨by (intro j b e; simp at e), ?_⟩
      have q4 := p4 (by simp [hd])
      have hc : W1.cell? ⟨m, 6, none⟩ = some (.int .i64 S.n) := by have h0 := HN.out; rw [cell_cel] at h0 ⊢; exact ho.cel h0 fun f => f
      go_simp
      simp only [StepOk, upd, valPut, ↓reduceIte, Nat.reduceEqDiff]
      and_intros
      all_goals first | assumption | (intro h; cases h; done) | (intro _; assumption) | (simp_all; done)
    case refine_7 =>
      refine ⟨by (intro j b e; simp at e), ?_⟩
      have q1 := p1 (by simp [hd])
      have q5 := p5 (by simp [hd])
      go_simp
      simp only [StepOk, upd, valPut, ↓reduceIte, Nat.reduceEqDiff]
      and_intros
      all_goals first | assumption | (intro h; cases h; done) | (intro _; assumption) | (simp_all; done)
    case refine_8 =>
      refine ⟨by (intro j b e; simp at e), ?_⟩
      have q6 := p6 (by simp [hd])
      go_simp
      simp only [StepOk, upd, valPut, ↓reduceIte, Nat.reduceEqDiff]
      and_intros
      all_goals first | assumption | (intro h; cases h; done) | (intro _; assumption) | (simp_all; done)
    case refine_9 =>
      refine ⟨by (intro j b e; simp at e; obtain ⟨rfl, rfl⟩ := e; exact p7 (by simp [hd])), ?_⟩
      go_simp
      simp only [StepOk, upd, valPut, ↓reduceIte, Nat.reduceEqDiff]
      and_intros
      all_goals first | assumption | (intro h; cases h; done) | (intro _; assumption) | (simp_all; done)
    case refine_10 =>
      refine ⟨by (intro j b e; simp at e; obtain ⟨rfl, rfl⟩ := e; exact p7 (by simp [hd])), ?_⟩
      have q8 := p8 (by simp [hd])
      have hcall := dead18 (HH.out.fr ho fun _ _ f => f)
      go_simp
      show Calls Try.prog 18 _ W1 _
      refine hcall.mono ?_
      rintro e W2 ⟨rfl, rfl⟩
      refine ⟨_, rfl, ?_⟩
      simp only [upd, valPut, ↓reduceIte, Nat.reduceEqDiff]
      and_intros
      all_goals first | assumption | (intro h; cases h; done) | (intro _; assumption) | (simp_all; done)
    case refine_11 =>
      refine ⟨by (intro j b e; simp at e; obtain ⟨rfl, rfl⟩ := e; exact p7 (by simp [hd])), ?_⟩
      go_simp
      simp only [StepOk, upd, valPut, ↓reduceIte, Nat.reduceEqDiff]
      and_intros
      all_goals first | assumption | (intro h; cases h; done) | (intro _; assumption) | (simp_all; done)
    case refine_12 =>
      refine ⟨by (intro j b e; simp at e; obtain ⟨rfl, rfl⟩ := e; exact p7 (by simp [hd])), ?_⟩
      have q10 := p10 (by simp [hd])
      go_simp
      simp only [StepOk, upd, valPut, ↓reduceIte, Nat.reduceEqDiff]
      and_intros
      all_goals first | assumption | (intro h; cases h; done) | (intro _; assumption) | (simp_all; done)
    case refine_13 =>
      refine ⟨by (intro j b e; simp at e; obtain ⟨rfl, rfl⟩ := e; exact p7 (by simp [hd])), ?_⟩
      have q11 := p11 (by simp [hd])
      go_simp
      simp only [StepOk, upd, valPut, ↓reduceIte, Nat.reduceEqDiff]
      and_intros
      all_goals first | assumption | (intro h; cases h; done) | (intro _; assumption) | (simp_all; done)
    case refine_14 =>
      refine ⟨by (intro j b e; simp at e; obtain ⟨rfl, rfl⟩ := e; exact p7 (by simp [hd])), ?_⟩
      have q12 := p12 (by simp [hd])
      have hc : W1.cell? ⟨m, 7, none⟩ = some (.bool S.died) := by have h0 := HD.out; rw [cell_cel] at h0 ⊢; exact ho.cel h0 fun f => f
      go_simp
      simp only [StepOk, upd, valPut, ↓reduceIte, Nat.reduceEqDiff]
      and_intros
      all_goals first | assumption | (intro h; cases h; done) | (intro _; assumption) | (simp_all; done)
    case refine_15 =>
      refine ⟨by (intro j b e; simp at e; obtain ⟨rfl, rfl⟩ := e; exact p7 (by simp [hd])), ?_⟩
      have q9 := p9 (by simp [hd])
      have q13 := p13 (by simp [hd])
      go_simp
      simp only [StepOk, upd, valPut, ↓reduceIte, Nat.reduceEqDiff]
      and_intros
      all_goals first | assumption | (intro h; cases h; done) | (intro _; assumption) | (simp_all; done)
    case refine_16 =>
      refine ⟨by (intro j b e; simp at e), ?_⟩
      have q7 := p7 (by simp [hd])
      have q14 := p14 (by simp [hd])
      go_simp
      simp only [StepOk, upd, valPut, ↓reduceIte, Nat.reduceEqDiff]
      and_intros
      all_goals first | assumption | (intro h; cases h; done) | (intro _; assumption) | (simp_all; done)
    case refine_17 =>
      refine ⟨by (intro j b e; simp at e), ?_⟩
      have q15 := p15 (by simp [hd])
      go_simp
      simp only [StepOk, upd, valPut, ↓reduceIte, Nat.reduceEqDiff]
      and_intros
      all_goals first | assumption | (intro h; cases h; done) | (intro _; assumption) | (simp_all; done)
    case refine_18 =>
      refine ⟨by (intro j b e; simp at e; obtain ⟨rfl, rfl⟩ := e; exact p16 (by simp [hd])), ?_⟩
      go_simp
      simp only [StepOk, upd, valPut, ↓reduceIte, Nat.reduceEqDiff]
      and_intros
      all_goals first | assumption | (intro h; cases h; done) | (intro _; assumption) | (simp_all; done)
    case refine_19 =>
      refine ⟨by (intro j b e; simp at e; obtain ⟨rfl, rfl⟩ := e; exact p16 (by simp [hd])), ?_⟩
      have q17 := p17 (by simp [hd])
      have hcall := files20 (HH.out.fr ho fun _ _ f => f) HWF.out hK
      go_simp
      show Calls Try.prog 20 _ W1 _
      refine hcall.mono ?_
      rintro e W2 hpost
      obtain ⟨v, rfl, hf2, ho2⟩ := hpost.all
      refine ⟨v, rfl, ?_⟩
      simp only [upd, valPut, ↓reduceIte, Nat.reduceEqDiff]
      exact ⟨ho.trans' ho2, fun _ => hf2, fun h => (s20 h).old ho2, fun h => (s26 h).old ho2, fun h => (s28 h).old ho2, p0, p1, p2, p3, p4, p5, p6, p7, p8, p9, p10, p11, p12, p13, p14, p15, p16, p17, p19, p21, p22, p23, p24, p25, p27, p29, p30, p31⟩
    case refine_20 =>
      refine ⟨by (intro j b e; simp at e; obtain ⟨rfl, rfl⟩ := e; exact p16 (by simp [hd])), ?_⟩
      go_simp
      simp only [StepOk, upd, valPut, ↓reduceIte, Nat.reduceEqDiff]
      and_intros
      all_goals first | assumption | (intro h; cases h; done) | (intro _; assumption) | (simp_all; done)
    case refine_21 =>
      refine ⟨by (intro j b e; simp at e; obtain ⟨rfl, rfl⟩ := e; exact p16 (by simp [hd])), ?_⟩
      have q19 := p19 (by simp [hd])
      have hcall := mall42n (HM.out.fr ho fun _ _ f => f) HWF.out hK
      go_simp
      show Calls Try.prog 42 _ W1 _
      refine hcall.mono ?_
      rintro e W2 hpost
      obtain ⟨v, rfl, hf2, ho2⟩ := hpost.all
      refine ⟨v, rfl, ?_⟩
      simp only [upd, valPut, ↓reduceIte, Nat.reduceEqDiff]
      exact ⟨ho.trans' ho2, fun h => (s18 h).old ho2, fun _ => hf2, fun h => (s26 h).old ho2, fun h => (s28 h).old ho2, p0, p1, p2, p3, p4, p5, p6, p7, p8, p9, p10, p11, p12, p13, p14, p15, p16, p17, p19, p21, p22, p23, p24, p25, p27, p29, p30, p31⟩
    case refine_22 =>
      refine ⟨by (intro j b e; simp at e; obtain ⟨rfl, rfl⟩ := e; exact p16 (by simp [hd])), ?_⟩
      have hcall := same41 W1 AnyB AnyB (val 18) (val 20) _ _ (s18 (by simp [hd])) (s20 (by simp [hd])) hll
      go_simp
      show Calls Try.prog 41 _ W1 _
      refine hcall.mono ?_
      rintro e W2 ⟨rfl, ho2⟩
      refine ⟨_, rfl, ?_⟩
      simp only [upd, valPut, ↓reduceIte, Nat.reduceEqDiff, decide_true]
      exact ⟨ho.trans' ho2, fun h => (s18 h).old ho2, fun h => (s20 h).old ho2, fun h => (s26 h).old ho2, fun h => (s28 h).old ho2, p0, p1, p2, p3, p4, p5, p6, p7, p8, p9, p10, p11, p12, p13, p14, p15, p16, p17, p19, by simp, p22, p23, p24, p25, p27, p29, p30, p31⟩
    case refine_23 =>
      refine ⟨by (intro j b e; simp at e; obtain ⟨rfl, rfl⟩ := e; exact p16 (by simp [hd])), ?_⟩
      have q21 := p21 (by simp [hd])
      go_simp
      simp only [StepOk, upd, valPut, ↓reduceIte, Nat.reduceEqDiff]
      and_intros
      all_goals first | assumption | (intro h; cases h; done) | (intro _; assumption) | (simp_all; done)
    case refine_24 =>
      refine ⟨by (intro j b e; simp at e), ?_⟩
      have q16 := p16 (by simp [hd])
      have q22 := p22 (by simp [hd])
      go_simp
      simp only [StepOk, upd, valPut, ↓reduceIte, Nat.reduceEqDiff]
      and_intros
      all_goals first | assumption | (intro h; cases h; done) | (intro _; assumption) | (simp_all; done)
    case refine_25 =>
      refine ⟨by (intro j b e; simp at e), ?_⟩
      have q23 := p23 (by simp [hd])
      go_simp
      simp only [StepOk, upd, valPut, ↓reduceIte, Nat.reduceEqDiff]
      and_intros
      all_goals first | assumption | (intro h; cases h; done) | (intro _; assumption) | (simp_all; done)
    case refine_26 =>
      refine ⟨by (intro j b e; simp at e; obtain ⟨rfl, rfl⟩ := e; exact p24 (by simp [hd])), ?_⟩
      go_simp
      simp only [StepOk, upd, valPut, ↓reduceIte, Nat.reduceEqDiff]
      and_intros
      all_goals first | assumption | (intro h; cases h; done) | (intro _; assumption) | (simp_all; done)
    case refine_27 =>
      refine ⟨by (intro j b e; simp at e; obtain ⟨rfl, rfl⟩ := e; exact p24 (by simp [hd])), ?_⟩
      have q25 := p25 (by simp [hd])
      have hcall := safe43 (HH.out.fr ho fun _ _ f => f) HWF.out hK
      go_simp
      show Calls Try.prog 43 _ W1 _
      refine hcall.mono ?_
      rintro e W2 hpost
      obtain ⟨v, rfl, hf2, ho2⟩ := hpost.all
      refine ⟨v, rfl, ?_⟩
      simp only [upd, valPut, ↓reduceIte, Nat.reduceEqDiff]
      exact ⟨ho.trans' ho2, fun h => (s18 h).old ho2, fun h => (s20 h).old ho2, fun _ => hf2, fun h => (s28 h).old ho2, p0, p1, p2, p3, p4, p5, p6, p7, p8, p9, p10, p11, p12, p13, p14, p15, p16, p17, p19, p21, p22, p23, p24, p25, p27, p29, p30, p31⟩
    case refine_28 =>
      refine ⟨by (intro j b e; simp at e; obtain ⟨rfl, rfl⟩ := e; exact p24 (by simp [hd])), ?_⟩
      go_simp
      simp only [StepOk, upd, valPut, ↓reduceIte, Nat.reduceEqDiff]
      and_intros
      all_goals first | assumption | (intro h; cases h; done) | (intro _; assumption) | (simp_all; done)
    case refine_29 =>
      refine ⟨by (intro j b e; simp at e; obtain ⟨rfl, rfl⟩ := e; exact p24 (by simp [hd])), ?_⟩
      have q27 := p27 (by simp [hd])
      have hcall := mall42s (HM.out.fr ho fun _ _ f => f) HWF.out hK
      go_simp
      show Calls Try.prog 42 _ W1 _
      refine hcall.mono ?_
      rintro e W2 hpost
      obtain ⟨v, rfl, hf2, ho2⟩ := hpost.all
      refine ⟨v, rfl, ?_⟩
      simp only [upd, valPut, ↓reduceIte, Nat.reduceEqDiff]
      exact ⟨ho.trans' ho2, fun h => (s18 h).old ho2, fun h => (s20 h).old ho2, fun h => (s26 h).old ho2, fun _ => hf2, p0, p1, p2, p3, p4, p5, p6, p7, p8, p9, p10, p11, p12, p13, p14, p15, p16, p17, p19, p21, p22, p23, p24, p25, p27, p29, p30, p31⟩
    case refine_30 =>
      refine ⟨by (intro j b e; simp at e; obtain ⟨rfl, rfl⟩ := e; exact p24 (by simp [hd])), ?_⟩
      have hcall := same41 W1 AnyB AnyB (val 26) (val 28) _ _ (s26 (by simp [hd])) (s28 (by simp [hd])) hlt
      go_simp
      show Calls Try.prog 41 _ W1 _
      refine hcall.mono ?_
      rintro e W2 ⟨rfl, ho2⟩
      refine ⟨_, rfl, ?_⟩
      simp only [upd, valPut, ↓reduceIte, Nat.reduceEqDiff, decide_true]
      exact ⟨ho.trans' ho2, fun h => (s18 h).old ho2, fun h => (s20 h).old ho2, fun h => (s26 h).old ho2, fun h => (s28 h).old ho2, p0, p1, p2, p3, p4, p5, p6, p7, p8, p9, p10, p11, p12, p13, p14, p15, p16, p17, p19, p21, p22, p23, p24, p25, p27, by simp, p30, p31⟩
    case refine_31 =>
      refine ⟨by (intro j b e; simp at e; obtain ⟨rfl, rfl⟩ := e; exact p24 (by simp [hd])), ?_⟩
      have q29 := p29 (by simp [hd])
      go_simp
      simp only [StepOk, upd, valPut, ↓reduceIte, Nat.reduceEqDiff]
      and_intros
      all_goals first | assumption | (intro h; cases h; done) | (intro _; assumption) | (simp_all; done)
    case refine_32 =>
      refine ⟨by (intro j b e; simp at e), ?_⟩
      have q24 := p24 (by simp [hd])
      have q30 := p30 (by simp [hd])
      go_simp
      simp only [StepOk, upd, valPut, ↓reduceIte, Nat.reduceEqDiff]
      and_intros
      all_goals first | assumption | (intro h; cases h; done) | (intro _; assumption) | (simp_all; done)
  case he =>
    intro L val W1 a ha hL hB
    simp [putL, Act.put] at ha
    subst ha
    obtain ⟨ho, s18, s20, s26, s28, p0, p1, p2, p3, p4, p5, p6, p7, p8, p9, p10, p11, p12, p13, p14, p15, p16, p17, p19, p21, p22, p23, p24, p25, p27, p29, p30, p31⟩ := hB
    have q31 := p31 (hL 31 (by decide))
    have HO := Lib.hid ho
    rw [q31]
    generalize val 0 = z0, val 1 = z1, val 2 = z2, val 3 = z3, val 4 = z4, val 5 = z5, val 6 = z6, val 7 = z7, val 8 = z8, val 9 = z9, val 10 = z10, val 11 = z11, val 12 = z12, val 13 = z13, val 14 = z14, val 15 = z15, val 16 = z16, val 17 = z17, val 18 = z18, val 19 = z19, val 20 = z20, val 21 = z21, val 22 = z22, val 23 = z23, val 24 = z24, val 25 = z25, val 26 = z26, val 27 = z27, val 28 = z28, val 29 = z29, val 30 = z30
    clear ho s18 s20 s26 s28 p0 p1 p2 p3 p4 p5 p6 p7 p8 p9 p10 p11 p12 p13 p14 p15 p16 p17 p19 p21 p22 p23 p24 p25 p27 p29 p30 p31 hL q31
    have hall := mall42n (HM.out.fr HO.out fun _ _ f => f) HWF.out hK
    go_wp2_with (go_at_call 42; refine hall.mono ?_; rintro e w2 hpost
                 obtain ⟨v, e2, hf2, ho2⟩ := hpost.all
                 obtain ⟨a, c, e3, hc⟩ := hf2.shape
                 subst e2 e3
                 have HF2 := Lib.hid hf2
                 have HO2 := Lib.hid (HO.out.trans' ho2)
                 clear hf2 ho2 hpost)
    clear hall
    go_loopw [51] (fun i wr => ∃ k : Nat, i = .int .i64 k ∧ k ≤ (liveOf S).length ∧ Old w2 wr) (fun i _ => (liveOf S).length - (intOf i).toNat)
    case atStart => exact ⟨0, rfl, Nat.zero_le _, Fr.refl _ _⟩
    case round =>
      obtain ⟨k, rfl, hk, ho⟩ := hrel
      by_cases hltk : k < (liveOf S).length
      · obtain ⟨p, hp⟩ : ∃ p, (liveOf S)[k]? = some p := ⟨_, List.getElem?_eq_getElem hltk⟩
        obtain ⟨hp1, hp2, hsz, hrd⟩ := live_file HWF.out hp
        obtain ⟨g, a', c', rfl, x0, x1, hsl⟩ := (HF2.out.old ho).at rfl hp
        obtain ⟨W3, hW3⟩ : ∃ W3, wr.alloc (.cells #[.string ⟨p.1.toArray⟩, .slice a' p.2.length c'] 80) = W3 := ⟨_, rfl⟩
        have o3 : Old wr W3 := by rw [← hW3]; exact (Fr.refl _ _).alloc _
        have b3 : Blk W3.heap wr.heap.size #[.string ⟨p.1.toArray⟩, .slice a' p.2.length c'] 80 := by rw [← hW3]; exact blk_new wr _ 80
        have hoo := (HO2.out.trans' ho).trans' o3
        have hd3 := HH.out.fr hoo fun _ _ f => f
        have hs44 := size44 hd3 ⟨p.1.toArray⟩ (by simp only [ByteArray.size, List.size_toArray, maxLen]; omega)
        have hr12 := read12 hd3 HWF.out ⟨p.1.toArray⟩ (by simp only [ByteArray.size, List.size_toArray, maxLen]; omega) 0 p.2.length (by omega) (by omega)
        rw [show (⟨p.1.toArray⟩ : ByteArray).data.toList = p.1 from rfl] at hs44 hr12
        rw [hsz] at hs44
        rw [hrd] at hr12
        obtain ⟨t1, _⟩ := b3.rules
        have HB3 := Lib.hid b3
        have HSL := Lib.hid (hsl.fr o3 fun _ _ f => f)
        have HHO := Lib.hid (ho.trans' o3)
        clear hp hsz hrd hsl o3 b3 hoo hd3 ho
        go_wp2_with (first
          | (go_at_call 44; refine hs44.mono ?_; rintro e w' ⟨rfl, rfl⟩)
          | (go_at_call 12; refine hr12.mono ?_; rintro e w5 ⟨v5, rfl, hs5, ho5⟩
             obtain ⟨a5, c5, e5, _, _⟩ := hs5.shape
             subst e5
             have hcv1 := conv_str hs5.at
             have hcv2 := conv_str (HSL.out.fr ho5 fun _ _ f => f).at
             obtain ⟨t5, _⟩ := (HB3.out.fr ho5 fun f => f).rules
             have HO5 := Lib.hid (HHO.out.trans' ho5)
             clear hs5 ho5))
        exact ⟨⟨k + 1, by go_num, by omega, HO5.out⟩, by simp [intOf]; omega⟩
      · have hk' : k = (liveOf S).length := by omega
        subst hk'
        have HO3 := Lib.hid (HO2.out.trans' ho)
        clear ho hk hltk
        have he := each45 d wr
        have heq := eql_nilFunc (.pointer (some ⟨wr.heap.size, 0, none⟩))
        go_wp2_with (go_at_call 45; refine he.mono ?_; rintro e w' ⟨rfl, rfl⟩)
        obtain ⟨W5, hW5⟩ : ∃ W5, wr.alloc (.cells #[.pointer (some ⟨d, 0, none⟩)] 29) = W5 := ⟨_, rfl⟩
        have o5 : Old wr W5 := by rw [← hW5]; exact (Fr.refl _ _).alloc _
        have bE : Blk W5.heap wr.heap.size #[.pointer (some ⟨d, 0, none⟩)] 29 := by rw [← hW5]; exact blk_new wr _ 29
        have hz5 : wr.heap.size < W5.heap.size := by rw [← hW5]; simp
        rw [hW5]
        have hoo := HO3.out.trans' o5
        have hseq := each64 (HH.out.fr hoo fun _ _ f => f) HWF.out hK 5 wr.heap.size (bE.rules.1 0) hz5 (fun _ => False) (fun _ f => f.elim)
        have bR5 := HBR.out.fr hoo fun f => f
        have hB5 : Below w.heap.size w W5 := (HO1.out.trans' hoo).to_below (Nat.le_refl _) fun _ f => f.elim
        refine range_wide 6 (by omega) (gf := 64) (lb := #[.pointer (some ⟨wr.heap.size, 0, none⟩)]) rfl (enters_of Try.func64 (by kernel_rfl) rfl) hseq (fun h k => h.trans k) (fun W l o o' _ h1 h2 _ => KeepCells.putObj o' h1 h2) (fun _ => rfl)
          (fun _ W => Below w.heap.size w W ∧ Blk W.heap w.heap.size #[.bool false] 4 ∧ Blk W.heap wr.heap.size #[.pointer (some ⟨d, 0, none⟩)] 29)
          (fun c _ W => c = .exit 2 ∧ Below w.heap.size w W ∧ Blk W.heap w.heap.size #[.bool false] 4 ∧ Blk W.heap wr.heap.size #[.pointer (some ⟨d, 0, none⟩)] 29)
          (fun s W W' row hs hg hr => ⟨Below.turn hs.1 hg hB5.size fun r e => (hr r e).1, hs.2.1.own hg fun r e => (hr r e).2, hs.2.2.own hg fun r e => (hr r e).2⟩)
          (fun c s W W' row hs hg hr => ⟨hs.1, Below.turn hs.2.1 hg hB5.size fun r e => (hr r e).1, hs.2.2.1.own hg fun r e => (hr r e).2, hs.2.2.2.own hg fun r e => (hr r e).2⟩)
          ⟨hB5, bR5, bE⟩ (fun x t => (t.setIfInBounds 99 (.string ⟨x.1.toArray⟩)).setIfInBounds 100 (.int .i64 x.2)) ?assign ?body ?done ?stop
        case assign =>
          intro l x W K hK
          refine wpIn_skip ?_
          show K _ W
          simpa [ely] using hK
        case body =>
          rintro l pre x W ⟨hB, hb1, hb2⟩ _
          gi_wp2
          exact ⟨KeepsOthers.refl _, rfl, hB, hb1, hb2⟩
        case done =>
          rintro D ys W hD _ ⟨hB, hb1, hb2⟩ hKD
          have hmW := M0.out.kept (h' := W.heap) fun b hb => hB.block b (M0.out.lt b hb)
          have hall2 := mall42n hmW HWF.out hK
          have HBB := Lib.hid (And.intro hB (And.intro hb1 (And.intro hb2 hKD)))
          clear hB hb1 hb2 hKD hmW
          go_wp2_with (go_at_call 42; refine hall2.mono ?_; rintro e W6 ⟨v6, e6, hf6, ho6⟩
                       have hf6' := hf6.bound
                       obtain ⟨a6, c6, e7, hc6⟩ := hf6.shape
                       subst e6 e7
                       have HF6 := Lib.hid hf6'
                       have HO6 := Lib.hid ho6
                       clear hf6 hf6' ho6)
          obtain ⟨W7, hW7⟩ : ∃ W7, (W6.alloc (.cells #[.slice a6 (liveOf S).length c6] 52)).alloc (.cells #[.int .i64 0] 3) = W7 := ⟨_, rfl⟩
          have o7 : Old W6 W7 := by rw [← hW7]; exact ((Fr.refl _ _).alloc _).alloc _
          have bA7 : Blk W7.heap W6.heap.size #[.slice a6 (liveOf S).length c6] 52 := by rw [← hW7]; exact blk_old (blk_new W6 _ 52) _
          have bK7 : Blk W7.heap (W6.heap.size + 1) #[.int .i64 0] 3 := by rw [← hW7]; have := blk_new (W6.alloc (.cells #[.slice a6 (liveOf S).length c6] 52)) #[.int .i64 0] 3; rwa [World.size_alloc] at this
          have hz7 : W7.heap.size = W6.heap.size + 2 := by rw [← hW7]; simp
          have e0 : wr.heap.size + 1 = W5.heap.size := by rw [← hW5]; simp
          rw [hW7]
          have o67 := HO6.out.trans' o7
          have hB7 : Below w.heap.size w W7 := HBB.out.1.old o67
          have bR7 := HBB.out.2.1.fr o67 fun f => f
          have bE7 := HBB.out.2.2.1.fr o67 fun f => f
          have hD7 : W7.heap[D]? = some (.deferred (some [])) := (o67.block D (Array.getElem?_eq_some_iff.1 HBB.out.2.2.2).1 fun f => f).trans HBB.out.2.2.2
          have hDl : D < W6.heap.size := Nat.lt_of_lt_of_le (Array.getElem?_eq_some_iff.1 HBB.out.2.2.2).1 HO6.out.size
          have hRl : w.heap.size < W6.heap.size := Nat.lt_of_lt_of_le HBB.out.2.1.lt HO6.out.size
          have hEl : wr.heap.size < W6.heap.size := Nat.lt_of_lt_of_le HBB.out.2.2.1.lt HO6.out.size
          have hf7 : IsFiles W7.heap (fun b => b < W6.heap.size) (.slice a6 (liveOf S).length c6) (liveOf S) := HF6.out.old o7
          have hseq2 := each64 (H0.out.kept (h' := W7.heap) fun b hb => hB7.block b (H0.out.lt b hb)) HWF.out hK 5 wr.heap.size (bE7.rules.1 0) (by omega) (fun b => b = W6.heap.size + 1 ∨ b = w.heap.size) (fun b h => by rcases h with h | h <;> omega)
          have hDR : D ≠ w.heap.size := fun e => by have h1 := HBB.out.2.1; unfold Blk at h1; rw [← e, HBB.out.2.2.2] at h1; cases h1
          have hDw : w.heap.size ≤ D := by have := hB5.size; omega
          have HLEN := Lib.hid (show (eachOf S).length = (liveOf S).length by simp [eachOf])
          refine range_wide 6 (by omega) (gf := 64) (lb := #[.pointer (some ⟨wr.heap.size, 0, none⟩)]) rfl (enters_of Try.func64 (by kernel_rfl) rfl) hseq2 (fun h k => h.trans k) (fun W l o o' _ h1 h2 _ => KeepCells.putObj o' h1 h2) (fun _ => rfl)
            (fun pre W => pre <+: eachOf S ∧ Below w.heap.size w W ∧ Blk W.heap w.heap.size #[.bool false] 4 ∧ Blk W.heap W6.heap.size #[.slice a6 (liveOf S).length c6] 52 ∧ Blk W.heap (W6.heap.size + 1) #[.int .i64 (pre.length : Nat)] 3 ∧ W.heap[D]? = some (.deferred (some [])) ∧ IsFiles W.heap (fun b => b < W6.heap.size ∧ b ≠ w.heap.size) (.slice a6 (liveOf S).length c6) (liveOf S))
            (fun _ pre _ => ¬ pre <+: eachOf S)
            (fun s W W' row hs hg hr => ⟨hs.1, Below.turn hs.2.1 hg hB7.size fun r e => (hr r e).1, hs.2.2.1.own hg fun r e => (hr r e).2, hs.2.2.2.1.own hg fun r e => (hr r e).2, hs.2.2.2.2.1.own hg fun r e => (hr r e).2, deferred_own hs.2.2.2.2.2.1 hg fun r e => by have := (hr r e).1; omega, hs.2.2.2.2.2.2.cells (KeepCells.own hg fun r e => (hr r e).2) fun _ _ f => f⟩)
            (fun c s W W' row hs hg hr => hs)
            ⟨List.nil_prefix, hB7, bR7, bA7, bK7, hD7, hf7.offR bR7⟩ (fun x t => (((t.setIfInBounds 104 (.string ⟨x.1.toArray⟩)).setIfInBounds 105 (.int .i64 x.2)).setIfInBounds 14 (.string ⟨x.1.toArray⟩)).setIfInBounds 15 (.int .i64 x.2)) ?assign2 ?body2 ?done2 ?stop2
          case assign2 =>
            intro l x W K hK
            gi_wp2
            simpa [ely] using hK
          case body2 =>
            rintro l pre ⟨nm, nx⟩ W ⟨hpre, hB, hb1, hb2, hb3, hbD, hfl⟩ _
            obtain ⟨q1, f1⟩ := hb1.rules
            obtain ⟨q2, _⟩ := hb2.rules
            obtain ⟨q3, f3⟩ := hb3.rules
            have hkl : pre.length ≤ (liveOf S).length := by have := hpre.length_le; have := HLEN.out; omega
            have HI := Lib.hid (And.intro hB (And.intro hb1 (And.intro hb2 (And.intro hb3 (And.intro hbD hfl)))))
            by_cases hk : pre.length < (liveOf S).length
            · obtain ⟨p, hp⟩ : ∃ p, (liveOf S)[pre.length]? = some p := ⟨_, List.getElem?_eq_getElem hk⟩
              obtain ⟨g, a', c', rfl, x0, x1, _⟩ := hfl.at rfl hp
              have hek : (eachOf S)[pre.length]? = some (p.1, p.2.length) := by unfold eachOf; rw [List.getElem?_map, hp]; rfl
              obtain ⟨s1, s2⟩ := prefix_snoc (x := (nm, nx)) hpre hek
              have HS1 := Lib.hid s1
              have HS2 := Lib.hid s2
              clear hpre hB hb1 hb2 hb3 hbD hfl hp hek s1 s2
              by_cases hn : nm = p.1
              · subst hn
                by_cases hl : nx = p.2.length
                · have HP := Lib.hid (HS1.out (by rw [hl]))
                  subst hl
                  gi_wp2
                  refine ⟨KeepsOthers.setCell _ _ _, (KeepCells.refl _ _).setCell (p := ⟨W6.heap.size + 1, 0, none⟩) (.inl rfl) _, HP.out, HI.out.1.setCell (p := ⟨W6.heap.size + 1, 0, none⟩) (by show w.heap.size ≤ W6.heap.size + 1; omega) _, ?_, ?_, ?_, ?_, ?_⟩
                  · exact (heap_set ⟨W6.heap.size + 1, 0, none⟩ _ (by show w.heap.size ≠ W6.heap.size + 1; omega)).trans HI.out.2.1
                  · exact (heap_set ⟨W6.heap.size + 1, 0, none⟩ _ (by show W6.heap.size ≠ W6.heap.size + 1; omega)).trans HI.out.2.2.1
                  · have := HI.out.2.2.2.1.set 0 (.int .i64 (pre.length + 1))
                    rw [List.length_append]
                    exact this
                  · exact (heap_set ⟨W6.heap.size + 1, 0, none⟩ _ (by show D ≠ W6.heap.size + 1; omega)).trans HI.out.2.2.2.2.1
                  · exact HI.out.2.2.2.2.2.cells (G := fun b => b = W6.heap.size + 1) ((KeepCells.refl (fun b => b = W6.heap.size + 1) _).setCell (p := ⟨W6.heap.size + 1, 0, none⟩) rfl _) fun b h e => by omega
                · have hl1 : (nx == p.2.length) = false := by simpa using hl
                  have hl2 : (nx != p.2.length) = true := by simp [bne, hl1]
                  have hl3 : ((nx : Int) == p.2.length) = false := by simp; omega
                  have hl4 : ((nx : Int) != p.2.length) = true := by simp [bne, hl3]
                  have HP := Lib.hid (HS2.out (by intro e; exact hl (Prod.mk.inj e).2))
                  gi_wp2
                  exact ⟨KeepsOthers.setCell _ _ _, HP.out⟩
              · have hn1 : (nm == p.1) = false := by simpa using hn
                have hn2 : (nm != p.1) = true := by simp [bne, hn1]
                have HP := Lib.hid (HS2.out (by intro e; exact hn (Prod.mk.inj e).1))
                gi_wp2
                exact ⟨KeepsOthers.setCell _ _ _, HP.out⟩
            · have hkn : (liveOf S).length ≤ pre.length := by omega
              have HP := Lib.hid (show ¬ pre ++ [(nm, nx)] <+: eachOf S from fun h => by have := h.length_le; have := HLEN.out; simp at *; omega)
              clear hpre hB hb1 hb2 hb3 hbD hfl
              gi_wp2
              exact ⟨KeepsOthers.setCell _ _ _, HP.out⟩
          case done2 =>
            rintro D2 ys W hD2 rfl ⟨hpre, hB, hb1, hb2, hb3, hbD, hfl⟩ hKD2
            obtain ⟨q1, f1⟩ := hb1.rules
            obtain ⟨q2, _⟩ := hb2.rules
            obtain ⟨q3, _⟩ := hb3.rules
            rw [HLEN.out] at q3
            have HI := Lib.hid (And.intro hB (And.intro hb1 (And.intro hbD hKD2)))
            clear hpre hB hb1 hb2 hb3 hbD hfl hKD2
            go_wp2
            have hbT : Blk (W.setCell ⟨w.heap.size, 0, none⟩ (.bool true)).heap w.heap.size #[.bool true] 4 := HI.out.2.1.set 0 (.bool true)
            have hK2 : (W.setCell ⟨w.heap.size, 0, none⟩ (.bool true)).heap[D2]? = some (.deferred (some [])) := (heap_set ⟨w.heap.size, 0, none⟩ _ (by show D2 ≠ w.heap.size; omega)).trans HI.out.2.2.2
            have hK1 : ((W.setCell ⟨w.heap.size, 0, none⟩ (.bool true)).putObj D2 (.deferred none)).heap[D]? = some (.deferred (some [])) := (World.putObj_heap_other (by omega)).trans ((heap_set ⟨w.heap.size, 0, none⟩ _ (by show D ≠ w.heap.size; omega)).trans HI.out.2.2.1)
            have hbF : Blk (((W.setCell ⟨w.heap.size, 0, none⟩ (.bool true)).putObj D2 (.deferred none)).putObj D (.deferred none)).heap w.heap.size #[.bool true] 4 := (World.putObj_heap_other (by omega)).trans ((World.putObj_heap_other (by omega)).trans hbT)
            have hcF := hbF.rules.1 0
            have hBF : Below w.heap.size w (((W.setCell ⟨w.heap.size, 0, none⟩ (.bool true)).putObj D2 (.deferred none)).putObj D (.deferred none)) :=
              ((HI.out.1.setCell (p := ⟨w.heap.size, 0, none⟩) (Nat.le_refl _) _).trans (belowK_b (w := w) (Nat.le_refl _) _ D2 _ _ (by omega) hK2 rfl rfl)).trans (belowK_b (w := w) (Nat.le_refl _) _ D _ _ hDw hK1 rfl rfl)
            refine ⟨by simp, .inl ⟨_, _, rfl, run_takeDeferred hK2, ?_⟩⟩
            refine ⟨by simp, .inl ⟨_, _, rfl, run_takeDeferred hK1, ?_⟩⟩
            refine ⟨.bool true, ?_, rfl, hBF⟩
            simp [results, Try.f14, go_sem, hcF]
          case stop2 =>
            rintro D2 c2 pre W hD2 hpre hno hKD2
            exact absurd hpre hno
        case stop =>
          rintro D c0 pre W hD _ ⟨rfl, hB, hb1, hb2⟩ hKD
          have hmW := M0.out.kept (h' := W.heap) fun b hb => hB.block b (M0.out.lt b hb)
          have hall2 := mall42n hmW HWF.out hK
          have HBB := Lib.hid (And.intro hB (And.intro hb1 (And.intro hb2 hKD)))
          clear hB hb1 hb2 hKD hmW
          go_wp2_with (go_at_call 42; refine hall2.mono ?_; rintro e W6 ⟨v6, e6, hf6, ho6⟩
                       have hf6' := hf6.bound
                       obtain ⟨a6, c6, e7, hc6⟩ := hf6.shape
                       subst e6 e7
                       have HF6 := Lib.hid hf6'
                       have HO6 := Lib.hid ho6
                       clear hf6 hf6' ho6)
          obtain ⟨W7, hW7⟩ : ∃ W7, (W6.alloc (.cells #[.slice a6 (liveOf S).length c6] 52)).alloc (.cells #[.int .i64 0] 3) = W7 := ⟨_, rfl⟩
          have o7 : Old W6 W7 := by rw [← hW7]; exact ((Fr.refl _ _).alloc _).alloc _
          have bA7 : Blk W7.heap W6.heap.size #[.slice a6 (liveOf S).length c6] 52 := by rw [← hW7]; exact blk_old (blk_new W6 _ 52) _
          have bK7 : Blk W7.heap (W6.heap.size + 1) #[.int .i64 0] 3 := by rw [← hW7]; have := blk_new (W6.alloc (.cells #[.slice a6 (liveOf S).length c6] 52)) #[.int .i64 0] 3; rwa [World.size_alloc] at this
          have hz7 : W7.heap.size = W6.heap.size + 2 := by rw [← hW7]; simp
          have e0 : wr.heap.size + 1 = W5.heap.size := by rw [← hW5]; simp
          rw [hW7]
          have o67 := HO6.out.trans' o7
          have hB7 : Below w.heap.size w W7 := HBB.out.1.old o67
          have bR7 := HBB.out.2.1.fr o67 fun f => f
          have bE7 := HBB.out.2.2.1.fr o67 fun f => f
          have hD7 : W7.heap[D]? = some (.deferred (some [])) := (o67.block D (Array.getElem?_eq_some_iff.1 HBB.out.2.2.2).1 fun f => f).trans HBB.out.2.2.2
          have hDl : D < W6.heap.size := Nat.lt_of_lt_of_le (Array.getElem?_eq_some_iff.1 HBB.out.2.2.2).1 HO6.out.size
          have hRl : w.heap.size < W6.heap.size := Nat.lt_of_lt_of_le HBB.out.2.1.lt HO6.out.size
          have hEl : wr.heap.size < W6.heap.size := Nat.lt_of_lt_of_le HBB.out.2.2.1.lt HO6.out.size
          have hf7 : IsFiles W7.heap (fun b => b < W6.heap.size) (.slice a6 (liveOf S).length c6) (liveOf S) := HF6.out.old o7
          have hseq2 := each64 (H0.out.kept (h' := W7.heap) fun b hb => hB7.block b (H0.out.lt b hb)) HWF.out hK 5 wr.heap.size (bE7.rules.1 0) (by omega) (fun b => b = W6.heap.size + 1 ∨ b = w.heap.size) (fun b h => by rcases h with h | h <;> omega)
          have hDR : D ≠ w.heap.size := fun e => by have h1 := HBB.out.2.1; unfold Blk at h1; rw [← e, HBB.out.2.2.2] at h1; cases h1
          have hDw : w.heap.size ≤ D := by have := hB5.size; omega
          have HLEN := Lib.hid (show (eachOf S).length = (liveOf S).length by simp [eachOf])
          refine range_wide 6 (by omega) (gf := 64) (lb := #[.pointer (some ⟨wr.heap.size, 0, none⟩)]) rfl (enters_of Try.func64 (by kernel_rfl) rfl) hseq2 (fun h k => h.trans k) (fun W l o o' _ h1 h2 _ => KeepCells.putObj o' h1 h2) (fun _ => rfl)
            (fun pre W => pre <+: eachOf S ∧ Below w.heap.size w W ∧ Blk W.heap w.heap.size #[.bool false] 4 ∧ Blk W.heap W6.heap.size #[.slice a6 (liveOf S).length c6] 52 ∧ Blk W.heap (W6.heap.size + 1) #[.int .i64 (pre.length : Nat)] 3 ∧ W.heap[D]? = some (.deferred (some [])) ∧ IsFiles W.heap (fun b => b < W6.heap.size ∧ b ≠ w.heap.size) (.slice a6 (liveOf S).length c6) (liveOf S))
            (fun _ pre _ => ¬ pre <+: eachOf S)
            (fun s W W' row hs hg hr => ⟨hs.1, Below.turn hs.2.1 hg hB7.size fun r e => (hr r e).1, hs.2.2.1.own hg fun r e => (hr r e).2, hs.2.2.2.1.own hg fun r e => (hr r e).2, hs.2.2.2.2.1.own hg fun r e => (hr r e).2, deferred_own hs.2.2.2.2.2.1 hg fun r e => by have := (hr r e).1; omega, hs.2.2.2.2.2.2.cells (KeepCells.own hg fun r e => (hr r e).2) fun _ _ f => f⟩)
            (fun c s W W' row hs hg hr => hs)
            ⟨List.nil_prefix, hB7, bR7, bA7, bK7, hD7, hf7.offR bR7⟩ (fun x t => (((t.setIfInBounds 104 (.string ⟨x.1.toArray⟩)).setIfInBounds 105 (.int .i64 x.2)).setIfInBounds 14 (.string ⟨x.1.toArray⟩)).setIfInBounds 15 (.int .i64 x.2)) ?assign2 ?body2 ?done2 ?stop2
          case assign2 =>
            intro l x W K hK
            gi_wp2
            simpa [ely] using hK
          case body2 =>
            rintro l pre ⟨nm, nx⟩ W ⟨hpre, hB, hb1, hb2, hb3, hbD, hfl⟩ _
            obtain ⟨q1, f1⟩ := hb1.rules
            obtain ⟨q2, _⟩ := hb2.rules
            obtain ⟨q3, f3⟩ := hb3.rules
            have hkl : pre.length ≤ (liveOf S).length := by have := hpre.length_le; have := HLEN.out; omega
            have HI := Lib.hid (And.intro hB (And.intro hb1 (And.intro hb2 (And.intro hb3 (And.intro hbD hfl)))))
            by_cases hk : pre.length < (liveOf S).length
            · obtain ⟨p, hp⟩ : ∃ p, (liveOf S)[pre.length]? = some p := ⟨_, List.getElem?_eq_getElem hk⟩
              obtain ⟨g, a', c', rfl, x0, x1, _⟩ := hfl.at rfl hp
              have hek : (eachOf S)[pre.length]? = some (p.1, p.2.length) := by unfold eachOf; rw [List.getElem?_map, hp]; rfl
              obtain ⟨s1, s2⟩ := prefix_snoc (x := (nm, nx)) hpre hek
              have HS1 := Lib.hid s1
              have HS2 := Lib.hid s2
              clear hpre hB hb1 hb2 hb3 hbD hfl hp hek s1 s2
              by_cases hn : nm = p.1
              · subst hn
                by_cases hl : nx = p.2.length
                · have HP := Lib.hid (HS1.out (by rw [hl]))
                  subst hl
                  gi_wp2
                  refine ⟨KeepsOthers.setCell _ _ _, (KeepCells.refl _ _).setCell (p := ⟨W6.heap.size + 1, 0, none⟩) (.inl rfl) _, HP.out, HI.out.1.setCell (p := ⟨W6.heap.size + 1, 0, none⟩) (by show w.heap.size ≤ W6.heap.size + 1; omega) _, ?_, ?_, ?_, ?_, ?_⟩
                  · exact (heap_set ⟨W6.heap.size + 1, 0, none⟩ _ (by show w.heap.size ≠ W6.heap.size + 1; omega)).trans HI.out.2.1
                  · exact (heap_set ⟨W6.heap.size + 1, 0, none⟩ _ (by show W6.heap.size ≠ W6.heap.size + 1; omega)).trans HI.out.2.2.1
                  · have := HI.out.2.2.2.1.set 0 (.int .i64 (pre.length + 1))
                    rw [List.length_append]
                    exact this
                  · exact (heap_set ⟨W6.heap.size + 1, 0, none⟩ _ (by show D ≠ W6.heap.size + 1; omega)).trans HI.out.2.2.2.2.1
                  · exact HI.out.2.2.2.2.2.cells (G := fun b => b = W6.heap.size + 1) ((KeepCells.refl (fun b => b = W6.heap.size + 1) _).setCell (p := ⟨W6.heap.size + 1, 0, none⟩) rfl _) fun b h e => by omega
                · have hl1 : (nx == p.2.length) = false := by simpa using hl
                  have hl2 : (nx != p.2.length) = true := by simp [bne, hl1]
                  have hl3 : ((nx : Int) == p.2.length) = false := by simp; omega
                  have hl4 : ((nx : Int) != p.2.length) = true := by simp [bne, hl3]
                  have HP := Lib.hid (HS2.out (by intro e; exact hl (Prod.mk.inj e).2))
                  gi_wp2
                  exact ⟨KeepsOthers.setCell _ _ _, HP.out⟩
              · have hn1 : (nm == p.1) = false := by simpa using hn
                have hn2 : (nm != p.1) = true := by simp [bne, hn1]
                have HP := Lib.hid (HS2.out (by intro e; exact hn (Prod.mk.inj e).1))
                gi_wp2
                exact ⟨KeepsOthers.setCell _ _ _, HP.out⟩
            · have hkn : (liveOf S).length ≤ pre.length := by omega
              have HP := Lib.hid (show ¬ pre ++ [(nm, nx)] <+: eachOf S from fun h => by have := h.length_le; have := HLEN.out; simp at *; omega)
              clear hpre hB hb1 hb2 hb3 hbD hfl
              gi_wp2
              exact ⟨KeepsOthers.setCell _ _ _, HP.out⟩
          case done2 =>
            rintro D2 ys W hD2 rfl ⟨hpre, hB, hb1, hb2, hb3, hbD, hfl⟩ hKD2
            obtain ⟨q1, f1⟩ := hb1.rules
            obtain ⟨q2, _⟩ := hb2.rules
            obtain ⟨q3, _⟩ := hb3.rules
            rw [HLEN.out] at q3
            have HI := Lib.hid (And.intro hB (And.intro hb1 (And.intro hbD hKD2)))
            clear hpre hB hb1 hb2 hb3 hbD hfl hKD2
            go_wp2
            have hbT : Blk (W.setCell ⟨w.heap.size, 0, none⟩ (.bool true)).heap w.heap.size #[.bool true] 4 := HI.out.2.1.set 0 (.bool true)
            have hK2 : (W.setCell ⟨w.heap.size, 0, none⟩ (.bool true)).heap[D2]? = some (.deferred (some [])) := (heap_set ⟨w.heap.size, 0, none⟩ _ (by show D2 ≠ w.heap.size; omega)).trans HI.out.2.2.2
            have hK1 : ((W.setCell ⟨w.heap.size, 0, none⟩ (.bool true)).putObj D2 (.deferred none)).heap[D]? = some (.deferred (some [])) := (World.putObj_heap_other (by omega)).trans ((heap_set ⟨w.heap.size, 0, none⟩ _ (by show D ≠ w.heap.size; omega)).trans HI.out.2.2.1)
            have hbF : Blk (((W.setCell ⟨w.heap.size, 0, none⟩ (.bool true)).putObj D2 (.deferred none)).putObj D (.deferred none)).heap w.heap.size #[.bool true] 4 := (World.putObj_heap_other (by omega)).trans ((World.putObj_heap_other (by omega)).trans hbT)
            have hcF := hbF.rules.1 0
            have hBF : Below w.heap.size w (((W.setCell ⟨w.heap.size, 0, none⟩ (.bool true)).putObj D2 (.deferred none)).putObj D (.deferred none)) :=
              ((HI.out.1.setCell (p := ⟨w.heap.size, 0, none⟩) (Nat.le_refl _) _).trans (belowK_b (w := w) (Nat.le_refl _) _ D2 _ _ (by omega) hK2 rfl rfl)).trans (belowK_b (w := w) (Nat.le_refl _) _ D _ _ hDw hK1 rfl rfl)
            refine ⟨by simp, .inl ⟨_, _, rfl, run_takeDeferred hK2, ?_⟩⟩
            refine ⟨by simp, .inl ⟨_, _, rfl, run_takeDeferred hK1, ?_⟩⟩
            refine ⟨.bool true, ?_, rfl, hBF⟩
            simp [results, Try.f14, go_sem, hcF]
          case stop2 =>
            rintro D2 c2 pre W hD2 hpre hno hKD2
            exact absurd hpre hno
end
end Go.Proofs.Ytpdflncgemcniaa
