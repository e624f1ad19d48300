/- PROVED HERE: the contract of the document's out. PROVED HERE: the contract of the document's put. No conditions beyond the premises that each theorem names. -/
import Derived.Test.YtpdflncgemcniaaD16
namespace Go.Proofs.Ytpdflncgemcniaa
open Go.RowKit

section
variable {w w1 w2 : World} {m : Nat} {S : Dk} {r : MDRep} {F F2 : Nat → Prop}

/-- The document's disk has another row of files. -/
theorem IsModel.rerow (s : IsModel w.heap m S r F) {ps : List MP} {V : Value} (hfr : Fr (fun b => r.vf.ownBlock = some b) w w1) (hw2 : w2 = w1.setCell ⟨m, 5, none⟩ V) (hF2 : ∀ b, F b → F2 b) (hlt : ∀ b, F2 b → b < w2.heap.size)
    (hrow : OwnRow w1.heap F2 75 3 V ps.length (ps.flatMap mfCells)) (hfiles : ∀ p ∈ ps, IsMF w.heap F2 p.1 p.2) (hap : ps.Pairwise apartM) :
    IsModel w2.heap m { S with files := ps.map Prod.fst } { r with vf := V, ps := ps } F2 ∧ Fr F w w2 := by
  have tm := s.blk.tag
  have tf : ∀ b, r.vf.ownBlock = some b → Tag w.heap b 75 := fun b e => (s.tagF e).2
  have keep : ∀ b T, Tag w.heap b T → T ≠ 75 → T ≠ 41 → w2.heap[b]? = w.heap[b]? := fun b T t h1 h2 => by
    rw [hw2, heap_set ⟨m, 5, none⟩ V (fun e => h2 (by have e : b = m := e; subst e; exact t.eq tm))]
    exact hfr.block b t.lt fun e => h1 (t.eq (tf b e))
  have hb1 := s.blk.fr hfr fun e => absurd (tm.eq (tf m e)) (by decide)
  have hb2 := hb1.set 5 V
  simp only [List.setIfInBounds_toArray, List.set_cons_zero, List.set_cons_succ] at hb2
  refine ⟨?_, ?_⟩
  · exact {
      fits := rfl
      own := hF2 m s.own
      blk := by rw [hw2]; exact hb2
      keep := (s.keep.kept fun b _ t => keep b 3 t (by decide) (by decide)).mono hF2
      fail := (s.fail.kept fun b _ t => keep b 3 t (by decide) (by decide)).mono hF2
      full := (s.full.kept fun b _ t => keep b 3 t (by decide) (by decide)).mono hF2
      row := hrow.kept fun b e _ _ => by
        rw [hw2]
        refine heap_set ⟨m, 5, none⟩ V fun e' => ?_
        have e' : b = m := e'
        obtain ⟨_, cur, h1⟩ := hrow.owned e
        have t1 : Tag w1.heap b 75 := ⟨cur, _, h1⟩
        rw [e'] at t1
        exact absurd (t1.eq hb1.tag) (by decide)
      files := fun p hp => (hfiles p hp).kept (fun b _ t => keep b 5 t (by decide) (by decide)) fun b e => keep b 101 ((hfiles p hp).tagC e).2 (by decide) (by decide)
      apart := hap
      lt := hlt }
  · rw [hw2]
    exact (hfr.mono fun b _ e => (s.tagF e).1).setCell (p := ⟨m, 5, none⟩) (fun _ => s.own) V

/-- What taking a file out comes to. -/
def OutPost (w : World) (m : Nat) (S : Dk) (F : Nat → Prop) (k : Nat) (f : Fl) (e : Ending) (w' : World) : Prop :=
  ∃ r' F' q, IsModel w'.heap m { S with files := S.files.eraseIdx k } r' F' ∧ Step F F' w w' ∧ e = .returned (.agg #[.string ⟨f.name.toArray⟩, q.vs, q.vc]) ∧ IsMF w'.heap F' f q ∧ ∀ p ∈ r'.ps, apartM (f, q) p

theorem row_take {h : Array Obj} {F : Nat → Prop} {l : List MP} {g n c : Nat} (s : OwnRow h F 75 3 (.slice (some ⟨g, 0, none⟩) n c) l.length (l.flatMap mfCells)) (k : Nat) (hk : k ≤ l.length) (c' : Nat) : RowAt h 3 (.slice (some ⟨g, 0, none⟩) k c') k ((l.take k).flatMap mfCells) := by
  refine ⟨by rw [flat_length mf_len, List.length_take, Nat.min_eq_left hk], .inr ⟨g, 0, c', rfl, fun j u hj => ?_⟩⟩
  rw [Nat.zero_add]
  have e : l.flatMap mfCells = (l.take k).flatMap mfCells ++ (l.drop k).flatMap mfCells := by rw [← List.flatMap_append, List.take_append_drop]
  have hjl := (List.getElem?_eq_some_iff.1 hj).1
  refine s.cell rfl ?_
  rw [e, List.getElem?_append_left hjl]
  exact hj

theorem row_drop {h : Array Obj} {F : Nat → Prop} {l : List MP} {g n c : Nat} (s : OwnRow h F 75 3 (.slice (some ⟨g, 0, none⟩) n c) l.length (l.flatMap mfCells)) (k : Nat) (hk : k ≤ l.length) (c' : Nat) : RowAt h 3 (.slice (some ⟨g, k * 3, none⟩) (l.length - k) c') (l.length - k) ((l.drop k).flatMap mfCells) := by
  refine ⟨by rw [flat_length mf_len, List.length_drop], .inr ⟨g, k * 3, c', rfl, fun j u hj => ?_⟩⟩
  have e : l.flatMap mfCells = (l.take k).flatMap mfCells ++ (l.drop k).flatMap mfCells := by rw [← List.flatMap_append, List.take_append_drop]
  refine s.cell rfl ?_
  have h1 : ((l.take k).flatMap mfCells).length = k * 3 := by rw [flat_length mf_len, List.length_take, Nat.min_eq_left hk]
  rw [e, List.getElem?_append_right (by omega), h1, Nat.add_sub_cancel_left]
  exact hj

theorem mf_one (l : List MP) (hs : ∀ p ∈ l, p.2.vs.oneCell' = true ∧ p.2.vc.oneCell' = true) : ∀ u ∈ l.flatMap mfCells, u.oneCell' = true := by
  intro u hu
  obtain ⟨p, hp, hu⟩ := List.mem_flatMap.1 hu
  have := hs p hp
  simp only [mfCells, List.mem_cons, List.not_mem_nil, or_false] at hu
  rcases hu with rfl | rfl | rfl
  · rfl
  · exact this.1
  · exact this.2

theorem IsMF.one {h : Array Obj} {f : Fl} {q : MRep} (s : IsMF h F f q) : q.vs.oneCell' = true ∧ q.vc.oneCell' = true := by
  obtain ⟨a, c, e, _⟩ := s.safe.shape
  obtain ⟨a2, c2, e2, _⟩ := s.shapeC
  rw [e, e2]
  exact ⟨rfl, rfl⟩

set_option maxHeartbeats 8000000 in
set_option maxRecDepth 100000 in
theorem out60 (h : IsModel w.heap m S r F) {K : Nat} (wf : Wf S K) (hK : K ≤ 1000000) {k : Nat} {f : Fl} {q : MRep} (hp : r.ps[k]? = some (f, q)) :
    Calls Try.prog 60 #[.pointer (some ⟨m, 0, none⟩), .int .i64 k] w (OutPost w m S F k f) := by
  have hlen := h.len
  have hkl : k < S.files.length := by rw [← hlen]; exact (List.getElem?_eq_some_iff.1 hp).1
  obtain ⟨av, cv, hvf, hcv⟩ := h.shapeF
  obtain ⟨g, rfl, hFg, tg, hgo, hcells⟩ := h.at_file hvf hp
  have hF := h.files _ (List.mem_of_getElem? hp)
  obtain ⟨a1, c1, hvs, _, _⟩ := hF.safe.shape
  obtain ⟨a2, c2, hvc, _⟩ := hF.shapeC
  have oR : Old w (w.alloc (.cells #[.string ⟨#[]⟩, .slice none 0 0, .slice none 0 0] 75)) := (Fr.refl _ _).alloc _
  have oB : Old w ((w.alloc (.cells #[.string ⟨#[]⟩, .slice none 0 0, .slice none 0 0] 75)).alloc (.cells #[.string ⟨f.name.toArray⟩, .slice a1 f.safe.length c1, .slice a2 f.chs.length c2] 75)) := oR.alloc _
  have bR := blk_old (blk_new w #[.string ⟨#[]⟩, .slice none 0 0, .slice none 0 0] 75) (.cells #[.string ⟨f.name.toArray⟩, .slice a1 f.safe.length c1, .slice a2 f.chs.length c2] 75)
  have bB := blk_new (w.alloc (.cells #[.string ⟨#[]⟩, .slice none 0 0, .slice none 0 0] 75)) #[.string ⟨f.name.toArray⟩, .slice a1 f.safe.length c1, .slice a2 f.chs.length c2] 75
  rw [World.size_alloc] at bB
  have y0 : (w.alloc (.cells #[.string ⟨#[]⟩, .slice none 0 0, .slice none 0 0] 75)).cell? ⟨g, k * 3, none⟩ = some (.string ⟨f.name.toArray⟩) := by rw [cell_cel]; exact oR.cel (hcells 0 (by omega)) fun f => f
  have y1 : (w.alloc (.cells #[.string ⟨#[]⟩, .slice none 0 0, .slice none 0 0] 75)).cell? ⟨g, k * 3 + 1, none⟩ = some (.slice a1 f.safe.length c1) := by rw [cell_cel, ← hvs]; exact oR.cel (hcells 1 (by omega)) fun f => f
  have y2 : (w.alloc (.cells #[.string ⟨#[]⟩, .slice none 0 0, .slice none 0 0] 75)).cell? ⟨g, k * 3 + 2, none⟩ = some (.slice a2 f.chs.length c2) := by rw [cell_cel, ← hvc]; exact oR.cel (hcells 2 (by omega)) fun f => f
  have hMw : w.cell? ⟨m, 5, none⟩ = some (.slice (some ⟨g, 0, none⟩) S.files.length cv) := by rw [h.blk.rules.1, ← hvf]; rfl
  have hM0 : (w.alloc (.cells #[.string ⟨#[]⟩, .slice none 0 0, .slice none 0 0] 75)).cell? ⟨m, 5, none⟩ = some (.slice (some ⟨g, 0, none⟩) S.files.length cv) := by rw [cell_cel] at hMw ⊢; exact oR.cel hMw fun f => f
  have hM1 : ((w.alloc (.cells #[.string ⟨#[]⟩, .slice none 0 0, .slice none 0 0] 75)).alloc (.cells #[.string ⟨f.name.toArray⟩, .slice a1 f.safe.length c1, .slice a2 f.chs.length c2] 75)).cell? ⟨m, 5, none⟩ = some (.slice (some ⟨g, 0, none⟩) S.files.length cv) := by rw [cell_cel] at hMw ⊢; exact oB.cel hMw fun f => f
  have hfew := wf.few
  have hone : ∀ p ∈ r.ps, p.2.vs.oneCell' = true ∧ p.2.vc.oneCell' = true := fun p hp => (h.files p hp).one
  have hrow := h.row
  rw [hvf] at hrow
  have hlt := h.lt
  have tM := h.blk.tag
  have H := Lib.hid h
  have HOB := Lib.hid oB
  have HVF := Lib.hid hvf
  have HVS := Lib.hid hvs
  have HVC := Lib.hid hvc
  have HROW := Lib.hid hrow
  have HONE := Lib.hid hone
  have HF := Lib.hid hF
  have HBR := Lib.hid bR
  have HBB := Lib.hid bB
  have HP := Lib.hid hp
  clear h hF hvf hvs hvc hcells oR oB hrow hone bR bB hMw hp
  go_enter Try.func60, Try.ntmps60
  go_wp2_with fail
  generalize hW : (w.alloc (.cells #[.string ⟨#[]⟩, .slice none 0 0, .slice none 0 0] 75)).alloc (.cells #[.string ⟨f.name.toArray⟩, .slice a1 f.safe.length c1, .slice a2 f.chs.length c2] 75) = W at *
  have hzW : W.heap.size = w.heap.size + 2 := by rw [← hW]; simp
  clear hW y0 y1 y2 hM0
  refine wp_region_lits (by kernel_rfl) (by kernel_rfl) (fun L val W1 =>
    (L 18 = false → Old W W1) ∧ (L 18 = true → ∃ W2, Old W W2 ∧ OwnRow W2.heap (fun b => w.heap.size + 2 ≤ b) 75 3 (val 15) (k + (S.files.length - (k + 1))) ((r.ps.take k).flatMap mfCells ++ (r.ps.drop (k + 1)).flatMap mfCells) ∧ W1 = W2.setCell ⟨m, 5, none⟩ (val 15)) ∧
    (L 7 = true → L 15 = false → OwnRow W1.heap (fun b => w.heap.size + 2 ≤ b) 75 3 (val 7) k ((r.ps.take k).flatMap mfCells)) ∧
    (L 15 = true → L 18 = false → OwnRow W1.heap (fun b => w.heap.size + 2 ≤ b) 75 3 (val 15) (k + (S.files.length - (k + 1))) ((r.ps.take k).flatMap mfCells ++ (r.ps.drop (k + 1)).flatMap mfCells)) ∧
    (L 18 = true → L 15 = true) ∧ (L 15 = true → L 7 = true ∧ L 14 = true ∧ ∃ a n c, val 15 = .slice a n c) ∧ (L 7 = true → L 4 = true) ∧ (L 14 = true → L 11 = true) ∧
    (L 0 = true → val 0 = .pointer (some ⟨m, 0, none⟩)) ∧
    (L 1 = true → val 1 = .pointer (some ⟨m, 0, none⟩)) ∧
    (L 2 = true → val 2 = .pointer (some ⟨m, 0, none⟩)) ∧
    (L 3 = true → val 3 = .pointer (some ⟨m, 5, none⟩)) ∧
    (L 4 = true → val 4 = .slice (some ⟨g, 0, none⟩) S.files.length cv) ∧
    (L 5 = true → val 5 = .int .i64 k) ∧
    (L 6 = true → L 4 = true ∧ val 6 = .slice (some ⟨g, 0, none⟩) k cv) ∧
    (L 8 = true → val 8 = .pointer (some ⟨m, 0, none⟩)) ∧
    (L 9 = true → val 9 = .pointer (some ⟨m, 0, none⟩)) ∧
    (L 10 = true → val 10 = .pointer (some ⟨m, 5, none⟩)) ∧
    (L 11 = true → val 11 = .slice (some ⟨g, 0, none⟩) S.files.length cv) ∧
    (L 12 = true → val 12 = .int .i64 k) ∧
    (L 13 = true → val 13 = .int .i64 ((k : Int) + 1)) ∧
    (L 14 = true → val 14 = (if cv = k + 1 then Value.slice (some ⟨g, 0, none⟩) (S.files.length - (k + 1)) (cv - (k + 1)) else .slice (some ⟨g, (k + 1) * 3, none⟩) (S.files.length - (k + 1)) (cv - (k + 1)))) ∧
    (L 16 = true → val 16 = .pointer (some ⟨m, 0, none⟩)) ∧
    (L 17 = true → val 17 = .pointer (some ⟨m, 5, none⟩))) ?h0 ?hs ?he
  case h0 => exact ⟨fun _ => (Fr.refl _ _).drew, by simp⟩
  case hs =>
    refine ⟨?_, ?_, ?_, ?_, ?_, ?_, ?_, ?_, ?_, ?_, ?_, ?_, ?_, ?_, ?_, ?_, ?_, ?_, ?_, trivial⟩
    all_goals
      intro L val W1 a ha hB hLi hd
      simp [putL, Act.put] at ha
      subst ha
      simp [Region.binds] at hd
      obtain ⟨ha0, hc0, hr7, hr15, c18, c15, c7, c14, p0, p1, p2, p3, p4, p5, p6, p8, p9, p10, p11, p12, p13, p14, p16, p17⟩ := hB
    case refine_1 =>
      go_simp
      simp only [StepOk, upd, valPut, ↓reduceIte, Nat.reduceEqDiff]
      and_intros
      all_goals first | assumption | (intro h; cases h; done) | (intro _; assumption) | (simp_all; done)
    case refine_2 =>
      go_simp
      simp only [StepOk, upd, valPut, ↓reduceIte, Nat.reduceEqDiff]
      and_intros
      all_goals first | assumption | (intro h; cases h; done) | (intro _; assumption) | (simp_all; done)
    case refine_3 =>
      have q1 := p1 (by simp [hd])
      go_simp
      simp only [StepOk, upd, valPut, ↓reduceIte, Nat.reduceEqDiff]
      and_intros
      all_goals first | assumption | (intro h; cases h; done) | (intro _; assumption) | (simp_all; done)
    case refine_4 =>
      have q2 := p2 (by simp [hd])
      go_simp
      simp only [StepOk, upd, valPut, ↓reduceIte, Nat.reduceEqDiff]
      and_intros
      all_goals first | assumption | (intro h; cases h; done) | (intro _; assumption) | (simp_all; done)
    case refine_5 =>
      have q3 := p3 (by simp [hd])
      have h18 : L 18 = false := by cases hL : L 18 with | false => rfl | true => have h15 := c15 (c18 hL); have h4 := c7 h15.1; have h11 := c14 h15.2.1; simp_all
      have hM : W1.cell? ⟨m, 5, none⟩ = some (.slice (some ⟨g, 0, none⟩) S.files.length cv) := by have := hM1; rw [cell_cel] at this ⊢; exact (ha0 h18).cel this fun f => f
      go_simp
      simp only [StepOk, upd, valPut, ↓reduceIte, Nat.reduceEqDiff]
      and_intros
      all_goals first | assumption | (intro h; cases h; done) | (intro _; assumption) | (simp_all; done)
    case refine_6 =>
      go_simp
      simp only [StepOk, upd, valPut, ↓reduceIte, Nat.reduceEqDiff]
      and_intros
      all_goals first | assumption | (intro h; cases h; done) | (intro _; assumption) | (simp_all; done)
    case refine_7 =>
      have q4 := p4 (by simp [hd])
      have q5 := p5 (by simp [hd])
      have hL4 : L 4 = true := by simp [hd]
      have hkc : (k : Int) ≤ cv := by omega
      go_simp
      simp only [StepOk, upd, valPut, ↓reduceIte, Nat.reduceEqDiff]
      and_intros
      all_goals first | assumption | (intro h; cases h; done) | (intro _; assumption) | (simp_all; done)
    case refine_8 =>
      obtain ⟨hL4, q6⟩ := p6 (by simp [hd])
      have h15 : L 15 = false := by cases hL : L 15 with | false => rfl | true => have := (c15 hL).1; rw [this] at hLi; cases hLi
      have h18 : L 18 = false := by cases hL : L 18 with | false => rfl | true => have := c18 hL; rw [this] at h15; cases h15
      have ho := ha0 h18
      have hrw := row_take (HROW.out.kept (h' := W1.heap) fun b _ _ hl => (HOB.out.trans' ho).block b hl fun f => f) k (by omega) cv
      refine step_app (.const (.slice none 0 0)) (.tmp 19) 39 rfl 75 (.agg #[.string ⟨#[]⟩, .slice none 0 0, .slice none 0 0]) 3 64 Try.underlying39 Try.info75 rfl (by decide) (fun b => w.heap.size + 2 ≤ b) (.slice none 0 0) 0 [] rfl OwnRow.nil (.slice (some ⟨g, 0, none⟩) k cv) k ((r.ps.take k).flatMap mfCells) (by simp only [Act.eval, go_sem]; exact q6) hrw (mf_one _ fun p hp => HONE.out p (List.mem_of_mem_take hp)) (by unfold maxLen; omega) (by omega) ?_
      intro v3 W3 hown3 hfr3
      have hz1 := ho.size
      have ho3 : Old W W3 := ho.trans hfr3 fun b _ e => by simp [Value.ownBlock] at e
      have hown' : OwnRow W3.heap (fun b => w.heap.size + 2 ≤ b) 75 3 v3 k ((r.ps.take k).flatMap mfCells) := by
        have := hown3.mono (G := fun b => w.heap.size + 2 ≤ b) fun b _ h => by
          rcases h with h | h
          · simp [Value.ownBlock] at h
          · omega
        simpa using this
      simp only [upd, valPut, ↓reduceIte, Nat.reduceEqDiff]
      exact ⟨fun _ => ho3, fun h => absurd h (by simp [h18]), fun _ _ => hown', fun h => absurd h (by simp [h15]), fun h => absurd h (by simp [h18]), fun h => absurd h (by simp [h15]), fun _ => hL4, c14, p0, p1, p2, p3, p4, p5, p6, p8, p9, p10, p11, p12, p13, p14, p16, p17⟩
    case refine_9 =>
      go_simp
      simp only [StepOk, upd, valPut, ↓reduceIte, Nat.reduceEqDiff]
      and_intros
      all_goals first | assumption | (intro h; cases h; done) | (intro _; assumption) | (simp_all; done)
    case refine_10 =>
      have q8 := p8 (by simp [hd])
      go_simp
      simp only [StepOk, upd, valPut, ↓reduceIte, Nat.reduceEqDiff]
      and_intros
      all_goals first | assumption | (intro h; cases h; done) | (intro _; assumption) | (simp_all; done)
    case refine_11 =>
      have q9 := p9 (by simp [hd])
      go_simp
      simp only [StepOk, upd, valPut, ↓reduceIte, Nat.reduceEqDiff]
      and_intros
      all_goals first | assumption | (intro h; cases h; done) | (intro _; assumption) | (simp_all; done)
    case refine_12 =>
      have q10 := p10 (by simp [hd])
      have h18 : L 18 = false := by cases hL : L 18 with | false => rfl | true => have h15 := c15 (c18 hL); have h4 := c7 h15.1; have h11 := c14 h15.2.1; simp_all
      have hM : W1.cell? ⟨m, 5, none⟩ = some (.slice (some ⟨g, 0, none⟩) S.files.length cv) := by have := hM1; rw [cell_cel] at this ⊢; exact (ha0 h18).cel this fun f => f
      go_simp
      simp only [StepOk, upd, valPut, ↓reduceIte, Nat.reduceEqDiff]
      and_intros
      all_goals first | assumption | (intro h; cases h; done) | (intro _; assumption) | (simp_all; done)
    case refine_13 =>
      go_simp
      simp only [StepOk, upd, valPut, ↓reduceIte, Nat.reduceEqDiff]
      and_intros
      all_goals first | assumption | (intro h; cases h; done) | (intro _; assumption) | (simp_all; done)
    case refine_14 =>
      have q12 := p12 (by simp [hd])
      have hw : IntKind.i64.wrap ((k : Int) + 1) = k + 1 := by rw [IntKind.wrap_i64]; omega
      go_simp
      simp only [StepOk, upd, valPut, ↓reduceIte, Nat.reduceEqDiff]
      and_intros
      all_goals first | assumption | (intro h; cases h; done) | (intro _; assumption) | (simp_all; done)
    case refine_15 =>
      have q11 := p11 (by simp [hd])
      have q13 := p13 (by simp [hd])
      have hL11 : L 11 = true := by simp [hd]
      have hk1 : (k : Int) + 1 ≤ S.files.length := by omega
      by_cases hcc : cv = k + 1
      · have hn : S.files.length = k + 1 := by omega
        go_simp
        simp only [StepOk, upd, valPut, ↓reduceIte, Nat.reduceEqDiff]
        and_intros
        all_goals first | assumption | (intro h; cases h; done) | (intro _; assumption) | (simp_all; done)
      · go_simp
        simp only [StepOk, upd, valPut, ↓reduceIte, Nat.reduceEqDiff]
        and_intros
        all_goals first | assumption | (intro h; cases h; done) | (intro _; assumption) | (simp_all; done)
    case refine_16 =>
      have q14 := p14 (by simp [hd])
      have hL7 : L 7 = true := by simp [hd]
      have hL14 : L 14 = true := by simp [hd]
      have h18 : L 18 = false := by cases hL : L 18 with | false => rfl | true => have := c18 hL; rw [this] at hLi; cases hLi
      have ho := ha0 h18
      have hz1 := ho.size
      have hrow7 := hr7 hL7 hLi
      have hrw : RowAt W1.heap 3 (val 14) (S.files.length - (k + 1)) ((r.ps.drop (k + 1)).flatMap mfCells) := by
        have h0 := HROW.out.kept (h' := W1.heap) fun b _ _ hl => (HOB.out.trans' ho).block b hl fun f => f
        rw [q14]
        by_cases hcc : cv = k + 1
        · rw [if_pos hcc]
          have hn : S.files.length = k + 1 := by omega
          have hd : r.ps.drop (k + 1) = [] := List.drop_eq_nil_of_le (by omega)
          rw [hd, hn, Nat.sub_self]
          exact ⟨rfl, .inr ⟨g, 0, _, rfl, fun j u hj => by simp at hj⟩⟩
        · rw [if_neg hcc]
          have := row_drop h0 (k + 1) (by omega) (cv - (k + 1))
          rw [hlen] at this
          exact this
      refine step_app (.tmp 20) (.tmp 27) 39 rfl 75 (.agg #[.string ⟨#[]⟩, .slice none 0 0, .slice none 0 0]) 3 64 Try.underlying39 Try.info75 rfl (by decide) (fun b => w.heap.size + 2 ≤ b) (val 7) k ((r.ps.take k).flatMap mfCells) rfl hrow7 (val 14) (S.files.length - (k + 1)) ((r.ps.drop (k + 1)).flatMap mfCells) rfl hrw (mf_one _ fun p hp => HONE.out p (List.mem_of_mem_drop hp)) (by unfold maxLen; omega) (by omega) ?_
      intro v3 W3 hown3 hfr3
      obtain ⟨a3, c3, e3, _, _⟩ := hown3.slice
      have ho3 : Old W W3 := ho.trans hfr3 fun b hb e => by have := (hrow7.owned e).1; omega
      have hown' : OwnRow W3.heap (fun b => w.heap.size + 2 ≤ b) 75 3 v3 (k + (S.files.length - (k + 1))) ((r.ps.take k).flatMap mfCells ++ (r.ps.drop (k + 1)).flatMap mfCells) := hown3.mono fun b _ h => by
        rcases h with h | h
        · exact (hrow7.owned h).1
        · omega
      simp only [upd, valPut, ↓reduceIte, Nat.reduceEqDiff]
      exact ⟨fun _ => ho3, fun h => absurd h (by simp [h18]), fun _ h => by simp at h, fun _ _ => hown', fun h => absurd h (by simp [h18]), fun _ => ⟨hL7, hL14, _, _, _, e3⟩, c7, c14, p0, p1, p2, p3, p4, p5, p6, p8, p9, p10, p11, p12, p13, p14, p16, p17⟩
    case refine_17 =>
      have q0 := p0 (by simp [hd])
      go_simp
      simp only [StepOk, upd, valPut, ↓reduceIte, Nat.reduceEqDiff]
      and_intros
      all_goals first | assumption | (intro h; cases h; done) | (intro _; assumption) | (simp_all; done)
    case refine_18 =>
      have q16 := p16 (by simp [hd])
      go_simp
      simp only [StepOk, upd, valPut, ↓reduceIte, Nat.reduceEqDiff]
      and_intros
      all_goals first | assumption | (intro h; cases h; done) | (intro _; assumption) | (simp_all; done)
    case refine_19 =>
      have q17 := p17 (by simp [hd])
      have hL15 : L 15 = true := by simp [hd]
      obtain ⟨hL7, hL14, a5, n5, c5, e5⟩ := c15 hL15
      have ho := ha0 hLi
      have hrw := hr15 hL15 hLi
      have hmW := H.out.blk.fr (HOB.out.trans' ho) fun f => f
      obtain ⟨r1, r2⟩ := hmW.rules
      go_simp
      simp only [StepOk, upd, valPut, ↓reduceIte, Nat.reduceEqDiff]
      exact ⟨fun h => by simp at h, fun _ => ⟨W1, ho, hrw, by rw [e5]⟩, fun _ h => absurd h (by simp [hL15]), fun _ h => by simp at h, fun _ => hL15, c15, c7, c14, p0, p1, p2, p3, p4, p5, p6, p8, p9, p10, p11, p12, p13, p14, p16, p17⟩
  case he =>
    intro L val W1 a ha hL hB
    simp [putL, Act.put] at ha
    subst ha
    obtain ⟨ha0, hc0, _⟩ := hB
    obtain ⟨W2, ho2, hrw, hW1⟩ := hc0 (hL 18 (by decide))
    generalize val 15 = V at *
    have hps : (r.ps.take k ++ r.ps.drop (k + 1)).map Prod.fst = S.files.eraseIdx k := by
      rw [← H.out.fits, List.eraseIdx_eq_take_drop_succ, List.map_append, List.map_take, List.map_drop]
    have hsub : ∀ p ∈ r.ps.take k ++ r.ps.drop (k + 1), p ∈ r.ps := fun p hp => by
      rcases List.mem_append.1 hp with hp | hp
      · exact List.mem_of_mem_take hp
      · exact List.mem_of_mem_drop hp
    have hsz2 := ho2.size
    have hszW1 : W1.heap.size = W2.heap.size := by rw [hW1, World.size_setCell]
    have hpl : (r.ps.take k ++ r.ps.drop (k + 1)).length = k + (S.files.length - (k + 1)) := by rw [List.length_append, List.length_take, List.length_drop]; omega
    have hsublist : List.Sublist (r.ps.take k ++ r.ps.drop (k + 1)) r.ps := by rw [← List.eraseIdx_eq_take_drop_succ]; exact List.eraseIdx_sublist _ _
    obtain ⟨hmod, hfrF⟩ := H.out.rerow (w1 := W2) (w2 := W1) (F2 := fun b => F b ∨ (w.heap.size + 2 ≤ b ∧ b < W1.heap.size)) (ps := r.ps.take k ++ r.ps.drop (k + 1)) (V := V) (Old.fr (HOB.out.trans' ho2)) hW1 (fun b h => .inl h)
      (fun b h => by
        rcases h with h | h
        · have := hlt b h; omega
        · exact h.2)
      (by
        rw [hpl, List.flatMap_append]
        exact hrw.mono fun b e h => .inr ⟨h, by
          obtain ⟨_, cur, e'⟩ := hrw.owned e
          have := (Array.getElem?_eq_some_iff.1 e').1
          omega⟩)
      (fun p hp => (H.out.files p (hsub p hp)).mono fun b h _ => .inl h) (H.out.apart.sublist hsublist)
    rw [hps] at hmod
    have tfg : ∀ b T, Tag w.heap b T → T ≠ 41 → W1.heap[b]? = w.heap[b]? := fun b T t hT => by
      rw [hW1, heap_set ⟨m, 5, none⟩ V (fun e => hT (by have e : b = m := e; subst e; exact t.eq tM))]
      exact (HOB.out.trans' ho2).block b t.lt fun f => f
    have hFq := (HF.out.kept (fun b _ t => tfg b 5 t (by decide)) fun b e => tfg b 101 (HF.out.tagC e).2 (by decide)).mono (G := fun b => F b ∨ (w.heap.size + 2 ≤ b ∧ b < W1.heap.size)) fun b h _ => .inl h
    have hapq : ∀ p ∈ r.ps.take k ++ r.ps.drop (k + 1), apartM (f, q) p := fun p hp => by
      have ha := H.out.apart
      have hsplit : r.ps = r.ps.take k ++ (f, q) :: r.ps.drop (k + 1) := by
        obtain ⟨hk', he⟩ := List.getElem?_eq_some_iff.1 HP.out
        rw [← he, ← List.drop_eq_getElem_cons hk', List.take_append_drop]
      rw [hsplit, List.pairwise_append] at ha
      rcases List.mem_append.1 hp with hp | hp
      · exact apartM_symm (ha.2.2 p hp (f, q) (by simp))
      · exact (List.pairwise_cons.1 ha.2.1).1 p hp
    have hgood : ∀ W3, Fr (fun b => b = w.heap.size) W1 W3 → OutPost w m S F k f (.returned (.agg #[.string ⟨f.name.toArray⟩, .slice a1 f.safe.length c1, .slice a2 f.chs.length c2])) W3 := fun W3 hf3 => by
      have hno : ∀ b, (F b ∨ (w.heap.size + 2 ≤ b ∧ b < W1.heap.size)) → b = w.heap.size → False := fun b h e => by
        rcases h with h | h
        · have := hlt b h; omega
        · omega
      refine ⟨_, _, q, hmod.fr hf3 hno, ⟨hfrF.trans hf3 fun b hb e => by omega, fun b h => h.imp id fun h => by omega⟩, ?_, ?_, hapq⟩
      · rw [HVS.out, HVC.out]
      · exact hFq.kept (fun b hb t => hf3.block b t.lt fun e => hno b hb e) fun b e => hf3.block b (hFq.tagC e).2.lt fun e' => hno b (hFq.tagC e).1 e'
    have hbR : Blk W1.heap w.heap.size #[.string ⟨#[]⟩, .slice none 0 0, .slice none 0 0] 75 := by
      have h1 := HBR.out.fr ho2 fun f => f
      unfold Blk at h1 ⊢
      rw [hW1, heap_set ⟨m, 5, none⟩ V (fun e => by have e : w.heap.size = m := e; have := tM.lt; omega)]
      exact h1
    have hbB : Blk W1.heap (w.heap.size + 1) #[.string ⟨f.name.toArray⟩, .slice a1 f.safe.length c1, .slice a2 f.chs.length c2] 75 := by
      have h1 := HBB.out.fr ho2 fun f => f
      unfold Blk at h1 ⊢
      rw [hW1, heap_set ⟨m, 5, none⟩ V (fun e => by have e : w.heap.size + 1 = m := e; have := tM.lt; omega)]
      exact h1
    obtain ⟨s1, s2⟩ := hbR.rules
    obtain ⟨t1, t2⟩ := hbB.rules
    have hst : Fr (fun b => b = w.heap.size) W1 (((W1.setCell ⟨w.heap.size, 0, none⟩ (.string ⟨f.name.toArray⟩)).setCell ⟨w.heap.size, 1, none⟩ (.slice a1 f.safe.length c1)).setCell ⟨w.heap.size, 2, none⟩ (.slice a2 f.chs.length c2)) :=
      (((Fr.refl (fun b => b = w.heap.size) W1).setCell (p := ⟨w.heap.size, 0, none⟩) (fun _ => rfl) _).setCell (p := ⟨w.heap.size, 1, none⟩) (fun _ => rfl) _).setCell (p := ⟨w.heap.size, 2, none⟩) (fun _ => rfl) _
    have HFIN := Lib.hid (hgood _ hst)
    have HBRR := Lib.hid hbR
    clear hgood hst hmod hfrF hFq hapq hW1 hbR hbB hL ha0 hc0 hrw ho2 tfg
    go_wp2
    refine bodyPost_ret (v := .agg #[.string ⟨f.name.toArray⟩, .slice a1 f.safe.length c1, .slice a2 f.chs.length c2]) (by simp [results, Try.results60, go_sem, s1]) rfl ?_
    exact HFIN.out
end
end Go.Proofs.Ytpdflncgemcniaa
namespace Go.Proofs.Ytpdflncgemcniaa
open Go.RowKit

section
variable {w w' : World} {m : Nat} {S : Dk} {r : MDRep} {F : Nat → Prop}

/-- The row of files in another order. -/
theorem IsModel.reorder (s : IsModel w.heap m S r F) {g : Nat} (hg : r.vf.ownBlock = some g) (hfr : Fr (fun b => b = g) w w') {ps : List MP} (hrow : OwnRow w'.heap F 75 3 r.vf ps.length (ps.flatMap mfCells)) (hfiles : ∀ p ∈ ps, p ∈ r.ps) (hap : ps.Pairwise apartM) :
    IsModel w'.heap m { S with files := ps.map Prod.fst } { r with ps := ps } F := by
  have tg := (s.tagF hg).2
  have keep : ∀ b T, Tag w.heap b T → T ≠ 75 → w'.heap[b]? = w.heap[b]? := fun b T t h1 => hfr.block b t.lt fun e => h1 (by subst e; exact t.eq tg)
  exact {
    fits := rfl
    own := s.own
    blk := (keep m 41 s.blk.tag (by decide)).trans s.blk
    keep := s.keep.kept fun b _ t => keep b 3 t (by decide)
    fail := s.fail.kept fun b _ t => keep b 3 t (by decide)
    full := s.full.kept fun b _ t => keep b 3 t (by decide)
    row := hrow
    files := fun p hp => (s.files p (hfiles p hp)).kept (fun b _ t => keep b 5 t (by decide)) fun b e => keep b 101 ((s.files p (hfiles p hp)).tagC e).2 (by decide)
    apart := hap
    lt := fun b h => Nat.lt_of_lt_of_le (s.lt b h) hfr.size }

theorem putBy_at {l : List MP} {x : MP} {i : Nat} (hi : i ≤ l.length) (hs : l.Pairwise fun a b => a.1.name < b.1.name) (h1 : ∀ y ∈ l.drop i, x.1.name < y.1.name) (h2 : ∀ j (hj : j < l.length), i = j + 1 → ¬ x.1.name < l[j].1.name) : putBy (fun p : MP => p.1.name) x l = l.take i ++ x :: l.drop i := by
  induction l generalizing i with
  | nil => simp [putBy]
  | cons a l ih =>
    rw [List.pairwise_cons] at hs
    match i, hi, h1, h2 with
    | 0, _, h1, _ =>
      simp only [putBy, List.take_zero, List.drop_zero, List.nil_append]
      rw [if_pos (h1 a (by simp))]
    | i + 1, hi, h1, h2 =>
      have hna : ¬ x.1.name < a.1.name := by
        intro hlt
        have hb : ∀ j (hj : j < (a :: l).length), x.1.name < (a :: l)[j].1.name := fun j hj => by
          cases j with
          | zero => exact hlt
          | succ j => exact List.lt_trans hlt (hs.1 _ (List.getElem_mem _))
        exact h2 i (by simp at hi; simp; omega) rfl (hb i (by simp at hi; simp; omega))
      simp only [putBy, List.take_succ_cons, List.drop_succ_cons, List.cons_append]
      rw [if_neg hna, ih (by simpa using hi) hs.2 (by simpa using h1) fun j hj e => by
        subst e
        exact h2 (j + 1) (by simp; omega) rfl]

/-- A swap in a list. -/
theorem swap_list {α : Type} {l : List α} {x : α} {j : Nat} (hj : j < l.length) : ((l.take (j + 1) ++ x :: l.drop (j + 1)).set j x).set (j + 1) l[j] = l.take j ++ x :: l.drop j := by
  have h1 : l.take (j + 1) = l.take j ++ [l[j]] := List.take_succ_eq_append_getElem hj
  have h2 : l.drop j = l[j] :: l.drop (j + 1) := List.drop_eq_getElem_cons hj
  have h3 : (l.take j).length = j := by rw [List.length_take]; omega
  rw [h1, h2, List.append_assoc]
  rw [List.set_append, if_neg (by omega), h3, Nat.sub_self]
  simp only [List.singleton_append, List.set_cons_zero]
  rw [List.set_append, if_neg (by omega), h3, show j + 1 - j = 1 by omega]
  rfl

/-- Three cells of a row at once. -/
theorem OwnRow.set3 {v : Value} {n : Nat} {l : List MP} (s : OwnRow w.heap F 75 3 v n (l.flatMap mfCells)) {g : Nat} (hg : v.ownBlock = some g) {i : Nat} {a b : MP} (hi : l[i]? = some a) :
    OwnRow (((w.setCell ⟨g, i * 3, none⟩ (encStr b.1.name)).setCell ⟨g, i * 3 + 1, none⟩ b.2.vs).setCell ⟨g, i * 3 + 2, none⟩ b.2.vc).heap F 75 3 v n ((l.set i b).flatMap mfCells) := by
  have h := ((s.set hg (j := i * 3) (encStr b.1.name)).set (w := w.setCell ⟨g, i * 3, none⟩ (encStr b.1.name)) hg (j := i * 3 + 1) b.2.vs).set (w := (w.setCell ⟨g, i * 3, none⟩ (encStr b.1.name)).setCell ⟨g, i * 3 + 1, none⟩ b.2.vs) hg (j := i * 3 + 2) b.2.vc
  have e1 := flat_set (f := mfCells) mf_len (b := (({ a.1 with name := b.1.name } : Fl), a.2)) (j := 0) (u := encStr b.1.name) hi (by omega) rfl
  rw [Nat.add_zero] at e1
  have hi1 : (l.set i (({ a.1 with name := b.1.name } : Fl), a.2))[i]? = some (({ a.1 with name := b.1.name } : Fl), a.2) := List.getElem?_set_self (List.getElem?_eq_some_iff.1 hi).1
  have e2 := flat_set (f := mfCells) mf_len (b := (({ a.1 with name := b.1.name } : Fl), ({ a.2 with vs := b.2.vs } : MRep))) (j := 1) (u := b.2.vs) hi1 (by omega) rfl
  rw [List.set_set] at e2
  have hi2 : (l.set i (({ a.1 with name := b.1.name } : Fl), ({ a.2 with vs := b.2.vs } : MRep)))[i]? = some (({ a.1 with name := b.1.name } : Fl), ({ a.2 with vs := b.2.vs } : MRep)) := List.getElem?_set_self (List.getElem?_eq_some_iff.1 hi).1
  have e3 := flat_set (f := mfCells) mf_len (b := b) (j := 2) (u := b.2.vc) hi2 (by omega) rfl
  rw [List.set_set] at e3
  rw [e1, e2, e3] at h
  exact h

end

abbrev st3 (w : World) (g i : Nat) (n : Value) (vs vc : Value) : World := ((w.setCell ⟨g, i * 3, none⟩ n).setCell ⟨g, i * 3 + 1, none⟩ vs).setCell ⟨g, i * 3 + 2, none⟩ vc

theorem st3_fr (w : World) (g i : Nat) (n vs vc : Value) : Fr (fun b => b = g) w (st3 w g i n vs vc) := (((Fr.refl (fun b => b = g) w).setCell (p := ⟨g, i * 3, none⟩) (fun _ => rfl) n).setCell (p := ⟨g, i * 3 + 1, none⟩) (fun _ => rfl) vs).setCell (p := ⟨g, i * 3 + 2, none⟩) (fun _ => rfl) vc

end Go.Proofs.Ytpdflncgemcniaa
