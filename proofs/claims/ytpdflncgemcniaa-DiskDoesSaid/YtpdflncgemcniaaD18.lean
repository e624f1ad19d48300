/- PROVED HERE: the contract of the document's put: the walk. No conditions beyond the premises that each theorem names. -/
import Derived.Test.YtpdflncgemcniaaD17
namespace Go.Proofs.Ytpdflncgemcniaa
open Go.RowKit

/-- What putting a file comes to. -/
def MPutPost (w : World) (m : Nat) (S : Dk) (F : Nat → Prop) (f : Fl) (e : Ending) (w' : World) : Prop :=
  e = .returned (.tuple #[]) ∧ ∃ r' F', IsModel w'.heap m { S with files := putF f S.files } r' F' ∧ Step F F' w w'

theorem putM_map (p : MP) (ps : List MP) : (putBy (fun p : MP => p.1.name) p ps).map Prod.fst = putF p.1 (ps.map Prod.fst) := map_putBy Prod.fst (fun _ => rfl) p ps

theorem pair_mid {l : List MP} {x : MP} {j : Nat} (h : (l.take (j + 1) ++ x :: l.drop (j + 1)).Pairwise apartM) (hj : j < l.length) : (l.take j ++ x :: l.drop j).Pairwise apartM := by
  rw [List.take_succ_eq_append_getElem hj, List.append_assoc] at h
  rw [List.drop_eq_getElem_cons hj]
  rw [List.pairwise_append] at h ⊢
  obtain ⟨h1, h2, h3⟩ := h
  simp only [List.singleton_append, List.pairwise_cons] at h2 ⊢
  refine ⟨h1, ⟨fun y hy => ?_, fun y hy => h2.1 y (by simp [hy]), h2.2.2⟩, fun a ha b hb => h3 a ha b (by
    simp only [List.mem_cons, List.singleton_append] at hb ⊢
    rcases hb with h | h | h <;> simp [h])⟩
  rcases List.mem_cons.1 hy with rfl | hy
  · exact apartM_symm (h2.1 x (by simp))
  · exact h2.2.1 y hy

/-- A file put on its way down: it stands at the i-th place. -/
def PutAt (W W1 wr : World) (m : Nat) (S : Dk) (r : MDRep) (F : Nat → Prop) (g cV2 : Nat) (f : Fl) (q : MRep) (i : Nat) : Prop :=
  IsModel wr.heap m { S with files := (r.ps.take i ++ (f, q) :: r.ps.drop i).map Prod.fst } { r with vf := .slice (some ⟨g, 0, none⟩) (S.files.length + 1) cV2, ps := r.ps.take i ++ (f, q) :: r.ps.drop i } (fun b => F b ∨ (W.heap.size ≤ b ∧ b < W1.heap.size)) ∧
  Fr (fun b => b = g) W1 wr ∧ ∀ y ∈ r.ps.drop i, f.name < y.1.name

section
variable {w : World} {m : Nat} {S : Dk} {r : MDRep} {F : Nat → Prop}

set_option maxHeartbeats 8000000 in
set_option maxRecDepth 100000 in
theorem mput58 (h : IsModel w.heap m S r F) (hK : S.files.length ≤ 1000000) (hsort : S.files.Pairwise fun a b => a.name < b.name) {f : Fl} {q : MRep} (hF : IsMF w.heap F f q) (hap : ∀ p ∈ r.ps, apartM (f, q) p) :
    Calls Try.prog 58 #[.pointer (some ⟨m, 0, none⟩), .agg #[.string ⟨f.name.toArray⟩, q.vs, q.vc]] w (MPutPost w m S F f) := by
  obtain ⟨av, cv, hvf, hcv⟩ := h.shapeF
  obtain ⟨a1, c1, hvs, _, _⟩ := hF.safe.shape
  obtain ⟨a2, c2, hvc, _⟩ := hF.shapeC
  have hlen := h.len
  have o0 : Old w (w.alloc (.cells #[.string ⟨f.name.toArray⟩, .slice a1 f.safe.length c1, .slice a2 f.chs.length c2] 75)) := (Fr.refl _ _).alloc _
  have B0 := blk_new w #[.string ⟨f.name.toArray⟩, .slice a1 f.safe.length c1, .slice a2 f.chs.length c2] 75
  have h0 := h.fr o0 fun _ _ f => f
  have hF0 : IsMF (w.alloc (.cells #[.string ⟨f.name.toArray⟩, .slice a1 f.safe.length c1, .slice a2 f.chs.length c2] 75)).heap F f q := hF.kept (fun b hb _ => o0.block b (h.lt b hb) fun f => f) fun b e => o0.block b (h.lt b (hF.tagC e).1) fun f => f
  have hM0 : (w.alloc (.cells #[.string ⟨f.name.toArray⟩, .slice a1 f.safe.length c1, .slice a2 f.chs.length c2] 75)).cell? ⟨m, 5, none⟩ = some (.slice av S.files.length cv) := by rw [h0.blk.rules.1, ← hvf]; rfl
  have hsort' : r.ps.Pairwise fun a b => a.1.name < b.1.name := by have := hsort; rw [← h.fits, List.pairwise_map] at this; exact this
  have hcell4 : mfCells (f, q) = [.string ⟨f.name.toArray⟩, .slice a1 f.safe.length c1, .slice a2 f.chs.length c2] := by simp only [mfCells]; rw [hvs, hvc]
  have hfitS := h.fits
  have hltF := h.lt
  have HAP := Lib.hid hap
  have HO := Lib.hid o0
  have HSORT := Lib.hid hsort'
  have HC4 := Lib.hid hcell4
  have HFIT := Lib.hid hfitS
  have HM := Lib.hid hM0
  rw [hvs, hvc]
  have HVS := Lib.hid hvs
  have HVC := Lib.hid hvc
  have HVF := Lib.hid hvf
  clear h hF hap hvs hvc hvf o0 hsort' hsort hcell4 hfitS hM0
  go_enter Try.func58, Try.ntmps58
  go_wp2_with fail
  generalize hW : w.alloc (.cells #[.string ⟨f.name.toArray⟩, .slice a1 f.safe.length c1, .slice a2 f.chs.length c2] 75) = W at *
  have hzW : W.heap.size = w.heap.size + 1 := by rw [← hW]; simp
  have hrow0 := h0.row
  rw [HVF.out, hlen] at hrow0
  have hown : ∀ b, (Value.slice av S.files.length cv).ownBlock = some b → F b ∧ Tag W.heap b 75 := fun b hb => by
    obtain ⟨h1, cur, h2⟩ := hrow0.owned hb
    exact ⟨h1, cur, _, h2⟩
  have tM := h0.blk.tag
  have HB0 := Lib.hid B0
  have H0 := Lib.hid h0
  have HF0 := Lib.hid hF0
  have HROW := Lib.hid hrow0
  have HZW := Lib.hid hzW
  clear hW B0 h0 hF0 hrow0 hzW
  refine wp_region_lits (by kernel_rfl) (by kernel_rfl) (fun L val W1 =>
    (L 7 = false → Old W W1) ∧ (L 7 = false → L 6 = true → RowAt W1.heap 3 (val 6) 1 [.string ⟨f.name.toArray⟩, .slice a1 f.safe.length c1, .slice a2 f.chs.length c2]) ∧
    (L 7 = true → L 10 = false → Fr (fun b => (Value.slice av S.files.length cv).ownBlock = some b) W W1) ∧
    (L 7 = true → L 10 = false → OwnRow W1.heap (fun b => (Value.slice av S.files.length cv).ownBlock = some b ∨ W.heap.size ≤ b) 75 3 (val 7) (S.files.length + 1) (r.ps.flatMap mfCells ++ [.string ⟨f.name.toArray⟩, .slice a1 f.safe.length c1, .slice a2 f.chs.length c2])) ∧
    (L 10 = true → ∃ W2, Fr (fun b => (Value.slice av S.files.length cv).ownBlock = some b) W W2 ∧ OwnRow W2.heap (fun b => (Value.slice av S.files.length cv).ownBlock = some b ∨ W.heap.size ≤ b) 75 3 (val 7) (S.files.length + 1) (r.ps.flatMap mfCells ++ [.string ⟨f.name.toArray⟩, .slice a1 f.safe.length c1, .slice a2 f.chs.length c2]) ∧ W1 = W2.setCell ⟨m, 5, none⟩ (val 7)) ∧
    (L 10 = true → L 7 = true) ∧ (L 7 = true → L 4 = true ∧ L 6 = true ∧ ∃ a n c, val 7 = .slice a n c) ∧ (L 6 = true → L 5 = true) ∧
    (L 0 = true → val 0 = .pointer (some ⟨m, 0, none⟩)) ∧
    (L 1 = true → val 1 = .pointer (some ⟨m, 0, none⟩)) ∧
    (L 2 = true → val 2 = .pointer (some ⟨m, 0, none⟩)) ∧
    (L 3 = true → val 3 = .pointer (some ⟨m, 5, none⟩)) ∧
    (L 4 = true → val 4 = .slice av S.files.length cv) ∧
    (L 5 = true → val 5 = .agg #[.string ⟨f.name.toArray⟩, .slice a1 f.safe.length c1, .slice a2 f.chs.length c2]) ∧
    (L 6 = true → ∃ nb, val 6 = .slice (some ⟨nb, 0, none⟩) 1 1) ∧
    (L 8 = true → val 8 = .pointer (some ⟨m, 0, none⟩)) ∧
    (L 9 = true → val 9 = .pointer (some ⟨m, 5, none⟩))) ?h0 ?hs ?he
  case h0 => exact ⟨fun _ => (Fr.refl _ _).drew, by simp⟩
  case hs =>
    refine ⟨?_, ?_, ?_, ?_, ?_, ?_, ?_, ?_, ?_, ?_, ?_, trivial⟩
    all_goals
      intro L val W1 a ha hB hLi hd
      simp [putL, Act.put] at ha
      subst ha
      simp [Region.binds] at hd
      obtain ⟨ha0, ha1, hb0, hb1, hc0, c10, c7, c6, p0, p1, p2, p3, p4, p5, p6, p8, p9⟩ := hB
    case refine_1 =>
      go_simp
      simp only [StepOk, upd, valPut, ↓reduceIte, Nat.reduceEqDiff]
      and_intros
      all_goals first | assumption | (intro h; cases h; done) | (intro _; assumption) | (simp_all; done)
    case refine_2 =>
      go_simp
      simp only [StepOk, upd, valPut, ↓reduceIte, Nat.reduceEqDiff]
      and_intros
      all_goals first | assumption | (intro h; cases h; done) | (intro _; assumption) | (simp_all; done)
    case refine_3 =>
      have q1 := p1 (by simp [hd])
      go_simp
      simp only [StepOk, upd, valPut, ↓reduceIte, Nat.reduceEqDiff]
      and_intros
      all_goals first | assumption | (intro h; cases h; done) | (intro _; assumption) | (simp_all; done)
    case refine_4 =>
      have q2 := p2 (by simp [hd])
      go_simp
      simp only [StepOk, upd, valPut, ↓reduceIte, Nat.reduceEqDiff]
      and_intros
      all_goals first | assumption | (intro h; cases h; done) | (intro _; assumption) | (simp_all; done)
    case refine_5 =>
      have q3 := p3 (by simp [hd])
      have h7 : L 7 = false := by cases hL : L 7 with | false => rfl | true => have := c7 hL; have := c6 this.2.1; simp_all
      have ho := ha0 h7
      have hM : W1.cell? ⟨m, 5, none⟩ = some (.slice av S.files.length cv) := by have := HM.out; rw [cell_cel] at this ⊢; exact ho.cel this fun f => f
      go_simp
      simp only [StepOk, upd, valPut, ↓reduceIte, Nat.reduceEqDiff]
      and_intros
      all_goals first | assumption | (intro h; cases h; done) | (intro _; assumption) | (simp_all; done)
    case refine_6 =>
      have h7 : L 7 = false := by cases hL : L 7 with | false => rfl | true => have := c7 hL; have := c6 this.2.1; simp_all
      have ho := ha0 h7
      obtain ⟨s1, _⟩ := (HB0.out.fr ho fun f => f).rules
      go_simp
      simp only [StepOk, upd, valPut, ↓reduceIte, Nat.reduceEqDiff]
      and_intros
      all_goals first | assumption | (intro h; cases h; done) | (intro _; assumption) | (simp_all; done)
    case refine_7 =>
      have q5 := p5 (by simp [hd])
      have hL5 : L 5 = true := by simp [hd]
      have h7 : L 7 = false := by cases hL : L 7 with | false => rfl | true => have := (c7 hL).2.1; rw [this] at hLi; cases hLi
      have h10 : L 10 = false := by cases hL : L 10 with | false => rfl | true => have := c10 hL; rw [this] at h7; cases h7
      have ho := ha0 h7
      have ho' := ho.alloc (.cells #[.string ⟨f.name.toArray⟩, .slice a1 f.safe.length c1, .slice a2 f.chs.length c2] 75)
      have hrw := row_many (w := W1) [.string ⟨f.name.toArray⟩, .slice a1 f.safe.length c1, .slice a2 f.chs.length c2] 75 rfl
      go_simp
      simp only [StepOk, upd, valPut, ↓reduceIte, Nat.reduceEqDiff]
      exact ⟨fun _ => ho', fun _ _ => hrw, fun h => absurd h (by simp [h7]), fun h => absurd h (by simp [h7]), fun h => absurd h (by simp [h10]), fun h => absurd h (by simp [h10]), fun h => absurd h (by simp [h7]), fun _ => hL5, p0, p1, p2, p3, p4, p5, fun _ => ⟨_, rfl⟩, p8, p9⟩
    case refine_8 =>
      have q4 := p4 (by simp [hd])
      have hL4 : L 4 = true := by simp [hd]
      have hL6 : L 6 = true := by simp [hd]
      have h10 : L 10 = false := by cases hL : L 10 with | false => rfl | true => have := c10 hL; rw [this] at hLi; cases hLi
      have ho := ha0 hLi
      have hra := ha1 hLi hL6
      have hrow1 := HROW.out.kept (h' := W1.heap) fun b _ _ hl => ho.block b hl fun f => f
      refine step_app (.tmp 9) (.tmp 11) 39 rfl 75 (.agg #[.string ⟨#[]⟩, .slice none 0 0, .slice none 0 0]) 3 64 Try.underlying39 Try.info75 rfl (by decide) F (.slice av S.files.length cv) S.files.length (r.ps.flatMap mfCells) (by simp only [Act.eval, go_sem]; exact q4) hrow1 (val 6) 1 [.string ⟨f.name.toArray⟩, .slice a1 f.safe.length c1, .slice a2 f.chs.length c2] rfl hra (by intro u hu; simp at hu; rcases hu with rfl | rfl | rfl <;> rfl) (by unfold maxLen; omega) (by omega) ?_
      intro v3 W3 hown3 hfr3
      obtain ⟨a3, c3, e3, _, _⟩ := hown3.slice
      have hfr' : Fr (fun b => (Value.slice av S.files.length cv).ownBlock = some b) W W3 := (Old.fr ho).trans' hfr3
      have hown' : OwnRow W3.heap (fun b => (Value.slice av S.files.length cv).ownBlock = some b ∨ W.heap.size ≤ b) 75 3 v3 (S.files.length + 1) (r.ps.flatMap mfCells ++ [.string ⟨f.name.toArray⟩, .slice a1 f.safe.length c1, .slice a2 f.chs.length c2]) := hown3.mono fun b _ h => h.imp id fun h => Nat.le_trans ho.size h
      simp only [upd, valPut, ↓reduceIte, Nat.reduceEqDiff]
      exact ⟨fun h => by simp at h, fun h => by simp at h, fun _ _ => hfr', fun _ _ => hown', fun h => absurd h (by simp [h10]), fun h => absurd h (by simp [h10]), fun _ => ⟨hL4, hL6, _, _, _, e3⟩, c6, p0, p1, p2, p3, p4, p5, p6, p8, p9⟩
    case refine_9 =>
      have q0 := p0 (by simp [hd])
      go_simp
      simp only [StepOk, upd, valPut, ↓reduceIte, Nat.reduceEqDiff]
      and_intros
      all_goals first | assumption | (intro h; cases h; done) | (intro _; assumption) | (simp_all; done)
    case refine_10 =>
      have q8 := p8 (by simp [hd])
      go_simp
      simp only [StepOk, upd, valPut, ↓reduceIte, Nat.reduceEqDiff]
      and_intros
      all_goals first | assumption | (intro h; cases h; done) | (intro _; assumption) | (simp_all; done)
    case refine_11 =>
      have q9 := p9 (by simp [hd])
      have hL7 : L 7 = true := by simp [hd]
      obtain ⟨hL4, hL6, a5, n5, c5, e5⟩ := c7 hL7
      have hfr := hb0 hL7 hLi
      have hrw := hb1 hL7 hLi
      have hmW := H0.out.blk.fr hfr fun e => absurd (tM.eq (hown m e).2) (by decide)
      obtain ⟨r1, r2⟩ := hmW.rules
      go_simp
      simp only [StepOk, upd, valPut, ↓reduceIte, Nat.reduceEqDiff]
      exact ⟨fun h => absurd h (by simp [hL7]), fun h => absurd h (by simp [hL7]), fun _ h => by simp at h, fun _ h => by simp at h, fun _ => ⟨W1, hfr, hrw, by rw [e5]⟩, fun _ => hL7, c7, c6, p0, p1, p2, p3, p4, p5, p6, p8, p9⟩
  case he =>
    intro L val W1 a ha hL hB
    simp [putL, Act.put] at ha
    subst ha
    obtain ⟨ha0, ha1, hb0, hb1, hc0, c10, c7, c6, -⟩ := hB
    obtain ⟨W2, hfr2, hrw, hW1⟩ := hc0 (hL 10 (by decide))
    obtain ⟨-, -, aV, nV, cV, eV⟩ := c7 (hL 7 (by decide))
    generalize val 7 = V at *
    have hsz2 := hfr2.size
    have hszW1 : W1.heap.size = W2.heap.size := by rw [hW1, World.size_setCell]
    have hrwl : OwnRow W2.heap (fun b => F b ∨ (W.heap.size ≤ b ∧ b < W1.heap.size)) 75 3 V (r.ps ++ [(f, q)]).length ((r.ps ++ [(f, q)]).flatMap mfCells) := by
      rw [List.length_append, hlen, List.flatMap_append, List.flatMap_cons, List.flatMap_nil, List.append_nil, HC4.out]
      exact hrw.mono fun b e h => by
        rcases h with h | h
        · exact .inl (hown b h).1
        · obtain ⟨_, cur, e'⟩ := hrw.owned e
          have := (Array.getElem?_eq_some_iff.1 e').1
          exact .inr ⟨h, by omega⟩
    obtain ⟨hmod, hfrF⟩ := H0.out.rerow (w1 := W2) (w2 := W1) (F2 := fun b => F b ∨ (W.heap.size ≤ b ∧ b < W1.heap.size)) (ps := r.ps ++ [(f, q)]) (V := V) (hfr2.mono fun b _ e => by rw [HVF.out]; exact e) hW1 (fun b h => .inl h)
      (fun b h => by
        rcases h with h | h
        · have := hltF b h; have := HZW.out; omega
        · exact h.2) hrwl
      (fun p hp => by
        rcases List.mem_append.1 hp with hp | hp
        · exact (H0.out.files p hp).mono fun b h _ => .inl h
        · simp at hp; subst hp; exact HF0.out.mono fun b h _ => .inl h)
      (by
        rw [List.pairwise_append]
        refine ⟨H0.out.apart, by simp, fun a ha b hb => ?_⟩
        simp at hb; subst hb
        exact apartM_symm (HAP.out a ha))
    have hVb : ∃ g, V.ownBlock = some g := by
      obtain ⟨a, c, e, _, hh⟩ := hrw.slice
      obtain ⟨g, e1, e2, _⟩ := hh (by omega)
      exact ⟨g, e2⟩
    obtain ⟨g, hg⟩ := hVb
    have eV2 : ∃ c, V = .slice (some ⟨g, 0, none⟩) (S.files.length + 1) c ∧ S.files.length + 1 ≤ c := by
      obtain ⟨a, c, e, hc, hh⟩ := hrw.slice
      obtain ⟨g', e1, e2, _⟩ := hh (by omega)
      rw [hg] at e2
      cases e2
      exact ⟨c, by rw [e, e1], hc⟩
    obtain ⟨cV2, rfl, hcV2⟩ := eV2
    have hM1 : W1.cell? ⟨m, 5, none⟩ = some (.slice (some ⟨g, 0, none⟩) (S.files.length + 1) cV2) := by rw [hmod.blk.rules.1]; rfl
    have HMOD := Lib.hid hmod
    have HFRF := Lib.hid ((Old.fr (F := F) HO.out).trans' hfrF)
    clear hmod hfrF hrwl hrw hfr2 hW1 ha0 ha1 hb0 hb1 hc0 c10 c7 c6 hL eV
    have tg1 : Tag W1.heap g 75 := (HMOD.out.tagF hg).2
    have hgF := (HMOD.out.tagF hg).1
    have hgF : F g ∨ (W.heap.size ≤ g ∧ g < W1.heap.size) := hgF
    have hFn : (1 : Int) ≤ ((S.files.length : Int) + 1) := by omega
    obtain ⟨W1s, hW1s⟩ : ∃ x, x = W1 := ⟨_, rfl⟩
    rw [← hW1s] at HMOD HFRF hgF
    clear hszW1 hsz2
    go_wp2_with fail
    go_loopw [4] (fun v wr => ∃ i : Nat, v = .int .i64 i ∧ i ≤ S.files.length ∧ PutAt W W1s wr m S r F g cV2 f q i) (fun v _ => (intOf v).toNat)
    case atStart =>
      refine ⟨S.files.length, by go_num, Nat.le_refl _, ?_, by rw [hW1s]; exact Fr.refl _ _, ?_⟩
      · rw [← hlen, List.take_length, List.drop_length]; rw [← hlen] at HMOD; rw [hW1s] at HMOD ⊢; exact HMOD.out
      · rw [← hlen, List.drop_length]; intro y hy; cases hy
    case round =>
      obtain ⟨i, rfl, hi, hm, hfr, hgt⟩ := hrel
      have hend : (∀ j (hj : j < r.ps.length), i = j + 1 → ¬ f.name < r.ps[j].1.name) → ∀ nd, MPutPost w m S F f (.returned (.tuple #[])) (wr.drewN nd) := fun hstop nd => by
        have hput := putBy_at (l := r.ps) (x := (f, q)) (i := i) (by omega) HSORT.out hgt hstop
        have hmap := putM_map (f, q) r.ps
        rw [hput, HFIT.out] at hmap
        have hm2 := hm
        rw [hmap] at hm2
        refine ⟨rfl, _, _, hm2, Step.drewN ⟨HFRF.out.trans hfr fun b hb e => ?_, fun b hb => ?_⟩ nd⟩
        · have e : b = g := e
          subst e
          exact hgF.resolve_right (fun h => by have := HZW.out; omega)
        · rcases hb with hb | hb
          · exact .inl hb
          · have := HZW.out; exact .inr (by omega)
      have HEND := Lib.hid hend
      have hMr : wr.cell? ⟨m, 5, none⟩ = some (.slice (some ⟨g, 0, none⟩) (S.files.length + 1) cV2) := by rw [hm.blk.rules.1]; rfl
      clear hend
      cases i with
      | zero =>
        have HF := Lib.hid (HEND.out fun j _ e => by omega)
        clear hm hfr hgt
        go_wp2_with fail
        go_quiet (fail)
        go_wp2
        go_end0
        exact HF.out _
      | succ j =>
        have hjl : j < r.ps.length := by omega
        have hat0 : (r.ps.take (j + 1) ++ (f, q) :: r.ps.drop (j + 1))[j]? = some r.ps[j] := by rw [List.getElem?_append_left (by rw [List.length_take]; omega), List.getElem?_take_of_lt (by omega)]; exact List.getElem?_eq_getElem hjl
        have hat1 : (r.ps.take (j + 1) ++ (f, q) :: r.ps.drop (j + 1))[j + 1]? = some (f, q) := by
          have := mid_at (r.ps.take (j + 1)) (r.ps.drop (j + 1)) (f, q)
          rw [List.length_take, Nat.min_eq_left (by omega)] at this
          exact this
        obtain ⟨pv0, hp0⟩ : ∃ p, p = r.ps[j] := ⟨_, rfl⟩
        rw [← hp0] at hat0
        obtain ⟨g1, eg1, _, _, _, hc0⟩ := hm.at_file rfl hat0
        obtain ⟨g2, eg2, _, _, _, hc1⟩ := hm.at_file rfl hat1
        cases eg1
        cases eg2
        have hIF := hm.files pv0 (List.mem_of_getElem? hat0)
        obtain ⟨b1, d1, hpvs, _, _⟩ := hIF.safe.shape
        obtain ⟨b2, d2, hpvc, _⟩ := hIF.shapeC
        have y0 : wr.cell? ⟨g, j * 3, none⟩ = some (.string ⟨pv0.1.name.toArray⟩) := by rw [cell_cel]; exact hc0 0 (by omega)
        have y1 : wr.cell? ⟨g, j * 3 + 1, none⟩ = some (.slice b1 pv0.1.safe.length d1) := by rw [cell_cel, ← hpvs]; exact hc0 1 (by omega)
        have y2 : wr.cell? ⟨g, j * 3 + 2, none⟩ = some (.slice b2 pv0.1.chs.length d2) := by rw [cell_cel, ← hpvc]; exact hc0 2 (by omega)
        have x0 : wr.cell? ⟨g, (j + 1) * 3, none⟩ = some (.string ⟨f.name.toArray⟩) := by rw [cell_cel]; exact hc1 0 (by omega)
        have x1 : wr.cell? ⟨g, (j + 1) * 3 + 1, none⟩ = some (.slice a1 f.safe.length c1) := by rw [cell_cel, ← HVS.out]; exact hc1 1 (by omega)
        have x2 : wr.cell? ⟨g, (j + 1) * 3 + 2, none⟩ = some (.slice a2 f.chs.length c2) := by rw [cell_cel, ← HVC.out]; exact hc1 2 (by omega)
        have hmg : ¬ m = g := fun e => by
          have t := hm.blk.tag
          rw [e] at t
          exact absurd (t.eq (hm.tagF (b := g) rfl).2) (by decide)
        have hw : IntKind.i64.wrap (((j + 1 : Nat) : Int) - 1) = j := by rw [IntKind.wrap_i64]; omega
        have hrowc := hm.row
        have HX := Lib.hid (And.intro x0 (And.intro x1 x2))
        have HY := Lib.hid (And.intro y0 (And.intro y1 y2))
        have HAT := Lib.hid (And.intro hat0 hat1)
        have HPV := Lib.hid (And.intro hpvs hpvc)
        have HPJ := Lib.hid hp0
        have HROWc := Lib.hid hrowc
        have HMc := Lib.hid hm
        have HFRc := Lib.hid hfr
        have HGT := Lib.hid hgt
        have HAPP := Lib.hid hm.apart
        clear hm hfr hgt hat0 hat1 hp0 hpvs hpvc hrowc hc0 hc1 hIF x1 x2 y1 y2
        have hpos : (0 : Int) < ((j + 1 : Nat) : Int) := by omega
        by_cases hlt : f.name < pv0.1.name
        · have hb : (Op.bytesLess pv0.1.name f.name || pv0.1.name == f.name) = false := by
            rw [bytesLess_eq]
            have h1 : ¬ pv0.1.name < f.name := fun h => List.lt_irrefl _ (List.lt_trans hlt h)
            have h2 : pv0.1.name ≠ f.name := fun h => by rw [h] at hlt; exact List.lt_irrefl _ hlt
            simp [h1, h2]
          have HLT := Lib.hid hlt
          clear hlt
          go_wp2_with fail
          go_quiet (fail)
          go_wp2_with fail
          refine wp_region_lits (by kernel_rfl) (by kernel_rfl) (fun L val W1 => W1.cell? ⟨m, 5, none⟩ = some (.slice (some ⟨g, 0, none⟩) (S.files.length + 1) cV2) ∧
            (L 27 = false → Old wr W1) ∧ (L 27 = true → L 29 = false → ∃ W2, Old wr W2 ∧ W1 = st3 W2 g j (.string ⟨f.name.toArray⟩) (.slice a1 f.safe.length c1) (.slice a2 f.chs.length c2)) ∧ (L 29 = true → ∃ W2, Old wr W2 ∧ W1 = st3 (st3 W2 g j (.string ⟨f.name.toArray⟩) (.slice a1 f.safe.length c1) (.slice a2 f.chs.length c2)) g (j + 1) (.string ⟨pv0.1.name.toArray⟩) (.slice b1 pv0.1.safe.length d1) (.slice b2 pv0.1.chs.length d2)) ∧ (L 27 = true → L 17 = true ∧ L 25 = true) ∧ (L 29 = true → L 27 = true) ∧
            (L 0 = true → val 0 = .pointer (some ⟨m, 0, none⟩)) ∧
            (L 1 = true → val 1 = .pointer (some ⟨m, 0, none⟩)) ∧
            (L 2 = true → val 2 = .pointer (some ⟨m, 5, none⟩)) ∧
            (L 3 = true → val 3 = .slice (some ⟨g, 0, none⟩) (S.files.length + 1) cV2) ∧
            (L 4 = true → val 4 = .int .i64 ((j + 1 : Nat) : Int)) ∧
            (L 5 = true → val 5 = .int .i64 j) ∧
            (L 6 = true → val 6 = .pointer (some ⟨m, 0, none⟩)) ∧
            (L 7 = true → val 7 = .pointer (some ⟨m, 0, none⟩)) ∧
            (L 8 = true → val 8 = .pointer (some ⟨m, 5, none⟩)) ∧
            (L 9 = true → val 9 = .slice (some ⟨g, 0, none⟩) (S.files.length + 1) cV2) ∧
            (L 10 = true → val 10 = .int .i64 ((j + 1 : Nat) : Int)) ∧
            (L 11 = true → val 11 = .pointer (some ⟨m, 0, none⟩)) ∧
            (L 12 = true → val 12 = .pointer (some ⟨m, 0, none⟩)) ∧
            (L 13 = true → val 13 = .pointer (some ⟨m, 5, none⟩)) ∧
            (L 14 = true → val 14 = .slice (some ⟨g, 0, none⟩) (S.files.length + 1) cV2) ∧
            (L 15 = true → val 15 = .int .i64 ((j + 1 : Nat) : Int)) ∧
            (L 16 = true → val 16 = .pointer (some ⟨g, (j + 1) * 3, none⟩)) ∧
            (L 17 = true → val 17 = .agg #[.string ⟨f.name.toArray⟩, .slice a1 f.safe.length c1, .slice a2 f.chs.length c2]) ∧
            (L 18 = true → val 18 = .pointer (some ⟨m, 0, none⟩)) ∧
            (L 19 = true → val 19 = .pointer (some ⟨m, 0, none⟩)) ∧
            (L 20 = true → val 20 = .pointer (some ⟨m, 5, none⟩)) ∧
            (L 21 = true → val 21 = .slice (some ⟨g, 0, none⟩) (S.files.length + 1) cV2) ∧
            (L 22 = true → val 22 = .int .i64 ((j + 1 : Nat) : Int)) ∧
            (L 23 = true → val 23 = .int .i64 j) ∧
            (L 24 = true → val 24 = .pointer (some ⟨g, j * 3, none⟩)) ∧
            (L 25 = true → val 25 = .agg #[.string ⟨pv0.1.name.toArray⟩, .slice b1 pv0.1.safe.length d1, .slice b2 pv0.1.chs.length d2]) ∧
            (L 26 = true → val 26 = .pointer (some ⟨g, j * 3, none⟩)) ∧
            (L 28 = true → val 28 = .pointer (some ⟨g, (j + 1) * 3, none⟩))) ?h0 ?hs ?he
          case h0 => exact ⟨hMr, fun _ => ((Fr.refl (fun _ => False) wr).drewN nq).drew, by simp⟩
          case hs =>
            refine ⟨?_, ?_, ?_, ?_, ?_, ?_, ?_, ?_, ?_, ?_, ?_, ?_, ?_, ?_, ?_, ?_, ?_, ?_, ?_, ?_, ?_, ?_, ?_, ?_, ?_, ?_, ?_, ?_, ?_, ?_, trivial⟩
            all_goals
              intro L val W1 a ha' hB hLi hd
              simp [putL, Act.put] at ha'
              subst ha'
              simp [Region.binds] at hd
              obtain ⟨hM, ha, hbb, hcc, c27, c29, p0, p1, p2, p3, p4, p5, p6, p7, p8, p9, p10, p11, p12, p13, p14, p15, p16, p17, p18, p19, p20, p21, p22, p23, p24, p25, p26, p28⟩ := hB
            case refine_1 =>
              go_simp
              simp only [StepOk, upd, valPut, ↓reduceIte, Nat.reduceEqDiff]
              and_intros
              all_goals first | assumption | (intro h; cases h; done) | (intro _; assumption) | (simp_all; done)
            case refine_2 =>
              have q0 := p0 (by simp [hd])
              go_simp
              simp only [StepOk, upd, valPut, ↓reduceIte, Nat.reduceEqDiff]
              and_intros
              all_goals first | assumption | (intro h; cases h; done) | (intro _; assumption) | (simp_all; done)
            case refine_3 =>
              have q1 := p1 (by simp [hd])
              go_simp
              simp only [StepOk, upd, valPut, ↓reduceIte, Nat.reduceEqDiff]
              and_intros
              all_goals first | assumption | (intro h; cases h; done) | (intro _; assumption) | (simp_all; done)
            case refine_4 =>
              have q2 := p2 (by simp [hd])
              go_simp
              simp only [StepOk, upd, valPut, ↓reduceIte, Nat.reduceEqDiff]
              and_intros
              all_goals first | assumption | (intro h; cases h; done) | (intro _; assumption) | (simp_all; done)
            case refine_5 =>
              go_simp
              simp only [StepOk, upd, valPut, ↓reduceIte, Nat.reduceEqDiff]
              and_intros
              all_goals first | assumption | (intro h; cases h; done) | (intro _; assumption) | (simp_all; done)
            case refine_6 =>
              have q4 := p4 (by simp [hd])
              have hw : IntKind.i64.wrap (((j + 1 : Nat) : Int) - 1) = j := by rw [IntKind.wrap_i64]; omega
              go_simp
              simp only [StepOk, upd, valPut, ↓reduceIte, Nat.reduceEqDiff]
              and_intros
              all_goals first | assumption | (intro h; cases h; done) | (intro _; assumption) | (simp_all; done)
            case refine_7 =>
              go_simp
              simp only [StepOk, upd, valPut, ↓reduceIte, Nat.reduceEqDiff]
              and_intros
              all_goals first | assumption | (intro h; cases h; done) | (intro _; assumption) | (simp_all; done)
            case refine_8 =>
              have q6 := p6 (by simp [hd])
              go_simp
              simp only [StepOk, upd, valPut, ↓reduceIte, Nat.reduceEqDiff]
              and_intros
              all_goals first | assumption | (intro h; cases h; done) | (intro _; assumption) | (simp_all; done)
            case refine_9 =>
              have q7 := p7 (by simp [hd])
              go_simp
              simp only [StepOk, upd, valPut, ↓reduceIte, Nat.reduceEqDiff]
              and_intros
              all_goals first | assumption | (intro h; cases h; done) | (intro _; assumption) | (simp_all; done)
            case refine_10 =>
              have q8 := p8 (by simp [hd])
              go_simp
              simp only [StepOk, upd, valPut, ↓reduceIte, Nat.reduceEqDiff]
              and_intros
              all_goals first | assumption | (intro h; cases h; done) | (intro _; assumption) | (simp_all; done)
            case refine_11 =>
              go_simp
              simp only [StepOk, upd, valPut, ↓reduceIte, Nat.reduceEqDiff]
              and_intros
              all_goals first | assumption | (intro h; cases h; done) | (intro _; assumption) | (simp_all; done)
            case refine_12 =>
              go_simp
              simp only [StepOk, upd, valPut, ↓reduceIte, Nat.reduceEqDiff]
              and_intros
              all_goals first | assumption | (intro h; cases h; done) | (intro _; assumption) | (simp_all; done)
            case refine_13 =>
              have q11 := p11 (by simp [hd])
              go_simp
              simp only [StepOk, upd, valPut, ↓reduceIte, Nat.reduceEqDiff]
              and_intros
              all_goals first | assumption | (intro h; cases h; done) | (intro _; assumption) | (simp_all; done)
            case refine_14 =>
              have q12 := p12 (by simp [hd])
              go_simp
              simp only [StepOk, upd, valPut, ↓reduceIte, Nat.reduceEqDiff]
              and_intros
              all_goals first | assumption | (intro h; cases h; done) | (intro _; assumption) | (simp_all; done)
            case refine_15 =>
              have q13 := p13 (by simp [hd])
              go_simp
              simp only [StepOk, upd, valPut, ↓reduceIte, Nat.reduceEqDiff]
              and_intros
              all_goals first | assumption | (intro h; cases h; done) | (intro _; assumption) | (simp_all; done)
            case refine_16 =>
              go_simp
              simp only [StepOk, upd, valPut, ↓reduceIte, Nat.reduceEqDiff]
              and_intros
              all_goals first | assumption | (intro h; cases h; done) | (intro _; assumption) | (simp_all; done)
            case refine_17 =>
              have q14 := p14 (by simp [hd])
              have q15 := p15 (by simp [hd])
              have hb0 : ((j + 1 : Nat) : Int) < (S.files.length : Int) + 1 := by omega
              have hb1 : (0 : Int) ≤ (j : Int) + 1 := by omega
              have hb2 : (j : Int) + 1 < (S.files.length : Int) + 1 := by omega
              have hb3 : (j : Int) < S.files.length := by omega
              go_simp
              simp only [StepOk, upd, valPut, ↓reduceIte, Nat.reduceEqDiff]
              and_intros
              all_goals first | assumption | (intro h; cases h; done) | (intro _; assumption) | (simp_all; done)
            case refine_18 =>
              have q16 := p16 (by simp [hd])
              have h27 : L 27 = false := by cases hL : L 27 with | false => rfl | true => have := (c27 hL).1; rw [this] at hLi; cases hLi
              have ho := ha h27
              have z0 : W1.cell? ⟨g, (j + 1) * 3, none⟩ = some (.string ⟨f.name.toArray⟩) := by have := HX.out.1; rw [cell_cel] at this ⊢; exact ho.cel this fun f => f
              have z1 : W1.cell? ⟨g, (j + 1) * 3 + 1, none⟩ = some (.slice a1 f.safe.length c1) := by have := HX.out.2.1; rw [cell_cel] at this ⊢; exact ho.cel this fun f => f
              have z2 : W1.cell? ⟨g, (j + 1) * 3 + 2, none⟩ = some (.slice a2 f.chs.length c2) := by have := HX.out.2.2; rw [cell_cel] at this ⊢; exact ho.cel this fun f => f
              go_simp
              simp only [StepOk, upd, valPut, ↓reduceIte, Nat.reduceEqDiff]
              and_intros
              all_goals first | assumption | (intro h; cases h; done) | (intro _; assumption) | (simp_all; done)
            case refine_19 =>
              go_simp
              simp only [StepOk, upd, valPut, ↓reduceIte, Nat.reduceEqDiff]
              and_intros
              all_goals first | assumption | (intro h; cases h; done) | (intro _; assumption) | (simp_all; done)
            case refine_20 =>
              have q18 := p18 (by simp [hd])
              go_simp
              simp only [StepOk, upd, valPut, ↓reduceIte, Nat.reduceEqDiff]
              and_intros
              all_goals first | assumption | (intro h; cases h; done) | (intro _; assumption) | (simp_all; done)
            case refine_21 =>
              have q19 := p19 (by simp [hd])
              go_simp
              simp only [StepOk, upd, valPut, ↓reduceIte, Nat.reduceEqDiff]
              and_intros
              all_goals first | assumption | (intro h; cases h; done) | (intro _; assumption) | (simp_all; done)
            case refine_22 =>
              have q20 := p20 (by simp [hd])
              go_simp
              simp only [StepOk, upd, valPut, ↓reduceIte, Nat.reduceEqDiff]
              and_intros
              all_goals first | assumption | (intro h; cases h; done) | (intro _; assumption) | (simp_all; done)
            case refine_23 =>
              go_simp
              simp only [StepOk, upd, valPut, ↓reduceIte, Nat.reduceEqDiff]
              and_intros
              all_goals first | assumption | (intro h; cases h; done) | (intro _; assumption) | (simp_all; done)
            case refine_24 =>
              have q22 := p22 (by simp [hd])
              have hw : IntKind.i64.wrap (((j + 1 : Nat) : Int) - 1) = j := by rw [IntKind.wrap_i64]; omega
              go_simp
              simp only [StepOk, upd, valPut, ↓reduceIte, Nat.reduceEqDiff]
              and_intros
              all_goals first | assumption | (intro h; cases h; done) | (intro _; assumption) | (simp_all; done)
            case refine_25 =>
              have q21 := p21 (by simp [hd])
              have q23 := p23 (by simp [hd])
              have hb0 : (j : Int) < (S.files.length : Int) + 1 := by omega
              go_simp
              simp only [StepOk, upd, valPut, ↓reduceIte, Nat.reduceEqDiff]
              and_intros
              all_goals first | assumption | (intro h; cases h; done) | (intro _; assumption) | (simp_all; done)
            case refine_26 =>
              have q24 := p24 (by simp [hd])
              have h27 : L 27 = false := by cases hL : L 27 with | false => rfl | true => have := (c27 hL).2; rw [this] at hLi; cases hLi
              have ho := ha h27
              have z0 : W1.cell? ⟨g, j * 3, none⟩ = some (.string ⟨pv0.1.name.toArray⟩) := by have := HY.out.1; rw [cell_cel] at this ⊢; exact ho.cel this fun f => f
              have z1 : W1.cell? ⟨g, j * 3 + 1, none⟩ = some (.slice b1 pv0.1.safe.length d1) := by have := HY.out.2.1; rw [cell_cel] at this ⊢; exact ho.cel this fun f => f
              have z2 : W1.cell? ⟨g, j * 3 + 2, none⟩ = some (.slice b2 pv0.1.chs.length d2) := by have := HY.out.2.2; rw [cell_cel] at this ⊢; exact ho.cel this fun f => f
              go_simp
              simp only [StepOk, upd, valPut, ↓reduceIte, Nat.reduceEqDiff]
              and_intros
              all_goals first | assumption | (intro h; cases h; done) | (intro _; assumption) | (simp_all; done)
            case refine_27 =>
              have q3 := p3 (by simp [hd])
              have q5 := p5 (by simp [hd])
              have hb0 : (j : Int) < (S.files.length : Int) + 1 := by omega
              go_simp
              simp only [StepOk, upd, valPut, ↓reduceIte, Nat.reduceEqDiff]
              and_intros
              all_goals first | assumption | (intro h; cases h; done) | (intro _; assumption) | (simp_all; done)
            case refine_28 =>
              have q26 := p26 (by simp [hd])
              have q17 := p17 (by simp [hd])
              have hLL : L 17 = true ∧ L 25 = true := by simp [hd]
              have h29 : L 29 = false := by cases hL : L 29 with | false => rfl | true => have := c29 hL; rw [this] at hLi; cases hLi
              have ho := ha hLi
              have hrw := HROWc.out.kept (h' := W1.heap) fun b _ _ hl => ho.block b hl fun f => f
              obtain ⟨t1, t2⟩ := hrw.rules (b := g) rfl
              have z0 : W1.cell? ⟨g, j * 3, none⟩ = some (.string ⟨pv0.1.name.toArray⟩) := by have := HY.out.1; rw [cell_cel] at this ⊢; exact ho.cel this fun f => f
              have z1 : W1.cell? ⟨g, j * 3 + 1, none⟩ = some (.slice b1 pv0.1.safe.length d1) := by have := HY.out.2.1; rw [cell_cel] at this ⊢; exact ho.cel this fun f => f
              have z2 : W1.cell? ⟨g, j * 3 + 2, none⟩ = some (.slice b2 pv0.1.chs.length d2) := by have := HY.out.2.2; rw [cell_cel] at this ⊢; exact ho.cel this fun f => f
              have hM' : (st3 W1 g j (.string ⟨f.name.toArray⟩) (.slice a1 f.safe.length c1) (.slice a2 f.chs.length c2)).cell? ⟨m, 5, none⟩ = some (.slice (some ⟨g, 0, none⟩) (S.files.length + 1) cV2) := by have h1 := hM; rw [cell_cel] at h1 ⊢; exact (st3_fr W1 g j _ _ _).cel h1 hmg
              go_simp
              simp only [StepOk, upd, valPut, ↓reduceIte, Nat.reduceEqDiff]
              exact ⟨hM', fun h => by simp at h, fun _ _ => ⟨W1, ho, rfl⟩, fun h => absurd h (by simp [h29]), fun _ => hLL, fun h => absurd h (by simp [h29]), p0, p1, p2, p3, p4, p5, p6, p7, p8, p9, p10, p11, p12, p13, p14, p15, p16, p17, p18, p19, p20, p21, p22, p23, p24, p25, p26, p28⟩
            case refine_29 =>
              have q9 := p9 (by simp [hd])
              have q10 := p10 (by simp [hd])
              have hb0 : ((j + 1 : Nat) : Int) < (S.files.length : Int) + 1 := by omega
              have hb1 : (0 : Int) ≤ (j : Int) + 1 := by omega
              have hb2 : (j : Int) + 1 < (S.files.length : Int) + 1 := by omega
              have hb3 : (j : Int) < S.files.length := by omega
              go_simp
              simp only [StepOk, upd, valPut, ↓reduceIte, Nat.reduceEqDiff]
              and_intros
              all_goals first | assumption | (intro h; cases h; done) | (intro _; assumption) | (simp_all; done)
            case refine_30 =>
              have q28 := p28 (by simp [hd])
              have q25 := p25 (by simp [hd])
              have h27 : L 27 = true := by simp [hd]
              obtain ⟨W2, ho, rfl⟩ := hbb h27 hLi
              have hrw := HROWc.out.kept (h' := W2.heap) fun b _ _ hl => ho.block b hl fun f => f
              have hrw2 := hrw.set3 (g := g) rfl (i := j) (b := (f, q)) HAT.out.1
              rw [show encStr (f, q).1.name = Value.string ⟨f.name.toArray⟩ from rfl, show (f, q).2.vs = _ from HVS.out, show (f, q).2.vc = _ from HVC.out] at hrw2
              obtain ⟨t1, t2⟩ := hrw2.rules (b := g) rfl
              have hj1 : ((r.ps.take (j + 1) ++ (f, q) :: r.ps.drop (j + 1)).set j (f, q))[j + 1]? = some (f, q) := by rw [List.getElem?_set_ne (by omega)]; exact HAT.out.2
              have u0 : (st3 W2 g j (.string ⟨f.name.toArray⟩) (.slice a1 f.safe.length c1) (.slice a2 f.chs.length c2)).cell? ⟨g, (j + 1) * 3, none⟩ = some (.string ⟨f.name.toArray⟩) := t1 ((j + 1) * 3 + 0) _ ((flat_at mf_len hj1 (by omega : 0 < 3)).trans rfl)
              have u1 : (st3 W2 g j (.string ⟨f.name.toArray⟩) (.slice a1 f.safe.length c1) (.slice a2 f.chs.length c2)).cell? ⟨g, (j + 1) * 3 + 1, none⟩ = some (.slice a1 f.safe.length c1) := (t1 ((j + 1) * 3 + 1) _ ((flat_at mf_len hj1 (by omega : 1 < 3)).trans rfl)).trans (congrArg some HVS.out)
              have u2 : (st3 W2 g j (.string ⟨f.name.toArray⟩) (.slice a1 f.safe.length c1) (.slice a2 f.chs.length c2)).cell? ⟨g, (j + 1) * 3 + 2, none⟩ = some (.slice a2 f.chs.length c2) := (t1 ((j + 1) * 3 + 2) _ ((flat_at mf_len hj1 (by omega : 2 < 3)).trans rfl)).trans (congrArg some HVC.out)
              have u3 : ∀ o, (st3 W2 g j (.string ⟨f.name.toArray⟩) (.slice a1 f.safe.length c1) (.slice a2 f.chs.length c2)).frozen? ⟨g, o, none⟩ = false := t2
              clear t1 t2 hrw hrw2
              have hM' : (st3 (st3 W2 g j (.string ⟨f.name.toArray⟩) (.slice a1 f.safe.length c1) (.slice a2 f.chs.length c2)) g (j + 1) (.string ⟨pv0.1.name.toArray⟩) (.slice b1 pv0.1.safe.length d1) (.slice b2 pv0.1.chs.length d2)).cell? ⟨m, 5, none⟩ = some (.slice (some ⟨g, 0, none⟩) (S.files.length + 1) cV2) := by have h1 := hM; rw [cell_cel] at h1 ⊢; exact (st3_fr _ g (j + 1) _ _ _).cel h1 hmg
              generalize hY : st3 W2 g j (.string ⟨f.name.toArray⟩) (.slice a1 f.safe.length c1) (.slice a2 f.chs.length c2) = Y at *
              have HYY := Lib.hid hY
              clear hY
              go_simp
              simp only [StepOk, upd, valPut, ↓reduceIte, Nat.reduceEqDiff]
              exact ⟨hM', fun h => absurd h (by simp [h27]), fun _ h => by simp at h, fun _ => ⟨W2, ho, by rw [HYY.out]⟩, c27, fun _ => h27, p0, p1, p2, p3, p4, p5, p6, p7, p8, p9, p10, p11, p12, p13, p14, p15, p16, p17, p18, p19, p20, p21, p22, p23, p24, p25, p26, p28⟩
          case he =>
            intro L val W1 a ha' hL hB
            simp [putL, Act.put] at ha'
            subst ha'
            obtain ⟨hM, ha, hbb, hcc, _⟩ := hB
            obtain ⟨W2, ho, rfl⟩ := hcc (hL 29 (by decide))
            have hrw := HROWc.out.kept (h' := W2.heap) fun b _ _ hl => ho.block b hl fun f => f
            have hrw2 := hrw.set3 (g := g) rfl (i := j) (b := (f, q)) HAT.out.1
            have hj1 : ((r.ps.take (j + 1) ++ (f, q) :: r.ps.drop (j + 1)).set j (f, q))[j + 1]? = some (f, q) := by rw [List.getElem?_set_ne (by omega)]; exact HAT.out.2
            have hrw3 := hrw2.set3 (g := g) rfl (i := j + 1) (b := pv0) hj1
            rw [show encStr (f, q).1.name = Value.string ⟨f.name.toArray⟩ from rfl, show (f, q).2.vs = _ from HVS.out, show (f, q).2.vc = _ from HVC.out, show encStr pv0.1.name = Value.string ⟨pv0.1.name.toArray⟩ from rfl, HPV.out.1, HPV.out.2] at hrw3
            rw [show pv0 = r.ps[j] from HPJ.out, swap_list (by omega)] at hrw3
            have hst : Fr (fun b => b = g) wr (st3 (st3 W2 g j (.string ⟨f.name.toArray⟩) (.slice a1 f.safe.length c1) (.slice a2 f.chs.length c2)) g (j + 1) (.string ⟨pv0.1.name.toArray⟩) (.slice b1 pv0.1.safe.length d1) (.slice b2 pv0.1.chs.length d2)) := (Old.fr ho).trans' ((st3_fr W2 g j _ _ _).trans' (st3_fr _ g (j + 1) _ _ _))
            have hmod := HMc.out.reorder (g := g) rfl hst (ps := r.ps.take j ++ (f, q) :: r.ps.drop j) (by
                have hl : (r.ps.take j ++ (f, q) :: r.ps.drop j).length = (r.ps.take (j + 1) ++ (f, q) :: r.ps.drop (j + 1)).length := by simp; omega
                rw [hl]
                have e := HPJ.out
                rw [← e] at hrw3
                exact hrw3) (fun p hp => by
                  show p ∈ r.ps.take (j + 1) ++ (f, q) :: r.ps.drop (j + 1)
                  rcases List.mem_append.1 hp with hp | hp
                  · exact List.mem_append.2 (.inl (List.mem_of_mem_take (i := j) (l := r.ps.take (j + 1)) (by rw [List.take_take, Nat.min_eq_left (by omega)]; exact hp)))
                  · rcases List.mem_cons.1 hp with rfl | hp
                    · simp
                    · rw [List.drop_eq_getElem_cons (by omega : j < r.ps.length)] at hp
                      rcases List.mem_cons.1 hp with rfl | hp
                      · exact List.mem_append.2 (.inl (by rw [List.take_succ_eq_append_getElem (by omega : j < r.ps.length)]; exact List.mem_append.2 (.inr (List.mem_singleton.2 rfl))))
                      · simp [hp]) (pair_mid HAPP.out (by omega))
            have HN := Lib.hid (And.intro hmod (HFRc.out.trans' hst))
            clear hmod hst hrw hrw2 hrw3 hj1 hM ha hbb hcc hL
            have hput : PutAt W W1s (st3 (st3 W2 g j (.string ⟨f.name.toArray⟩) (.slice a1 f.safe.length c1) (.slice a2 f.chs.length c2)) g (j + 1) (.string ⟨pv0.1.name.toArray⟩) (.slice b1 pv0.1.safe.length d1) (.slice b2 pv0.1.chs.length d2)) m S r F g cV2 f q j := ⟨HN.out.1, HN.out.2, fun y hy => by
              rw [List.drop_eq_getElem_cons (by omega : j < r.ps.length)] at hy
              rcases List.mem_cons.1 hy with rfl | hy
              · rw [← HPJ.out]; exact HLT.out
              · exact HGT.out y hy⟩
            have HPUT := Lib.hid hput
            clear hput HN
            go_wp2
            go_roundw
            case rel => exact ⟨j, by go_num, by omega, HPUT.out⟩
            case measure => simp [intOf]
        · have hb : (Op.bytesLess pv0.1.name f.name || pv0.1.name == f.name) = true := by
            rw [bytesLess_eq]
            rcases List.le_iff_lt_or_eq.1 (List.not_lt.1 hlt) with h | h
            · simp [h]
            · simp [h]
          have HF := Lib.hid (HEND.out fun j' hj' e => by
            have : j' = j := by omega
            subst this
            rw [← HPJ.out]; exact hlt)
          clear hlt
          go_wp2_with fail
          go_quiet (fail)
          go_wp2
          go_end0
          exact HF.out _
end
end Go.Proofs.Ytpdflncgemcniaa
