/- PROVED HERE: the contract of the document's Sync. PROVED HERE: the contract of the document's Rename. No conditions beyond the premises that each theorem names. -/
import Derived.Test.YtpdflncgemcniaaD20
namespace Go.Proofs.Ytpdflncgemcniaa
open Go.RowKit

section
variable {w : World} {m : Nat} {S : Dk} {r : MDRep} {F : Nat → Prop}

/-- A file of the document's disk as the code reads it, and Data of it at any later time. -/
theorem IsModel.fileOn (h : IsModel w.heap m S r F) {K : Nat} (wf : Wf S K) (hK : K ≤ 1000000) {k : Nat} {f : Fl} {q : MRep} (hp : r.ps[k]? = some (f, q)) :
    ∃ g cv a1 c1 a2 c2, k < S.files.length ∧ S.files.length ≤ cv ∧ w.cell? ⟨m, 5, none⟩ = some (.slice (some ⟨g, 0, none⟩) S.files.length cv) ∧
      w.cell? ⟨g, k * 3, none⟩ = some (.string ⟨f.name.toArray⟩) ∧ w.cell? ⟨g, k * 3 + 1, none⟩ = some (.slice a1 f.safe.length c1) ∧ w.cell? ⟨g, k * 3 + 2, none⟩ = some (.slice a2 f.chs.length c2) ∧
      (dataOf f).length ≤ 268435456 ∧ r.vf.ownBlock = some g ∧ F g ∧ Tag w.heap g 75 ∧
      ∀ W, Old w W → Calls Try.prog 39 #[.agg #[.string ⟨f.name.toArray⟩, .slice a1 f.safe.length c1, .slice a2 f.chs.length c2]] W (MadeRow W (dataOf f)) := by
  have hf : S.files[k]? = some f := by rw [← h.fits, List.getElem?_map, hp]; rfl
  have hfl := wf.each f (List.mem_of_getElem? hf)
  have hF := h.files _ (List.mem_of_getElem? hp)
  obtain ⟨av, cv, hvf, hcv⟩ := h.shapeF
  obtain ⟨g, rfl, hFg, tg, hgo, hcells⟩ := h.at_file hvf hp
  obtain ⟨a1, c1, hvs, _, _⟩ := hF.safe.shape
  obtain ⟨a2, c2, hvc, _⟩ := hF.shapeC
  refine ⟨g, cv, a1, c1, a2, c2, (List.getElem?_eq_some_iff.1 hf).1, hcv, ?_, ?_, ?_, ?_, hfl.data, hgo, hFg, tg, fun W o => ?_⟩
  · rw [h.blk.rules.1, ← hvf]; rfl
  · rw [cell_cel]; exact hcells 0 (by omega)
  · rw [cell_cel, ← hvs]; exact hcells 1 (by omega)
  · rw [cell_cel, ← hvc]; exact hcells 2 (by omega)
  · have hW := h.fr o fun _ _ f => f
    have hdat := data39 _ F f q (hW.files _ (List.mem_of_getElem? hp)) hfl hK hW.lt
    rw [hvs, hvc] at hdat
    exact hdat

set_option maxHeartbeats 8000000 in
set_option maxRecDepth 100000 in
theorem msync31 (h : IsModel w.heap m S r F) {K : Nat} (wf : Wf S K) (hK : K < 1000000) (s : ByteArray) :
    Calls Try.prog 31 #[.pointer (some ⟨m, 0, none⟩), .string s] w (MOpPost w m F (onFile S s.data.toList syncK)) := by
  have hb := mbegin55 h wf hK
  clear h
  go_enter Try.func31, Try.ntmps31
  go_wp2_with fail
  refine hb.mono ?_
  rintro e w1 ⟨rfl, r1, F1, hd, hst⟩
  cases hx : ((begin S).1 == 0) with
  | false =>
    have HR := Lib.hid (onFile_err (s := s.data.toList) (k := syncK) hx)
    have hx' : ((begin S).1 == 0) = false := hx
    have HD := Lib.hid hd
    have HS := Lib.hid hst
    generalize hy : (begin S).1 = y at hx'
    have HY := Lib.hid hy
    clear hd hst hx hy
    go_wp2
    go_ret
    rw [HR.out]
    exact ⟨by rw [HY.out]; rfl, r1, F1, HD.out, HS.out⟩
  | true =>
    have hx' : (begin S).1 = 0 := by simpa using hx
    have wf1 := wf.begin
    have hfd := find38 hd wf1.few (by omega) s
    rw [hx']
    rcases findI_findF (s := s.data.toList) (l := (begin S).2.files) with ⟨hi, hf⟩ | ⟨k, f, hi, hk, hname, hf⟩
    · have HR := Lib.hid (onFile_none (s := s.data.toList) (k := syncK) hx' hf)
      rw [hi] at hfd
      have HD := Lib.hid hd
      have HS := Lib.hid hst
      clear hd hst hx hx' hf hi
      go_wp2_with (go_at_call 38; refine hfd.mono ?_; rintro e w' ⟨rfl, rfl⟩)
      go_ret
      rw [HR.out]
      exact ⟨rfl, r1, F1, HD.out, HS.out⟩
    · have hR0 : onFile S s.data.toList syncK = (0, { (begin S).2 with files := setF { f with safe := dataOf f, chs := [] } (begin S).2.files }) := onFile_some (k := syncK) hx' hf
      rw [hi] at hfd
      obtain ⟨q, hp⟩ := hd.at_found hk
      generalize hSS : (begin S).2 = S1 at hd wf1 hR0 hk hf
      have HR := Lib.hid hR0
      obtain ⟨g, cv, a1, c1, a2, c2, hkl, hcv, hM, x0, x1, x2, hdl, hgo, hFg, tg, hdat⟩ := hd.fileOn wf1 (by omega) hp
      have HDAT := Lib.hid hdat
      have tM : Tag w1.heap m 41 := hd.blk.tag
      have HGO := Lib.hid hgo
      have HD := Lib.hid hd
      have HS := Lib.hid hst
      have HW := Lib.hid wf1
      clear hd hst hx hx' hf hi wf1 hname hk hdat hSS hR0 hgo
      go_wp2_with (go_at_call 38; with_reducible refine hfd.mono ?_; rintro e w' ⟨rfl, rfl⟩)
      refine wp_region_lits (by kernel_rfl) (by kernel_rfl) (fun L val W1 => (L 20 = false → Old w1 W1) ∧
        (L 17 = true → SlT 5 u8 W1.heap (fun b => w1.heap.size ≤ b) (val 17) (dataOf f) ∧ ∃ a n c, val 17 = .slice a n c) ∧
        (L 20 = true → L 23 = false → ∃ W2, Old w1 W2 ∧ W1 = W2.setCell ⟨g, k * 3 + 1, none⟩ (val 17)) ∧
        (L 23 = true → ∃ W2, Old w1 W2 ∧ W1 = (W2.setCell ⟨g, k * 3 + 1, none⟩ (val 17)).setCell ⟨g, k * 3 + 2, none⟩ (.slice none 0 0)) ∧
        (L 20 = true → L 3 = true ∧ L 8 = true ∧ L 13 = true ∧ L 16 = true ∧ L 17 = true) ∧ (L 23 = true → L 20 = true) ∧
        (L 0 = true → val 0 = .pointer (some ⟨m, 0, none⟩)) ∧
        (L 1 = true → val 1 = .pointer (some ⟨m, 0, none⟩)) ∧
        (L 2 = true → val 2 = .pointer (some ⟨m, 5, none⟩)) ∧
        (L 3 = true → val 3 = .slice (some ⟨g, 0, none⟩) S1.files.length cv) ∧
        (L 4 = true → val 4 = .int .i64 k) ∧
        (L 5 = true → val 5 = .pointer (some ⟨m, 0, none⟩)) ∧
        (L 6 = true → val 6 = .pointer (some ⟨m, 0, none⟩)) ∧
        (L 7 = true → val 7 = .pointer (some ⟨m, 5, none⟩)) ∧
        (L 8 = true → val 8 = .slice (some ⟨g, 0, none⟩) S1.files.length cv) ∧
        (L 9 = true → val 9 = .int .i64 k) ∧
        (L 10 = true → val 10 = .pointer (some ⟨m, 0, none⟩)) ∧
        (L 11 = true → val 11 = .pointer (some ⟨m, 0, none⟩)) ∧
        (L 12 = true → val 12 = .pointer (some ⟨m, 5, none⟩)) ∧
        (L 13 = true → val 13 = .slice (some ⟨g, 0, none⟩) S1.files.length cv) ∧
        (L 14 = true → val 14 = .int .i64 k) ∧
        (L 15 = true → val 15 = .pointer (some ⟨g, k * 3, none⟩)) ∧
        (L 16 = true → val 16 = .agg #[.string ⟨f.name.toArray⟩, .slice a1 f.safe.length c1, .slice a2 f.chs.length c2]) ∧
        (L 18 = true → val 18 = .pointer (some ⟨g, k * 3, none⟩)) ∧
        (L 19 = true → val 19 = .pointer (some ⟨g, k * 3 + 1, none⟩)) ∧
        (L 21 = true → val 21 = .pointer (some ⟨g, k * 3, none⟩)) ∧
        (L 22 = true → val 22 = .pointer (some ⟨g, k * 3 + 2, none⟩))) ?h0 ?hs ?he
      case h0 => exact ⟨fun _ => (Fr.refl _ _).drew, by simp⟩
      case hs =>
        refine ⟨?_, ?_, ?_, ?_, ?_, ?_, ?_, ?_, ?_, ?_, ?_, ?_, ?_, ?_, ?_, ?_, ?_, ?_, ?_, ?_, ?_, ?_, ?_, ?_, trivial⟩
        all_goals
          intro L val W1 a ha hB hLi hd
          simp [putL, Act.put] at ha
          subst ha
          simp [Region.binds] at hd
          obtain ⟨ha0, hs17, hb20, hb23, c20, c23, p0, p1, p2, p3, p4, p5, p6, p7, p8, p9, p10, p11, p12, p13, p14, p15, p16, p18, p19, p21, p22⟩ := hB
        case refine_1 =>
          go_simp
          simp only [StepOk, upd, valPut, ↓reduceIte, Nat.reduceEqDiff]
          and_intros
          all_goals first | assumption | (intro h; cases h; done) | (intro _; assumption) | (simp_all; done)
        case refine_2 =>
          have q0 := p0 (by simp [hd])
          go_simp
          simp only [StepOk, upd, valPut, ↓reduceIte, Nat.reduceEqDiff]
          and_intros
          all_goals first | assumption | (intro h; cases h; done) | (intro _; assumption) | (simp_all; done)
        case refine_3 =>
          have q1 := p1 (by simp [hd])
          go_simp
          simp only [StepOk, upd, valPut, ↓reduceIte, Nat.reduceEqDiff]
          and_intros
          all_goals first | assumption | (intro h; cases h; done) | (intro _; assumption) | (simp_all; done)
        case refine_4 =>
          have q2 := p2 (by simp [hd])
          have h20 : L 20 = false := by cases hL : L 20 with | false => rfl | true => have := c20 hL; simp_all
          have ho := ha0 h20
          have hM1 : W1.cell? ⟨m, 5, none⟩ = some (.slice (some ⟨g, 0, none⟩) S1.files.length cv) := by rw [cell_cel] at hM ⊢; exact ho.cel hM fun f => f
          go_simp
          simp only [StepOk, upd, valPut, ↓reduceIte, Nat.reduceEqDiff]
          and_intros
          all_goals first | assumption | (intro h; cases h; done) | (intro _; assumption) | (simp_all; done)
        case refine_5 =>
          go_simp
          simp only [StepOk, upd, valPut, ↓reduceIte, Nat.reduceEqDiff]
          and_intros
          all_goals first | assumption | (intro h; cases h; done) | (intro _; assumption) | (simp_all; done)
        case refine_6 =>
          go_simp
          simp only [StepOk, upd, valPut, ↓reduceIte, Nat.reduceEqDiff]
          and_intros
          all_goals first | assumption | (intro h; cases h; done) | (intro _; assumption) | (simp_all; done)
        case refine_7 =>
          have q5 := p5 (by simp [hd])
          go_simp
          simp only [StepOk, upd, valPut, ↓reduceIte, Nat.reduceEqDiff]
          and_intros
          all_goals first | assumption | (intro h; cases h; done) | (intro _; assumption) | (simp_all; done)
        case refine_8 =>
          have q6 := p6 (by simp [hd])
          go_simp
          simp only [StepOk, upd, valPut, ↓reduceIte, Nat.reduceEqDiff]
          and_intros
          all_goals first | assumption | (intro h; cases h; done) | (intro _; assumption) | (simp_all; done)
        case refine_9 =>
          have q7 := p7 (by simp [hd])
          have h20 : L 20 = false := by cases hL : L 20 with | false => rfl | true => have := c20 hL; simp_all
          have ho := ha0 h20
          have hM1 : W1.cell? ⟨m, 5, none⟩ = some (.slice (some ⟨g, 0, none⟩) S1.files.length cv) := by rw [cell_cel] at hM ⊢; exact ho.cel hM fun f => f
          go_simp
          simp only [StepOk, upd, valPut, ↓reduceIte, Nat.reduceEqDiff]
          and_intros
          all_goals first | assumption | (intro h; cases h; done) | (intro _; assumption) | (simp_all; done)
        case refine_10 =>
          go_simp
          simp only [StepOk, upd, valPut, ↓reduceIte, Nat.reduceEqDiff]
          and_intros
          all_goals first | assumption | (intro h; cases h; done) | (intro _; assumption) | (simp_all; done)
        case refine_11 =>
          go_simp
          simp only [StepOk, upd, valPut, ↓reduceIte, Nat.reduceEqDiff]
          and_intros
          all_goals first | assumption | (intro h; cases h; done) | (intro _; assumption) | (simp_all; done)
        case refine_12 =>
          have q10 := p10 (by simp [hd])
          go_simp
          simp only [StepOk, upd, valPut, ↓reduceIte, Nat.reduceEqDiff]
          and_intros
          all_goals first | assumption | (intro h; cases h; done) | (intro _; assumption) | (simp_all; done)
        case refine_13 =>
          have q11 := p11 (by simp [hd])
          go_simp
          simp only [StepOk, upd, valPut, ↓reduceIte, Nat.reduceEqDiff]
          and_intros
          all_goals first | assumption | (intro h; cases h; done) | (intro _; assumption) | (simp_all; done)
        case refine_14 =>
          have q12 := p12 (by simp [hd])
          have h20 : L 20 = false := by cases hL : L 20 with | false => rfl | true => have := c20 hL; simp_all
          have ho := ha0 h20
          have hM1 : W1.cell? ⟨m, 5, none⟩ = some (.slice (some ⟨g, 0, none⟩) S1.files.length cv) := by rw [cell_cel] at hM ⊢; exact ho.cel hM fun f => f
          go_simp
          simp only [StepOk, upd, valPut, ↓reduceIte, Nat.reduceEqDiff]
          and_intros
          all_goals first | assumption | (intro h; cases h; done) | (intro _; assumption) | (simp_all; done)
        case refine_15 =>
          go_simp
          simp only [StepOk, upd, valPut, ↓reduceIte, Nat.reduceEqDiff]
          and_intros
          all_goals first | assumption | (intro h; cases h; done) | (intro _; assumption) | (simp_all; done)
        case refine_16 =>
          have q13 := p13 (by simp [hd])
          have q14 := p14 (by simp [hd])
          go_simp
          simp only [StepOk, upd, valPut, ↓reduceIte, Nat.reduceEqDiff]
          and_intros
          all_goals first | assumption | (intro h; cases h; done) | (intro _; assumption) | (simp_all; done)
        case refine_17 =>
          have q15 := p15 (by simp [hd])
          have h20 : L 20 = false := by cases hL : L 20 with | false => rfl | true => have := c20 hL; simp_all
          have ho := ha0 h20
          have y0 : W1.cell? ⟨g, k * 3, none⟩ = some (.string ⟨f.name.toArray⟩) := by rw [cell_cel] at x0 ⊢; exact ho.cel x0 fun f => f
          have y1 : W1.cell? ⟨g, k * 3 + 1, none⟩ = some (.slice a1 f.safe.length c1) := by rw [cell_cel] at x1 ⊢; exact ho.cel x1 fun f => f
          have y2 : W1.cell? ⟨g, k * 3 + 2, none⟩ = some (.slice a2 f.chs.length c2) := by rw [cell_cel] at x2 ⊢; exact ho.cel x2 fun f => f
          go_simp
          simp only [StepOk, upd, valPut, ↓reduceIte, Nat.reduceEqDiff]
          and_intros
          all_goals first | assumption | (intro h; cases h; done) | (intro _; assumption) | (simp_all; done)
        case refine_18 =>
          have q16 := p16 (by simp [hd])
          have h20 : L 20 = false := by cases hL : L 20 with | false => rfl | true => have := c20 hL; simp_all
          have ho := ha0 h20
          have hcall := HDAT.out W1 ho
          go_simp
          show Calls Try.prog 39 _ W1 _
          refine hcall.mono ?_
          rintro e W2 ⟨v, rfl, hrow, ho2⟩
          obtain ⟨a5, c5, e5, _, _⟩ := hrow.slice
          have hsl : SlT 5 u8 W2.heap (fun b => w1.heap.size ≤ b) v (dataOf f) := hrow.slT.mono fun b h => Nat.le_trans ho.size h
          have ho3 := ho.trans' ho2
          have h23 : L 23 = false := by cases hL : L 23 with | false => rfl | true => have := c23 hL; simp_all
          refine ⟨v, rfl, ?_⟩
          simp only [upd, valPut, ↓reduceIte, Nat.reduceEqDiff]
          exact ⟨fun _ => ho3, fun _ => ⟨hsl, _, _, _, e5⟩, fun h => absurd h (by simp [h20]), fun h => absurd h (by simp [h23]), fun h => absurd h (by simp [h20]), c23, p0, p1, p2, p3, p4, p5, p6, p7, p8, p9, p10, p11, p12, p13, p14, p15, p16, p18, p19, p21, p22⟩
        case refine_19 =>
          have q3 := p3 (by simp [hd])
          have q4 := p4 (by simp [hd])
          go_simp
          simp only [StepOk, upd, valPut, ↓reduceIte, Nat.reduceEqDiff]
          and_intros
          all_goals first | assumption | (intro h; cases h; done) | (intro _; assumption) | (simp_all; done)
        case refine_20 =>
          have q18 := p18 (by simp [hd])
          go_simp
          simp only [StepOk, upd, valPut, ↓reduceIte, Nat.reduceEqDiff]
          and_intros
          all_goals first | assumption | (intro h; cases h; done) | (intro _; assumption) | (simp_all; done)
        case refine_21 =>
          have q19 := p19 (by simp [hd])
          have hL17 : L 17 = true := by simp [hd]
          obtain ⟨hsl, a5, n5, c5, e5⟩ := hs17 hL17
          have ho := ha0 hLi
          have hfz : W1.frozen? ⟨g, k * 3 + 1, none⟩ = false := ((HD.out.fr ho fun _ _ f => f).row.rules HGO.out).2 _
          have hce : W1.cell? ⟨g, k * 3 + 1, none⟩ = some (.slice a1 f.safe.length c1) := by rw [cell_cel] at x1 ⊢; exact ho.cel x1 fun f => f
          have h23 : L 23 = false := by cases hL : L 23 with | false => rfl | true => have := c23 hL; simp_all
          have tg1 : Tag W1.heap g 75 := tg.kept (ho.block g tg.lt fun f => f)
          have hsl' : SlT 5 u8 (W1.setCell ⟨g, k * 3 + 1, none⟩ (val 17)).heap (fun b => w1.heap.size ≤ b) (val 17) (dataOf f) := hsl.kept fun b _ t => heap_set ⟨g, k * 3 + 1, none⟩ _ fun e => by have e : b = g := e; rw [e] at t; exact absurd (t.eq tg1) (by decide)
          have hall : L 3 = true ∧ L 8 = true ∧ L 13 = true ∧ L 16 = true ∧ L 17 = true := by simp [hd]
          rw [e5] at hsl'
          go_simp
          simp only [StepOk, upd, valPut, ↓reduceIte, Nat.reduceEqDiff]
          rw [e5]
          exact ⟨fun h => by simp at h, fun _ => ⟨hsl', _, _, _, rfl⟩, fun _ _ => ⟨W1, ho, rfl⟩, fun h => absurd h (by simp [h23]), fun _ => hall, by simp, p0, p1, p2, p3, p4, p5, p6, p7, p8, p9, p10, p11, p12, p13, p14, p15, p16, p18, p19, p21, p22⟩
        case refine_22 =>
          have q8 := p8 (by simp [hd])
          have q9 := p9 (by simp [hd])
          go_simp
          simp only [StepOk, upd, valPut, ↓reduceIte, Nat.reduceEqDiff]
          and_intros
          all_goals first | assumption | (intro h; cases h; done) | (intro _; assumption) | (simp_all; done)
        case refine_23 =>
          have q21 := p21 (by simp [hd])
          go_simp
          simp only [StepOk, upd, valPut, ↓reduceIte, Nat.reduceEqDiff]
          and_intros
          all_goals first | assumption | (intro h; cases h; done) | (intro _; assumption) | (simp_all; done)
        case refine_24 =>
          have q22 := p22 (by simp [hd])
          have hL20 : L 20 = true := by simp [hd]
          obtain ⟨_, _, _, _, hL17⟩ := c20 hL20
          obtain ⟨hsl, a5, n5, c5, e5⟩ := hs17 hL17
          obtain ⟨W2, ho, hW⟩ := hb20 hL20 hLi
          have hfz : W2.frozen? ⟨g, k * 3 + 2, none⟩ = false := ((HD.out.fr ho fun _ _ f => f).row.rules HGO.out).2 _
          have tg2 : Tag W2.heap g 75 := tg.kept (ho.block g tg.lt fun f => f)
          have tg1 : Tag W1.heap g 75 := by
            obtain ⟨c, z, e⟩ := tg2
            rw [hW]
            exact ⟨_, _, heap_set_at (val 17) e⟩
          have hce : W2.cell? ⟨g, k * 3 + 2, none⟩ = some (.slice a2 f.chs.length c2) := by rw [cell_cel] at x2 ⊢; exact ho.cel x2 fun f => f
          have hsl' : SlT 5 u8 (W1.setCell ⟨g, k * 3 + 2, none⟩ (.slice none 0 0)).heap (fun b => w1.heap.size ≤ b) (val 17) (dataOf f) := hsl.kept fun b _ t => heap_set ⟨g, k * 3 + 2, none⟩ _ fun e => by have e : b = g := e; rw [e] at t; exact absurd (t.eq tg1) (by decide)
          rw [hW] at hsl'
          simp only [e5] at hsl'
          go_simp
          simp only [StepOk, upd, valPut, ↓reduceIte, Nat.reduceEqDiff]
          exact ⟨fun h => absurd h (by simp [hL20]), fun _ => ⟨by rw [e5]; exact hsl', _, _, _, e5⟩, fun _ h => by simp at h, fun _ => ⟨W2, ho, by rw [e5]⟩, c20, fun _ => hL20, p0, p1, p2, p3, p4, p5, p6, p7, p8, p9, p10, p11, p12, p13, p14, p15, p16, p18, p19, p21, p22⟩
      case he =>
        intro L val W1 a ha hL hB
        simp [putL, Act.put] at ha
        subst ha
        obtain ⟨ha0, hs17, hb20, hb23, c20, c23, _⟩ := hB
        obtain ⟨hsl, a5, n5, c5, e5⟩ := hs17 (hL 17 (by decide))
        obtain ⟨W2, ho, rfl⟩ := hb23 (hL 23 (by decide))
        have hfin : MOpPost w1 m F1 (0, { S1 with files := setF { f with safe := dataOf f, chs := [] } S1.files }) (.returned (.int .i64 0)) ((W2.setCell ⟨g, k * 3 + 1, none⟩ (val 17)).setCell ⟨g, k * 3 + 2, none⟩ (.slice none 0 0)) := by
          generalize val 17 = U at *
          have hgW : ∀ b, r1.vf.ownBlock = some b → b = g := fun b e => by have := HGO.out; rw [this] at e; cases e; rfl
          have keep : ∀ b, b < w1.heap.size → b ≠ g → ((W2.setCell ⟨g, k * 3 + 1, none⟩ U).setCell ⟨g, k * 3 + 2, none⟩ (.slice none 0 0)).heap[b]? = w1.heap[b]? := fun b hb hne => by
            rw [heap_set ⟨g, k * 3 + 2, none⟩ _ hne, heap_set ⟨g, k * 3 + 1, none⟩ _ hne]
            exact ho.block b hb fun f => f
          have hrow2 := ((HD.out.fr ho fun _ _ f => f).row.set HGO.out (j := k * 3 + 1) U).set HGO.out (j := k * 3 + 2) (.slice none 0 0)
          have hkl2 : k < r1.ps.length := (List.getElem?_eq_some_iff.1 hp).1
          rw [flat_set (f := mfCells) mf_len (b := (f, (⟨U, q.vc, q.cs⟩ : MRep))) hp (by omega) rfl,
            flat_set (f := mfCells) mf_len (a := (f, (⟨U, q.vc, q.cs⟩ : MRep))) (b := (({ f with safe := dataOf f, chs := [] } : Fl), (⟨U, .slice none 0 0, []⟩ : MRep))) (by rw [List.getElem?_set_self hkl2]) (by omega) rfl, List.set_set] at hrow2
          obtain ⟨r', F', h1, h2⟩ := HD.out.reset HW.out (w' := (W2.setCell ⟨g, k * 3 + 1, none⟩ U).setCell ⟨g, k * 3 + 2, none⟩ (.slice none 0 0)) (f' := { f with safe := dataOf f, chs := [] }) (q' := ⟨U, .slice none 0 0, []⟩) hp rfl (by rw [World.size_setCell, World.size_setCell]; exact ho.size)
            (fun b hb e1 _ => keep b (HD.out.lt b hb) fun e => e1 (by rw [e]; exact HGO.out))
            (hrow2.mono fun b _ h => .inl h)
            { fits := rfl, safe := hsl.mono fun b h => .inr h, row := OwnRow.nil, chs := fun p hp => by cases hp }
            (fun b e => by simp [Value.ownBlock] at e)
          refine ⟨rfl, r', F', h1, ⟨?_, h2⟩⟩
          exact ((Old.fr ho).setCell (p := ⟨g, k * 3 + 1, none⟩) (fun _ => hFg) U).setCell (p := ⟨g, k * 3 + 2, none⟩) (fun _ => hFg) _
        have HFIN := Lib.hid hfin
        clear hfin ha0 hs17 hb20 hb23 c20 c23 hL hsl
        go_wp2
        go_ret
        rw [HR.out]
        obtain ⟨_, r', F', h1, h2⟩ := HFIN.out
        exact ⟨rfl, r', F', h1, HS.out.trans h2⟩
end
end Go.Proofs.Ytpdflncgemcniaa
namespace Go.Proofs.Ytpdflncgemcniaa
open Go.RowKit

theorem putF_mid : ∀ {l1 l2 : List Fl} {f : Fl}, (l1 ++ f :: l2).Pairwise (fun a b => a.name < b.name) → putF f (l1 ++ l2) = l1 ++ f :: l2
  | [], [], f, _ => rfl
  | [], g :: l2, f, h => by
    have h1 : f.name < g.name := (List.pairwise_cons.1 h).1 g (by simp)
    show (if f.name < g.name then f :: g :: l2 else _) = _
    rw [if_pos h1]; rfl
  | a :: l1, l2, f, h => by
    have h0 := List.pairwise_cons.1 h
    have h1 : a.name < f.name := h0.1 f (by simp)
    show (if f.name < a.name then _ else a :: putF f (l1 ++ l2)) = _
    rw [if_neg (List.lt_asymm h1), putF_mid h0.2]; rfl

theorem erase_mid {α : Type} (l1 l2 : List α) (x : α) : (l1 ++ x :: l2).eraseIdx l1.length = l1 ++ l2 := by
  rw [List.eraseIdx_append_of_length_le (Nat.le_refl _), Nat.sub_self, List.eraseIdx_cons_zero]

theorem putF_dropF {l : List Fl} {k : Nat} {f : Fl} (h : l.Pairwise fun a b => a.name < b.name) (hk : l[k]? = some f) : putF f (dropF f.name l) = l := by
  have hn : l.Pairwise fun a b => a.name ≠ b.name := h.imp fun {a b} hab e => by rw [e] at hab; exact List.lt_irrefl _ hab
  rw [← dropF_erase hn hk]
  obtain ⟨l1, l2, hl, hlen⟩ := split_at hk
  subst hl
  rw [← hlen, erase_mid, putF_mid h]

theorem dropF_comm (s t : Bs) (l : List Fl) : dropF t (dropF s l) = dropF s (dropF t l) := by
  unfold dropF
  rw [List.filter_filter, List.filter_filter]
  congr 1
  funext f
  exact Bool.and_comm _ _

theorem dropF_self (s : Bs) (l : List Fl) : dropF s (dropF s l) = dropF s l := by
  unfold dropF
  rw [List.filter_filter]
  congr 1
  funext f
  exact Bool.and_self _

theorem findF_dropF {s t : Bs} (h : s ≠ t) (l : List Fl) : findF s (dropF t l) = findF s l := by
  unfold findF dropF
  rw [List.find?_filter]
  congr 1
  funext f
  by_cases e : f.name = s
  · simp [e, h]
  · simp [e]

theorem Wf.dropF {S : Dk} {K : Nat} (h : Wf S K) (t : Bs) : Wf { S with files := Ytpdflncgemcniaa.dropF t S.files } K :=
  ⟨h.plan, h.n, Nat.le_trans (List.length_filter_le _ _) h.few, h.sorted.sublist List.filter_sublist, fun f hf => h.each f (List.mem_filter.1 hf).1⟩

theorem findI_some {s : Bs} {l : List Fl} {f : Fl} (h : findF s l = some f) : ∃ k : Nat, findI s l = k ∧ l[k]? = some f := by
  rcases findI_findF (s := s) (l := l) with ⟨_, hf⟩ | ⟨k, f', hi, hk, _, hf⟩
  · rw [hf] at h; cases h
  · rw [hf] at h; cases h; exact ⟨k, hi, hk⟩

section
variable {w : World} {m : Nat} {S : Dk} {r : MDRep} {F : Nat → Prop}

/-- A file in its place, under a new name, out of a box. -/
theorem mput_box (h : IsModel w.heap m S r F) {K : Nat} (wf : Wf S K) (hK : K ≤ 1000000) {f : Fl} {q : MRep} (hF : IsMF w.heap F f q) (hap : ∀ p ∈ r.ps, apartM (f, q) p) (t : ByteArray) (a1 a2 : Option Addr) (n1 c1 n2 c2 : Nat) (e1 : q.vs = .slice a1 n1 c1) (e2 : q.vc = .slice a2 n2 c2) {W : World} (o : Old w W) :
    Calls Try.prog 58 #[.pointer (some ⟨m, 0, none⟩), .agg #[.string t, .slice a1 n1 c1, .slice a2 n2 c2]] W fun e w' => e = .returned (.tuple #[]) ∧ ∃ r' F', IsModel w'.heap m { S with files := putF { f with name := t.data.toList } S.files } r' F' ∧ Step F F' w w' := by
  have hlt := h.lt
  have hFW : IsMF W.heap F { f with name := t.data.toList } q := by
    have := hF.kept (h' := W.heap) (fun b _ t => o.block b t.lt fun f => f) fun b e => o.block b (hF.tagC e).2.lt fun f => f
    exact ⟨this.fits, this.safe, this.row, this.chs⟩
  have h1 := mput58 (h.fr o fun _ _ f => f) (by have := wf.few; omega) wf.sorted hFW hap
  rw [e1, e2] at h1
  refine Calls.mono (R := MPutPost W m S F { f with name := t.data.toList }) (by simpa using h1) ?_
  rintro e w' ⟨rfl, r', F', h2, h3⟩
  exact ⟨rfl, r', F', h2, (⟨Old.fr o, fun _ h => .inl h⟩ : Step F F w W).trans h3⟩

/-- Opened: what out leaves. -/
theorem out60o (h : IsModel w.heap m S r F) {K : Nat} (wf : Wf S K) (hK : K ≤ 1000000) {k : Nat} {f : Fl} (hk : S.files[k]? = some f) :
    Calls Try.prog 60 #[.pointer (some ⟨m, 0, none⟩), .int .i64 k] w fun e w' => ∃ r' F' q a1 n1 c1 a2 n2 c2, e = .returned (.agg #[.string ⟨f.name.toArray⟩, .slice a1 n1 c1, .slice a2 n2 c2]) ∧
      q.vs = .slice a1 n1 c1 ∧ q.vc = .slice a2 n2 c2 ∧ IsModel w'.heap m { S with files := dropF f.name S.files } r' F' ∧ Step F F' w w' ∧ IsMF w'.heap F' f q ∧ ∀ p ∈ r'.ps, apartM (f, q) p := by
  obtain ⟨q0, hp⟩ := h.at_found hk
  refine (out60 h wf hK hp).mono ?_
  rintro e w2 ⟨r', F', q', hd2, hs2, rfl, h3, h4⟩
  obtain ⟨a1, c1, e1, _, _⟩ := h3.safe.shape
  obtain ⟨a2, c2, e2, _⟩ := h3.shapeC
  rw [dropF_erase wf.names hk] at hd2
  exact ⟨r', F', q', a1, _, c1, a2, _, c2, by rw [e1, e2], e1, e2, hd2, hs2, h3, h4⟩

set_option maxHeartbeats 4000000 in
set_option maxRecDepth 100000 in
theorem mrename32 (h : IsModel w.heap m S r F) {K : Nat} (wf : Wf S K) (hK : K < 1000000) (s t : ByteArray) (ht : t.size ≤ maxLen) :
    Calls Try.prog 32 #[.pointer (some ⟨m, 0, none⟩), .string s, .string t] w (MOpPost w m F (onFile S s.data.toList (renameK t.data.toList))) := by
  have hb := mbegin55 h wf hK
  clear h
  go_enter Try.func32, Try.ntmps32
  go_wp2_with fail
  refine hb.mono ?_
  rintro e w1 ⟨rfl, r1, F1, hd, hst⟩
  cases hx : ((begin S).1 == 0) with
  | false =>
    have HR := Lib.hid (onFile_err (s := s.data.toList) (k := renameK t.data.toList) hx)
    have hx' : ((begin S).1 == 0) = false := hx
    have HD := Lib.hid hd
    have HS := Lib.hid hst
    generalize hy : (begin S).1 = y at hx'
    have HY := Lib.hid hy
    clear hd hst hx hy
    go_wp2
    go_ret
    rw [HR.out]
    exact ⟨by rw [HY.out]; rfl, r1, F1, HD.out, HS.out⟩
  | true =>
    have hx' : (begin S).1 = 0 := by simpa using hx
    have wf1 := wf.begin
    have hfd := find38 hd wf1.few (by omega) s
    rw [hx']
    rcases findI_findF (s := s.data.toList) (l := (begin S).2.files) with ⟨hi, hf⟩ | ⟨k, f, hi, hk, hname, hf⟩
    · have HR := Lib.hid (onFile_none (s := s.data.toList) (k := renameK t.data.toList) hx' hf)
      rw [hi] at hfd
      have HD := Lib.hid hd
      have HS := Lib.hid hst
      clear hd hst hx hx' hf hi
      go_wp2_with (go_at_call 38; refine hfd.mono ?_; rintro e w' ⟨rfl, rfl⟩)
      go_ret
      rw [HR.out]
      exact ⟨rfl, r1, F1, HD.out, HS.out⟩
    · have hR0 := onFile_some (k := renameK t.data.toList) hx' hf
      rw [hi] at hfd
      have hnm := may56 w1 t ht
      generalize hSS : (begin S).2 = S1 at hd wf1 hR0 hk hf
      have HS := Lib.hid hst
      have HW := Lib.hid wf1
      have HR0 := Lib.hid hR0
      have HD := Lib.hid hd
      cases hok : okName t.data.toList with
      | false =>
        have HR := Lib.hid (show onFile S s.data.toList (renameK t.data.toList) = (15, S1) by rw [HR0.out]; unfold renameK; rw [if_pos (by simp [hok])])
        rw [hok] at hnm
        clear hd hst hx hx' hf hi wf1 hname hk hR0 hSS hok
        go_wp2_with (first
          | (go_at_call 38; with_reducible refine hfd.mono ?_; rintro e w' ⟨rfl, rfl⟩)
          | (go_at_call 56; with_reducible refine hnm.mono ?_; rintro e w' ⟨rfl, rfl⟩))
        go_ret
        rw [HR.out]
        exact ⟨rfl, r1, F1, HD.out, HS.out⟩
      | true =>
        have hR1 : onFile S s.data.toList (renameK t.data.toList) = (0, { S1 with files := putF { f with name := t.data.toList } (dropF t.data.toList (dropF s.data.toList S1.files)) }) := by rw [HR0.out]; unfold renameK; rw [if_neg (by simp [hok]), hname]
        rw [hok] at hnm
        by_cases hst' : s = t
        · have HR := Lib.hid (show onFile S s.data.toList (renameK t.data.toList) = (0, S1) by
            rw [hR1, ← hst', dropF_self]
            have e : ({ f with name := s.data.toList } : Fl) = f := by rw [← hname]
            have e2 := putF_dropF wf1.sorted hk
            rw [hname] at e2
            rw [e, e2])
          subst hst'
          clear hd hst hx hx' hf hi wf1 hname hk hR0 hSS hok hR1
          go_wp2_with (first
            | (go_at_call 38; with_reducible refine hfd.mono ?_; rintro e w' ⟨rfl, rfl⟩)
            | (go_at_call 56; with_reducible refine hnm.mono ?_; rintro e w' ⟨rfl, rfl⟩))
          go_ret
          rw [HR.out]
          exact ⟨rfl, r1, F1, HD.out, HS.out⟩
        · have hst2 : ¬ t = s := fun e => hst' e.symm
          have hne : s.data.toList ≠ t.data.toList := fun e => hst' (by
            have e1 : s.data = t.data := Array.toList_inj.1 e
            cases s; cases t; simp at e1; rw [e1])
          have hsb : (s.toList == t.toList) = false := by rw [ByteArray.toList_eq, ByteArray.toList_eq]; simpa using hne
          have hft := find38 hd wf1.few (by omega) t
          have HNAME := Lib.hid hname
          rcases findI_findF (s := t.data.toList) (l := S1.files) with ⟨hi2, hf2⟩ | ⟨k2, f2, hi2, hk2, hname2, hf2⟩
          · have HR := Lib.hid (show onFile S s.data.toList (renameK t.data.toList) = (0, { S1 with files := putF { f with name := t.data.toList } (dropF s.data.toList S1.files) }) by rw [hR1, dropF_comm, dropF_none hf2])
            rw [hi2] at hft
            have hout := out60o hd wf1 (by omega) hk
            have HWD := Lib.hid (wf1.dropF f.name)
            clear hd hst hx hx' hf hi wf1 hname hk hR0 hSS hok hR1 hi2 hf2 hne
            go_wp2_with (first
              | (go_at_call 38; with_reducible refine hfd.mono ?_; rintro e w' ⟨rfl, rfl⟩)
              | (go_at_call 38; with_reducible refine hft.mono ?_; rintro e w' ⟨rfl, rfl⟩)
              | (go_at_call 56; with_reducible refine hnm.mono ?_; rintro e w' ⟨rfl, rfl⟩)
              | (go_at_call 60; with_reducible refine hout.mono ?_; rintro e w2 ⟨r2, F2, q2, a1, n1, c1, a2, n2, c2, rfl, e1, e2, hd2, hs2, hF2, hap2⟩
                 have hput := mput_box hd2 HWD.out (by omega) hF2 hap2 t a1 a2 n1 c1 n2 c2 e1 e2 (W := w2.alloc (.cells #[.string t, .slice a1 n1 c1, .slice a2 n2 c2] 75)) ((Fr.refl _ _).alloc _)
                 have H2 := Lib.hid hs2
                 clear e1 e2 hd2 hs2 hF2 hap2)
              | (go_at_call 58; refine hput.mono ?_; rintro e w3 ⟨rfl, r', F', hd3, hs3⟩
                 have H3 := Lib.hid (And.intro hd3 hs3)
                 clear hd3 hs3))
            go_ret
            rw [HR.out]
            have h3 := H3.out.1
            simp only [HNAME.out] at h3
            exact ⟨rfl, r', F', h3, HS.out.trans (H2.out.trans H3.out.2)⟩
          · have HR := Lib.hid (show onFile S s.data.toList (renameK t.data.toList) = (0, { S1 with files := putF { f with name := t.data.toList } (dropF s.data.toList (dropF t.data.toList S1.files)) }) by rw [hR1, dropF_comm])
            rw [hi2] at hft
            have hout := out60o hd wf1 (by omega) hk2
            have HN2 := Lib.hid hname2
            have HWD := Lib.hid (wf1.dropF f2.name)
            have HF2 := Lib.hid (show findF s.data.toList (dropF f2.name S1.files) = some f by rw [hname2, findF_dropF hne, hf])
            clear hd hst hx hx' hf hi wf1 hname hk hR0 hSS hok hR1 hi2 hf2 hne hname2 hk2
            go_wp2_with (first
              | (go_at_call 38; with_reducible refine hfd.mono ?_; rintro e w' ⟨rfl, rfl⟩)
              | (go_at_call 38; with_reducible refine hft.mono ?_; rintro e w' ⟨rfl, rfl⟩)
              | (go_at_call 38; with_reducible refine hfd2.mono ?_; rintro e w' ⟨rfl, rfl⟩)
              | (go_at_call 56; with_reducible refine hnm.mono ?_; rintro e w' ⟨rfl, rfl⟩)
              | (go_at_call 60; with_reducible refine hout.mono ?_; rintro e w5 ⟨r5, F5, q5, a5, n5, c5, a6, n6, c6, rfl, -, -, hd5, hs5, -, -⟩
                 have hfd2 := find38 hd5 HWD.out.few (by omega) s
                 obtain ⟨k3, hi3, hk3⟩ := findI_some HF2.out
                 rw [hi3] at hfd2
                 have hout2 := out60o hd5 HWD.out (by omega) hk3
                 have HWD2 := Lib.hid (HWD.out.dropF f.name)
                 have H5 := Lib.hid hs5
                 clear hi3 hd5 hs5 hk3 hout)
              | (go_at_call 60; with_reducible refine hout2.mono ?_; rintro e w2 ⟨r2, F2, q2, a1, n1, c1, a2, n2, c2, rfl, e1, e2, hd2, hs2, hF2, hap2⟩
                 have hput := mput_box hd2 HWD2.out (by omega) hF2 hap2 t a1 a2 n1 c1 n2 c2 e1 e2 (W := w2.alloc (.cells #[.string t, .slice a1 n1 c1, .slice a2 n2 c2] 75)) ((Fr.refl _ _).alloc _)
                 have H2 := Lib.hid hs2
                 clear e1 e2 hd2 hs2 hF2 hap2)
              | (go_at_call 58; refine hput.mono ?_; rintro e w3 ⟨rfl, r', F', hd3, hs3⟩
                 have H3 := Lib.hid (And.intro hd3 hs3)
                 clear hd3 hs3))
            go_ret
            rw [HR.out]
            have h3 := H3.out.1
            simp only [HNAME.out, HN2.out] at h3
            exact ⟨rfl, r', F', h3, HS.out.trans (H5.out.trans (H2.out.trans H3.out.2))⟩
end
end Go.Proofs.Ytpdflncgemcniaa
