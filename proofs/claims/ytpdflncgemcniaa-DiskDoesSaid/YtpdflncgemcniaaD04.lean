/- PROVED HERE: the contracts of the program's and the document's copies of a plan. PROVED HERE: slices as they came in: an empty one may lead anywhere; and their twins. No conditions beyond the premises that each theorem names. -/
import Derived.Test.YtpdflncgemcniaaD02
import Derived.Test.YtpdflncgemcniaaD03
namespace Go.Proofs.Ytpdflncgemcniaa
open Go.RowKit

/-- What a copy of a plan comes to. -/
def PlanMade (w : World) (cr ro : Int) (lk lf lu : List Int) (e : Ending) (w' : World) : Prop :=
  ∃ k' f' u', e = .returned (.agg #[.int .i64 cr, k', f', u', .int .i64 ro]) ∧
      SlT 3 iv w'.heap (fun b => w.heap.size ≤ b) k' lk ∧ SlT 3 iv w'.heap (fun b => w.heap.size ≤ b) f' lf ∧ SlT 3 iv w'.heap (fun b => w.heap.size ≤ b) u' lu ∧ Old w w'

set_option maxRecDepth 100000 in
set_option maxHeartbeats 2000000 in
theorem twin21 (w : World) (F : Nat → Prop) (cr ro : Int) (k f u : Value) (lk lf lu : List Int) (hk : SlAt iv w.heap F k lk) (hf : SlAt iv w.heap F f lf) (hu : SlAt iv w.heap F u lu)
    (bk : lk.length ≤ 17592186044416) (bf : lf.length ≤ 17592186044416) (bu : lu.length ≤ 17592186044416) :
    Calls Try.prog 21 #[.agg #[.int .i64 cr, k, f, u, .int .i64 ro]] w fun e w' => ∃ k' f' u', e = .returned (.agg #[.int .i64 cr, k', f', u', .int .i64 ro]) ∧
      SlT 3 iv w'.heap (fun b => w.heap.size ≤ b) k' lk ∧ SlT 3 iv w'.heap (fun b => w.heap.size ≤ b) f' lf ∧ SlT 3 iv w'.heap (fun b => w.heap.size ≤ b) u' lu ∧ Old w w' := by
  obtain ⟨ak, ck, rfl, _, _⟩ := hk.shape
  obtain ⟨af, cf, rfl, _, _⟩ := hf.shape
  obtain ⟨au, cu, rfl, _, _⟩ := hu.shape
  go_enter Try.func21, Try.ntmps21
  go_wp2_with fail
  refine wp_region_lits (by kernel_rfl) (by kernel_rfl) (fun L val W1 => Old w W1 ∧
      Blk W1.heap w.heap.size #[.int .i64 cr, if L 10 = true then val 2 else .slice ak lk.length ck, if L 12 = true then val 5 else .slice af lf.length cf, if L 14 = true then val 8 else .slice au lu.length cu, .int .i64 ro] 24 ∧
      Blk W1.heap (w.heap.size + 1) #[.int .i64 0, .slice none 0 0, .slice none 0 0, .slice none 0 0, .int .i64 0] 24 ∧
      (L 0 = true → val 0 = .pointer (some ⟨w.heap.size, 1, none⟩)) ∧ (L 3 = true → val 3 = .pointer (some ⟨w.heap.size, 2, none⟩)) ∧ (L 6 = true → val 6 = .pointer (some ⟨w.heap.size, 3, none⟩)) ∧
      (L 9 = true → val 9 = .pointer (some ⟨w.heap.size, 1, none⟩)) ∧ (L 11 = true → val 11 = .pointer (some ⟨w.heap.size, 2, none⟩)) ∧ (L 13 = true → val 13 = .pointer (some ⟨w.heap.size, 3, none⟩)) ∧
      (L 1 = true → val 1 = .slice ak lk.length ck) ∧ (L 4 = true → val 4 = .slice af lf.length cf) ∧ (L 7 = true → val 7 = .slice au lu.length cu) ∧
      (L 2 = true → SlT 3 iv W1.heap (fun b => w.heap.size + 2 ≤ b) (val 2) lk) ∧ (L 5 = true → SlT 3 iv W1.heap (fun b => w.heap.size + 2 ≤ b) (val 5) lf) ∧ (L 8 = true → SlT 3 iv W1.heap (fun b => w.heap.size + 2 ≤ b) (val 8) lu) ∧
      (L 10 = true → L 1 = true ∧ L 2 = true) ∧ (L 12 = true → L 4 = true ∧ L 5 = true) ∧ (L 14 = true → L 7 = true ∧ L 8 = true)) ?h0 ?hs ?he
  case h0 =>
    refine ⟨(((Fr.refl _ _).alloc _).alloc _).drew, ?_, ?_, ?_⟩
    · exact blk_old (blk_new w _ _) _
    · have h := blk_new (w.alloc (Obj.cells #[Value.int IntKind.i64 cr, Value.slice ak lk.length ck, Value.slice af lf.length cf, Value.slice au lu.length cu, Value.int IntKind.i64 ro] 24)) #[.int .i64 0, .slice none 0 0, .slice none 0 0, .slice none 0 0, .int .i64 0] 24
      rw [World.size_alloc] at h
      exact h
    · simp
  case hs =>
    refine ⟨?_, ?_, ?_, ?_, ?_, ?_, ?_, ?_, ?_, ?_, ?_, ?_, ?_, ?_, ?_, trivial⟩
    all_goals
      intro L val W1 a ha hB hLi hd
      simp [putL, Act.put] at ha
      subst ha
      simp [Region.binds] at hd
      obtain ⟨hold, hb1, hb2, p0, p3, p6, p9, p11, p13, q1, q4, q7, s2, s5, s8, c10, c12, c14⟩ := hB
      obtain ⟨r1, r2⟩ := hb1.rules
    case refine_1 =>
      go_simp
      simp only [StepOk, upd, valPut, ↓reduceIte, Nat.reduceEqDiff]
      and_intros
      all_goals first | assumption | (simp_all; done)
    case refine_2 =>
      simp [hLi] at c10
      simp [hd] at p0
      simp only [c10] at r1
      go_simp
      simp only [StepOk, upd, valPut, ↓reduceIte, Nat.reduceEqDiff]
      and_intros
      all_goals first | assumption | (simp_all; done)
    case refine_3 =>
      have hq := q1 (by simp [hd])
      simp [hLi] at c10
      go_simp
      show Calls Try.prog 54 _ W1 _
      refine (clone54 W1 F _ lk (hk.fr hold fun _ _ f => f) bk).mono ?_
      rintro e w2 ⟨v, rfl, hs, ho⟩
      have hz := hb2.lt
      have t2 := fun h => (s2 h).fr ho fun _ _ f => f
      have t5 := fun h => (s5 h).fr ho fun _ _ f => f
      have t8 := fun h => (s8 h).fr ho fun _ _ f => f
      have hs' := hs.mono (G := fun b => w.heap.size + 2 ≤ b) fun x hx => by omega
      have ho' := hold.trans' ho
      have hc1 := hb1.fr ho fun f => f
      have hc2 := hb2.fr ho fun f => f
      refine ⟨v, rfl, ?_⟩
      clear hold ho hb1 hb2 s2 s5 s8 hs r1 r2
      simp only [upd, valPut, ↓reduceIte, Nat.reduceEqDiff]
      and_intros
      all_goals first | assumption | (simp_all; done)
    case refine_4 =>
      go_simp
      simp only [StepOk, upd, valPut, ↓reduceIte, Nat.reduceEqDiff]
      and_intros
      all_goals first | assumption | (simp_all; done)
    case refine_5 =>
      simp [hLi] at c12
      simp [hd] at p3
      simp only [c12] at r1
      go_simp
      simp only [StepOk, upd, valPut, ↓reduceIte, Nat.reduceEqDiff]
      and_intros
      all_goals first | assumption | (simp_all; done)
    case refine_6 =>
      have hq := q4 (by simp [hd])
      simp [hLi] at c12
      go_simp
      show Calls Try.prog 54 _ W1 _
      refine (clone54 W1 F _ lf (hf.fr hold fun _ _ f => f) bf).mono ?_
      rintro e w2 ⟨v, rfl, hs, ho⟩
      have hz := hb2.lt
      have t2 := fun h => (s2 h).fr ho fun _ _ f => f
      have t5 := fun h => (s5 h).fr ho fun _ _ f => f
      have t8 := fun h => (s8 h).fr ho fun _ _ f => f
      have hs' := hs.mono (G := fun b => w.heap.size + 2 ≤ b) fun x hx => by omega
      have ho' := hold.trans' ho
      have hc1 := hb1.fr ho fun f => f
      have hc2 := hb2.fr ho fun f => f
      refine ⟨v, rfl, ?_⟩
      clear hold ho hb1 hb2 s2 s5 s8 hs r1 r2
      simp only [upd, valPut, ↓reduceIte, Nat.reduceEqDiff]
      and_intros
      all_goals first | assumption | (simp_all; done)
    case refine_7 =>
      go_simp
      simp only [StepOk, upd, valPut, ↓reduceIte, Nat.reduceEqDiff]
      and_intros
      all_goals first | assumption | (simp_all; done)
    case refine_8 =>
      simp [hLi] at c14
      simp [hd] at p6
      simp only [c14] at r1
      go_simp
      simp only [StepOk, upd, valPut, ↓reduceIte, Nat.reduceEqDiff]
      and_intros
      all_goals first | assumption | (simp_all; done)
    case refine_9 =>
      have hq := q7 (by simp [hd])
      simp [hLi] at c14
      go_simp
      show Calls Try.prog 54 _ W1 _
      refine (clone54 W1 F _ lu (hu.fr hold fun _ _ f => f) bu).mono ?_
      rintro e w2 ⟨v, rfl, hs, ho⟩
      have hz := hb2.lt
      have t2 := fun h => (s2 h).fr ho fun _ _ f => f
      have t5 := fun h => (s5 h).fr ho fun _ _ f => f
      have t8 := fun h => (s8 h).fr ho fun _ _ f => f
      have hs' := hs.mono (G := fun b => w.heap.size + 2 ≤ b) fun x hx => by omega
      have ho' := hold.trans' ho
      have hc1 := hb1.fr ho fun f => f
      have hc2 := hb2.fr ho fun f => f
      refine ⟨v, rfl, ?_⟩
      clear hold ho hb1 hb2 s2 s5 s8 hs r1 r2
      simp only [upd, valPut, ↓reduceIte, Nat.reduceEqDiff]
      and_intros
      all_goals first | assumption | (simp_all; done)
    case refine_10 =>
      go_simp
      simp only [StepOk, upd, valPut, ↓reduceIte, Nat.reduceEqDiff]
      and_intros
      all_goals first | assumption | (simp_all; done)
    case refine_11 =>
      have hp := p9 (by simp [hd])
      have hsl := s2 (by simp [hd])
      obtain ⟨a2, c2, e2, _, _⟩ := hsl.shape
      go_simp
      rw [← e2]
      have hf : Fr (fun b => b = w.heap.size) W1 (W1.setCell ⟨w.heap.size, 1, none⟩ (val 2)) := Fr.store _ _ _ _
      have hold' : Old w (W1.setCell ⟨w.heap.size, 1, none⟩ (val 2)) := hold.setCell (fun h => absurd h (Nat.lt_irrefl _)) _
      have hb1' := hb1.set 1 (val 2)
      have hb2' := hb2.fr hf (by omega)
      have t2 := fun h => (s2 h).fr hf fun b h1 h2 => by omega
      have t5 := fun h => (s5 h).fr hf fun b h1 h2 => by omega
      have t8 := fun h => (s8 h).fr hf fun b h1 h2 => by omega
      clear hold hb1 hb2 s2 s5 s8 r1 r2 hf e2 hsl
      simp only [StepOk, upd, valPut, ↓reduceIte, Nat.reduceEqDiff]
      and_intros
      all_goals first | assumption | (simp_all; done) | skip
    case refine_12 =>
      go_simp
      simp only [StepOk, upd, valPut, ↓reduceIte, Nat.reduceEqDiff]
      and_intros
      all_goals first | assumption | (simp_all; done)
    case refine_13 =>
      have hp := p11 (by simp [hd])
      have hsl := s5 (by simp [hd])
      obtain ⟨a2, c2, e2, _, _⟩ := hsl.shape
      go_simp
      rw [← e2]
      have hf : Fr (fun b => b = w.heap.size) W1 (W1.setCell ⟨w.heap.size, 2, none⟩ (val 5)) := Fr.store _ _ _ _
      have hold' : Old w (W1.setCell ⟨w.heap.size, 2, none⟩ (val 5)) := hold.setCell (fun h => absurd h (Nat.lt_irrefl _)) _
      have hb1' := hb1.set 2 (val 5)
      have hb2' := hb2.fr hf (by omega)
      have t2 := fun h => (s2 h).fr hf fun b h1 h2 => by omega
      have t5 := fun h => (s5 h).fr hf fun b h1 h2 => by omega
      have t8 := fun h => (s8 h).fr hf fun b h1 h2 => by omega
      clear hold hb1 hb2 s2 s5 s8 r1 r2 hf e2 hsl
      simp only [StepOk, upd, valPut, ↓reduceIte, Nat.reduceEqDiff]
      and_intros
      all_goals first | assumption | (simp_all; done) | skip
    case refine_14 =>
      go_simp
      simp only [StepOk, upd, valPut, ↓reduceIte, Nat.reduceEqDiff]
      and_intros
      all_goals first | assumption | (simp_all; done)
    case refine_15 =>
      have hp := p13 (by simp [hd])
      have hsl := s8 (by simp [hd])
      obtain ⟨a2, c2, e2, _, _⟩ := hsl.shape
      go_simp
      rw [← e2]
      have hf : Fr (fun b => b = w.heap.size) W1 (W1.setCell ⟨w.heap.size, 3, none⟩ (val 8)) := Fr.store _ _ _ _
      have hold' : Old w (W1.setCell ⟨w.heap.size, 3, none⟩ (val 8)) := hold.setCell (fun h => absurd h (Nat.lt_irrefl _)) _
      have hb1' := hb1.set 3 (val 8)
      have hb2' := hb2.fr hf (by omega)
      have t2 := fun h => (s2 h).fr hf fun b h1 h2 => by omega
      have t5 := fun h => (s5 h).fr hf fun b h1 h2 => by omega
      have t8 := fun h => (s8 h).fr hf fun b h1 h2 => by omega
      clear hold hb1 hb2 s2 s5 s8 r1 r2 hf e2 hsl
      simp only [StepOk, upd, valPut, ↓reduceIte, Nat.reduceEqDiff]
      and_intros
      all_goals first | assumption | (simp_all; done) | skip
  case he =>
    intro L val W1 a ha hL hB
    simp [putL, Act.put] at ha
    subst ha
    obtain ⟨hold, hb1, hb2, p0, p3, p6, p9, p11, p13, q1, q4, q7, s2, s5, s8, c10, c12, c14⟩ := hB
    have s2 := s2 (hL 2 (by decide))
    have s5 := s5 (hL 5 (by decide))
    have s8 := s8 (hL 8 (by decide))
    rw [hL 10 (by decide), hL 12 (by decide), hL 14 (by decide)] at hb1
    simp only [if_true] at hb1
    clear p0 p3 p6 p9 p11 p13 q1 q4 q7 c10 c12 c14 hL
    generalize val 2 = x2 at *
    generalize val 5 = x5 at *
    generalize val 8 = x8 at *
    obtain ⟨r1, r2⟩ := hb1.rules
    obtain ⟨u1, u2⟩ := hb2.rules
    obtain ⟨a2, c2, e2, _, _⟩ := s2.shape
    obtain ⟨a5, c5, e5, _, _⟩ := s5.shape
    obtain ⟨a8, c8, e8, _, _⟩ := s8.shape
    subst e2 e5 e8
    go_wp2
    refine bodyPost_ret (v := .agg #[.int .i64 cr, .slice a2 lk.length c2, .slice a5 lf.length c5, .slice a8 lu.length c8, .int .i64 ro]) (by simp [results, Try.results21, go_sem, u1]) rfl ?_
    have hz := hb2.lt
    have g0 := (((((Fr.refl (fun b => b = w.heap.size + 1) W1).setCell (p := ⟨w.heap.size + 1, 0, none⟩) (fun _ => rfl) (.int .i64 cr)).setCell (p := ⟨w.heap.size + 1, 1, none⟩) (fun _ => rfl) (.slice a2 lk.length c2)).setCell (p := ⟨w.heap.size + 1, 2, none⟩) (fun _ => rfl) (.slice a5 lf.length c5)).setCell (p := ⟨w.heap.size + 1, 3, none⟩) (fun _ => rfl) (.slice a8 lu.length c8)).setCell (p := ⟨w.heap.size + 1, 4, none⟩) (fun _ => rfl) (.int .i64 ro)
    exact ⟨_, _, _, rfl, (s2.fr g0 fun b h1 h2 => by omega).mono fun b h => by omega, (s5.fr g0 fun b h1 h2 => by omega).mono fun b h => by omega, (s8.fr g0 fun b h1 h2 => by omega).mono fun b h => by omega, hold.trans g0 fun b h1 h2 => by omega⟩

set_option maxRecDepth 100000 in
set_option maxHeartbeats 2000000 in
theorem twin6 (w : World) (F : Nat → Prop) (cr ro : Int) (k f u : Value) (lk lf lu : List Int) (hk : SlAt iv w.heap F k lk) (hf : SlAt iv w.heap F f lf) (hu : SlAt iv w.heap F u lu)
    (bk : lk.length ≤ 17592186044416) (bf : lf.length ≤ 17592186044416) (bu : lu.length ≤ 17592186044416) (hFs : ∀ b, F b → b < w.heap.size) :
    Calls Try.prog 6 #[.agg #[.int .i64 cr, k, f, u, .int .i64 ro]] w (PlanMade w cr ro lk lf lu) := by
  obtain ⟨ak, ck, rfl, _, _⟩ := hk.shape
  obtain ⟨af, cf, rfl, _, _⟩ := hf.shape
  obtain ⟨au, cu, rfl, _, _⟩ := hu.shape
  have o0 : Old w ((w.alloc (Obj.cells #[.int .i64 cr, .slice ak lk.length ck, .slice af lf.length cf, .slice au lu.length cu, .int .i64 ro] 24)).alloc (Obj.cells #[.int .i64 0, .slice none 0 0, .slice none 0 0, .slice none 0 0, .int .i64 0] 24)) := ((Fr.refl _ _).alloc _).alloc _
  have hk0 := (hk.fr o0 fun _ _ f => f).row
  have hf0 := hf.fr o0 fun _ _ f => f
  have hu0 := hu.fr o0 fun _ _ f => f
  have hb1 : Blk ((w.alloc (Obj.cells #[.int .i64 cr, .slice ak lk.length ck, .slice af lf.length cf, .slice au lu.length cu, .int .i64 ro] 24)).alloc (Obj.cells #[.int .i64 0, .slice none 0 0, .slice none 0 0, .slice none 0 0, .int .i64 0] 24)).heap w.heap.size _ 24 := blk_old (blk_new w #[.int .i64 cr, .slice ak lk.length ck, .slice af lf.length cf, .slice au lu.length cu, .int .i64 ro] 24) _
  have hb2 := blk_new (w.alloc (Obj.cells #[.int .i64 cr, .slice ak lk.length ck, .slice af lf.length cf, .slice au lu.length cu, .int .i64 ro] 24)) #[.int .i64 0, .slice none 0 0, .slice none 0 0, .slice none 0 0, .int .i64 0] 24
  rw [World.size_alloc] at hb2
  go_enter Try.func6, Try.ntmps6
  go_wp2_with (at_builtin; refine wpList_app rfl (.const (.slice none 0 0)) (.tmp 4) 22 rfl 3 (.int .i64 0) 1 8 Try.underlying22 Try.info3 rfl (by decide) (fun b => w.heap.size ≤ b) _ 0 [] rfl OwnRow.nil _ lk.length (lk.map iv) rfl hk0 (iv_one lk) ?h63 ?hby ?_)
  case h63 => unfold maxLen; omega
  case hby => omega
  intro v1 w1 hown1 hfr1 _
  have s1 := hown1.slT
  clear hown1
  have n1 := hfr1.mono (G := fun _ => False) fun x hx h => by simp [Value.ownBlock] at h
  clear hfr1
  obtain ⟨a1, c1, e1, _, _⟩ := s1.shape
  subst e1
  have hB1 := hb1.fr n1 fun f => f
  have hB2 := hb2.fr n1 fun f => f
  have hz1 := hB2.lt
  have o1 := o0.trans' n1
  have hf1 := hf0.fr n1 fun _ _ f => f
  have hu1 := hu0.fr n1 fun _ _ f => f
  clear o0 hf0 hu0 hb1 hb2 n1 hk0
  have t1 := Fr.store w1 w.heap.size 1 (.slice a1 lk.length c1)
  have hx1 := hB1.rules
  have hf2 := (hf1.fr t1 fun b h1 h2 => by have := hFs b h1; omega).row
  have hu2 := hu1.fr t1 fun b h1 h2 => by have := hFs b h1; omega
  have s1' := s1.fr t1 fun b h1 h2 => by simp [Value.ownBlock] at h1; omega
  have hC1 := hB1.set 1 (.slice a1 lk.length c1)
  have hC2 := hB2.fr t1 (by omega)
  have p1 : Old w (w1.setCell ⟨w.heap.size, 1, none⟩ (.slice a1 lk.length c1)) := o1.setCell (fun h => absurd h (Nat.lt_irrefl _)) _
  simp only [Value.ownBlock] at s1'
  clear s1 o1 hf1 hu1 t1 hB1 hB2
  obtain ⟨r1, r2⟩ := hx1
  go_wp2_with (at_builtin; refine wpList_app rfl (.const (.slice none 0 0)) (.tmp 8) 22 rfl 3 (.int .i64 0) 1 8 Try.underlying22 Try.info3 rfl (by decide) (fun b => w.heap.size ≤ b) _ 0 [] rfl OwnRow.nil _ lf.length (lf.map iv) rfl hf2 (iv_one lf) (by unfold maxLen; omega) (by omega) ?_)
  intro v2 w2 hown2 hfr2 _
  have hz2 : w.heap.size + 1 < w2.heap.size := by have := hfr2.size; simp at this; omega
  have s2 := hown2.slT.mono (G := fun b => w.heap.size + 2 ≤ b) fun b h => by simp [Value.ownBlock] at h; omega
  have n2 := hfr2.mono (G := fun _ => False) fun x hx h => by simp [Value.ownBlock] at h
  clear hown2 hfr2
  obtain ⟨a2, c2, e2, _, _⟩ := s2.shape
  subst e2
  have hB1 := hC1.fr n2 fun f => f
  have hB2 := hC2.fr n2 fun f => f
  simp at hB1
  have o2 := p1.trans' n2
  have hu3 := hu2.fr n2 fun _ _ f => f
  have s1'' := (s1'.fr n2 fun _ _ f => f).mono (G := fun b => w.heap.size + 2 ≤ b) fun b h => by simp at h; omega
  clear p1 hu2 hC1 hC2 n2 s1' hf2 r1 r2
  have t2 := Fr.store w2 w.heap.size 2 (.slice a2 lf.length c2)
  have hx2 := hB1.rules
  have hu4 := (hu3.fr t2 fun b h1 h2 => by have := hFs b h1; omega).row
  have s1 := s1''.fr t2 fun b h1 h2 => by omega
  have s2' := s2.fr t2 fun b h1 h2 => by omega
  have hC1 := hB1.set 2 (.slice a2 lf.length c2)
  have hC2 := hB2.fr t2 (by omega)
  have p2 : Old w (w2.setCell ⟨w.heap.size, 2, none⟩ (.slice a2 lf.length c2)) := o2.setCell (fun h => absurd h (Nat.lt_irrefl _)) _
  clear s1'' s2 o2 hu3 t2 hB1 hB2
  obtain ⟨r1, r2⟩ := hx2
  go_wp2_with (at_builtin; refine wpList_app rfl (.const (.slice none 0 0)) (.tmp 12) 22 rfl 3 (.int .i64 0) 1 8 Try.underlying22 Try.info3 rfl (by decide) (fun b => w.heap.size ≤ b) _ 0 [] rfl OwnRow.nil _ lu.length (lu.map iv) rfl hu4 (iv_one lu) (by unfold maxLen; omega) (by omega) ?_)
  intro v3 w3 hown3 hfr3 _
  have hz3 : w.heap.size + 1 < w3.heap.size := by have := hfr3.size; simp at this; omega
  have s3 := hown3.slT.mono (G := fun b => w.heap.size + 2 ≤ b) fun b h => by simp [Value.ownBlock] at h; omega
  have n3 := hfr3.mono (G := fun _ => False) fun x hx h => by simp [Value.ownBlock] at h
  clear hown3 hfr3
  obtain ⟨a3, c3, e3, _, _⟩ := s3.shape
  subst e3
  have hB1 := hC1.fr n3 fun f => f
  have hB2 := hC2.fr n3 fun f => f
  simp at hB1
  have o3 := p2.trans' n3
  have s1' := s1.fr n3 fun _ _ f => f
  have s2'' := s2'.fr n3 fun _ _ f => f
  clear p2 hC1 hC2 n3 s1 s2' hu4 r1 r2
  have hx3 := hB1.rules
  have hy3 := hB2.rules
  obtain ⟨r1, r2⟩ := hx3
  obtain ⟨u1, u2⟩ := hy3
  clear hB1 hB2
  go_wp2
  refine bodyPost_ret (v := .agg #[.int .i64 cr, .slice a1 lk.length c1, .slice a2 lf.length c2, .slice a3 lu.length c3, .int .i64 ro]) (by simp [results, Try.results6, go_sem, u1]) rfl ?_
  have g0 := (((((((Fr.refl (fun b => b = w.heap.size ∨ b = w.heap.size + 1) w3).setCell (p := ⟨w.heap.size, 3, none⟩) (fun _ => .inl rfl) (.slice a3 lu.length c3))).setCell (p := ⟨w.heap.size + 1, 0, none⟩) (fun _ => .inr rfl) (.int .i64 cr)).setCell (p := ⟨w.heap.size + 1, 1, none⟩) (fun _ => .inr rfl) (.slice a1 lk.length c1)).setCell (p := ⟨w.heap.size + 1, 2, none⟩) (fun _ => .inr rfl) (.slice a2 lf.length c2)).setCell (p := ⟨w.heap.size + 1, 3, none⟩) (fun _ => .inr rfl) (.slice a3 lu.length c3)).setCell (p := ⟨w.heap.size + 1, 4, none⟩) (fun _ => .inr rfl) (.int .i64 ro)
  exact ⟨_, _, _, rfl, (s1'.fr g0 fun b h1 h2 => by omega).mono fun b h => by omega, (s2''.fr g0 fun b h1 h2 => by omega).mono fun b h => by omega, (s3.fr g0 fun b h1 h2 => by omega).mono fun b h => by omega, o3.trans g0 fun b h1 h2 => by omega⟩

end Go.Proofs.Ytpdflncgemcniaa
namespace Go.Proofs.Ytpdflncgemcniaa
open Go.RowKit

/-- A slice as it came in. -/
def SlR {α : Type} (enc : α → Value) (h : Array Obj) (F : Nat → Prop) (v : Value) (l : List α) : Prop := SlAt enc h F v l ∨ (l = [] ∧ ∃ a c, v = .slice (some a) 0 c)

def RowR (h : Array Obj) (size : Nat) (u : Value) (m : Nat) (news : List Value) : Prop := RowAt h size u m news ∨ (m = 0 ∧ news = [] ∧ ∃ a c, u = .slice (some a) 0 c)

section
variable {α : Type} {enc : α → Value} {h h' : Array Obj} {F G : Nat → Prop} {v : Value} {l : List α}
theorem SlAt.raw (s : SlAt enc h F v l) : SlR enc h F v l := .inl s
theorem SlR.mono (s : SlR enc h F v l) (hF : ∀ x, F x → G x) : SlR enc h G v l := s.imp (fun s => SlAt.mono s hF) id
theorem SlR.kept (s : SlR enc h F v l) (hk : ∀ b, F b → b < h.size → h'[b]? = h[b]?) : SlR enc h' F v l := s.imp (fun s => SlAt.kept s hk) id
theorem SlR.fr {w w' : World} (s : SlR enc w.heap F v l) (hf : Fr G w w') (hd : ∀ b, F b → G b → False) : SlR enc w'.heap F v l := s.kept fun b hb hl => hf.block b hl (hd b hb)
theorem SlR.shape (s : SlR enc h F v l) : ∃ a c, v = .slice a l.length c ∧ l.length ≤ c ∧ (a = none → l = [] ∧ c = 0) := by
  rcases s with s | ⟨rfl, a, c, rfl⟩
  · exact SlAt.shape s
  · exact ⟨some a, c, rfl, Nat.zero_le _, fun h => by cases h⟩
theorem SlR.row (s : SlR enc h F v l) : RowR h 1 v l.length (l.map enc) := by
  rcases s with s | ⟨rfl, a, c, rfl⟩
  · exact .inl (SlAt.row s)
  · exact .inr ⟨rfl, rfl, a, c, rfl⟩
end

section
variable {P : Program} {w : World}

theorem run_appR (t ty e : TypeId) (i : TypeInfo) (z : Value) (size bytes : Nat) (ht : P.underlying t = some (.slice e)) (hi : P.info? e = some i) (hz : i.zero = some z)
    (hsize : i.size = size) (hby : i.bytes = bytes) (hzs : z.cells.size = size) (hsz : 0 < size)
    (F : Nat → Prop) (v : Value) (n : Nat) (xs : List Value) (hown : OwnRow w.heap F e size v n xs)
    (u : Value) (m : Nat) (news : List Value) (hrow : RowR w.heap size u m news) (h1 : ∀ u ∈ news, u.oneCell' = true)
    (h63 : n + m ≤ maxLen) (hbytes : (n + m) * bytes ≤ 140737488355328) :
    ∃ v' w', (Builtin.append_ #[t, t] ty #[v, u]).run P w = .ok v' w' ∧ OwnRow w'.heap (fun b => v.ownBlock = some b ∨ w.heap.size ≤ b) e size v' (n + m) (xs ++ news) ∧
      Fr (fun b => v.ownBlock = some b) w w' ∧ (v' = .slice none 0 0 ↔ v = .slice none 0 0 ∧ m = 0) := by
  rcases hrow with hrow | ⟨rfl, rfl, ad, c, rfl⟩
  · exact run_app t ty e i z size bytes ht hi hz hsize hby hzs hsz F v n xs hown u m news hrow h1 h63 hbytes
  · subst hsize
    rcases hown.2 with ⟨rfl, rfl⟩ | ⟨g, cap, cur, rfl, hbg, hg, hnc, hcm, hcs, htake⟩
    · have hx : xs = [] := List.eq_nil_of_length_eq_zero (by simpa using hown.1)
      subst hx
      refine ⟨.slice none 0 0, w, ?_, OwnRow.nil, Fr.refl _ _, by simp⟩
      simp [Builtin.append_, run_underlying ht, sizeOf, typeInfo, hi, Builtin.lenOf, Builtin.firstCells, loadCells, loadCellsFrom]
    · have hle : n * i.size ≤ cur.size := by rw [hcs]; exact Nat.mul_le_mul_right _ hnc
      have hlen : (xs ++ []).length = (n + 0) * i.size := by rw [List.append_nil, Nat.add_zero]; exact hown.1
      have hr := run_append_room (P := P) w t ty e i ht hi g n cap cur hg ad 0 c [] (by simp) (by simp) h1 (by omega) (by simpa using hle)
      refine ⟨_, _, hr, ⟨hlen, .inr ⟨g, cap, _, rfl, .inl rfl, setRow_heap w g cur _ e _ hg, by omega, hcm, ?_, ?_⟩⟩,
        ⟨rfl, rfl, rfl, by simp, fun k _ hk => setRow_other w g k _ (fun e => hk (by simp [Value.ownBlock, e]))⟩, by simp⟩
      · simp only [List.size_toArray, List.length_append, List.length_take, List.length_drop, Array.length_toList]
        simp only [List.length_nil]
        omega
      · rw [htake, ← hlen]
        exact List.take_left

theorem wpList_appR {ops : Array Oper} {rest : List Oper} {o : Oper} {a : Act} {Q : Exit → Act → World → Prop} (hgd : o.guard = none) (s x : Operand) (t : TypeId)
    (ho : o.op = .call { callee := .builtin .append, args := #[s, x], argTypes := #[t, t] })
    (e : TypeId) (z : Value) (size bytes : Nat) (ht : P.underlying t = some (.slice e)) (hi : (P.info? e).map (fun i => (i.zero, i.size, i.bytes)) = some (some z, size, bytes))
    (hzs : z.cells.size = size) (hsz : 0 < size)
    (F : Nat → Prop) (v : Value) (n : Nat) (xs : List Value) (hs : a.eval s = v) (hown : OwnRow w.heap F e size v n xs)
    (u : Value) (m : Nat) (news : List Value) (hx : a.eval x = u) (hrow : RowR w.heap size u m news) (h1 : ∀ u ∈ news, u.oneCell' = true)
    (h63 : n + m ≤ maxLen) (hbytes : (n + m) * bytes ≤ 140737488355328)
    (h : ∀ v' w', OwnRow w'.heap (fun b => v.ownBlock = some b ∨ w.heap.size ≤ b) e size v' (n + m) (xs ++ news) → Fr (fun b => v.ownBlock = some b) w w' →
      (v' = .slice none 0 0 ↔ v = .slice none 0 0 ∧ m = 0) → wpList P ops Q rest (a.put o.dst v') w') : wpList P ops Q (o :: rest) a w := by
  obtain ⟨i, hi, hz, hsize, hby⟩ := info_parts hi
  refine wpList_plain hgd fun K hK => ?_
  obtain ⟨v', w', hr, h2, h3, h4⟩ := run_appR (P := P) t o.type e i z size bytes ht hi hz hsize hby hzs hsz F v n xs hown u m news hrow h1 h63 hbytes
  unfold Oper.wp execOp
  simp only [ho, resolve, invoke, builtin, Sem.run_bind, Sem.run_pure, Result.andThen_ok, List.map_toArray, List.map_cons, List.map_nil, hs, hx, hr]
  exact hK _ _ (h v' w' h2 h3 h4)
end

/-- A plan as it came in. -/
structure IsPlanR (h : Array Obj) (G : Nat → Prop) (k f u : Value) (p : Pl) : Prop where
  keep : SlR iv h G k p.keep
  fail : SlR iv h G f p.fail
  full : SlR iv h G u p.full

theorem IsPlanR.fr {w w' : World} {F G : Nat → Prop} {k f u : Value} {p : Pl} (s : IsPlanR w.heap G k f u p) (hf : Fr F w w') (hG : ∀ x, G x → F x → False) : IsPlanR w'.heap G k f u p := ⟨s.keep.fr hf hG, s.fail.fr hf hG, s.full.fr hf hG⟩

set_option maxHeartbeats 400000 in
theorem twin22R (w : World) (F : Nat → Prop) (v : Value) (l : Bs) (hs : SlR u8 w.heap F v l) (hl : l.length ≤ 140737488355328) : Calls Try.prog 22 #[v] w fun e w' => ∃ v', e = .returned v' ∧ OwnRow w'.heap (fun b => w.heap.size ≤ b) 5 1 v' l.length (l.map u8) ∧ Old w w' := by
  have hrow := hs.row
  clear hs
  go_enter Try.func22, Try.ntmps22
  go_wp2_with (at_builtin; refine wpList_appR rfl (.const (.slice none 0 0)) (.tmp 3) 33 rfl 5 (.int .u8 0) 1 1 Try.underlying33 Try.info5 rfl (by decide) (fun b => w.heap.size ≤ b) _ 0 [] rfl OwnRow.nil _ l.length (l.map u8) rfl hrow (u8_one l) ?h63 ?hby ?_)
  case h63 => unfold maxLen; omega
  case hby => omega
  intro v' w' hown hfr _
  go_wp2
  go_ret
  refine ⟨_, rfl, ?_, ?_⟩
  · have := hown.mono (G := fun b => w.heap.size ≤ b) (fun x _ h => by simpa [Value.ownBlock] using h)
    simpa using this
  · exact hfr.mono fun x hx h => by simp [Value.ownBlock] at h

set_option maxHeartbeats 400000 in
theorem twin40Ro (w : World) (F : Nat → Prop) (v : Value) (l : Bs) (hs : SlR u8 w.heap F v l) (hl : l.length ≤ 140737488355328) : Calls Try.prog 40 #[v] w fun e w' => ∃ v', e = .returned v' ∧ OwnRow w'.heap (fun b => w.heap.size ≤ b) 5 1 v' l.length (l.map u8) ∧ Old w w' := by
  have hrow := hs.row
  clear hs
  go_enter Try.func40, Try.ntmps40
  go_wp2_with (at_builtin; refine wpList_appR rfl (.const (.slice none 0 0)) (.tmp 3) 33 rfl 5 (.int .u8 0) 1 1 Try.underlying33 Try.info5 rfl (by decide) (fun b => w.heap.size ≤ b) _ 0 [] rfl OwnRow.nil _ l.length (l.map u8) rfl hrow (u8_one l) ?h63 ?hby ?_)
  case h63 => unfold maxLen; omega
  case hby => omega
  intro v' w' hown hfr _
  go_wp2
  go_ret
  refine ⟨_, rfl, ?_, ?_⟩
  · have := hown.mono (G := fun b => w.heap.size ≤ b) (fun x _ h => by simpa [Value.ownBlock] using h)
    simpa using this
  · exact hfr.mono fun x hx h => by simp [Value.ownBlock] at h

theorem twin40R (w : World) (F : Nat → Prop) (v : Value) (l : Bs) (hs : SlR u8 w.heap F v l) (hl : l.length ≤ 140737488355328) : Calls Try.prog 40 #[v] w (Made 5 u8 w l) :=
  (twin40Ro w F v l hs hl).mono fun _ _ ⟨v, e, h1, h2⟩ => ⟨v, e, h1.slT, h2⟩

set_option maxRecDepth 100000 in
set_option maxHeartbeats 2000000 in
theorem twin6R (w : World) (F : Nat → Prop) (cr ro : Int) (k f u : Value) (lk lf lu : List Int) (hk : SlR iv w.heap F k lk) (hf : SlR iv w.heap F f lf) (hu : SlR iv w.heap F u lu)
    (bk : lk.length ≤ 17592186044416) (bf : lf.length ≤ 17592186044416) (bu : lu.length ≤ 17592186044416) (hFs : ∀ b, F b → b < w.heap.size) :
    Calls Try.prog 6 #[.agg #[.int .i64 cr, k, f, u, .int .i64 ro]] w (PlanMade w cr ro lk lf lu) := by
  obtain ⟨ak, ck, rfl, _, _⟩ := hk.shape
  obtain ⟨af, cf, rfl, _, _⟩ := hf.shape
  obtain ⟨au, cu, rfl, _, _⟩ := hu.shape
  have o0 : Old w ((w.alloc (Obj.cells #[.int .i64 cr, .slice ak lk.length ck, .slice af lf.length cf, .slice au lu.length cu, .int .i64 ro] 24)).alloc (Obj.cells #[.int .i64 0, .slice none 0 0, .slice none 0 0, .slice none 0 0, .int .i64 0] 24)) := ((Fr.refl _ _).alloc _).alloc _
  have hk0 := (hk.fr o0 fun _ _ f => f).row
  have hf0 := hf.fr o0 fun _ _ f => f
  have hu0 := hu.fr o0 fun _ _ f => f
  have hb1 : Blk ((w.alloc (Obj.cells #[.int .i64 cr, .slice ak lk.length ck, .slice af lf.length cf, .slice au lu.length cu, .int .i64 ro] 24)).alloc (Obj.cells #[.int .i64 0, .slice none 0 0, .slice none 0 0, .slice none 0 0, .int .i64 0] 24)).heap w.heap.size _ 24 := blk_old (blk_new w #[.int .i64 cr, .slice ak lk.length ck, .slice af lf.length cf, .slice au lu.length cu, .int .i64 ro] 24) _
  have hb2 := blk_new (w.alloc (Obj.cells #[.int .i64 cr, .slice ak lk.length ck, .slice af lf.length cf, .slice au lu.length cu, .int .i64 ro] 24)) #[.int .i64 0, .slice none 0 0, .slice none 0 0, .slice none 0 0, .int .i64 0] 24
  rw [World.size_alloc] at hb2
  go_enter Try.func6, Try.ntmps6
  go_wp2_with (at_builtin; refine wpList_appR rfl (.const (.slice none 0 0)) (.tmp 4) 22 rfl 3 (.int .i64 0) 1 8 Try.underlying22 Try.info3 rfl (by decide) (fun b => w.heap.size ≤ b) _ 0 [] rfl OwnRow.nil _ lk.length (lk.map iv) rfl hk0 (iv_one lk) ?h63 ?hby ?_)
  case h63 => unfold maxLen; omega
  case hby => omega
  intro v1 w1 hown1 hfr1 _
  have s1 := hown1.slT
  clear hown1
  have n1 := hfr1.mono (G := fun _ => False) fun x hx h => by simp [Value.ownBlock] at h
  clear hfr1
  obtain ⟨a1, c1, e1, _, _⟩ := s1.shape
  subst e1
  have hB1 := hb1.fr n1 fun f => f
  have hB2 := hb2.fr n1 fun f => f
  have hz1 := hB2.lt
  have o1 := o0.trans' n1
  have hf1 := hf0.fr n1 fun _ _ f => f
  have hu1 := hu0.fr n1 fun _ _ f => f
  clear o0 hf0 hu0 hb1 hb2 n1 hk0
  have t1 := Fr.store w1 w.heap.size 1 (.slice a1 lk.length c1)
  have hx1 := hB1.rules
  have hf2 := (hf1.fr t1 fun b h1 h2 => by have := hFs b h1; omega).row
  have hu2 := hu1.fr t1 fun b h1 h2 => by have := hFs b h1; omega
  have s1' := s1.fr t1 fun b h1 h2 => by simp [Value.ownBlock] at h1; omega
  have hC1 := hB1.set 1 (.slice a1 lk.length c1)
  have hC2 := hB2.fr t1 (by omega)
  have p1 : Old w (w1.setCell ⟨w.heap.size, 1, none⟩ (.slice a1 lk.length c1)) := o1.setCell (fun h => absurd h (Nat.lt_irrefl _)) _
  simp only [Value.ownBlock] at s1'
  clear s1 o1 hf1 hu1 t1 hB1 hB2
  obtain ⟨r1, r2⟩ := hx1
  go_wp2_with (at_builtin; refine wpList_appR rfl (.const (.slice none 0 0)) (.tmp 8) 22 rfl 3 (.int .i64 0) 1 8 Try.underlying22 Try.info3 rfl (by decide) (fun b => w.heap.size ≤ b) _ 0 [] rfl OwnRow.nil _ lf.length (lf.map iv) rfl hf2 (iv_one lf) (by unfold maxLen; omega) (by omega) ?_)
  intro v2 w2 hown2 hfr2 _
  have hz2 : w.heap.size + 1 < w2.heap.size := by have := hfr2.size; simp at this; omega
  have s2 := hown2.slT.mono (G := fun b => w.heap.size + 2 ≤ b) fun b h => by simp [Value.ownBlock] at h; omega
  have n2 := hfr2.mono (G := fun _ => False) fun x hx h => by simp [Value.ownBlock] at h
  clear hown2 hfr2
  obtain ⟨a2, c2, e2, _, _⟩ := s2.shape
  subst e2
  have hB1 := hC1.fr n2 fun f => f
  have hB2 := hC2.fr n2 fun f => f
  simp at hB1
  have o2 := p1.trans' n2
  have hu3 := hu2.fr n2 fun _ _ f => f
  have s1'' := (s1'.fr n2 fun _ _ f => f).mono (G := fun b => w.heap.size + 2 ≤ b) fun b h => by simp at h; omega
  clear p1 hu2 hC1 hC2 n2 s1' hf2 r1 r2
  have t2 := Fr.store w2 w.heap.size 2 (.slice a2 lf.length c2)
  have hx2 := hB1.rules
  have hu4 := (hu3.fr t2 fun b h1 h2 => by have := hFs b h1; omega).row
  have s1 := s1''.fr t2 fun b h1 h2 => by omega
  have s2' := s2.fr t2 fun b h1 h2 => by omega
  have hC1 := hB1.set 2 (.slice a2 lf.length c2)
  have hC2 := hB2.fr t2 (by omega)
  have p2 : Old w (w2.setCell ⟨w.heap.size, 2, none⟩ (.slice a2 lf.length c2)) := o2.setCell (fun h => absurd h (Nat.lt_irrefl _)) _
  clear s1'' s2 o2 hu3 t2 hB1 hB2
  obtain ⟨r1, r2⟩ := hx2
  go_wp2_with (at_builtin; refine wpList_appR rfl (.const (.slice none 0 0)) (.tmp 12) 22 rfl 3 (.int .i64 0) 1 8 Try.underlying22 Try.info3 rfl (by decide) (fun b => w.heap.size ≤ b) _ 0 [] rfl OwnRow.nil _ lu.length (lu.map iv) rfl hu4 (iv_one lu) (by unfold maxLen; omega) (by omega) ?_)
  intro v3 w3 hown3 hfr3 _
  have hz3 : w.heap.size + 1 < w3.heap.size := by have := hfr3.size; simp at this; omega
  have s3 := hown3.slT.mono (G := fun b => w.heap.size + 2 ≤ b) fun b h => by simp [Value.ownBlock] at h; omega
  have n3 := hfr3.mono (G := fun _ => False) fun x hx h => by simp [Value.ownBlock] at h
  clear hown3 hfr3
  obtain ⟨a3, c3, e3, _, _⟩ := s3.shape
  subst e3
  have hB1 := hC1.fr n3 fun f => f
  have hB2 := hC2.fr n3 fun f => f
  simp at hB1
  have o3 := p2.trans' n3
  have s1' := s1.fr n3 fun _ _ f => f
  have s2'' := s2'.fr n3 fun _ _ f => f
  clear p2 hC1 hC2 n3 s1 s2' hu4 r1 r2
  have hx3 := hB1.rules
  have hy3 := hB2.rules
  obtain ⟨r1, r2⟩ := hx3
  obtain ⟨u1, u2⟩ := hy3
  clear hB1 hB2
  go_wp2
  refine bodyPost_ret (v := .agg #[.int .i64 cr, .slice a1 lk.length c1, .slice a2 lf.length c2, .slice a3 lu.length c3, .int .i64 ro]) (by simp [results, Try.results6, go_sem, u1]) rfl ?_
  have g0 := (((((((Fr.refl (fun b => b = w.heap.size ∨ b = w.heap.size + 1) w3).setCell (p := ⟨w.heap.size, 3, none⟩) (fun _ => .inl rfl) (.slice a3 lu.length c3))).setCell (p := ⟨w.heap.size + 1, 0, none⟩) (fun _ => .inr rfl) (.int .i64 cr)).setCell (p := ⟨w.heap.size + 1, 1, none⟩) (fun _ => .inr rfl) (.slice a1 lk.length c1)).setCell (p := ⟨w.heap.size + 1, 2, none⟩) (fun _ => .inr rfl) (.slice a2 lf.length c2)).setCell (p := ⟨w.heap.size + 1, 3, none⟩) (fun _ => .inr rfl) (.slice a3 lu.length c3)).setCell (p := ⟨w.heap.size + 1, 4, none⟩) (fun _ => .inr rfl) (.int .i64 ro)
  exact ⟨_, _, _, rfl, (s1'.fr g0 fun b h1 h2 => by omega).mono fun b h => by omega, (s2''.fr g0 fun b h1 h2 => by omega).mono fun b h => by omega, (s3.fr g0 fun b h1 h2 => by omega).mono fun b h => by omega, o3.trans g0 fun b h1 h2 => by omega⟩

end Go.Proofs.Ytpdflncgemcniaa
