/- PROVED HERE: the contract of WriteAt. PROVED HERE: the files' map: a file put, a file struck. PROVED HERE: the contracts of Truncate, Sync, Remove, Rename, Create. No conditions beyond the premises that each theorem names. -/
import Derived.Test.YtpdflncgemcniaaD10
import Derived.Maps.OwnSet
namespace Go.Proofs.Ytpdflncgemcniaa
open Go.RowKit

section
variable {w : World} {d : Nat} {S : Dk} {r : DRep} {F : Nat → Prop}

set_option maxHeartbeats 4000000 in
set_option maxRecDepth 100000 in
theorem writeAt23 (h : IsDisk w.heap d S r F) {K : Nat} (wf : Wf S K) (hK : K < 1000000) (s : ByteArray) (hs : s.size ≤ maxLen) (pos : Int) (hpos : -9223372036854775808 ≤ pos ∧ pos < 9223372036854775808) (G : Nat → Prop) (vb : Value) (b : Bs) (hb : SlAt u8 w.heap G vb b) (hG : ∀ x, G x → F x → False) (hbl : b.length ≤ maxLen) :
    Calls Try.prog 23 #[.pointer (some ⟨d, 0, none⟩), .string s, .int .i64 pos, vb] w (OpPost w d F (onFile S s.data.toList (writeK pos b))) := by
  have hopen := open49 h wf hK s hs
  obtain ⟨ab, cb, rfl, hcb, _⟩ := hb.shape
  have HB := Lib.hid hb
  unfold maxLen at hbl
  clear hb h
  go_enter Try.func23, Try.ntmps23
  go_wp2_with fail
  refine hopen.mono ?_
  rintro e w1 ⟨r1, F1, hd, hst, hres⟩
  rcases hres with ⟨hx, rfl⟩ | ⟨hx, hf, rfl⟩ | ⟨hx, p, hf, rfl⟩
  · have HR := Lib.hid (onFile_err (s := s.data.toList) (k := writeK pos b) hx)
    have HD := Lib.hid hd
    have HS := Lib.hid hst
    have HX := Lib.hid hx
    generalize hy : (begin S).1 = y at *
    have HY := Lib.hid hy
    clear hd hst hy
    go_wp2
    go_ret
    rw [HR.out]
    exact ⟨by rw [HY.out]; rfl, r1, F1, HD.out, HS.out⟩
  · have HR := Lib.hid (onFile_none (s := s.data.toList) (k := writeK pos b) hx (hd.noFile hf))
    have HD := Lib.hid hd
    have HS := Lib.hid hst
    clear hd hst hx hf
    go_wp2
    go_ret
    rw [HR.out]
    exact ⟨rfl, r1, F1, HD.out, HS.out⟩
  · have wf1 := wf.begin
    obtain ⟨hF, hmem, _, hfind⟩ := hd.file hf
    have hdl := (wf1.each p.1 hmem).data
    have hR0 := onFile_some (k := writeK pos b) hx hfind
    have hp := List.mem_of_find?_eq_some hf
    obtain ⟨q1, _⟩ := hF.blk.rules
    obtain ⟨a, c, e, hc, _⟩ := hF.now.shape
    have hN : w1.cell? ⟨p.2.blk, 2, none⟩ = some (.slice a (dataOf p.1).length c) := by rw [q1, ← e]; rfl
    have HD := Lib.hid hd
    have HS := Lib.hid hst
    have hb1 := HB.out.fr hst.fr hG
    have HB1 := Lib.hid hb1
    have HW := Lib.hid wf1
    clear hd hst hx hf hF hfind hmem q1 e hb1 wf1
    by_cases hneg : pos < 0
    · have HR := Lib.hid (show onFile S s.data.toList (writeK pos b) = (1, (begin S).2) by rw [hR0]; unfold writeK; exact if_pos hneg)
      clear hR0
      go_wp2
      go_ret
      rw [HR.out]
      exact ⟨rfl, r1, F1, HD.out, HS.out⟩
    · obtain ⟨pn, rfl⟩ := Int.eq_ofNat_of_zero_le (show 0 ≤ pos by omega)
      clear hneg
      by_cases hl1 : (268435456 : Int) < pn
      · have HR := Lib.hid (show onFile S s.data.toList (writeK pn b) = (2, (begin S).2) by rw [hR0]; unfold writeK; rw [if_neg (by omega)]; exact if_pos (by simp only [Int.toNat_natCast]; omega))
        clear hR0
        go_wp2
        go_ret
        rw [HR.out]
        exact ⟨rfl, r1, F1, HD.out, HS.out⟩
      · by_cases hl2 : (268435456 : Int) - pn < b.length
        · have HR := Lib.hid (show onFile S s.data.toList (writeK pn b) = (2, (begin S).2) by rw [hR0]; unfold writeK; rw [if_neg (by omega)]; exact if_pos (by simp only [Int.toNat_natCast]; omega))
          clear hR0
          go_wp2
          go_ret
          rw [HR.out]
          exact ⟨rfl, r1, F1, HD.out, HS.out⟩
        · have HR := Lib.hid (show onFile S s.data.toList (writeK pn b) = change (begin S).2 p.1 (.write pn b) (max (dataOf p.1).length (pn + b.length)) by rw [hR0]; unfold writeK; rw [if_neg (by omega), if_neg (by simp only [Int.toNat_natCast]; omega)]; simp only [Int.toNat_natCast])
          have hok : pn + b.length ≤ 268435456 := by omega
          have HP := Lib.hid (fun W1 (o : Old w1 W1) vb' (hvb : SlT 5 u8 W1.heap (fun x => w1.heap.size ≤ x) vb' b) => put_new HD.out HW.out (by omega) hp o pn vb' b hvb hok (max (dataOf p.1).length (pn + b.length)) (by omega))
          have hmx : ((max (dataOf p.1).length (pn + b.length) : Nat) : Int) = max ((dataOf p.1).length : Int) (pn + b.length) := by omega
          rw [hmx] at HP
          clear hR0 hmx
          go_wp2_with fail
          refine wp_region_lits (by kernel_rfl) (by kernel_rfl) (fun L val W1 => (L 17 = false → Old w1 W1 ∧ (L 4 = true → SlT 5 u8 W1.heap (fun x => w1.heap.size ≤ x) (val 4) b))  ∧
            (L 17 = true → OpAt w1 d F1 (change (begin S).2 p.1 (.write pn b) (max (dataOf p.1).length (pn + b.length))) (val 17) W1) ∧
            (L 17 = true → L 4 = true ∧ L 10 = true) ∧
            (L 0 = true → val 0 = .pointer (some ⟨d, 0, none⟩)) ∧
            (L 1 = true → val 1 = .pointer (some ⟨p.2.blk, 0, none⟩)) ∧
            (L 2 = true → val 2 = .int .i64 pn) ∧
            (L 3 = true → val 3 = .slice ab b.length cb) ∧
            (L 4 = true → ∃ a n c, val 4 = .slice a n c) ∧
            (L 5 = true → L 4 = true ∧ val 5 = .agg #[.int .i64 pn, val 4]) ∧
            (L 6 = true → L 4 = true ∧ val 6 = .iface 91 (.agg #[.int .i64 pn, val 4])) ∧
            (L 7 = true → val 7 = .pointer (some ⟨p.2.blk, 0, none⟩)) ∧
            (L 8 = true → val 8 = .pointer (some ⟨p.2.blk, 0, none⟩)) ∧
            (L 9 = true → val 9 = .pointer (some ⟨p.2.blk, 2, none⟩)) ∧
            (L 10 = true → val 10 = .slice a (dataOf p.1).length c) ∧
            (L 11 = true → L 10 = true ∧ val 11 = .int .i64 (dataOf p.1).length) ∧
            (L 12 = true → val 12 = .int .i64 pn) ∧
            (L 13 = true → val 13 = .slice ab b.length cb) ∧
            (L 14 = true → val 14 = .int .i64 b.length) ∧
            (L 15 = true → val 15 = .int .i64 (pn + b.length)) ∧
            (L 16 = true → L 10 = true ∧ val 16 = .int .i64 (max ((dataOf p.1).length : Int) (pn + b.length))) ∧
            (L 18 = true → L 17 = true ∧ val 18 = val 17)) ?h0 ?hs ?he
          case h0 => exact ⟨fun _ => ⟨(Fr.refl _ _).drew, by simp⟩, by simp⟩
          case hs =>
            refine ⟨?_, ?_, ?_, ?_, ?_, ?_, ?_, ?_, ?_, ?_, ?_, ?_, ?_, ?_, ?_, ?_, ?_, ?_, ?_, trivial⟩
            all_goals
              intro L val W1 a ha hB hLi hd
              simp [putL, Act.put] at ha
              subst ha
              simp [Region.binds] at hd
              obtain ⟨hold, hdone, hcond, p0, p1, p2, p3, p4, p5, p6, p7, p8, p9, p10, p11, p12, p13, p14, p15, p16, p18⟩ := hB
            case refine_1 =>
              go_simp
              simp only [StepOk, upd, valPut, ↓reduceIte, Nat.reduceEqDiff]
              and_intros
              all_goals first | assumption | (intro h; cases h; done) | (intro _; assumption) | (simp_all; done)
            case refine_2 =>
              go_simp
              simp only [StepOk, upd, valPut, ↓reduceIte, Nat.reduceEqDiff]
              and_intros
              all_goals first | assumption | (intro h; cases h; done) | (intro _; assumption) | (simp_all; done)
            case refine_3 =>
              go_simp
              simp only [StepOk, upd, valPut, ↓reduceIte, Nat.reduceEqDiff]
              and_intros
              all_goals first | assumption | (intro h; cases h; done) | (intro _; assumption) | (simp_all; done)
            case refine_4 =>
              go_simp
              simp only [StepOk, upd, valPut, ↓reduceIte, Nat.reduceEqDiff]
              and_intros
              all_goals first | assumption | (intro h; cases h; done) | (intro _; assumption) | (simp_all; done)
            case refine_5 =>
              have q3 := p3 (by simp [hd])
              have hC : L 17 = false := by cases hL : L 17 with | false => rfl | true => have := hcond hL; simp_all
              obtain ⟨ho, hv⟩ := hold hC
              have hcl := clone37 W1 G _ b (HB1.out.fr ho fun _ _ f => f) (by omega)
              go_simp
              show Calls Try.prog 37 _ W1 _
              refine hcl.mono ?_
              rintro e W2 ⟨v, rfl, hsl, ho2⟩
              obtain ⟨av, cv, ev, _, _⟩ := hsl.shape
              have ho' := ho.trans' ho2
              have hsl' := hsl.mono (G := fun x => w1.heap.size ≤ x) fun x hx => Nat.le_trans ho.size hx
              have hev : ∃ a n c, v = .slice a n c := ⟨av, _, cv, ev⟩
              clear hsl ho2 ev
              refine ⟨v, rfl, ?_⟩
              simp only [upd, valPut, ↓reduceIte, Nat.reduceEqDiff]
              and_intros
              all_goals first | assumption | (intro h; cases h; done) | (intro _; assumption) | (intro _; exact ⟨ho', fun _ => hsl'⟩) | (simp_all; done)
            case refine_6 =>
              have q2 := p2 (by simp [hd])
              obtain ⟨a8, n8, c8, e8⟩ := p4 (by simp [hd])
              have hL4 : L 4 = true := by simp [hd]
              go_simp
              simp only [StepOk, upd, valPut, ↓reduceIte, Nat.reduceEqDiff]
              and_intros
              all_goals first | assumption | (intro h; cases h; done) | (intro _; assumption) | (simp_all; done)
            case refine_7 =>
              obtain ⟨hL4, q5⟩ := p5 (by simp [hd])
              obtain ⟨a8, n8, c8, e8⟩ := p4 hL4
              go_simp
              simp only [StepOk, upd, valPut, ↓reduceIte, Nat.reduceEqDiff]
              and_intros
              all_goals first | assumption | (intro h; cases h; done) | (intro _; assumption) | (simp_all; done)
            case refine_8 =>
              go_simp
              simp only [StepOk, upd, valPut, ↓reduceIte, Nat.reduceEqDiff]
              and_intros
              all_goals first | assumption | (intro h; cases h; done) | (intro _; assumption) | (simp_all; done)
            case refine_9 =>
              have q7 := p7 (by simp [hd])
              go_simp
              simp only [StepOk, upd, valPut, ↓reduceIte, Nat.reduceEqDiff]
              and_intros
              all_goals first | assumption | (intro h; cases h; done) | (intro _; assumption) | (simp_all; done)
            case refine_10 =>
              have q8 := p8 (by simp [hd])
              go_simp
              simp only [StepOk, upd, valPut, ↓reduceIte, Nat.reduceEqDiff]
              and_intros
              all_goals first | assumption | (intro h; cases h; done) | (intro _; assumption) | (simp_all; done)
            case refine_11 =>
              have q9 := p9 (by simp [hd])
              have hC : L 17 = false := by cases hL : L 17 with | false => rfl | true => have := hcond hL; simp_all
              obtain ⟨ho, hv⟩ := hold hC
              have hN1 : W1.cell? ⟨p.2.blk, 2, none⟩ = some (.slice a (dataOf p.1).length c) := by rw [cell_cel] at hN ⊢; exact ho.cel hN fun f => f
              go_simp
              simp only [StepOk, upd, valPut, ↓reduceIte, Nat.reduceEqDiff]
              and_intros
              all_goals first | assumption | (intro h; cases h; done) | (intro _; assumption) | (simp_all; done)
            case refine_12 =>
              have q10 := p10 (by simp [hd])
              go_simp
              simp only [StepOk, upd, valPut, ↓reduceIte, Nat.reduceEqDiff]
              and_intros
              all_goals first | assumption | (intro h; cases h; done) | (intro _; assumption) | (simp_all; done)
            case refine_13 =>
              go_simp
              simp only [StepOk, upd, valPut, ↓reduceIte, Nat.reduceEqDiff]
              and_intros
              all_goals first | assumption | (intro h; cases h; done) | (intro _; assumption) | (simp_all; done)
            case refine_14 =>
              go_simp
              simp only [StepOk, upd, valPut, ↓reduceIte, Nat.reduceEqDiff]
              and_intros
              all_goals first | assumption | (intro h; cases h; done) | (intro _; assumption) | (simp_all; done)
            case refine_15 =>
              have q13 := p13 (by simp [hd])
              go_simp
              simp only [StepOk, upd, valPut, ↓reduceIte, Nat.reduceEqDiff]
              and_intros
              all_goals first | assumption | (intro h; cases h; done) | (intro _; assumption) | (simp_all; done)
            case refine_16 =>
              have q12 := p12 (by simp [hd])
              have q14 := p14 (by simp [hd])
              have hw : IntKind.i64.wrap ((pn : Int) + b.length) = pn + b.length := by rw [IntKind.wrap_i64]; omega
              go_simp
              simp only [StepOk, upd, valPut, ↓reduceIte, Nat.reduceEqDiff]
              and_intros
              all_goals first | assumption | (intro h; cases h; done) | (intro _; assumption) | (simp_all; done)
            case refine_17 =>
              obtain ⟨hL10, q11⟩ := p11 (by simp [hd])
              have q15 := p15 (by simp [hd])
              go_simp
              simp only [StepOk, upd, valPut, ↓reduceIte, Nat.reduceEqDiff]
              and_intros
              all_goals first | assumption | (intro h; cases h; done) | (intro _; assumption) | (simp_all; done)
            case refine_18 =>
              have q0 := p0 (by simp [hd])
              have q1 := p1 (by simp [hd])
              obtain ⟨hL4, q6⟩ := p6 (by simp [hd])
              obtain ⟨hL10, q16⟩ := p16 (by simp [hd])
              obtain ⟨ho, hv⟩ := hold hLi
              have hsl := hv hL4
              have hput := HP.out W1 ho (val 4) hsl
              have hall : L 4 = true ∧ L 10 = true := by simp [hL4, hL10]
              go_simp
              show Calls Try.prog 50 _ W1 _
              refine hput.mono ?_
              rintro e W2 ⟨v, rfl, hat⟩
              refine ⟨v, rfl, ?_⟩
              simp only [upd, valPut, ↓reduceIte, Nat.reduceEqDiff]
              and_intros
              all_goals first | assumption | (intro h; cases h; done) | (intro _; assumption) | (simp_all; done)
            case refine_19 =>
              go_simp
              simp only [StepOk, upd, valPut, ↓reduceIte, Nat.reduceEqDiff]
              and_intros
              all_goals first | assumption | (intro h; cases h; done) | (intro _; assumption) | (simp_all; done)
          case he =>
            intro L val W1 a ha hL hB
            simp [putL, Act.put] at ha
            subst ha
            obtain ⟨hold, hdone, hcond, hrest⟩ := hB
            have hfin := hdone (hL 17 (by decide))
            have h20 := (hrest.2.2.2.2.2.2.2.2.2.2.2.2.2.2.2.2.2 (hL 18 (by decide))).2
            have HFIN := Lib.hid hfin
            clear hold hdone hcond hrest hL hfin
            rw [h20]
            obtain ⟨v, hv⟩ : ∃ v, val 17 = v := ⟨_, rfl⟩
            rw [hv] at HFIN ⊢
            go_wp2
            go_ret
            rw [HR.out]
            exact HFIN.out.post HS.out
end
end Go.Proofs.Ytpdflncgemcniaa
namespace Go.Proofs.Ytpdflncgemcniaa
open Go.RowKit

def dropP (s : Bs) (ps : List FP) : List FP := ps.filter fun p => p.1.name != s

theorem datum_del (ps : List FP) (s : Bs) : (datum ps).del (.string s) = datum (dropP s ps) := by
  simp only [datum, DataW.del, dropP, List.filter_map]
  rfl

theorem insert_datum (p : FP) : ∀ ps : List FP, DataW.insert ((.string p.1.name, .lit (.int .i64 p.2.blk)) : Lit × DataW Unit) (ps.map fun p => (.string p.1.name, .lit (.int .i64 p.2.blk))) =
    (putBy FP.name p ps).map fun p => (.string p.1.name, .lit (.int .i64 p.2.blk))
  | [] => rfl
  | q :: ps => by
    simp only [List.map_cons, DataW.insert, putBy, Lit.before, before_eq]
    by_cases h : p.1.name < q.1.name
    · simp [h]
    · simp [h, insert_datum p ps]

theorem datum_put (ps : List FP) (p : FP) : (datum ps).put (.string p.1.name) (.lit (.int .i64 p.2.blk)) = datum (putBy FP.name p (dropP p.1.name ps)) := by
  simp only [datum, DataW.put, dropP, List.filter_map]
  exact congrArg DataW.map (insert_datum p _)

theorem mem_putBy {α : Type} {name : α → Bs} {x : α} {f : α} : ∀ {l : List α}, x ∈ putBy name f l ↔ x = f ∨ x ∈ l
  | [] => by simp [putBy]
  | g :: l => by
    simp only [putBy]
    split
    · simp
    · simp only [List.mem_cons, mem_putBy (l := l)]
      constructor
      · rintro (h | h | h) <;> simp [h]
      · rintro (h | h | h) <;> simp [h]

theorem pairwise_putBy {α : Type} {name : α → Bs} {R : α → α → Prop} {f : α} (hs : ∀ a b, R a b → R b a) : ∀ {l : List α}, (∀ g ∈ l, R f g) → l.Pairwise R → (putBy name f l).Pairwise R
  | [], _, _ => by simp [putBy]
  | g :: l, h, hp => by
    simp only [putBy]
    rw [List.pairwise_cons] at hp
    split
    · exact List.pairwise_cons.2 ⟨h, List.pairwise_cons.2 hp⟩
    · refine List.pairwise_cons.2 ⟨fun x hx => ?_, pairwise_putBy hs (fun x hx => h x (by simp [hx])) hp.2⟩
      rcases mem_putBy.1 hx with rfl | hx
      · exact hs _ _ (h g (by simp))
      · exact hp.1 x hx

theorem sorted_putBy {α : Type} {name : α → Bs} {f : α} : ∀ {l : List α}, (∀ g ∈ l, name g ≠ name f) → l.Pairwise (fun a b => name a < name b) → (putBy name f l).Pairwise fun a b => name a < name b
  | [], _, _ => by simp [putBy]
  | g :: l, h, hp => by
    simp only [putBy]
    rw [List.pairwise_cons] at hp
    split
    · rename_i hlt
      refine List.pairwise_cons.2 ⟨fun x hx => ?_, List.pairwise_cons.2 hp⟩
      rcases List.mem_cons.1 hx with rfl | hx
      · exact hlt
      · exact List.lt_trans hlt (hp.1 x hx)
    · rename_i hlt
      refine List.pairwise_cons.2 ⟨fun x hx => ?_, sorted_putBy (fun x hx => h x (by simp [hx])) hp.2⟩
      rcases mem_putBy.1 hx with rfl | hx
      · rcases List.le_iff_lt_or_eq.1 (List.not_lt.1 hlt) with h1 | h1
        · exact h1
        · exact absurd h1 (h g (by simp))
      · exact hp.1 x hx

theorem length_putBy {α : Type} {name : α → Bs} {f : α} : ∀ {l : List α}, (putBy name f l).length = l.length + 1
  | [] => rfl
  | g :: l => by
    simp only [putBy]
    split
    · rfl
    · simp [length_putBy (l := l)]

theorem dropP_map (s : Bs) (ps : List FP) : (dropP s ps).map Prod.fst = dropF s (ps.map Prod.fst) := by
  simp only [dropP, dropF, List.filter_map]
  rfl

theorem putP_map (p : FP) (ps : List FP) : (putBy FP.name p ps).map Prod.fst = putF p.1 (ps.map Prod.fst) := map_putBy Prod.fst (fun _ => rfl) p ps

section
variable {w w' : World} {d : Nat} {S : Dk} {r : DRep} {F : Nat → Prop}

/-- The files' map has turned, and nothing else. -/
theorem IsDisk.remap (s : IsDisk w.heap d S r F) (hf : Fr (fun b => b = r.mb) w w') {ps : List FP} (hm : OwnMap w'.heap r.mb (datum ps)) (hfiles : ∀ p ∈ ps, IsFile w.heap F p.1 p.2) (hap : ps.Pairwise apartF) :
    IsDisk w'.heap d { S with files := ps.map Prod.fst } { r with ps := ps } F := by
  have keep : ∀ b T, Tag w.heap b T → w'.heap[b]? = w.heap[b]? := fun b T t => hf.block b t.lt fun e => by subst e; exact s.map.noTag t
  exact {
    fits := rfl
    own := s.own
    blk := (keep d 56 s.blk.tag).trans s.blk
    keep := s.keep.kept fun b _ t => keep b 3 t
    fail := s.fail.kept fun b _ t => keep b 3 t
    full := s.full.kept fun b _ t => keep b 3 t
    mown := s.mown
    map := hm
    files := fun p hp => (hfiles p hp).kept (fun b _ t => keep b 5 t) (keep _ 72 (hfiles p hp).blk.tag) fun b e => keep b 107 ((hfiles p hp).tagC e).2
    apart := hap
    lt := fun b hb => Nat.lt_of_lt_of_le (s.lt b hb) hf.size }

theorem mapTurned_fr {w w' : World} {b : Nat} (h : w.mapTurned w' b) : Fr (fun x => x = b) w w' := (Fr.refl (fun x => x = b) w).grown h.grown fun k e _ => by cases e; rfl

/-- A file is struck. -/
theorem IsDisk.drop (s : IsDisk w.heap d S r F) (x : Bs) (h : w'.ownsMap Try.prog 9 ptrR r.mb (Maps.size (datum r.ps)) ((datum r.ps).del (.string x))) (hf : w.mapTurned w' r.mb) :
    IsDisk w'.heap d { S with files := dropF x S.files } { r with ps := dropP x r.ps } F := by
  rw [datum_del] at h
  have := s.remap (mapTurned_fr hf) (OwnMap.of h) (fun p hp => s.files p ((List.mem_filter.1 hp).1)) (s.apart.sublist List.filter_sublist)
  rw [dropP_map, s.fits] at this
  exact this

/-- A file is put. -/
theorem IsDisk.put (s : IsDisk w.heap d S r F) (p : FP) (hp : IsFile w.heap F p.1 p.2) (hap : ∀ q ∈ r.ps, q.1.name ≠ p.1.name → apartF p q) {n : Nat}
    (h : w'.ownsMap Try.prog 9 ptrR r.mb n ((datum r.ps).put (.string p.1.name) (.lit (.int .i64 p.2.blk)))) (hf : w.mapTurned w' r.mb) :
    IsDisk w'.heap d { S with files := putF p.1 (dropF p.1.name S.files) } { r with ps := putBy FP.name p (dropP p.1.name r.ps) } F := by
  rw [datum_put] at h
  have := s.remap (mapTurned_fr hf) (OwnMap.of h) (fun q hq => ?_) (pairwise_putBy (fun _ _ h => apartF_symm h) (fun q hq => ?_) (s.apart.sublist List.filter_sublist))
  · rw [putP_map, dropP_map, s.fits] at this
    exact this
  · rcases mem_putBy.1 hq with rfl | hq
    · exact hp
    · exact s.files q ((List.mem_filter.1 hq).1)
  · have := List.mem_filter.1 hq
    exact hap q this.1 (by simpa using this.2)
end
end Go.Proofs.Ytpdflncgemcniaa
namespace Go.Proofs.Ytpdflncgemcniaa
open Go.RowKit

section
variable {w : World} {d : Nat} {S : Dk} {r : DRep} {F : Nat → Prop}

set_option maxHeartbeats 2000000 in
set_option maxRecDepth 100000 in
theorem truncate24 (h : IsDisk w.heap d S r F) {K : Nat} (wf : Wf S K) (hK : K < 1000000) (s : ByteArray) (hs : s.size ≤ maxLen) (long : Int) :
    Calls Try.prog 24 #[.pointer (some ⟨d, 0, none⟩), .string s, .int .i64 long] w (OpPost w d F (onFile S s.data.toList (truncK long))) := by
  have hopen := open49 h wf hK s hs
  clear h
  go_enter Try.func24, Try.ntmps24
  go_wp2_with fail
  refine hopen.mono ?_
  rintro e w1 ⟨r1, F1, hd, hst, hres⟩
  rcases hres with ⟨hx, rfl⟩ | ⟨hx, hf, rfl⟩ | ⟨hx, p, hf, rfl⟩
  · have HR := Lib.hid (onFile_err (s := s.data.toList) (k := truncK long) hx)
    have HD := Lib.hid hd
    have HS := Lib.hid hst
    have HX := Lib.hid hx
    generalize hy : (begin S).1 = y at *
    have HY := Lib.hid hy
    clear hd hst hy
    go_wp2
    go_ret
    rw [HR.out]
    exact ⟨by rw [HY.out]; rfl, r1, F1, HD.out, HS.out⟩
  · have HR := Lib.hid (onFile_none (s := s.data.toList) (k := truncK long) hx (hd.noFile hf))
    have HD := Lib.hid hd
    have HS := Lib.hid hst
    clear hd hst hx hf
    go_wp2
    go_ret
    rw [HR.out]
    exact ⟨rfl, r1, F1, HD.out, HS.out⟩
  · have wf1 := wf.begin
    obtain ⟨hF, hmem, _, hfind⟩ := hd.file hf
    have hR0 := onFile_some (k := truncK long) hx hfind
    have hp := List.mem_of_find?_eq_some hf
    have HD := Lib.hid hd
    have HS := Lib.hid hst
    clear hd hst hx hf hF hfind hmem
    by_cases hneg : long < 0
    · have HR := Lib.hid (show onFile S s.data.toList (truncK long) = (1, (begin S).2) by rw [hR0]; unfold truncK; exact if_pos hneg)
      clear hR0
      go_wp2
      go_ret
      rw [HR.out]
      exact ⟨rfl, r1, F1, HD.out, HS.out⟩
    · by_cases hl1 : 268435456 < long
      · have HR := Lib.hid (show onFile S s.data.toList (truncK long) = (2, (begin S).2) by rw [hR0]; unfold truncK; rw [if_neg (by omega), if_pos hl1])
        clear hR0
        go_wp2
        go_ret
        rw [HR.out]
        exact ⟨rfl, r1, F1, HD.out, HS.out⟩
      · obtain ⟨ln, rfl⟩ := Int.eq_ofNat_of_zero_le (show 0 ≤ long by omega)
        have HR := Lib.hid (show onFile S s.data.toList (truncK ln) = change (begin S).2 p.1 (.cut ln) ln by rw [hR0]; unfold truncK; rw [if_neg (by omega), if_neg (by omega)]; simp only [Int.toNat_natCast])
        have hput := put50 HD.out wf1 (by omega) hp (.cut ln) (.iface 96 (.agg #[.int .i64 ln])) rfl (show ln ≤ 268435456 by omega) ln (by omega)
        clear hR0 wf1
        go_wp2_with fail
        refine hput.mono ?_
        rintro e w2 ⟨rfl, r', F', hd2, hs2⟩
        have HFIN := Lib.hid (And.intro hd2 hs2)
        clear hd2 hs2
        go_wp2
        go_ret
        rw [HR.out]
        exact ⟨rfl, r', F', HFIN.out.1, HS.out.trans HFIN.out.2⟩

set_option maxHeartbeats 2000000 in
set_option maxRecDepth 100000 in
theorem sync17 (h : IsDisk w.heap d S r F) {K : Nat} (wf : Wf S K) (hK : K < 1000000) (s : ByteArray) (hs : s.size ≤ maxLen) :
    Calls Try.prog 17 #[.pointer (some ⟨d, 0, none⟩), .string s] w (OpPost w d F (onFile S s.data.toList syncK)) := by
  have hopen := open49 h wf hK s hs
  clear h
  go_enter Try.func17, Try.ntmps17
  go_wp2_with fail
  refine hopen.mono ?_
  rintro e w1 ⟨r1, F1, hd, hst, hres⟩
  rcases hres with ⟨hx, rfl⟩ | ⟨hx, hf, rfl⟩ | ⟨hx, p, hf, rfl⟩
  · have HR := Lib.hid (onFile_err (s := s.data.toList) (k := syncK) hx)
    have HD := Lib.hid hd
    have HS := Lib.hid hst
    have HX := Lib.hid hx
    generalize hy : (begin S).1 = y at *
    have HY := Lib.hid hy
    clear hd hst hy
    go_wp2
    go_ret
    rw [HR.out]
    exact ⟨by rw [HY.out]; rfl, r1, F1, HD.out, HS.out⟩
  · have HR := Lib.hid (onFile_none (s := s.data.toList) (k := syncK) hx (hd.noFile hf))
    have HD := Lib.hid hd
    have HS := Lib.hid hst
    clear hd hst hx hf
    go_wp2
    go_ret
    rw [HR.out]
    exact ⟨rfl, r1, F1, HD.out, HS.out⟩
  · have wf1 := wf.begin
    obtain ⟨hF, hmem, _, hfind⟩ := hd.file hf
    have HR := Lib.hid (show onFile S s.data.toList syncK = (0, { (begin S).2 with files := setF { p.1 with safe := dataOf p.1, chs := [] } (begin S).2.files }) from onFile_some (k := syncK) hx hfind)
    have hp := List.mem_of_find?_eq_some hf
    obtain ⟨q1, q2⟩ := hF.blk.rules
    obtain ⟨a, c, e, hc, _⟩ := hF.now.shape
    rw [e] at q1
    have hst1 : Fr (fun b => b = p.2.blk) w1 ((w1.setCell ⟨p.2.blk, 0, none⟩ (.slice a (dataOf p.1).length c)).setCell ⟨p.2.blk, 1, none⟩ (.slice none 0 0)) := (Fr.store w1 p.2.blk 0 _).setCell (fun _ => rfl) _
    have hblk := (hF.blk.set 0 (.slice a (dataOf p.1).length c)).set 1 (.slice none 0 0)
    simp only [List.setIfInBounds_toArray, List.set_cons_zero, List.set_cons_succ] at hblk
    have tq := hF.blk.tag
    have hnow := hF.now.frt hst1 fun b _ t e => by subst e; exact absurd (t.eq tq) (by decide)
    have hnow' := hnow.mono (G := fun b => F1 b ∨ w1.heap.size ≤ b) fun b h => .inl h
    have hres := hd.reset (f' := { p.1 with safe := dataOf p.1, chs := [] }) (q' := ⟨p.2.blk, .slice a (dataOf p.1).length c, .slice none 0 0, p.2.vn, []⟩) wf1 hp rfl rfl hst1.size (fun b hb h1 _ => hst1.block b (hd.lt b hb) h1) (by
      exact {
        fits := rfl
        own := .inl hF.own
        blk := hblk
        safe := by have h := hnow'; rw [e] at h; exact h
        now := hnow'
        row := OwnRow.nil
        chs := fun p hp => by cases hp }) (fun b e => by simp [Value.ownBlock] at e)
    have hfr1 : Fr F1 w1 _ := hst1.mono fun b _ e => by subst e; exact hF.own
    have HRES := Lib.hid hres
    have HFR := Lib.hid hfr1
    have HS := Lib.hid hst
    clear hd hst hx hf hF hfind hmem e hblk hst1 hnow hnow' hres hfr1 wf1 tq
    go_wp2
    go_ret
    rw [HR.out]
    obtain ⟨r', F', i1, i2⟩ := HRES.out
    exact ⟨rfl, r', F', i1, HS.out.trans ⟨HFR.out, i2⟩⟩
end
end Go.Proofs.Ytpdflncgemcniaa
