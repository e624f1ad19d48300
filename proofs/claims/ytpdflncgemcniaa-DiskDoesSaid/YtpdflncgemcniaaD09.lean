/- PROVED HERE: the contract of a death: the walk. No conditions beyond the premises that each theorem names. -/
import Derived.Test.YtpdflncgemcniaaD08
namespace Go.Proofs.Ytpdflncgemcniaa
open Go.RowKit

theorem IsFile.rowShape {h : Array Obj} {F : Nat → Prop} {f : Fl} {q : FRep} (s : IsFile h F f q) : ∃ a c, q.vc = .slice a f.chs.length c ∧ f.chs.length ≤ c ∧
    ∀ (j : Nat) (p : Ch × Value), q.cs[j]? = some p → ∃ g, a = some ⟨g, 0, none⟩ ∧ F g ∧ Tag h g 107 ∧ cel h g j = some p.2 := by
  have hl : q.cs.length = f.chs.length := by rw [← s.fits, List.length_map]
  rcases s.row.shape with ⟨e, h0⟩ | ⟨g, cap, e, hc, hF, hown⟩
  · have : q.cs = [] := List.eq_nil_of_length_eq_zero h0
    have h1 : f.chs.length = 0 := by omega
    exact ⟨none, 0, by rw [e, h1], by omega, fun j p hp => by rw [this] at hp; simp at hp⟩
  · exact ⟨some ⟨g, 0, none⟩, cap, by rw [e, hl], by omega, fun j p hp => ⟨g, rfl, (s.tagC hown).1, (s.tagC hown).2, s.row.cell hown (by rw [List.getElem?_map, hp]; rfl)⟩⟩

abbrev SlB (h : Array Obj) (F : Nat → Prop) (v : Value) (l : Bs) : Prop := SlT 5 u8 h F v l

section
variable {w : World} {d : Nat} {S : Dk} {r : DRep} {F : Nat → Prop}

set_option maxHeartbeats 4000000 in
set_option maxRecDepth 100000 in
theorem die51 (h : IsDisk w.heap d S r F) {K : Nat} (wf : Wf S K) (hK : K ≤ 1000000) :
    Calls Try.prog 51 #[.pointer (some ⟨d, 0, none⟩)] w (DiePost w d S F) := by
  have o0 : Old w ((w.alloc (.cells #[.pointer (some ⟨d, 0, none⟩)] 29)).alloc (.cells #[.int .i64 0] 3)) := ((Fr.refl _ _).alloc _).alloc _
  have hd0 := h.fr o0 fun _ _ f => f
  have bA := blk_old (blk_new w #[.pointer (some ⟨d, 0, none⟩)] 29) (.cells #[.int .i64 0] 3)
  have bB := blk_new (w.alloc (.cells #[.pointer (some ⟨d, 0, none⟩)] 29)) #[.int .i64 0] 3
  rw [World.size_alloc] at bB
  have hnl : (namesOf S).length = S.files.length := by simp [namesOf]
  have hnm := (names68 hd0 wf hK).mono (R' := fun e w1 => ∃ a c, e = .returned (.slice a S.files.length c) ∧ S.files.length ≤ c ∧
      SlT 9 encStr w1.heap (fun b => w.heap.size + 2 ≤ b) (.slice a S.files.length c) (namesOf S) ∧
      Old ((w.alloc (.cells #[.pointer (some ⟨d, 0, none⟩)] 29)).alloc (.cells #[.int .i64 0] 3)) w1) (by
    rintro e w1 ⟨v, rfl, hsl, hold⟩
    obtain ⟨a, c, rfl, hc, _⟩ := hsl.shape
    rw [hnl] at hc hsl ⊢
    have hz1 : ((w.alloc (.cells #[.pointer (some ⟨d, 0, none⟩)] 29)).alloc (.cells #[.int .i64 0] 3)).heap.size = w.heap.size + 2 := by simp
    rw [hz1] at hsl
    exact ⟨a, c, rfl, hc, hsl, hold⟩)
  have HLT := Lib.hid h.lt
  have HFIT := Lib.hid h.fits
  have HFIND := Lib.hid (fun k f q hk => h.find wf (k := k) (f := f) (q := q) hk)
  have hlen : r.ps.length = S.files.length := by rw [← h.fits, List.length_map]
  clear h
  obtain ⟨rA, _⟩ := bA.rules
  have A0 := rA 0
  simp only [List.size_toArray, List.length_cons, List.length_nil, Nat.zero_add, Nat.lt_add_one, getElem?_pos, List.getElem_toArray, List.getElem_cons_zero] at A0
  clear rA
  have hfew := wf.few
  have HWF := Lib.hid wf
  clear wf
  go_enter Try.func51, Try.ntmps51
  go_wp2_with (go_at_call 68; refine hnm.mono ?_; rintro e w1 ⟨av, cv, rfl, hcv, hsl, hold⟩)
  have hD0 : DieAt w w1 d S r F (.slice av S.files.length cv) K 0 [] 0 F := {
    disk := by simpa using hd0.fr hold fun _ _ f => f
    own := fun b h => .inl h
    fr := Old.fr (o0.trans' hold)
    bA := bA.fr hold fun f => f
    bB := bB.fr hold fun f => f
    names := hsl
    fits := by simp
    dat := by simp
    few := Nat.zero_le _
    base := HLT.out }
  have HD0 := Lib.hid hD0
  clear hD0 hd0 bA bB hnm hold hsl A0 o0 hnl
  go_wp2_with fail
  go_loopw [14] (fun i wr => ∃ (k : Nat) (ps1 : List FP) (cnt : Nat) (F' : Nat → Prop), i = .int .i64 k ∧ k ≤ S.files.length ∧ DieAt w wr d S r F (.slice av S.files.length cv) K k ps1 cnt F') (fun i _ => S.files.length - (intOf i).toNat)
  case atStart => exact ⟨0, [], 0, F, rfl, Nat.zero_le _, HD0.out⟩
  case round =>
    obtain ⟨k, ps1, cnt, F', rfl, hk, hD⟩ := hrel
    by_cases hlt : k < S.files.length
    · obtain ⟨p, hp⟩ : ∃ p, r.ps[k]? = some p := ⟨_, List.getElem?_eq_getElem (by omega)⟩
      obtain ⟨f, q⟩ := p
      have hfk : S.files[k]? = some f := by rw [← HFIT.out, List.getElem?_map, hp]; rfl
      have hfl := HWF.out.each f (List.mem_of_getElem? hfk)
      obtain ⟨nb, no, rfl, hname⟩ := hD.names.at_cell (k := k) (x := f.name) (by unfold namesOf; rw [List.getElem?_map, hfk]; rfl)
      have hlk := look_run (w := wr) (mb := r.mb) (ps := r.ps) (by rw [← hD.dat]; exact hD.disk.map) ⟨f.name.toArray⟩ (by have := hfl.name; simp only [ByteArray.size, List.size_toArray, maxLen]; omega)
      rw [show (⟨f.name.toArray⟩ : ByteArray).data.toList = f.name from rfl, HFIND.out k f q hp] at hlk
      have hname : wr.cell? ⟨nb, no + k, none⟩ = some (.string ⟨f.name.toArray⟩) := hname
      have hF := hD.file hp
      obtain ⟨ac, cc, hvc, hcc, hcells⟩ := hF.rowShape
      have HCELLS := Lib.hid hcells
      have hin0 := hD.start hp hfl.safe
      have HIN0 := Lib.hid hin0
      obtain ⟨rA, _⟩ := hD.bA.rules
      have A0 := rA 0
      simp only [List.size_toArray, List.length_cons, List.length_nil, Nat.zero_add, Nat.lt_add_one, getElem?_pos, List.getElem_toArray, List.getElem_cons_zero] at A0
      obtain ⟨rD, rF⟩ := hD.disk.blk.rules
      have D8 : wr.cell? ⟨d, 8, none⟩ = some (.map (some r.mb)) := rD 8
      have hblk := hF.blk
      obtain ⟨rQ, _⟩ := hblk.rules
      have Q1 : wr.cell? ⟨q.blk, 1, none⟩ = some (.slice ac f.chs.length cc) := by rw [rQ, hvc]; rfl
      clear hvc
      have hchs := hfl.chs
      have HD := Lib.hid hD
      have HFL := Lib.hid hfl
      clear rA rD rF rQ hblk hin0 hcells hF hfk hD hfl
      go_wp2_with fail
      rename World => wi
      go_loopw [29] (fun i w2 => ∃ (j : Nat) (cnt' : Nat) (vs' : Value) (acc : Bs), i = .int .i64 j ∧ j ≤ f.chs.length ∧ DieIn wi w2 F' S.plan.keep f q (w.heap.size + 1) cnt j cnt' vs' acc) (fun i _ => f.chs.length - (intOf i).toNat)
      case atStart => exact ⟨0, cnt, q.vs, f.safe, rfl, Nat.zero_le _, HIN0.out⟩
      case round =>
        obtain ⟨j, cnt', vs', acc, rfl, hj, hI⟩ := hrel
        by_cases hjl : j < f.chs.length
        · obtain ⟨cp, hcp⟩ : ∃ p, q.cs[j]? = some p := ⟨_, List.getElem?_eq_getElem (by have := (HD.out.file hp).fits; rw [← this, List.length_map] at hjl; exact hjl)⟩
          obtain ⟨c, raw⟩ := cp
          have hcj : f.chs[j]? = some c := by rw [← (HD.out.file hp).fits, List.getElem?_map, hcp]; rfl
          have hok := HFL.out.each c (List.mem_of_getElem? hcj)
          obtain ⟨g, rfl, hg, tg, hcel⟩ := HCELLS.out j _ hcp
          have tq := (HD.out.file hp).blk.tag
          have hkeep : ∀ b T, Tag wi.heap b T → F' b → T ≠ 72 → wr.heap[b]? = wi.heap[b]? := fun b T t hb hT => hI.fr.block b t.lt fun e => by
            rcases e with e | e
            · subst e; exact hT (t.eq tq)
            · rcases HD.out.own b hb with h | h
              · have := HLT.out b h; omega
              · omega
          have hraw : IsCh wr.heap F' raw c := ((HD.out.file hp).chs _ (List.mem_of_getElem? hcp)).kept fun b hb t => hkeep b 5 t hb (by decide)
          have hcell : wr.cell? ⟨g, j, none⟩ = some raw := by rw [cell_cel, cel_eq (hkeep g 107 tg hg (by decide))]; exact hcel
          obtain ⟨T, x, fn, rfl, hM, hsv⟩ := sv_any hraw hok
          obtain ⟨m1, m2, m3⟩ := hM
          have tq2 := hI.blk.tag
          have tB := hI.bB.tag
          have hbound : cnt' ≤ 1000000000000000 := by
            have h1 := hI.few
            have h2 := HD.out.few
            have h3 : k * K ≤ 1000000 * 1000000 := Nat.mul_le_mul (by omega) hK
            omega
          have tA : Tag wr.heap w.heap.size 29 := HD.out.bA.tag.kept (hI.fr.block _ HD.out.bA.lt fun e => by
            rcases e with e | e
            · have t := HD.out.bA.tag
              rw [e] at t
              exact absurd (t.eq tq) (by decide)
            · omega)
          have hAb : Blk wr.heap w.heap.size #[.pointer (some ⟨d, 0, none⟩)] 29 := HD.out.bA.fr hI.fr fun e => by
            rcases e with e | e
            · have t := HD.out.bA.tag
              rw [e] at t
              exact absurd (t.eq tq) (by decide)
            · omega
          have hdB : d ≠ w.heap.size + 1 := by
            rcases HD.out.own d HD.out.disk.own with h | h
            · have := HLT.out d h; omega
            · omega
          have hFB : ∀ b, F' b → b ≠ w.heap.size + 1 := fun b hb => by
            rcases HD.out.own b hb with h | h
            · have := HLT.out b h; omega
            · omega
          have hdb : Blk wr.heap d _ 56 := (hkeep d 56 HD.out.disk.blk.tag HD.out.disk.own (by decide)).trans HD.out.disk.blk
          have hkp : SlT 3 iv wr.heap F' r.k S.plan.keep := HD.out.disk.keep.kept fun b hb t => hkeep b 3 t hb (by decide)
          have hBb := hI.bB
          have HI := Lib.hid hI
          have HRAW := Lib.hid hraw
          have HSV := Lib.hid hsv
          have HKEEP := Lib.hid hkeep
          have hwide : -9223372036854775808 ≤ keepAt S.plan.keep cnt' ∧ keepAt S.plan.keep cnt' < 9223372036854775808 := by
            unfold keepAt
            rw [List.getD_eq_getElem?_getD]
            cases hq : S.plan.keep[cnt' % S.plan.keep.length]? with
            | none => simp
            | some y => exact HWF.out.plan.wide y (List.mem_of_getElem? hq)
          have hpk := HWF.out.plan.keep
          have H1 := Lib.hid (And.intro hAb (And.intro hdb (And.intro hkp hBb)))
          clear hI hraw hsv hkeep hdb hAb hcel hcp hg tg hkp hBb
          go_wp2_with fail
          refine wp_region_lits (by kernel_rfl) (by kernel_rfl) (fun L val W1 => Fr (fun b => b = w.heap.size + 1) wr W1 ∧
            (L 2 = false → Blk W1.heap (w.heap.size + 1) #[.int .i64 cnt'] 3) ∧ (L 2 = true → Blk W1.heap (w.heap.size + 1) #[.int .i64 (keepOn S.plan.keep cnt' 1)] 3 ∧ val 2 = .int .i64 (keepAt S.plan.keep cnt')) ∧
            (L 6 = true → L 2 = true ∧ RawOf W1.heap F' (val 6) (survivor (keepAt S.plan.keep cnt') c)) ∧
            (L 0 = true → val 0 = .iface T x) ∧ (L 1 = true → val 1 = .func (.func 67) #[] #[.pointer (some ⟨w.heap.size, 0, none⟩), .pointer (some ⟨w.heap.size + 1, 0, none⟩)]) ∧
            (L 3 = true → val 3 = .func (.method "cairn/disk.survivor") #[.iface T x] #[]) ∧ (L 4 = true → val 4 = .func (.method "cairn/disk.survivor") #[.iface T x] #[]) ∧ (L 5 = true → val 5 = .iface T x) ∧
            (L 7 = true → L 6 = true ∧ val 7 = val 6)) ?h0 ?hs ?he
          case h0 => exact ⟨(Fr.refl _ _).drew, fun _ => H1.out.2.2.2, by simp⟩
          case hs =>
            refine ⟨?_, ?_, ?_, ?_, ?_, ?_, ?_, ?_, trivial⟩
            all_goals
              intro L val W1 a ha hB hLi hd
              simp [putL, Act.put] at ha
              subst ha
              simp [Region.binds] at hd
              obtain ⟨hfr, hb0, hb2, p6, p0, p1, p3, p4, p5, p7⟩ := hB
            case refine_1 =>
              go_simp
              simp only [StepOk, upd, valPut, ↓reduceIte, Nat.reduceEqDiff]
              and_intros
              all_goals first | assumption | (intro h; cases h; done) | (intro _; assumption) | (simp_all; done)
            case refine_2 =>
              go_simp
              simp only [StepOk, upd, valPut, ↓reduceIte, Nat.reduceEqDiff]
              and_intros
              all_goals first | assumption | (intro h; cases h; done) | (intro _; assumption) | (simp_all; done)
            case refine_3 =>
              have q1 := p1 (by simp [hd])
              have hB1 := hb0 hLi
              have hA1 := H1.out.1.fr hfr (by omega)
              have hd1 := H1.out.2.1.fr hfr hdB
              have hk1 := H1.out.2.2.1.frt hfr fun b hb _ => hFB b hb
              have hnx := next67 W1 F' w.heap.size (w.heap.size + 1) d _ r.k S.plan.keep cnt' hA1 hB1 hd1 rfl hk1.at hbound hpk
              go_simp
              show Calls Try.prog 67 _ W1 _
              refine hnx.mono ?_
              rintro e W2 ⟨rfl, hB2, hfr2⟩
              have hfr' := hfr.trans' hfr2
              refine ⟨_, rfl, ?_⟩
              simp only [upd, valPut, ↓reduceIte, Nat.reduceEqDiff]
              refine ⟨hfr', fun h => by simp at h, fun _ => ⟨hB2, trivial⟩, fun h => ?_, p0, p1, p3, p4, p5, p7⟩
              have := (p6 h).1
              rw [hLi] at this
              cases this
            case refine_4 =>
              have q0 := p0 (by simp [hd])
              go_simp
              simp only [StepOk, upd, valPut, ↓reduceIte, Nat.reduceEqDiff]
              and_intros
              all_goals first | assumption | (intro h; cases h; done) | (intro _; assumption) | (simp_all; done)
            case refine_5 =>
              have q3 := p3 (by simp [hd])
              go_simp
              simp only [StepOk, upd, valPut, ↓reduceIte, Nat.reduceEqDiff]
              and_intros
              all_goals first | assumption | (intro h; cases h; done) | (intro _; assumption) | (simp_all; done)
            case refine_6 =>
              have q0 := p0 (by simp [hd])
              go_simp
              simp only [StepOk, upd, valPut, ↓reduceIte, Nat.reduceEqDiff]
              and_intros
              all_goals first | assumption | (intro h; cases h; done) | (intro _; assumption) | (simp_all; done)
            case refine_7 =>
              have q5 := p5 (by simp [hd])
              obtain ⟨hb2', q2⟩ := hb2 (by simp [hd])
              have hraw1 : IsCh W1.heap F' (.iface T x) c := HRAW.out.kept fun b hb t => hfr.block b t.lt (hFB b hb)
              have hc := HSV.out W1 _ hraw1 hwide
              go_simp
              show Calls Try.prog fn _ W1 _
              refine hc.mono ?_
              rintro e W2 ⟨raw, rfl, hR, ho⟩
              have hfr' := hfr.trans ho fun _ _ f => f.elim
              have hb2'' := hb2'.fr ho fun f => f
              have hL : L 2 = true := by simp [hd]
              refine ⟨_, rfl, ?_⟩
              simp only [upd, valPut, ↓reduceIte, Nat.reduceEqDiff]
              refine ⟨hfr', fun h => by simp [hL] at h, fun _ => ⟨hb2'', q2⟩, fun _ => ⟨hL, hR⟩, p0, p1, p3, p4, p5, fun h => ?_⟩
              have := (p7 h).1
              rw [hLi] at this
              cases this
            case refine_8 =>
              have hL : L 6 = true := by simp [hd]
              go_simp
              simp only [StepOk, upd, valPut, ↓reduceIte, Nat.reduceEqDiff]
              and_intros
              all_goals first | assumption | (intro h; cases h; done) | (intro _; assumption) | (simp_all; done)
          case he =>
            intro L val W1 a ha hL hB
            simp [putL, Act.put] at ha
            subst ha
            obtain ⟨hfr, hb0, hb2, p6, p0, p1, p3, p4, p5, p7⟩ := hB
            have hB1 := (hb2 (hL 2 (by decide))).1
            have hR := (p6 (hL 6 (by decide))).2
            have e7 := (p7 (hL 7 (by decide))).2
            rw [e7]
            have e0 := p0 (hL 0 (by decide))
            clear p0 p1 p3 p4 p5 p6 p7 e7 hb0 hb2 e0 hL
            generalize val 6 = raw6 at *
            have hI := HI.out
            have hfrI : Fr (fun b => b = q.blk ∨ b = w.heap.size + 1) wi W1 := hI.fr.trans hfr fun b _ h => .inr h
            have hblk1 := hI.blk.fr hfr fun e => by
              rw [e] at tq2
              exact absurd (tq2.eq tB) (by decide)
            have hsafe1 := hI.safe.frt hfr fun b _ t e => by
              subst e
              exact absurd (t.eq tB) (by decide)
            have hdrop : f.chs.drop j = c :: f.chs.drop (j + 1) := drop_at hcj
            have hfits := hI.fits
            rw [hdrop] at hfits
            have hnum := hI.num
            have hlong := hI.long
            have hnum' : keepOn S.plan.keep (keepOn S.plan.keep cnt' 1) (f.chs.length - (j + 1)) = keepOn S.plan.keep cnt f.chs.length := by
              rw [keepOn_add, ← hnum]; congr 1; omega
            have hfew' : keepOn S.plan.keep cnt' 1 ≤ cnt + (j + 1) := by
              have := hI.few
              have := keepOn_le S.plan.keep cnt' 1
              omega
            simp only [dieChs] at hfits
            cases hsurv : survivor (keepAt S.plan.keep cnt') c with
            | none =>
              rw [hsurv] at hR hfits
              obtain rfl := hR
              simp only [] at hfits
              have hnew : DieIn wi W1 F' S.plan.keep f q (w.heap.size + 1) cnt (j + 1) (keepOn S.plan.keep cnt' 1) vs' acc := ⟨hfrI, hblk1, hB1, hsafe1, hlong, hfits, hnum', hfew'⟩
              have HN := Lib.hid hnew
              clear hnew hfrI hblk1 hsafe1 hdrop hfits hnum hnum' hfew' hsurv hB1 hI hfr
              go_wp2
              go_roundw
              case rel => exact ⟨j + 1, _, _, _, by go_num, by omega, HN.out⟩
              case measure => simp [intOf]; omega
            | some c' =>
              rw [hsurv] at hR hfits
              simp only [] at hfits
              have hok' := survivor_ok hsurv hok
              have hR : IsCh W1.heap F' raw6 c' := hR
              obtain ⟨T2, x2, fn2, rfl, hM2, hap⟩ := ap_any hR hok'
              obtain ⟨n1, n2, n3⟩ := hM2
              have hlong' := applyCh_le hlong hok'
              have hFsz : ∀ b, F' b → b < wi.heap.size := HD.out.disk.lt
              have hszI := hfrI.size
              have hgo : ∀ W2 vs2, Fr (fun b => b = q.blk) W1 W2 → Blk W2.heap q.blk #[vs2, q.vc, q.vn] 72 → SlB W2.heap (fun b => W1.heap.size ≤ b) vs2 (applyCh acc c') →
                  DieIn wi W2 F' S.plan.keep f q (w.heap.size + 1) cnt (j + 1) (keepOn S.plan.keep cnt' 1) vs2 (applyCh acc c') := fun W2 vs2 hf2 hb2 hs2 =>
                ⟨hfrI.trans hf2 fun b _ h => .inl h, hb2, hB1.fr hf2 fun e => by rw [← e] at tq2; exact absurd (tq2.eq tB) (by decide), hs2.mono fun b h => .inr (by omega), hlong', hfits, hnum', hfew'⟩
              have HGO := Lib.hid hgo
              have HAP := Lib.hid hap
              have HSAFE := Lib.hid hsafe1
              have HR := Lib.hid hR
              have t72 := hblk1.tag
              clear hgo hap hsafe1 hR hfrI hdrop hfits hnum hnum' hfew' hsurv hB1 hI hfr
              go_wp2_with fail
              refine wp_region_lits (by kernel_rfl) (by kernel_rfl) (fun L val W3 => Fr (fun b => b = q.blk) W1 W3 ∧
                (L 12 = false → Blk W3.heap q.blk #[vs', q.vc, q.vn] 72) ∧ (L 12 = true → Blk W3.heap q.blk #[val 9, q.vc, q.vn] 72) ∧ (L 12 = true → L 5 = true ∧ L 9 = true) ∧
                (L 9 = true → SlB W3.heap (fun b => W1.heap.size ≤ b) (val 9) (applyCh acc c') ∧ ∃ a n c, val 9 = .slice a n c) ∧
                (L 0 = true → val 0 = .pointer (some ⟨q.blk, 0, none⟩)) ∧ (L 1 = true → val 1 = .iface T2 x2) ∧ (L 2 = true → val 2 = .pointer (some ⟨q.blk, 0, none⟩)) ∧ (L 3 = true → val 3 = .pointer (some ⟨q.blk, 0, none⟩)) ∧
                (L 4 = true → val 4 = .pointer (some ⟨q.blk, 0, none⟩)) ∧ (L 5 = true → val 5 = vs') ∧ (L 6 = true → val 6 = .func (.method "cairn/disk.apply") #[.iface T2 x2] #[]) ∧
                (L 7 = true → val 7 = .func (.method "cairn/disk.apply") #[.iface T2 x2] #[]) ∧ (L 8 = true → val 8 = .iface T2 x2) ∧ (L 10 = true → val 10 = .pointer (some ⟨q.blk, 0, none⟩)) ∧ (L 11 = true → val 11 = .pointer (some ⟨q.blk, 0, none⟩))) ?h0 ?hs ?he
              case h0 => exact ⟨(Fr.refl _ _).drew, fun _ => hblk1, by simp⟩
              case hs =>
                refine ⟨?_, ?_, ?_, ?_, ?_, ?_, ?_, ?_, ?_, ?_, ?_, ?_, ?_, trivial⟩
                all_goals
                  intro L val W3 a ha hB hLi hd
                  simp [putL, Act.put] at ha
                  subst ha
                  simp [Region.binds] at hd
                  obtain ⟨hfr, hb0, hb1, c12, p9, p0, p1, p2, p3, p4, p5, p6, p7, p8, p10, p11⟩ := hB
                case refine_1 =>
                  go_simp
                  simp only [StepOk, upd, valPut, ↓reduceIte, Nat.reduceEqDiff]
                  and_intros
                  all_goals first | assumption | (intro h; cases h; done) | (intro _; assumption) | (simp_all; done)
                case refine_2 =>
                  go_simp
                  simp only [StepOk, upd, valPut, ↓reduceIte, Nat.reduceEqDiff]
                  and_intros
                  all_goals first | assumption | (intro h; cases h; done) | (intro _; assumption) | (simp_all; done)
                case refine_3 =>
                  go_simp
                  simp only [StepOk, upd, valPut, ↓reduceIte, Nat.reduceEqDiff]
                  and_intros
                  all_goals first | assumption | (intro h; cases h; done) | (intro _; assumption) | (simp_all; done)
                case refine_4 =>
                  have q2 := p2 (by simp [hd])
                  go_simp
                  simp only [StepOk, upd, valPut, ↓reduceIte, Nat.reduceEqDiff]
                  and_intros
                  all_goals first | assumption | (intro h; cases h; done) | (intro _; assumption) | (simp_all; done)
                case refine_5 =>
                  have q3 := p3 (by simp [hd])
                  go_simp
                  simp only [StepOk, upd, valPut, ↓reduceIte, Nat.reduceEqDiff]
                  and_intros
                  all_goals first | assumption | (intro h; cases h; done) | (intro _; assumption) | (simp_all; done)
                case refine_6 =>
                  have q4 := p4 (by simp [hd])
                  have hL : L 12 = false := by cases hL : L 12 with | false => rfl | true => have := (c12 hL).1; rw [this] at hLi; cases hLi
                  obtain ⟨r1, r2⟩ := (hb0 hL).rules
                  go_simp
                  simp only [StepOk, upd, valPut, ↓reduceIte, Nat.reduceEqDiff]
                  and_intros
                  all_goals first | assumption | (intro h; cases h; done) | (intro _; assumption) | (simp_all; done)
                case refine_7 =>
                  have q1 := p1 (by simp [hd])
                  go_simp
                  simp only [StepOk, upd, valPut, ↓reduceIte, Nat.reduceEqDiff]
                  and_intros
                  all_goals first | assumption | (intro h; cases h; done) | (intro _; assumption) | (simp_all; done)
                case refine_8 =>
                  have q6 := p6 (by simp [hd])
                  go_simp
                  simp only [StepOk, upd, valPut, ↓reduceIte, Nat.reduceEqDiff]
                  and_intros
                  all_goals first | assumption | (intro h; cases h; done) | (intro _; assumption) | (simp_all; done)
                case refine_9 =>
                  have q1 := p1 (by simp [hd])
                  go_simp
                  simp only [StepOk, upd, valPut, ↓reduceIte, Nat.reduceEqDiff]
                  and_intros
                  all_goals first | assumption | (intro h; cases h; done) | (intro _; assumption) | (simp_all; done)
                case refine_10 =>
                  have q8 := p8 (by simp [hd])
                  have q5 := p5 (by simp [hd])
                  have hL : L 12 = false := by cases hL : L 12 with | false => rfl | true => have := (c12 hL).2; rw [this] at hLi; cases hLi
                  have k1 : IsCh W3.heap F' (.iface T2 x2) c' := HR.out.kept fun b _ t => hfr.block b t.lt fun e => by subst e; exact absurd (t.eq t72) (by decide)
                  have k2 := ((HSAFE.out.frt hfr fun b _ t e => by subst e; exact absurd (t.eq t72) (by decide)).monot (G := fun b => F' b ∨ (wi.heap.size ≤ b ∧ b < W3.heap.size)) fun b h t => by
                    rcases h with h | h
                    · exact .inl h
                    · exact .inr ⟨h, t.lt⟩).at
                  have hsz := hfr.size
                  have k3 := HAP.out W3 _ vs' acc k1 k2 hlong (fun b h => .inl h) (fun b h => by
                    rcases h with h | h
                    · have := hFsz b h; omega
                    · exact h.2)
                  go_simp
                  show Calls Try.prog fn2 _ W3 _
                  refine k3.mono ?_
                  intro e W4 hfresh
                  obtain ⟨v, rfl, hsl, hold, hshape⟩ := hfresh.sl
                  have hfr' := hfr.trans hold fun _ _ f => f.elim
                  have hb0' := (hb0 hL).fr hold fun f => f
                  have hsl' := hsl.mono (G := fun b => W1.heap.size ≤ b) fun b h => by omega
                  refine ⟨v, rfl, ?_⟩
                  simp only [upd, valPut, ↓reduceIte, Nat.reduceEqDiff]
                  refine ⟨hfr', fun _ => hb0', fun (h : L 12 = true) => absurd h (by simp [hL]), fun (h : L 12 = true) => absurd h (by simp [hL]), fun _ => ⟨hsl', hshape⟩, p0, p1, p2, p3, p4, p5, p6, p7, p8, p10, p11⟩
                case refine_11 =>
                  have q0 := p0 (by simp [hd])
                  go_simp
                  simp only [StepOk, upd, valPut, ↓reduceIte, Nat.reduceEqDiff]
                  and_intros
                  all_goals first | assumption | (intro h; cases h; done) | (intro _; assumption) | (simp_all; done)
                case refine_12 =>
                  have q10 := p10 (by simp [hd])
                  go_simp
                  simp only [StepOk, upd, valPut, ↓reduceIte, Nat.reduceEqDiff]
                  and_intros
                  all_goals first | assumption | (intro h; cases h; done) | (intro _; assumption) | (simp_all; done)
                case refine_13 =>
                  have q11 := p11 (by simp [hd])
                  obtain ⟨hsl, a9, n9, c9, e9⟩ := p9 (by simp [hd])
                  have hL : L 12 = false := hLi
                  have hb := hb0 hL
                  obtain ⟨r1, r2⟩ := hb.rules
                  go_simp
                  have hst := Fr.store W3 q.blk 0 (.slice a9 n9 c9)
                  have hfr' := hfr.setCell (p := ⟨q.blk, 0, none⟩) (fun _ => rfl) (.slice a9 n9 c9)
                  have hb' := hb.set 0 (.slice a9 n9 c9)
                  have hsl' := hsl.frt hst fun b _ t e => by subst e; exact absurd (t.eq hb.tag) (by decide)
                  have e9' : ∃ a n c, val 9 = .slice a n c := ⟨a9, n9, c9, e9⟩
                  have d5 : L 5 = true ∧ L 9 = true := by simp [hd]
                  have hb'' : Blk (W3.setCell ⟨q.blk, 0, none⟩ (.slice a9 n9 c9)).heap q.blk #[val 9, q.vc, q.vn] 72 := by rw [e9]; simpa using hb'
                  simp only [StepOk, upd, valPut, ↓reduceIte, Nat.reduceEqDiff]
                  exact ⟨hfr', fun h => by simp at h, fun _ => hb'', fun _ => d5, fun _ => ⟨hsl', e9'⟩, p0, p1, p2, p3, p4, p5, p6, p7, p8, p10, p11⟩
              case he =>
                intro L val W3 a ha hL hB
                simp [putL, Act.put] at ha
                subst ha
                obtain ⟨hfr, hb0, hb1, c12, p9, _⟩ := hB
                have HN := Lib.hid (HGO.out W3 _ hfr (hb1 (hL 12 (by decide))) (p9 (hL 9 (by decide))).1)
                clear hfr hb0 hb1 c12 p9 hL
                go_wp2
                go_roundw
                case rel => exact ⟨j + 1, _, _, _, by go_num, by omega, HN.out⟩
                case measure => simp [intOf]; omega
        · have hj' : j = f.chs.length := by omega
          subst hj'
          obtain ⟨avs, cvs, rfl, hcvs, _⟩ := hI.safe.shape
          have hclose := HD.out.close HFIT.out hp hchs hI rfl
          obtain ⟨rQ, rG⟩ := hI.blk.rules
          have HCL := Lib.hid hclose
          clear hclose hI
          go_wp2
          exact ⟨⟨k + 1, _, _, _, by go_num, by omega, HCL.out⟩, by simp [intOf]; omega⟩
    · have hk' : k = S.files.length := by omega
      subst hk'
      obtain ⟨rA, _⟩ := hD.bA.rules
      have A0 := rA 0
      simp only [List.size_toArray, List.length_cons, List.length_nil, Nat.zero_add, Nat.lt_add_one, getElem?_pos, List.getElem_toArray, List.getElem_cons_zero] at A0
      obtain ⟨rD, rF⟩ := hD.disk.blk.rules
      have hset := hD.disk.blk.set 7 (.bool true)
      have hst := Fr.store wr d 7 (.bool true)
      have hturn := hD.disk.turn (fun b hb => heap_set ⟨d, 7, none⟩ (.bool true) hb) S.n true (by simpa using hset)
      have hfin : DiePost w d S F (.returned (.tuple #[])) (wr.setCell ⟨d, 7, none⟩ (.bool true)) := by
        refine ⟨rfl, { r with ps := ps1 ++ r.ps.drop S.files.length }, F', ?_, hD.fr.setCell (p := ⟨d, 7, none⟩) (fun hd => (hD.own d hD.disk.own).resolve_right (show ¬ w.heap.size + 2 ≤ d from fun h => by have : d < w.heap.size := hd; omega)) _, fun b hb => (hD.own b hb).imp id fun h => by omega⟩
        · have := hD.fits
          simp only [List.drop_length, dieFiles, List.append_nil] at this
          rw [List.drop_length, List.append_nil, this] at hturn
          exact hturn
      have HFIN := Lib.hid hfin
      clear hfin hturn hst hset rA hD
      go_wp2
      go_end0
      exact HFIN.out
end

end Go.Proofs.Ytpdflncgemcniaa
