/- PROVED HERE: the contract of a death of the document's disk. PROVED HERE: the contract of the document's begin. No conditions beyond the premises that each theorem names. -/
import Derived.Test.YtpdflncgemcniaaD14
import Derived.Deep.DeepCutAuto
import Derived.StillTailTactics
namespace Go.Proofs.Ytpdflncgemcniaa
open Go.RowKit

/-- What a death of the document's disk comes to. -/
def MDiePost (w : World) (m : Nat) (S : Dk) (F : Nat → Prop) (e : Ending) (w' : World) : Prop :=
  e = .returned (.tuple #[]) ∧ ∃ r' F', IsModel w'.heap m (die S) r' F' ∧ Step F F' w w'

section
variable {w : World} {m : Nat} {S : Dk} {r : MDRep} {F : Nat → Prop}

set_option maxHeartbeats 8000000 in
set_option maxRecDepth 100000 in
theorem die61 (h : IsModel w.heap m S r F) {K : Nat} (wf : Wf S K) (hK : K ≤ 1000000) :
    Calls Try.prog 61 #[.pointer (some ⟨m, 0, none⟩)] w (MDiePost w m S F) := by
  have HLT := Lib.hid h.lt
  have HFIT := Lib.hid h.fits
  obtain ⟨av, cv, hvf, hcv⟩ := h.shapeF
  have HVF := Lib.hid hvf
  have hlen := h.len
  obtain ⟨rA, _⟩ := h.blk.rules
  have A5 : w.cell? ⟨m, 5, none⟩ = some (.slice av S.files.length cv) := by rw [rA, ← hvf]; rfl
  have hD0 : MDieAt w w m S r F K 0 [] 0 F := {
    model := by simpa using h
    len1 := rfl
    own := fun b h => .inl h
    fr := Fr.refl _ _
    fits := by simp
    few := Nat.zero_le _
    base := h.lt }
  have HD0 := Lib.hid hD0
  have hfew := wf.few
  have HWF := Lib.hid wf
  clear h wf hD0 rA hvf
  go_enter Try.func61, Try.ntmps61
  go_wp2
  go_loopw [14, 2] (fun i n wr => ∃ (k : Nat) (ps1 : List MP) (cnt : Nat) (F' : Nat → Prop), i = .int .i64 k ∧ n = .int .i64 cnt ∧ k ≤ S.files.length ∧ MDieAt w wr m S r F K k ps1 cnt F') (fun i _ _ => S.files.length - (intOf i).toNat)
  case atStart => exact ⟨0, [], 0, F, rfl, rfl, Nat.zero_le _, HD0.out⟩
  case round =>
    obtain ⟨k, ps1, cnt, F', rfl, rfl, hk, hD⟩ := hrel
    by_cases hlt : k < S.files.length
    · obtain ⟨p, hp⟩ : ∃ p, r.ps[k]? = some p := ⟨_, List.getElem?_eq_getElem (by omega)⟩
      obtain ⟨f, q⟩ := p
      have hfk : S.files[k]? = some f := by rw [← HFIT.out, List.getElem?_map, hp]; rfl
      have hfl := HWF.out.each f (List.mem_of_getElem? hfk)
      have hF := hD.file hp
      obtain ⟨ac, cc, hvc, hcc⟩ := hF.shapeC
      obtain ⟨sa, sc, hvs, _, _⟩ := hF.safe.shape
      obtain ⟨g, rfl, hFg, tg, hgo, hcells⟩ := hD.model.at_file (r := { r with ps := ps1 ++ r.ps.drop k }) HVF.out (k := k) (p := (f, q)) (by rw [drop_at hp, ← hD.len1]; exact mid_at _ _ _)
      have c1 : wr.cell? ⟨g, k * 3 + 1, none⟩ = some (.slice sa f.safe.length sc) := by rw [cell_cel, ← hvs]; exact hcells 1 (by omega)
      have c2 : wr.cell? ⟨g, k * 3 + 2, none⟩ = some (.slice ac f.chs.length cc) := by rw [cell_cel, ← hvc]; exact hcells 2 (by omega)
      obtain ⟨rD, _⟩ := hD.model.blk.rules
      have D5 : wr.cell? ⟨m, 5, none⟩ = some (.slice (some ⟨g, 0, none⟩) S.files.length cv) := by rw [rD, ← HVF.out]; rfl
      have htw := twin40o wr _ q.vs f.safe hF.safe.at (by have := hfl.safe; omega)
      rw [hvs] at htw
      have hchs := hfl.chs
      have HD := Lib.hid hD
      have HFL := Lib.hid hfl
      have HVC := Lib.hid hvc
      have HGO := Lib.hid hgo
      have HF := Lib.hid hF
      clear rD hF hfk hD hfl hvc hvs hcells hgo
      rename World => wi
      have hc2i : ∀ w1, Old wi w1 → w1.cell? ⟨g, k * 3 + 2, none⟩ = some (.slice ac f.chs.length cc) := fun w1 ho => by rw [cell_cel] at c2 ⊢; exact ho.cel c2 fun f => f
      have HC2 := Lib.hid hc2i
      have hD2 : ∀ w1, Old wi w1 → (∃ u, w1.cell? ⟨g, k * 3 + 1, none⟩ = some u) ∧ (∀ o, w1.frozen? ⟨g, o, none⟩ = false) := fun w1 ho => by
        refine ⟨⟨_, by rw [cell_cel] at c1 ⊢; exact ho.cel c1 fun f => f⟩, fun o => ?_⟩
        have hrow0 := HD.out.model.row.kept (h' := w1.heap) fun b e _ hl => ho.block b hl fun f => f
        exact (hrow0.rules HGO.out).2 o
      clear hc2i
      go_wp2_with (go_at_call 40; refine htw.mono ?_; rintro e w1 ⟨v1, rfl, hrow, ho⟩
                   have hc2w := HC2.out w1 ho
                   have HR := Lib.hid hrow
                   have HO1 := Lib.hid ho
                   clear hrow ho)
      go_loopw [33, 2, 5] (fun i n v wr => ∃ (j : Nat) (cnt' : Nat) (acc : Bs), i = .int .i64 j ∧ n = .int .i64 cnt' ∧ j ≤ f.chs.length ∧ MDieIn wi wr S.plan.keep f cnt j cnt' v acc) (fun i _ _ _ => f.chs.length - (intOf i).toNat)
      case atStart => exact ⟨0, cnt, f.safe, rfl, rfl, Nat.zero_le _, ⟨HO1.out, HR.out.slT, HFL.out.safe, rfl, rfl, Nat.le_refl _⟩⟩
      case round =>
        obtain ⟨j, cnt', acc, rfl, rfl, hj, hI⟩ := hrel
        by_cases hjl : j < f.chs.length
        · obtain ⟨cp, hcp⟩ : ∃ p, q.cs[j]? = some p := ⟨_, List.getElem?_eq_getElem (by have := HF.out.fits; rw [← this, List.length_map] at hjl; exact hjl)⟩
          have hcj : f.chs[j]? = some cp.1 := by rw [← HF.out.fits, List.getElem?_map, hcp]; rfl
          have hok := HFL.out.each _ (List.mem_of_getElem? hcj)
          obtain ⟨g2, rfl, hFg2, tg2, hcells⟩ := HF.out.at_change HVC.out hcp
          have hltF := HD.out.model.lt
          have hcell : ∀ o, o < 4 → wr.cell? ⟨g2, j * 4 + o, none⟩ = (four cp)[o]? := fun o ho4 => by
            rw [cell_cel, cel_eq (hI.fr.block g2 (hltF g2 hFg2) fun f => f), hcells o ho4]
          have hdc := HF.out.chs cp (List.mem_of_getElem? hcp)
          have hdc' := hdc.kept (h' := wr.heap) fun b hb _ => hI.fr.block b (hltF b hb) fun f => f
          obtain ⟨x0, x1, x2, xa, xn, xc, hx⟩ := hdc.form
          have c0 := hcell 0 (by omega)
          have c1' := hcell 1 (by omega)
          have c2' := hcell 2 (by omega)
          have c3 := hcell 3 (by omega)
          rw [hx] at c0 c1' c2' c3
          have c0 : wr.cell? ⟨g2, j * 4, none⟩ = some (.bool x0) := c0
          have c1' : wr.cell? ⟨g2, j * 4 + 1, none⟩ = some (.int .i64 x1) := c1'
          have c2' : wr.cell? ⟨g2, j * 4 + 2, none⟩ = some (.int .i64 x2) := c2'
          have c3 : wr.cell? ⟨g2, j * 4 + 3, none⟩ = some (.slice xa xn xc) := c3
          have hkp := HD.out.model.keep.fr hI.fr fun _ _ f => f
          obtain ⟨ka, kc, hke, hkc, _⟩ := hkp.shape
          have hK1 : wr.cell? ⟨m, 1, none⟩ = some (.slice ka S.plan.keep.length kc) := by
            have := HD.out.model.blk.rules.1 1
            rw [cell_cel] at this ⊢
            rw [← hke]
            exact hI.fr.cel (this.trans rfl) fun f => f
          have oB : Old wr (wr.alloc (.cells #[.bool x0, .int .i64 x1, .int .i64 x2, .slice xa xn xc] 101)) := (Fr.refl _ _).alloc _
          have hK2 : (wr.alloc (.cells #[.bool x0, .int .i64 x1, .int .i64 x2, .slice xa xn xc] 101)).cell? ⟨m, 1, none⟩ = some (.slice ka S.plan.keep.length kc) := by
            rw [cell_cel] at hK1 ⊢
            exact oB.cel hK1 fun f => f
          have hbound : cnt' ≤ 1000000000000000 := by
            have h1 := hI.few
            have h2 := HD.out.few
            have h3 : k * K ≤ 1000000 * 1000000 := Nat.mul_le_mul (by omega) hK
            omega
          have HX := Lib.hid hx
          have HDC := Lib.hid hdc'
          have HKP := Lib.hid hkp
          have HKE := Lib.hid hke
          have HI := Lib.hid hI
          have HOK := Lib.hid hok
          have HCJ := Lib.hid hcj
          have HOB := Lib.hid oB
          clear hcell hcells hdc hdc' hI hkp hke hok hcp hcj hx oB hK1
          go_upto_if 43 with (fail)
          go_cut [2, 8] (fun n kk wc => n = .int .i64 (keepOn S.plan.keep cnt' 1) ∧ kk = .int .i64 (keepAt S.plan.keep cnt') ∧ ∃ nd, wc = (wr.alloc (.cells #[.bool x0, .int .i64 x1, .int .i64 x2, .slice xa xn xc] 101)).drewN nd)
          case first =>
            by_cases hk0 : S.plan.keep.length = 0
            · have e1 : keepOn S.plan.keep cnt' 1 = cnt' := if_pos hk0
              have e2 : keepAt S.plan.keep cnt' = 0 := by
                have : S.plan.keep = [] := List.eq_nil_of_length_eq_zero hk0
                simp [keepAt, this]
              have E := Lib.hid (And.intro e1 e2)
              have hk0' : ¬ (0 : Int) < S.plan.keep.length := by omega
              clear hk0 e1 e2
              go_wp2
              go_meet
              case rel => exact ⟨by rw [E.out.1], by rw [E.out.2], 0, rfl⟩
            · have hk0' : (0 : Int) < S.plan.keep.length := by omega
              have hpos : 0 < S.plan.keep.length := by omega
              have hlt2 : cnt' % S.plan.keep.length < S.plan.keep.length := Nat.mod_lt _ hpos
              have hm : (cnt' : Int) % (S.plan.keep.length : Int) = ((cnt' % S.plan.keep.length : Nat) : Int) := by simp
              have hsl := HKP.out
              have hke := HKE.out
              simp only [] at hke hsl
              rw [hke] at hsl
              obtain ⟨kb, ko, rfl, hkcel⟩ := hsl.at_cell (k := cnt' % S.plan.keep.length) (x := S.plan.keep[cnt' % S.plan.keep.length]) (List.getElem?_eq_getElem hlt2)
              have hkey : (wr.alloc (.cells #[.bool x0, .int .i64 x1, .int .i64 x2, .slice xa xn xc] 101)).cell? ⟨kb, ko + cnt' % S.plan.keep.length, none⟩ = some (.int .i64 S.plan.keep[cnt' % S.plan.keep.length]) := by
                rw [cell_cel] at hkcel ⊢
                exact HOB.out.cel hkcel fun f => f
              have e1 : keepOn S.plan.keep cnt' 1 = cnt' + 1 := if_neg hk0
              have e2 : keepAt S.plan.keep cnt' = S.plan.keep[cnt' % S.plan.keep.length] := by simp [keepAt, hlt2]
              have E := Lib.hid (And.intro e1 e2)
              clear hk0 e1 e2 hsl hke hkcel
              generalize hq : cnt' % S.plan.keep.length = qq at *
              clear hq
              go_wp2_with fail
              go_quiet (fail)
              go_wp2
              go_meet
              case rel => exact ⟨by rw [E.out.1]; go_num, by rw [E.out.2], nq, rfl⟩
          case rest =>
            obtain ⟨rfl, rfl, nd, rfl⟩ := hcut
            have hB : Blk ((wr.alloc (.cells #[.bool x0, .int .i64 x1, .int .i64 x2, .slice xa xn xc] 101)).drewN nd).heap wr.heap.size #[.bool x0, .int .i64 x1, .int .i64 x2, .slice xa xn xc] 101 := blk_new wr _ _
            have hO : Old wr ((wr.alloc (.cells #[.bool x0, .int .i64 x1, .int .i64 x2, .slice xa xn xc] 101)).drewN nd) := HOB.out.drewN nd
            generalize (wr.alloc (.cells #[.bool x0, .int .i64 x1, .int .i64 x2, .slice xa xn xc] 101)).drewN nd = W at *
            have hwide : -9223372036854775808 ≤ keepAt S.plan.keep cnt' ∧ keepAt S.plan.keep cnt' < 9223372036854775808 := by
              unfold keepAt
              rw [List.getD_eq_getElem?_getD]
              cases hq : S.plan.keep[cnt' % S.plan.keep.length]? with
              | none => simp
              | some y => exact HWF.out.plan.wide y (List.mem_of_getElem? hq)
            have hgo : ∀ (W2 : World) (v2 : Value) (acc2 : Bs), Old wi W2 → SlT 5 Ytpdflncgemcniaa.u8 W2.heap (fun b => wi.heap.size ≤ b) v2 acc2 → acc2.length ≤ 268435456 →
                (match survivor (keepAt S.plan.keep cnt') cp.1 with | some s => applyCh acc s | none => acc) = acc2 → MDieIn wi W2 S.plan.keep f cnt (j + 1) (keepOn S.plan.keep cnt' 1) v2 acc2 := by
              intro W2 v2 acc2 o2 s2 l2 e2
              have hfits := HI.out.fits
              rw [drop_at HCJ.out] at hfits
              simp only [dieChs] at hfits
              refine ⟨o2, s2, l2, ?_, ?_, ?_⟩
              · rw [← e2]; exact hfits
              · rw [keepOn_add, ← HI.out.num]; congr 1; omega
              · have := HI.out.few
                have := keepOn_le S.plan.keep cnt' 1
                omega
            have hap : ∀ (W2 : World) (cells : List Value) (c' : Ch), Old wr W2 → IsDc wr.heap F' cells c' → ChOk c' → Calls Try.prog 62 #[_, .agg cells.toArray] W2 (MadeRow W2 (applyCh acc c')) := fun W2 cells c' o2 hdc2 hok2 =>
              apply62 W2 (fun b => F' b ∨ (wi.heap.size ≤ b ∧ b < wr.heap.size)) _ acc c' cells ((hdc2.kept fun b _ t => o2.block b t.lt fun f => f).mono fun b h _ => .inl h) hok2
                ((HI.out.safe.monot (G := fun b => F' b ∨ (wi.heap.size ≤ b ∧ b < wr.heap.size)) fun b h t => .inr ⟨h, t.lt⟩).fr o2 fun _ _ f => f).at HI.out.long fun x hx => by
                  have h1 := HI.out.fr.size
                  have h2 := o2.size
                  rcases hx with h | h
                  · have := HD.out.model.lt x h; omega
                  · omega
            have HGO := Lib.hid hgo
            have HAP := Lib.hid hap
            have HO := Lib.hid hO
            have HOI := Lib.hid (HI.out.fr.trans' hO)
            have HBX := Lib.hid hB
            have hzw : wi.heap.size ≤ wr.heap.size := HI.out.fr.size
            have hsz2 := hO.size
            have hlong := HI.out.long
            generalize hkv : keepAt S.plan.keep cnt' = kv at *
            have HKV := Lib.hid hkv
            obtain ⟨rB, rBF⟩ := hB.rules
            clear hgo hap hO hB hkv
            obtain ⟨c, cells⟩ := cp
            cases c with
            | cut long =>
              have e := HDC.out
              have e : four (Ch.cut long, cells) = _ := e
              rw [HX.out] at e
              simp only [List.cons.injEq, Value.bool.injEq, Value.int.injEq, Value.slice.injEq, and_true, true_and] at e
              obtain ⟨rfl, rfl, rfl, rfl, rfl, rfl⟩ := e
              have hdcW : IsDc wr.heap F' [.bool true, .int .i64 0, .int .i64 long, .slice none 0 0] (.cut long) := rfl
              have hcall := HAP.out W _ _ HO.out hdcW HOK.out
              by_cases k1 : kv < 0
              · have HE := Lib.hid (show (match survivor kv (.cut long) with | some s => applyCh acc s | none => acc) = applyCh acc (.cut long) by simp only [survivor]; rw [if_pos (.inl k1)])
                go_wp2_with (go_at_call 62; refine hcall.mono ?_; rintro e w4 ⟨v4, rfl, hrow4, ho4⟩
                             have H4 := Lib.hid (And.intro hrow4 ho4)
                             clear hrow4 ho4)
                exact ⟨⟨j + 1, _, _, by go_num, rfl, by omega, HGO.out w4 v4 _ (HOI.out.trans' H4.out.2) (H4.out.1.slT.mono fun b h => by omega) (applyCh_le hlong HOK.out) HE.out⟩, by simp [intOf]; omega⟩
              · by_cases k2 : kv % 2 = 1
                · have HE := Lib.hid (show (match survivor kv (.cut long) with | some s => applyCh acc s | none => acc) = applyCh acc (.cut long) by simp only [survivor]; rw [if_pos (.inr k2)])
                  have hm : (kv % 2 == 1) = true := by simp [k2]
                  clear k2
                  go_wp2_with (go_at_call 62; refine hcall.mono ?_; rintro e w4 ⟨v4, rfl, hrow4, ho4⟩
                               have H4 := Lib.hid (And.intro hrow4 ho4)
                               clear hrow4 ho4)
                  exact ⟨⟨j + 1, _, _, by go_num, rfl, by omega, HGO.out w4 v4 _ (HOI.out.trans' H4.out.2) (H4.out.1.slT.mono fun b h => by omega) (applyCh_le hlong HOK.out) HE.out⟩, by simp [intOf]; omega⟩
                · have HE := Lib.hid (show (match survivor kv (.cut long) with | some s => applyCh acc s | none => acc) = acc by simp only [survivor]; rw [if_neg (by omega)])
                  have hm : (kv % 2 == 1) = false := by simp; omega
                  clear k2
                  go_wp2
                  exact ⟨⟨j + 1, _, acc, by go_num, rfl, by omega, HGO.out W _ acc HOI.out (HI.out.safe.fr HO.out fun _ _ f => f) hlong HE.out⟩, by simp [intOf]; omega⟩
            | write pos b =>
              obtain ⟨vb, e, hvb⟩ := HDC.out
              have e : four (Ch.write pos b, cells) = _ := e
              rw [HX.out] at e
              simp only [List.cons.injEq, Value.bool.injEq, Value.int.injEq, and_true, true_and] at e
              obtain ⟨rfl, rfl, rfl, rfl⟩ := e
              obtain ⟨a5, c5, e5, hc5, hn5⟩ := hvb.shape
              cases e5
              have hpb : pos + b.length ≤ 268435456 := HOK.out
              by_cases k1 : kv < 0
              · have HE := Lib.hid (show (match survivor kv (.write pos b) with | some s => applyCh acc s | none => acc) = applyCh acc (.write pos b) by simp only [survivor]; rw [if_pos k1])
                have hcall := HAP.out W [.bool false, .int .i64 pos, .int .i64 0, .slice xa b.length xc] (.write pos b) HO.out ⟨_, rfl, hvb⟩ HOK.out
                go_wp2_with (go_at_call 62; refine hcall.mono ?_; rintro e w4 ⟨v4, rfl, hrow4, ho4⟩
                             have H4 := Lib.hid (And.intro hrow4 ho4)
                             clear hrow4 ho4)
                exact ⟨⟨j + 1, _, _, by go_num, rfl, by omega, HGO.out w4 v4 _ (HOI.out.trans' H4.out.2) (H4.out.1.slT.mono fun b h => by omega) (applyCh_le hlong HOK.out) HE.out⟩, by simp [intOf]; omega⟩
              · obtain ⟨kn, rfl⟩ := Int.eq_ofNat_of_zero_le (show 0 ≤ kv by omega)
                have hm : ((kn : Int) % ((b.length : Int) + 1)) = ((kn % (b.length + 1) : Nat) : Int) := by simp
                have hlt3 : kn % (b.length + 1) < b.length + 1 := Nat.mod_lt _ (by omega)
                have hsv : survivor kn (.write pos b) = if kn % (b.length + 1) = 0 then none else some (.write pos (b.take (kn % (b.length + 1)))) := by simp only [survivor, if_neg k1, Int.toNat_natCast]
                generalize hq : kn % (b.length + 1) = qq at *
                have HSV := Lib.hid hsv
                have HVB := Lib.hid hvb
                have hqc : (qq : Int) ≤ xc := by omega
                have hne2 : ((b.length : Int) + 1 == 0) = false := by rw [beq_eq_false_iff_ne]; omega
                have hne3 : ¬ ((b.length : Int) + 1 = 0) := by omega
                have hmT : ((kn : Int).tmod ((b.length : Int) + 1)) = (qq : Int) := by rw [← hm]; exact Int.tmod_eq_emod_of_nonneg (by omega)
                clear hq hsv hvb k1
                go_wp2_with fail
                refine wp_region_lits (by kernel_rfl) (by kernel_rfl) (fun L val W1 => Fr (fun b => b = wr.heap.size) W W1 ∧
                  (L 10 = false → Blk W1.heap wr.heap.size #[.bool false, .int .i64 pos, .int .i64 0, .slice xa b.length xc] 101) ∧ (L 10 = true → Blk W1.heap wr.heap.size #[.bool false, .int .i64 pos, .int .i64 0, .slice xa qq xc] 101) ∧ (L 10 = true → L 1 = true ∧ L 4 = true) ∧
                  (L 0 = true → val 0 = .pointer (some ⟨wr.heap.size, 3, none⟩)) ∧ (L 1 = true → val 1 = .slice xa b.length xc) ∧ (L 2 = true → val 2 = .int .i64 kn) ∧ (L 3 = true → val 3 = .pointer (some ⟨wr.heap.size, 3, none⟩)) ∧ (L 4 = true → val 4 = .slice xa b.length xc) ∧
                  (L 5 = true → val 5 = .int .i64 b.length) ∧ (L 6 = true → val 6 = .int .i64 ((b.length : Int) + 1)) ∧ (L 7 = true → val 7 = .int .i64 qq) ∧ (L 8 = true → val 8 = .slice xa qq xc) ∧ (L 9 = true → val 9 = .pointer (some ⟨wr.heap.size, 3, none⟩))) ?h0 ?hs ?he
                case h0 => exact ⟨(Fr.refl _ _).drew, fun _ => HBX.out, by simp⟩
                case hs =>
                  refine ⟨?_, ?_, ?_, ?_, ?_, ?_, ?_, ?_, ?_, ?_, ?_, trivial⟩
                  all_goals
                    intro L val W1 a ha hB hLi hd
                    simp [putL, Act.put] at ha
                    subst ha
                    simp [Region.binds] at hd
                    obtain ⟨hfr, hb0, hb1, c10, p0, p1, p2, p3, p4, p5, p6, p7, p8, p9⟩ := hB
                  case refine_1 =>
                    go_simp
                    simp only [StepOk, upd, valPut, ↓reduceIte, Nat.reduceEqDiff]
                    and_intros
                    all_goals first | assumption | (intro h; cases h; done) | (intro _; assumption) | (simp_all; done)
                  case refine_2 =>
                    have q0 := p0 (by simp [hd])
                    have hL : L 10 = false := by cases hL : L 10 with | false => rfl | true => have := c10 hL; simp_all
                    obtain ⟨r1, r2⟩ := (hb0 hL).rules
                    go_simp
                    simp only [StepOk, upd, valPut, ↓reduceIte, Nat.reduceEqDiff]
                    and_intros
                    all_goals first | assumption | (intro h; cases h; done) | (intro _; assumption) | (simp_all; done)
                  case refine_3 =>
                    go_simp
                    simp only [StepOk, upd, valPut, ↓reduceIte, Nat.reduceEqDiff]
                    and_intros
                    all_goals first | assumption | (intro h; cases h; done) | (intro _; assumption) | (simp_all; done)
                  case refine_4 =>
                    go_simp
                    simp only [StepOk, upd, valPut, ↓reduceIte, Nat.reduceEqDiff]
                    and_intros
                    all_goals first | assumption | (intro h; cases h; done) | (intro _; assumption) | (simp_all; done)
                  case refine_5 =>
                    have q3 := p3 (by simp [hd])
                    have hL : L 10 = false := by cases hL : L 10 with | false => rfl | true => have := c10 hL; simp_all
                    obtain ⟨r1, r2⟩ := (hb0 hL).rules
                    go_simp
                    simp only [StepOk, upd, valPut, ↓reduceIte, Nat.reduceEqDiff]
                    and_intros
                    all_goals first | assumption | (intro h; cases h; done) | (intro _; assumption) | (simp_all; done)
                  case refine_6 =>
                    have q4 := p4 (by simp [hd])
                    go_simp
                    simp only [StepOk, upd, valPut, ↓reduceIte, Nat.reduceEqDiff]
                    and_intros
                    all_goals first | assumption | (intro h; cases h; done) | (intro _; assumption) | (simp_all; done)
                  case refine_7 =>
                    have q5 := p5 (by simp [hd])
                    have hw : IntKind.i64.wrap ((b.length : Int) + 1) = b.length + 1 := by rw [IntKind.wrap_i64]; omega
                    go_simp
                    simp only [StepOk, upd, valPut, ↓reduceIte, Nat.reduceEqDiff]
                    and_intros
                    all_goals first | assumption | (intro h; cases h; done) | (intro _; assumption) | (simp_all; done)
                  case refine_8 =>
                    have q2 := p2 (by simp [hd])
                    have q6 := p6 (by simp [hd])
                    go_simp
                    simp only [StepOk, upd, valPut, ↓reduceIte, Nat.reduceEqDiff]
                    and_intros
                    all_goals first | assumption | (intro h; cases h; done) | (intro _; assumption) | (simp_all; done)
                  case refine_9 =>
                    have q1 := p1 (by simp [hd])
                    have q7 := p7 (by simp [hd])
                    go_simp
                    simp only [StepOk, upd, valPut, ↓reduceIte, Nat.reduceEqDiff]
                    and_intros
                    all_goals first | assumption | (intro h; cases h; done) | (intro _; assumption) | (simp_all; done)
                  case refine_10 =>
                    go_simp
                    simp only [StepOk, upd, valPut, ↓reduceIte, Nat.reduceEqDiff]
                    and_intros
                    all_goals first | assumption | (intro h; cases h; done) | (intro _; assumption) | (simp_all; done)
                  case refine_11 =>
                    have q9 := p9 (by simp [hd])
                    have q8 := p8 (by simp [hd])
                    have hb := hb0 hLi
                    obtain ⟨r1, r2⟩ := hb.rules
                    have hst := hfr.setCell (p := ⟨wr.heap.size, 3, none⟩) (fun _ => rfl) (.slice xa qq xc)
                    have hb' := hb.set 3 (.slice xa qq xc)
                    simp only [List.setIfInBounds_toArray, List.set_cons_zero, List.set_cons_succ] at hb'
                    have hL14 : L 1 = true ∧ L 4 = true := by simp [hd]
                    go_simp
                    simp only [StepOk, upd, valPut, ↓reduceIte, Nat.reduceEqDiff]
                    exact ⟨hst, fun h => by simp at h, fun _ => hb', fun _ => hL14, p0, p1, p2, p3, p4, p5, p6, p7, p8, p9⟩
                case he =>
                  intro L val W1 a ha hL hB
                  simp [putL, Act.put] at ha
                  subst ha
                  obtain ⟨hfr, hb0, hb1, _⟩ := hB
                  have hb := hb1 (hL 10 (by decide))
                  have hO1 : Old wr W1 := HO.out.trans hfr fun x hx e => by omega
                  have hOI1 : Old wi W1 := HI.out.fr.trans' hO1
                  obtain ⟨s1, _⟩ := hb.rules
                  have HO1 := Lib.hid hO1
                  have HOI1 := Lib.hid hOI1
                  have hz1 := hO1.size
                  clear hfr hb0 hb1 hL hb hO1 hOI1
                  by_cases hq0 : qq = 0
                  · subst hq0
                    have HE := Lib.hid (show (match survivor kn (.write pos b) with | some s => applyCh acc s | none => acc) = acc by rw [HSV.out]; rfl)
                    go_wp2
                    exact ⟨⟨j + 1, _, acc, by go_num, rfl, by omega, HGO.out W1 _ acc HOI1.out (HI.out.safe.fr HO1.out fun _ _ f => f) hlong HE.out⟩, by simp [intOf]; omega⟩
                  · have hsv := HSV.out
                    rw [if_neg hq0] at hsv
                    have hokq : ChOk (.write pos (b.take qq)) := by simp only [ChOk, List.length_take]; omega
                    have HE := Lib.hid (show (match survivor kn (.write pos b) with | some s => applyCh acc s | none => acc) = applyCh acc (.write pos (b.take qq)) by rw [hsv])
                    have hpart := HVB.out.part (lo := 0) (hi := qq) (Nat.zero_le _) (by omega)
                    rw [if_neg (by omega)] at hpart
                    simp only [Nat.zero_mul, Nat.sub_zero, List.drop_zero] at hpart
                    rw [show Option.map (fun x => Addr.add x 0) xa = xa by cases xa <;> simp [Addr.add]] at hpart
                    have hcall := HAP.out W1 [.bool false, .int .i64 pos, .int .i64 0, .slice xa qq xc] (.write pos (b.take qq)) HO1.out ⟨_, rfl, hpart⟩ hokq
                    have hq1 : ((qq : Int) == 0) = false := by rw [beq_eq_false_iff_ne]; omega
                    have HQ := Lib.hid hokq
                    clear hsv hpart hokq hq0
                    go_wp2_with (go_at_call 62; refine hcall.mono ?_; rintro e w4 ⟨v4, rfl, hrow4, ho4⟩
                                 have H4 := Lib.hid (And.intro hrow4 ho4)
                                 clear hrow4 ho4)
                    exact ⟨⟨j + 1, _, _, by go_num, rfl, by omega, HGO.out w4 v4 _ (HOI1.out.trans' H4.out.2) (H4.out.1.slT.mono fun b h => by omega) (applyCh_le hlong HQ.out) HE.out⟩, by simp [intOf]; omega⟩
        · have hj' : j = f.chs.length := by omega
          subst hj'
          obtain ⟨a5, c5, rfl, _, _⟩ := hI.safe.shape
          have hclose := HD.out.close HFIT.out hp hchs hI HGO.out rfl
          have hrw := hD2 wr hI.fr
          obtain ⟨⟨ru, rg1⟩, rg2⟩ := hrw
          have rg3 := HC2.out wr hI.fr
          have HCL := Lib.hid hclose
          clear hclose hI
          go_wp2
          exact ⟨⟨k + 1, _, _, _, by go_num, rfl, by omega, HCL.out⟩, by simp [intOf]; omega⟩
    · have hk' : k = S.files.length := by omega
      subst hk'
      obtain ⟨rD, rF⟩ := hD.model.blk.rules
      have hset := hD.model.blk.set 7 (.bool true)
      have hturn := hD.model.turn (fun b hb => heap_set ⟨m, 7, none⟩ (.bool true) hb) S.n true (by simpa using hset)
      have hfin : MDiePost w m S F (.returned (.tuple #[])) (wr.setCell ⟨m, 7, none⟩ (.bool true)) := by
        refine ⟨rfl, { r with ps := ps1 ++ r.ps.drop S.files.length }, F', ?_, hD.fr.setCell (p := ⟨m, 7, none⟩) (fun hd => (hD.own m hD.model.own).resolve_right (show ¬ w.heap.size ≤ m from fun h => by have : m < w.heap.size := hd; omega)) _, hD.own⟩
        have := hD.fits
        simp only [List.drop_length, dieFiles, List.append_nil] at this
        rw [List.drop_length, List.append_nil, this] at hturn
        exact hturn
      have HFIN := Lib.hid hfin
      clear hfin hturn hset hD
      go_wp2
      go_end0
      exact HFIN.out
end
end Go.Proofs.Ytpdflncgemcniaa
namespace Go.Proofs.Ytpdflncgemcniaa
open Go.RowKit

/-- What an operation on the document's disk comes to. -/
def MOpPost (w : World) (m : Nat) (F : Nat → Prop) (res : Int × Dk) (e : Ending) (w' : World) : Prop :=
  e = .returned (.int .i64 res.1) ∧ ∃ r' F', IsModel w'.heap m res.2 r' F' ∧ Step F F' w w'

theorem has69q (w : World) (F : Nat → Prop) (v : Value) (l : List Int) (x : Int) (hs : SlAt iv w.heap F v l) (hl : l.length ≤ 17592186044416) (b : Bool) (hb : hasB l x = b) (n : Nat) :
    Calls Try.prog 69 #[v, .int .i64 x] (w.drewN n) fun e w' => e = .returned (.bool b) ∧ ∃ m, w' = w.drewN m :=
  Calls.quiet_of_same ((has69 (w.drewN n) F v l x hs hl).mono fun e w' h => ⟨by rw [h.1, hb], h.2.symm⟩)

section
variable {w : World} {m : Nat} {S : Dk} {r : MDRep} {F : Nat → Prop}

set_option maxHeartbeats 2000000 in
set_option maxRecDepth 100000 in
theorem mbegin55 (h : IsModel w.heap m S r F) {K : Nat} (wf : Wf S K) (hK : K < 1000000) : Calls Try.prog 55 #[.pointer (some ⟨m, 0, none⟩)] w (MOpPost w m F (begin S)) := by
  have hi := Lib.hid h
  obtain ⟨r1, r2⟩ := h.blk.rules
  cases hd : S.died with
  | true =>
    have hb : begin S = (10, S) := by rw [begin_eq, hd]; rfl
    have hD : w.cell? ⟨m, 7, none⟩ = some (.bool true) := by rw [r1, hd]; rfl
    have HB := Lib.hid hb
    clear hb h r1 r2 hd
    go_enter Try.func55, Try.ntmps55
    go_wp2
    go_ret
    rw [HB.out]
    exact ⟨rfl, r, F, hi.out, Step.refl _ _⟩
  | false =>
    have hD : w.cell? ⟨m, 7, none⟩ = some (.bool false) := by rw [r1, hd]; rfl
    have hset := h.blk.set 6 (.int .i64 ((S.n : Int) + 1))
    have hturn : IsModel (w.setCell ⟨m, 6, none⟩ (.int .i64 ((S.n : Int) + 1))).heap m (tick S) r F := by
      have := h.turn (fun b hb => heap_set ⟨m, 6, none⟩ (.int .i64 ((S.n : Int) + 1)) hb) (S.n + 1) false (by simpa [hd] using hset)
      rw [show tick S = { S with n := S.n + 1, died := false } by simp only [tick, ← hd]]
      exact this
    have hst : Step F F w (w.setCell ⟨m, 6, none⟩ (.int .i64 ((S.n : Int) + 1))) := ⟨(Fr.refl F w).setCell (p := ⟨m, 6, none⟩) (fun _ => h.own) _, fun _ h => .inl h⟩
    have hn : (S.n : Int) + 1 ≤ 1000000 := by have := wf.n; omega
    have hN : w.cell? ⟨m, 6, none⟩ = some (.int .i64 S.n) := by rw [r1]; rfl
    have hF6 := r2 6
    have HT := Lib.hid hturn
    have HS := Lib.hid hst
    have wt := Lib.hid wf.tick
    have hbd := wf.plan.fail
    generalize hw1 : w.setCell ⟨m, 6, none⟩ (.int .i64 ((S.n : Int) + 1)) = w1 at *
    obtain ⟨q1, q2⟩ := hturn.blk.rules
    have hC1 : w1.cell? ⟨m, 0, none⟩ = some (.int .i64 S.plan.crash) := by rw [q1]; rfl
    have hN1 : w1.cell? ⟨m, 6, none⟩ = some (.int .i64 ((S.n : Int) + 1)) := by rw [q1]; rfl
    clear q2 hset h r1 r2 hst
    by_cases hcr : ((S.n : Int) + 1) = S.plan.crash
    · have HB := Lib.hid (show begin S = (10, die (tick S)) by rw [begin_eq, hd, if_pos hcr]; rfl)
      have hcr' : ((S.n : Int) + 1 == S.plan.crash) = true := by simpa using hcr
      clear hcr hturn q1
      go_enter Try.func55, Try.ntmps55
      go_wp2_with fail
      go_quiet (fail)
      have hdie := die61 (w := w1.drewN nq) HT.out wt.out (by omega)
      go_wp2_with (go_at_call 61; refine hdie.mono ?_; rintro e w2 ⟨rfl, r', F', i2, s2⟩
                   have I2 := Lib.hid i2
                   have S2 := Lib.hid s2
                   clear i2 s2)
      go_ret
      rw [HB.out]
      exact ⟨rfl, r', F', I2.out, (HS.out.drewN _).trans S2.out⟩
    · have hcr' : ((S.n : Int) + 1 == S.plan.crash) = false := by simpa using hcr
      obtain ⟨a, c, e, _, _⟩ := hturn.fail.shape
      have e : r.f = .slice a S.plan.fail.length c := e
      have hFl : w1.cell? ⟨m, 2, none⟩ = some (.slice a S.plan.fail.length c) := by rw [q1, ← e]; rfl
      have hct := fun m => has69q (w1.drewN m) _ _ S.plan.fail ((S.n : Int) + 1) hturn.fail.at hbd
      simp only [e] at hct
      cases hb : hasB S.plan.fail ((S.n : Int) + 1) with
      | true =>
        have HB := Lib.hid (show begin S = (11, tick S) by rw [begin_eq, hd, if_neg hcr, hb]; rfl)
        have hct := fun m n => (hct m true hb n)
        simp only [World.drewN_drewN] at hct
        clear hcr hturn hb q1 e
        go_enter Try.func55, Try.ntmps55
        go_wp2_with fail
        go_quiet (fail)
        go_wp2_with fail
        go_quiet (refine hct _ _)
        go_wp2
        go_ret
        rw [HB.out]
        exact ⟨rfl, r, F, HT.out, (HS.out.drewN _).drewN _⟩
      | false =>
        have HB := Lib.hid (show begin S = (0, tick S) by rw [begin_eq, hd, if_neg hcr, hb]; rfl)
        have hct := fun m n => (hct m false hb n)
        simp only [World.drewN_drewN] at hct
        clear hcr hturn hb q1 e
        go_enter Try.func55, Try.ntmps55
        go_wp2_with fail
        go_quiet (fail)
        go_wp2_with fail
        go_quiet (refine hct _ _)
        go_wp2
        go_ret
        rw [HB.out]
        exact ⟨rfl, r, F, HT.out, (HS.out.drewN _).drewN _⟩
end
end Go.Proofs.Ytpdflncgemcniaa
