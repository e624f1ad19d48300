/- PROVED HERE: the contracts of the document's Create, Read and Start. No conditions beyond the premises that each theorem names. -/
import Derived.Test.YtpdflncgemcniaaD19
namespace Go.Proofs.Ytpdflncgemcniaa
open Go.RowKit

theorem roomErr_12 {S : Dk} {had has : Nat} (hne : roomErr S had has ≠ 0) : roomErr S had has = 12 := by
  unfold roomErr at hne ⊢
  split
  · rfl
  · rename_i hb
    rw [if_neg hb] at hne
    split
    · rename_i h1; rw [if_pos h1] at hne; exact absurd rfl hne
    · rename_i h1
      rw [if_neg h1] at hne
      split
      · rfl
      · rename_i h2; rw [if_neg h2] at hne; exact absurd rfl hne

section
variable {w : World} {m : Nat} {S : Dk} {r : MDRep} {F : Nat → Prop}

/-- A new file in its place. -/
theorem mput_new (h : IsModel w.heap m S r F) (hK : S.files.length ≤ 1000000) (hsort : S.files.Pairwise fun a b => a.name < b.name) (s : ByteArray) :
    Calls Try.prog 58 #[.pointer (some ⟨m, 0, none⟩), .agg #[.string s, .slice none 0 0, .slice none 0 0]] w (MPutPost w m S F ⟨s.data.toList, [], []⟩) := by
  have h1 := mput58 (f := ⟨s.data.toList, [], []⟩) (q := ⟨.slice none 0 0, .slice none 0 0, []⟩) h hK hsort ⟨rfl, SlT.nil, OwnRow.nil, fun p hp => by cases hp⟩ fun p _ b hb => by simp [Value.ownBlock] at hb
  simpa using h1

set_option maxHeartbeats 2000000 in
set_option maxRecDepth 100000 in
theorem mcreate27 (h : IsModel w.heap m S r F) {K : Nat} (wf : Wf S K) (hK : K < 1000000) (s : ByteArray) (hs : s.size ≤ maxLen) :
    Calls Try.prog 27 #[.pointer (some ⟨m, 0, none⟩), .string s] w (MOpPost w m F (create S s.data.toList)) := by
  have hbg := mbegin55 h wf hK
  clear h
  go_enter Try.func27, Try.ntmps27
  go_wp2_with fail
  refine hbg.mono ?_
  rintro e w1 ⟨rfl, r1, F1, hd, hst⟩
  cases hx : ((begin S).1 == 0) with
  | false =>
    have HR := Lib.hid (create_err (s := s.data.toList) hx)
    have hx' : ((begin S).1 == 0) = false := hx
    have HD := Lib.hid hd
    have HS := Lib.hid hst
    generalize hy : (begin S).1 = y at hx'
    have HY := Lib.hid hy
    clear hd hst hx hy
    go_wp2
    go_ret
    rw [HR.out]
    exact ⟨by rw [HY.out]; rfl, r1, F1, HD.out, HS.out⟩
  | true =>
    have hx' : (begin S).1 = 0 := by simpa using hx
    have wf1 := wf.begin
    have hfd := find38 hd wf1.few (by omega) s
    have hnm := may56 w1 s hs
    have hR0 := create_ok (s := s.data.toList) hx'
    rw [hx']
    have HD := Lib.hid hd
    have HS := Lib.hid hst
    have HW := Lib.hid wf1
    have HR0 := Lib.hid hR0
    obtain ⟨av, cv, hvf, hcv⟩ := hd.shapeF
    have hV : w1.cell? ⟨m, 5, none⟩ = some (.slice av (begin S).2.files.length cv) := by rw [hd.blk.rules.1, ← hvf]; rfl
    cases hok : okName s.data.toList with
    | false =>
      have HR := Lib.hid (show create S s.data.toList = (15, (begin S).2) by rw [HR0.out, if_pos (by simp [hok])])
      rw [hok] at hnm
      clear hd hst hx hx' hR0 hok hvf wf1 hfd
      go_wp2_with (go_at_call 56; with_reducible refine hnm.mono ?_; rintro e w' ⟨rfl, rfl⟩)
      go_ret
      rw [HR.out]
      exact ⟨rfl, r1, F1, HD.out, HS.out⟩
    | true =>
      rw [hok] at hnm
      rcases findI_findF (s := s.data.toList) (l := (begin S).2.files) with ⟨hi, hf⟩ | ⟨k, f, hi, hk, hname, hf⟩
      · rw [hi] at hfd
        by_cases hfew : 4096 ≤ (begin S).2.files.length
        · have HR := Lib.hid (show create S s.data.toList = (2, (begin S).2) by rw [HR0.out, if_neg (by simp [hok]), if_neg (by simp [hf]), if_pos hfew])
          clear hd hst hx hx' hR0 hok hvf wf1 hi hf
          go_wp2_with (first
            | (go_at_call 56; with_reducible refine hnm.mono ?_; rintro e w' ⟨rfl, rfl⟩)
            | (go_at_call 38; with_reducible refine hfd.mono ?_; rintro e w' ⟨rfl, rfl⟩))
          go_ret
          rw [HR.out]
          exact ⟨rfl, r1, F1, HD.out, HS.out⟩
        · have hrm := mroom57 hd wf1 (by omega) 0 (by omega)
          have hrb : roomB (begin S).2 0 = (roomErr (begin S).2 0 0 == 0) := by have := roomB_err (begin S).2 0 0; simpa using this
          rw [hrb] at hrm
          cases hy : (roomErr (begin S).2 0 0 == 0) with
          | false =>
            have hne : roomErr (begin S).2 0 0 ≠ 0 := by simpa using hy
            have HR := Lib.hid (show create S s.data.toList = (12, (begin S).2) by rw [HR0.out, if_neg (by simp [hok]), if_neg (by simp [hf]), if_neg hfew, if_pos hne, roomErr_12 hne])
            rw [hy] at hrm
            clear hd hst hx hx' hR0 hok hvf wf1 hi hf hrb hy hne
            go_wp2_with (first
              | (go_at_call 56; with_reducible refine hnm.mono ?_; rintro e w' ⟨rfl, rfl⟩)
              | (go_at_call 38; with_reducible refine hfd.mono ?_; rintro e w' ⟨rfl, rfl⟩)
              | (go_at_call 57; refine hrm.mono ?_; rintro e w4 ⟨rfl, ho4⟩
                 have HO4 := Lib.hid ho4
                 clear ho4))
            go_ret
            rw [HR.out]
            exact ⟨rfl, r1, F1, HD.out.fr HO4.out fun _ _ f => f, HS.out.trans ⟨Old.fr HO4.out, fun _ h => .inl h⟩⟩
          | true =>
            have hne : ¬ roomErr (begin S).2 0 0 ≠ 0 := by simpa using hy
            have HR := Lib.hid (show create S s.data.toList = (0, { (begin S).2 with files := putF ⟨s.data.toList, [], []⟩ (begin S).2.files }) by rw [HR0.out, if_neg (by simp [hok]), if_neg (by simp [hf]), if_neg hfew, if_neg hne])
            rw [hy] at hrm
            clear hd hst hx hx' hR0 hok hvf wf1 hi hf hrb hy hne
            go_wp2_with (first
              | (go_at_call 56; with_reducible refine hnm.mono ?_; rintro e w' ⟨rfl, rfl⟩)
              | (go_at_call 38; with_reducible refine hfd.mono ?_; rintro e w' ⟨rfl, rfl⟩)
              | (go_at_call 57; refine hrm.mono ?_; rintro e w4 ⟨rfl, ho4⟩
                 have HO4 := Lib.hid ho4
                 have hput := mput_new (HD.out.fr HO4.out fun _ _ f => f) (by have := HW.out.few; omega) HW.out.sorted s
                 clear ho4)
              | (go_at_call 58; refine hput.mono ?_; rintro e w5 ⟨rfl, r', F', hd5, hs5⟩
                 have HFIN := Lib.hid (And.intro hd5 hs5)
                 clear hd5 hs5))
            go_ret
            rw [HR.out]
            exact ⟨rfl, r', F', HFIN.out.1, HS.out.trans ((⟨Old.fr HO4.out, fun _ h => .inl h⟩ : Step F1 F1 w1 w4).trans HFIN.out.2)⟩
      · rw [hi] at hfd
        have HR := Lib.hid (show create S s.data.toList = (14, (begin S).2) by rw [HR0.out, if_neg (by simp [hok]), if_pos (by simp [hf])])
        clear hd hst hx hx' hR0 hok hvf wf1 hi hf hname hk
        go_wp2_with (first
          | (go_at_call 56; with_reducible refine hnm.mono ?_; rintro e w' ⟨rfl, rfl⟩)
          | (go_at_call 38; with_reducible refine hfd.mono ?_; rintro e w' ⟨rfl, rfl⟩))
        go_ret
        rw [HR.out]
        exact ⟨rfl, r1, F1, HD.out, HS.out⟩

set_option maxHeartbeats 2000000 in
set_option maxRecDepth 100000 in
theorem mread13 (h : IsModel w.heap m S r F) {K : Nat} (wf : Wf S K) (hK : K ≤ 1000000) (s : ByteArray) (pos n : Int) (hp : -9223372036854775808 ≤ pos ∧ pos < 9223372036854775808) (hn : -9223372036854775808 ≤ n ∧ n < 9223372036854775808) :
    Calls Try.prog 13 #[.pointer (some ⟨m, 0, none⟩), .string s, .int .i64 pos, .int .i64 n] w (ReadPost w (readF S s.data.toList pos n).1 (readF S s.data.toList pos n).2) := by
  have hfd := find38 h wf.few (by omega) s
  have hD : w.cell? ⟨m, 7, none⟩ = some (.bool S.died) := by rw [h.blk.rules.1]; rfl
  cases hd : S.died with
  | true =>
    have HR := Lib.hid (show readF S s.data.toList pos n = ([], 10) by unfold readF; rw [if_pos hd])
    rw [hd] at hD
    generalize findI s.data.toList S.files = j at hfd
    clear hd h
    go_enter Try.func13, Try.ntmps13
    go_wp2_with (go_at_call 38; with_reducible refine hfd.mono ?_; rintro e w' ⟨rfl, rfl⟩)
    go_ret2
    rw [HR.out]
    exact ⟨_, rfl, SlT.nil, Fr.refl _ _⟩
  | false =>
    rw [hd] at hD
    rcases findI_findF (s := s.data.toList) (l := S.files) with ⟨hi, hf⟩ | ⟨k, f, hi, hk, hname, hf⟩
    · have HR := Lib.hid (show readF S s.data.toList pos n = ([], 13) by unfold readF; rw [if_neg (by simp [hd]), hf])
      rw [hi] at hfd
      clear hd h hi hf
      go_enter Try.func13, Try.ntmps13
      go_wp2_with (go_at_call 38; with_reducible refine hfd.mono ?_; rintro e w' ⟨rfl, rfl⟩)
      go_ret2
      rw [HR.out]
      exact ⟨_, rfl, SlT.nil, Fr.refl _ _⟩
    · rw [hi] at hfd
      obtain ⟨q, hp'⟩ := h.at_found hk
      obtain ⟨g, cv, a1, c1, a2, c2, hkl, hcv, hM, x0, x1, x2, hdl, hdat⟩ := h.fileAt wf hK hp'
      have HR0 := Lib.hid (show readF S s.data.toList pos n = if pos < 0 ∨ n < 0 ∨ ((dataOf f).length : Int) < pos ∨ ((dataOf f).length : Int) - pos < n then ([], 1) else (((dataOf f).drop pos.toNat).take n.toNat, 0) by unfold readF; rw [if_neg (by simp [hd]), hf])
      clear hd h hi hf hname hk hp'
      by_cases b1 : pos < 0
      · have HR := Lib.hid (show readF S s.data.toList pos n = ([], 1) by rw [HR0.out, if_pos (.inl b1)])
        go_enter Try.func13, Try.ntmps13
        go_wp2_with (first
          | (go_at_call 38; with_reducible refine hfd.mono ?_; rintro e w' ⟨rfl, rfl⟩)
          | (go_at_call 39; refine hdat.mono ?_; rintro e w4 ⟨v4, rfl, hrow4, ho4⟩
             obtain ⟨a4, c4, rfl, _, _⟩ := hrow4.slice
             have HO4 := Lib.hid ho4
             clear hrow4 ho4))
        go_ret2
        rw [HR.out]
        exact ⟨_, rfl, SlT.nil, HO4.out⟩
      · by_cases b2 : n < 0
        · have HR := Lib.hid (show readF S s.data.toList pos n = ([], 1) by rw [HR0.out, if_pos (.inr (.inl b2))])
          go_enter Try.func13, Try.ntmps13
          go_wp2_with (first
            | (go_at_call 38; with_reducible refine hfd.mono ?_; rintro e w' ⟨rfl, rfl⟩)
            | (go_at_call 39; refine hdat.mono ?_; rintro e w4 ⟨v4, rfl, hrow4, ho4⟩
               obtain ⟨a4, c4, rfl, _, _⟩ := hrow4.slice
               have HO4 := Lib.hid ho4
               clear hrow4 ho4))
          go_ret2
          rw [HR.out]
          exact ⟨_, rfl, SlT.nil, HO4.out⟩
        · by_cases b3 : ((dataOf f).length : Int) < pos
          · have HR := Lib.hid (show readF S s.data.toList pos n = ([], 1) by rw [HR0.out, if_pos (.inr (.inr (.inl b3)))])
            go_enter Try.func13, Try.ntmps13
            go_wp2_with (first
              | (go_at_call 38; with_reducible refine hfd.mono ?_; rintro e w' ⟨rfl, rfl⟩)
              | (go_at_call 39; refine hdat.mono ?_; rintro e w4 ⟨v4, rfl, hrow4, ho4⟩
                 obtain ⟨a4, c4, rfl, _, _⟩ := hrow4.slice
                 have HO4 := Lib.hid ho4
                 clear hrow4 ho4))
            go_ret2
            rw [HR.out]
            exact ⟨_, rfl, SlT.nil, HO4.out⟩
          · by_cases b4 : ((dataOf f).length : Int) - pos < n
            · have HR := Lib.hid (show readF S s.data.toList pos n = ([], 1) by rw [HR0.out, if_pos (.inr (.inr (.inr b4)))])
              go_enter Try.func13, Try.ntmps13
              go_wp2_with (first
                | (go_at_call 38; with_reducible refine hfd.mono ?_; rintro e w' ⟨rfl, rfl⟩)
                | (go_at_call 39; refine hdat.mono ?_; rintro e w4 ⟨v4, rfl, hrow4, ho4⟩
                   obtain ⟨a4, c4, rfl, _, _⟩ := hrow4.slice
                   have HO4 := Lib.hid ho4
                   clear hrow4 ho4))
              go_ret2
              rw [HR.out]
              exact ⟨_, rfl, SlT.nil, HO4.out⟩
            · obtain ⟨pn, rfl⟩ := Int.eq_ofNat_of_zero_le (show 0 ≤ pos by omega)
              obtain ⟨nn, rfl⟩ := Int.eq_ofNat_of_zero_le (show 0 ≤ n by omega)
              have HR := Lib.hid (show readF S s.data.toList pn nn = (((dataOf f).drop pn).take nn, 0) by rw [HR0.out, if_neg (by omega)]; simp only [Int.toNat_natCast])
              have b5 : pn + nn ≤ (dataOf f).length := by omega
              clear b1 b2 hp hn
              go_enter Try.func13, Try.ntmps13
              go_wp2_with (go_at_call 38; with_reducible refine hfd.mono ?_; rintro e w' ⟨rfl, rfl⟩)
              refine hdat.mono ?_
              rintro e w4 ⟨v4, rfl, hrow4, ho4⟩
              have hsl4 := hrow4.slT
              obtain ⟨a4, c4, rfl, hc4, _⟩ := hsl4.shape
              have HO4 := Lib.hid ho4
              have hpart := hsl4.part (lo := pn) (hi := pn + nn) (by omega) b5
              simp only [Nat.mul_one, Nat.add_sub_cancel_left] at hpart
              clear hrow4 ho4 hsl4
              by_cases hcp : c4 = pn
              · rw [if_pos hcp, hcp, Nat.sub_self] at hpart
                have HP := Lib.hid hpart
                clear hpart
                go_wp2_with fail
                refine (twin40 _ _ _ _ HP.out.at (by simp only [List.length_take, List.length_drop]; omega)).mono ?_
                rintro e w1 ⟨v, rfl, q1, q2⟩
                have Q1 := Lib.hid (q1.mono (G := fun x => w.heap.size ≤ x) fun x hx => Nat.le_trans HO4.out.size hx)
                have Q2 := Lib.hid (HO4.out.trans' q2)
                clear q1 q2
                go_wp2
                go_ret2
                rw [HR.out]
                exact ⟨_, rfl, Q1.out, Q2.out⟩
              · rw [if_neg hcp] at hpart
                have HP := Lib.hid hpart
                clear hpart
                go_wp2_with fail
                refine (twin40 _ _ _ _ HP.out.at (by simp only [List.length_take, List.length_drop]; omega)).mono ?_
                rintro e w1 ⟨v, rfl, q1, q2⟩
                have Q1 := Lib.hid (q1.mono (G := fun x => w.heap.size ≤ x) fun x hx => Nat.le_trans HO4.out.size hx)
                have Q2 := Lib.hid (HO4.out.trans' q2)
                clear q1 q2
                go_wp2
                go_ret2
                rw [HR.out]
                exact ⟨_, rfl, Q1.out, Q2.out⟩

/-- The document's disk has a new plan, and begins anew. -/
theorem IsModel.replan {w1 w2 : World} (s : IsModel w.heap m S r F) (o : Old w w1) {p : Pl} {k f u : Value} (hp : OwnPlan w1.heap (fun b => w.heap.size ≤ b) k f u p) (hw : Fr (fun b => b = m) w1 w2)
    (hb : Blk w2.heap m #[.int .i64 p.crash, k, f, u, .int .i64 p.room, r.vf, .int .i64 0, .bool false] 41) :
    IsModel w2.heap m { plan := p, n := 0, died := false, files := S.files } { r with k := k, f := f, u := u } (fun b => F b ∨ (w.heap.size ≤ b ∧ b < w1.heap.size)) := by
  have s1 := s.more o
  have td := s1.blk.tag
  have keep : ∀ b T, T ≠ 41 → Tag w1.heap b T → w2.heap[b]? = w1.heap[b]? := fun b T hT t => hw.block b t.lt fun e => by subst e; exact hT (t.eq td)
  have own : ∀ {v : Value} {l : List Int}, SlT 3 iv w1.heap (fun b => w.heap.size ≤ b) v l → SlT 3 iv w2.heap (fun b => F b ∨ (w.heap.size ≤ b ∧ b < w1.heap.size)) v l := fun h =>
    (h.monot fun b h1 t => .inr ⟨h1, t.lt⟩).kept fun b _ t => keep b 3 (by decide) t
  exact {
    fits := s.fits
    own := .inl s.own
    blk := hb
    keep := own hp.keep
    fail := own hp.fail
    full := own hp.full
    row := s1.row.kept fun b e _ _ => keep b 75 (by decide) (s1.tagF e).2
    files := fun q hq => (s1.files q hq).kept (fun b _ t => keep b 5 (by decide) t) fun b e => keep b 101 (by decide) ((s1.files q hq).tagC e).2
    apart := s.apart
    lt := fun b h => Nat.lt_of_lt_of_le (s1.lt b h) hw.size }

theorem mstart_step {w1 w2 : World} (s : IsModel w.heap m S r F) (o : Old w w1) (hw : Fr (fun b => b = m) w1 w2) : Step F (fun b => F b ∨ (w.heap.size ≤ b ∧ b < w1.heap.size)) w w2 :=
  ⟨(Old.fr (F := F) o).trans hw fun x _ e => by subst e; exact s.own, fun b h => h.imp id fun h => h.1⟩

def MStartPost (w : World) (m : Nat) (F : Nat → Prop) (S : Dk) (e : Ending) (w' : World) : Prop :=
  e = .returned (.tuple #[]) ∧ ∃ r' F', IsModel w'.heap m S r' F' ∧ Step F F' w w'

set_option maxHeartbeats 2000000 in
set_option maxRecDepth 100000 in
theorem mstart34 (h : IsModel w.heap m S r F) {K : Nat} (wf : Wf S K) (hK : K < 1000000) (p : Pl) (okp : PlOk p) (G : Nat → Prop) (k f u : Value) (hp : IsPlanR w.heap G k f u p) (hG : ∀ x, G x → F x → False) (hGs : ∀ b, G b → b < w.heap.size) :
    Calls Try.prog 34 #[.pointer (some ⟨m, 0, none⟩), .agg #[.int .i64 p.crash, k, f, u, .int .i64 p.room]] w (MStartPost w m F (start S p)) := by
  have o0 : Old w (w.alloc (.cells #[.int .i64 p.crash, k, f, u, .int .i64 p.room] 24)) := (Fr.refl _ _).alloc _
  have bA := blk_new w #[.int .i64 p.crash, k, f, u, .int .i64 p.room] 24
  have h0 := h.fr o0 fun _ _ f => f
  have hp0 := hp.fr o0 fun _ _ f => f
  have hdie := die61 h0 wf (by omega)
  have hltF := h.lt
  obtain ⟨ak, ck, rfl, _, _⟩ := hp.keep.shape
  obtain ⟨af, cf, rfl, _, _⟩ := hp.fail.shape
  obtain ⟨au, cu, rfl, _, _⟩ := hp.full.shape
  have hfin : ∀ (S2 : Dk) (r2 : MDRep) (F2 : Nat → Prop) (w2 w3 w4 : World) (k' f' u' : Value), IsModel w2.heap m S2 r2 F2 → Step F F2 w w2 → S2.files = (if S.died then S else die S).files → Old w2 w3 → OwnPlan w3.heap (fun b => w2.heap.size ≤ b) k' f' u' p → Fr (fun b => b = m) w3 w4 →
      Blk w4.heap m #[.int .i64 p.crash, k', f', u', .int .i64 p.room, r2.vf, .int .i64 0, .bool false] 41 → MStartPost w m F (start S p) (.returned (.tuple #[])) w4 := by
    intro S2 r2 F2 w2 w3 w4 k' f' u' hd2 hs2 hfiles ho3 hpl hw4 hb4
    have := hd2.replan ho3 hpl hw4 hb4
    rw [hfiles] at this
    exact ⟨rfl, _, _, this, hs2.trans (mstart_step hd2 ho3 hw4)⟩
  have HFIN := Lib.hid hfin
  have HG := Lib.hid hG
  have HGS := Lib.hid hGs
  have hz0 := o0.size
  cases hd : S.died with
  | true =>
    have hD : (w.alloc (.cells #[.int .i64 p.crash, .slice ak p.keep.length ck, .slice af p.fail.length cf, .slice au p.full.length cu, .int .i64 p.room] 24)).cell? ⟨m, 7, none⟩ = some (.bool true) := by rw [h0.blk.rules.1, hd]; rfl
    have htw := twin6R _ G p.crash p.room _ _ _ p.keep p.fail p.full hp0.keep hp0.fail hp0.full okp.keep okp.fail okp.full (fun b hb => Nat.lt_of_lt_of_le (HGS.out b hb) hz0)
    have H0 := Lib.hid h0
    have HO := Lib.hid o0
    obtain ⟨a1, _⟩ := bA.rules
    clear h h0 hp hp0 o0 hdie hfin hG bA hGs hz0
    go_enter Try.func34, Try.ntmps34
    go_wp2_with fail
    refine htw.mono ?_
    rintro e w3 ⟨k', f', u', rfl, t1, t2, t3, ho⟩
    obtain ⟨ak', ck', rfl, _, _⟩ := t1.shape
    obtain ⟨af', cf', rfl, _, _⟩ := t2.shape
    obtain ⟨au', cu', rfl, _, _⟩ := t3.shape
    have hd3 := H0.out.blk.fr ho fun f => f
    obtain ⟨r1, r2⟩ := hd3.rules
    have hb4 := ((((((hd3.set 0 (.int .i64 p.crash)).set 1 (.slice ak' p.keep.length ck')).set 2 (.slice af' p.fail.length cf')).set 3 (.slice au' p.full.length cu')).set 4 (.int .i64 p.room)).set 6 (.int .i64 0)).set 7 (.bool false)
    have hw4 : Fr (fun b => b = m) w3 (((((((w3.setCell ⟨m, 0, none⟩ (.int .i64 p.crash)).setCell ⟨m, 1, none⟩ (.slice ak' p.keep.length ck')).setCell ⟨m, 2, none⟩ (.slice af' p.fail.length cf')).setCell ⟨m, 3, none⟩ (.slice au' p.full.length cu')).setCell ⟨m, 4, none⟩ (.int .i64 p.room)).setCell ⟨m, 6, none⟩ (.int .i64 0)).setCell ⟨m, 7, none⟩ (.bool false)) :=
      (((((((Fr.refl (fun b => b = m) w3).setCell (p := ⟨m, 0, none⟩) (fun _ => rfl) _).setCell (p := ⟨m, 1, none⟩) (fun _ => rfl) _).setCell (p := ⟨m, 2, none⟩) (fun _ => rfl) _).setCell (p := ⟨m, 3, none⟩) (fun _ => rfl) _).setCell (p := ⟨m, 4, none⟩) (fun _ => rfl) _).setCell (p := ⟨m, 6, none⟩) (fun _ => rfl) _).setCell (p := ⟨m, 7, none⟩) (fun _ => rfl) _
    simp only [List.setIfInBounds_toArray, List.set_cons_zero, List.set_cons_succ] at hb4
    have hend := HFIN.out _ _ _ _ _ _ _ _ _ H0.out ⟨Old.fr HO.out, fun _ h => .inl h⟩ (by rw [hd]; rfl) ho ⟨t1, t2, t3⟩ hw4 hb4
    have HEND := Lib.hid hend
    clear hend hb4 hw4 hd3 t1 t2 t3 ho
    go_wp2
    go_end0
    exact HEND.out
  | false =>
    have hD : (w.alloc (.cells #[.int .i64 p.crash, .slice ak p.keep.length ck, .slice af p.fail.length cf, .slice au p.full.length cu, .int .i64 p.room] 24)).cell? ⟨m, 7, none⟩ = some (.bool false) := by rw [h0.blk.rules.1, hd]; rfl
    have HO := Lib.hid o0
    have HP := Lib.hid hp0
    have HBA := Lib.hid bA
    obtain ⟨a1, _⟩ := bA.rules
    clear h h0 hp hp0 o0 hfin hG bA hGs
    go_enter Try.func34, Try.ntmps34
    go_wp2_with (first
      | (go_at_call 61; refine hdie.mono ?_; rintro e w2 ⟨rfl, r2, F2, hd2, hs2⟩
         have HB2 := Lib.hid (HBA.out.fr hs2.fr fun e => absurd (hltF _ e) (Nat.lt_irrefl _))
         obtain ⟨b1, _⟩ := HB2.out.rules
         have HP2 := Lib.hid (HP.out.fr hs2.fr HG.out)
         have H2 := Lib.hid hd2
         have HS2 := Lib.hid hs2
         clear hd2 hs2))
    have htw := twin6R w2 G p.crash p.room _ _ _ p.keep p.fail p.full HP2.out.keep HP2.out.fail HP2.out.full okp.keep okp.fail okp.full (fun b hb => Nat.lt_of_lt_of_le (HGS.out b hb) (Nat.le_trans hz0 HS2.out.fr.size))
    refine htw.mono ?_
    rintro e w3 ⟨k', f', u', rfl, t1, t2, t3, ho⟩
    obtain ⟨ak', ck', rfl, _, _⟩ := t1.shape
    obtain ⟨af', cf', rfl, _, _⟩ := t2.shape
    obtain ⟨au', cu', rfl, _, _⟩ := t3.shape
    have hd3 := H2.out.blk.fr ho fun f => f
    obtain ⟨r1, r2⟩ := hd3.rules
    have hb4 := ((((((hd3.set 0 (.int .i64 p.crash)).set 1 (.slice ak' p.keep.length ck')).set 2 (.slice af' p.fail.length cf')).set 3 (.slice au' p.full.length cu')).set 4 (.int .i64 p.room)).set 6 (.int .i64 0)).set 7 (.bool false)
    have hw4 : Fr (fun b => b = m) w3 (((((((w3.setCell ⟨m, 0, none⟩ (.int .i64 p.crash)).setCell ⟨m, 1, none⟩ (.slice ak' p.keep.length ck')).setCell ⟨m, 2, none⟩ (.slice af' p.fail.length cf')).setCell ⟨m, 3, none⟩ (.slice au' p.full.length cu')).setCell ⟨m, 4, none⟩ (.int .i64 p.room)).setCell ⟨m, 6, none⟩ (.int .i64 0)).setCell ⟨m, 7, none⟩ (.bool false)) :=
      (((((((Fr.refl (fun b => b = m) w3).setCell (p := ⟨m, 0, none⟩) (fun _ => rfl) _).setCell (p := ⟨m, 1, none⟩) (fun _ => rfl) _).setCell (p := ⟨m, 2, none⟩) (fun _ => rfl) _).setCell (p := ⟨m, 3, none⟩) (fun _ => rfl) _).setCell (p := ⟨m, 4, none⟩) (fun _ => rfl) _).setCell (p := ⟨m, 6, none⟩) (fun _ => rfl) _).setCell (p := ⟨m, 7, none⟩) (fun _ => rfl) _
    simp only [List.setIfInBounds_toArray, List.set_cons_zero, List.set_cons_succ] at hb4
    have hend := HFIN.out _ _ _ _ _ _ _ _ _ H2.out (Step.trans ⟨Old.fr HO.out, fun _ h => .inl h⟩ HS2.out) (by rw [hd]; rfl) ho ⟨t1, t2, t3⟩ hw4 hb4
    have HEND := Lib.hid hend
    clear hend hb4 hw4 hd3 t1 t2 t3 ho
    go_wp2
    go_end0
    exact HEND.out
end
end Go.Proofs.Ytpdflncgemcniaa
