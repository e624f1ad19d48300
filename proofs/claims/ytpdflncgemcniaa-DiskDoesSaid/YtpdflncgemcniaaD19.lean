/- PROVED HERE: the contracts of the document's Truncate, Remove, Append, WriteAt. PROVED HERE: the contracts of the document's Append and WriteAt. No conditions beyond the premises that each theorem names. -/
import Derived.Test.YtpdflncgemcniaaD18
namespace Go.Proofs.Ytpdflncgemcniaa
open Go.RowKit

theorem dropF_erase {l : List Fl} {k : Nat} {f : Fl} (h : l.Pairwise fun a b => a.name ≠ b.name) (hk : l[k]? = some f) : l.eraseIdx k = dropF f.name l := by
  obtain ⟨l1, l2, hl, hlen⟩ := split_at hk
  subst hl
  rw [← hlen, List.eraseIdx_append_of_length_le (Nat.le_refl _), Nat.sub_self, List.eraseIdx_cons_zero]
  rw [List.pairwise_append] at h
  obtain ⟨_, h2, h3⟩ := h
  rw [List.pairwise_cons] at h2
  unfold dropF
  rw [List.filter_append, List.filter_cons]
  have e1 : l1.filter (fun g => g.name != f.name) = l1 := List.filter_eq_self.2 fun g hg => by have := h3 g hg f (by simp); simpa using this
  have e2 : l2.filter (fun g => g.name != f.name) = l2 := List.filter_eq_self.2 fun g hg => by have := h2.1 g hg; simpa using Ne.symm this
  rw [e1, e2]
  simp

section
variable {w : World} {m : Nat} {S : Dk} {r : MDRep} {F : Nat → Prop}

theorem IsModel.at_found (h : IsModel w.heap m S r F) {k : Nat} {f : Fl} (hk : S.files[k]? = some f) : ∃ q, r.ps[k]? = some (f, q) := by
  obtain ⟨f', q, h1, h2, _⟩ := h.at_fl (List.getElem?_eq_some_iff.1 hk).1
  rw [hk] at h2
  cases h2
  exact ⟨q, h1⟩

/-- change, of a write of new data. -/
theorem mchange_new {W1 : World} (h : IsModel w.heap m S r F) {K : Nat} (wf : Wf S K) (hK : K ≤ 1000000) {k : Nat} {f : Fl} {q : MRep} (hp : r.ps[k]? = some (f, q)) (o : Old w W1) (pos : Nat) (vb : Value) (b : Bs) (hb : SlT 5 u8 W1.heap (fun x => w.heap.size ≤ x) vb b) (has : Nat) (hh : has ≤ 268435456) :
    Calls Try.prog 59 #[.pointer (some ⟨m, 0, none⟩), .int .i64 k, .agg #[.bool false, .int .i64 pos, .int .i64 0, vb], .int .i64 has] W1 (MOpPost w m F (change S f (.write pos b) has)) := by
  refine (mchange59 (h.more o) wf hK hp (.write pos b) [.bool false, .int .i64 pos, .int .i64 0, vb] ⟨vb, rfl, hb.monot fun x h1 t => .inr ⟨h1, t.lt⟩⟩ has hh).mono ?_
  rintro e w' ⟨rfl, r', F', h1, h2⟩
  exact ⟨rfl, r', F', h1, Step.more o h2⟩

set_option maxHeartbeats 2000000 in
set_option maxRecDepth 100000 in
theorem mtruncate30 (h : IsModel w.heap m S r F) {K : Nat} (wf : Wf S K) (hK : K < 1000000) (s : ByteArray) (long : Int) :
    Calls Try.prog 30 #[.pointer (some ⟨m, 0, none⟩), .string s, .int .i64 long] w (MOpPost w m F (onFile S s.data.toList (truncK long))) := by
  have hb := mbegin55 h wf hK
  clear h
  go_enter Try.func30, Try.ntmps30
  go_wp2_with fail
  refine hb.mono ?_
  rintro e w1 ⟨rfl, r1, F1, hd, hst⟩
  cases hx : ((begin S).1 == 0) with
  | false =>
    have HR := Lib.hid (onFile_err (s := s.data.toList) (k := truncK long) hx)
    have hx' : ((begin S).1 == 0) = false := hx
    have HD := Lib.hid hd
    have HS := Lib.hid hst
    generalize hy : (begin S).1 = y at hx'
    have HY := Lib.hid hy
    clear hd hst hx hy
    go_wp2
    go_ret
    rw [HR.out]
    exact ⟨by rw [HY.out]; rfl, r1, F1, HD.out, HS.out⟩
  | true =>
    have hx' : (begin S).1 = 0 := by simpa using hx
    have wf1 := wf.begin
    have hfd := find38 hd wf1.few (by omega) s
    rw [hx']
    rcases findI_findF (s := s.data.toList) (l := (begin S).2.files) with ⟨hi, hf⟩ | ⟨k, f, hi, hk, hname, hf⟩
    · have HR := Lib.hid (onFile_none (s := s.data.toList) (k := truncK long) hx' hf)
      rw [hi] at hfd
      have HD := Lib.hid hd
      have HS := Lib.hid hst
      clear hd hst hx hx' hf hi
      go_wp2_with (go_at_call 38; refine hfd.mono ?_; rintro e w' ⟨rfl, rfl⟩)
      go_ret
      rw [HR.out]
      exact ⟨rfl, r1, F1, HD.out, HS.out⟩
    · have hR0 := onFile_some (k := truncK long) hx' hf
      rw [hi] at hfd
      obtain ⟨q, hp⟩ := hd.at_found hk
      have HD := Lib.hid hd
      have HS := Lib.hid hst
      clear hd hst hx hx' hf hi
      by_cases hneg : long < 0
      · have HR := Lib.hid (show onFile S s.data.toList (truncK long) = (1, (begin S).2) by rw [hR0]; unfold truncK; exact if_pos hneg)
        clear hR0
        go_wp2_with (go_at_call 38; refine hfd.mono ?_; rintro e w' ⟨rfl, rfl⟩)
        go_ret
        rw [HR.out]
        exact ⟨rfl, r1, F1, HD.out, HS.out⟩
      · by_cases hl1 : 268435456 < long
        · have HR := Lib.hid (show onFile S s.data.toList (truncK long) = (2, (begin S).2) by rw [hR0]; unfold truncK; rw [if_neg (by omega), if_pos hl1])
          clear hR0
          go_wp2_with (go_at_call 38; refine hfd.mono ?_; rintro e w' ⟨rfl, rfl⟩)
          go_ret
          rw [HR.out]
          exact ⟨rfl, r1, F1, HD.out, HS.out⟩
        · obtain ⟨ln, rfl⟩ := Int.eq_ofNat_of_zero_le (show 0 ≤ long by omega)
          have HR := Lib.hid (show onFile S s.data.toList (truncK ln) = change (begin S).2 f (.cut ln) ln by rw [hR0]; unfold truncK; rw [if_neg (by omega), if_neg (by omega)]; simp only [Int.toNat_natCast])
          have hch := mchange59 HD.out wf1 (by omega) hp (.cut ln) [.bool true, .int .i64 0, .int .i64 ln, .slice none 0 0] rfl ln (by omega)
          clear hR0 wf1
          go_wp2_with (first
            | (go_at_call 38; refine hfd.mono ?_; rintro e w' ⟨rfl, rfl⟩)
            | (go_at_call 59; refine hch.mono ?_; rintro e w2 ⟨rfl, r', F', hd2, hs2⟩
               have HFIN := Lib.hid (And.intro hd2 hs2)
               clear hd2 hs2))
          go_ret
          rw [HR.out]
          exact ⟨rfl, r', F', HFIN.out.1, HS.out.trans HFIN.out.2⟩

set_option maxHeartbeats 2000000 in
set_option maxRecDepth 100000 in
theorem mremove33 (h : IsModel w.heap m S r F) {K : Nat} (wf : Wf S K) (hK : K < 1000000) (s : ByteArray) :
    Calls Try.prog 33 #[.pointer (some ⟨m, 0, none⟩), .string s] w (MOpPost w m F (onFile S s.data.toList removeK)) := by
  have hb := mbegin55 h wf hK
  clear h
  go_enter Try.func33, Try.ntmps33
  go_wp2_with fail
  refine hb.mono ?_
  rintro e w1 ⟨rfl, r1, F1, hd, hst⟩
  cases hx : ((begin S).1 == 0) with
  | false =>
    have HR := Lib.hid (onFile_err (s := s.data.toList) (k := removeK) hx)
    have hx' : ((begin S).1 == 0) = false := hx
    have HD := Lib.hid hd
    have HS := Lib.hid hst
    generalize hy : (begin S).1 = y at hx'
    have HY := Lib.hid hy
    clear hd hst hx hy
    go_wp2
    go_ret
    rw [HR.out]
    exact ⟨by rw [HY.out]; rfl, r1, F1, HD.out, HS.out⟩
  | true =>
    have hx' : (begin S).1 = 0 := by simpa using hx
    have wf1 := wf.begin
    have hfd := find38 hd wf1.few (by omega) s
    rw [hx']
    rcases findI_findF (s := s.data.toList) (l := (begin S).2.files) with ⟨hi, hf⟩ | ⟨k, f, hi, hk, hname, hf⟩
    · have HR := Lib.hid (onFile_none (s := s.data.toList) (k := removeK) hx' hf)
      rw [hi] at hfd
      have HD := Lib.hid hd
      have HS := Lib.hid hst
      clear hd hst hx hx' hf hi
      go_wp2_with (go_at_call 38; refine hfd.mono ?_; rintro e w' ⟨rfl, rfl⟩)
      go_ret
      rw [HR.out]
      exact ⟨rfl, r1, F1, HD.out, HS.out⟩
    · have HR := Lib.hid (show onFile S s.data.toList removeK = (0, { (begin S).2 with files := (begin S).2.files.eraseIdx k }) by rw [onFile_some (k := removeK) hx' hf, dropF_erase wf1.names hk]; rfl)
      rw [hi] at hfd
      obtain ⟨q, hp⟩ := hd.at_found hk
      have hout := out60 hd wf1 (by omega) hp
      have HS := Lib.hid hst
      clear hd hst hx hx' hf hi
      go_wp2_with (first
        | (go_at_call 38; refine hfd.mono ?_; rintro e w' ⟨rfl, rfl⟩)
        | (go_at_call 60; refine hout.mono ?_; rintro e w2 ⟨r', F', q', hd2, hs2, rfl, _, _⟩
           have HFIN := Lib.hid (And.intro hd2 hs2)
           clear hd2 hs2))
      go_ret
      rw [HR.out]
      exact ⟨rfl, r', F', HFIN.out.1, HS.out.trans HFIN.out.2⟩
end
end Go.Proofs.Ytpdflncgemcniaa
namespace Go.Proofs.Ytpdflncgemcniaa
open Go.RowKit

section
variable {w : World} {m : Nat} {S : Dk} {r : MDRep} {F : Nat → Prop}

/-- A file of the document's disk as the code reads it: its cells, and what Data comes to. -/
theorem IsModel.fileAt (h : IsModel w.heap m S r F) {K : Nat} (wf : Wf S K) (hK : K ≤ 1000000) {k : Nat} {f : Fl} {q : MRep} (hp : r.ps[k]? = some (f, q)) :
    ∃ g cv a1 c1 a2 c2, k < S.files.length ∧ S.files.length ≤ cv ∧ w.cell? ⟨m, 5, none⟩ = some (.slice (some ⟨g, 0, none⟩) S.files.length cv) ∧
      w.cell? ⟨g, k * 3, none⟩ = some (.string ⟨f.name.toArray⟩) ∧ w.cell? ⟨g, k * 3 + 1, none⟩ = some (.slice a1 f.safe.length c1) ∧ w.cell? ⟨g, k * 3 + 2, none⟩ = some (.slice a2 f.chs.length c2) ∧
      (dataOf f).length ≤ 268435456 ∧ Calls Try.prog 39 #[.agg #[.string ⟨f.name.toArray⟩, .slice a1 f.safe.length c1, .slice a2 f.chs.length c2]] w (MadeRow w (dataOf f)) := by
  have hf : S.files[k]? = some f := by rw [← h.fits, List.getElem?_map, hp]; rfl
  have hfl := wf.each f (List.mem_of_getElem? hf)
  have hF := h.files _ (List.mem_of_getElem? hp)
  obtain ⟨av, cv, hvf, hcv⟩ := h.shapeF
  obtain ⟨g, rfl, hFg, tg, hgo, hcells⟩ := h.at_file hvf hp
  obtain ⟨a1, c1, hvs, _, _⟩ := hF.safe.shape
  obtain ⟨a2, c2, hvc, _⟩ := hF.shapeC
  have hdat := data39 _ F f q hF hfl hK h.lt
  rw [hvs, hvc] at hdat
  refine ⟨g, cv, a1, c1, a2, c2, (List.getElem?_eq_some_iff.1 hf).1, hcv, ?_, ?_, ?_, ?_, hfl.data, hdat⟩
  · rw [h.blk.rules.1, ← hvf]; rfl
  · rw [cell_cel]; exact hcells 0 (by omega)
  · rw [cell_cel, ← hvs]; exact hcells 1 (by omega)
  · rw [cell_cel, ← hvc]; exact hcells 2 (by omega)

set_option maxHeartbeats 2000000 in
set_option maxRecDepth 100000 in
theorem mappend28 (h : IsModel w.heap m S r F) {K : Nat} (wf : Wf S K) (hK : K < 1000000) (s : ByteArray) (G : Nat → Prop) (vb : Value) (b : Bs) (hb : SlR u8 w.heap G vb b) (hG : ∀ x, G x → F x → False) (hbl : b.length ≤ maxLen) :
    Calls Try.prog 28 #[.pointer (some ⟨m, 0, none⟩), .string s, vb] w (MOpPost w m F (onFile S s.data.toList (appendK b))) := by
  have hbg := mbegin55 h wf hK
  obtain ⟨ab, cb, rfl, hcb, _⟩ := hb.shape
  have HB := Lib.hid hb
  unfold maxLen at hbl
  clear h hb
  go_enter Try.func28, Try.ntmps28
  go_wp2_with fail
  refine hbg.mono ?_
  rintro e w1 ⟨rfl, r1, F1, hd, hst⟩
  cases hx : ((begin S).1 == 0) with
  | false =>
    have HR := Lib.hid (onFile_err (s := s.data.toList) (k := appendK b) hx)
    have hx' : ((begin S).1 == 0) = false := hx
    have HD := Lib.hid hd
    have HS := Lib.hid hst
    generalize hy : (begin S).1 = y at hx'
    have HY := Lib.hid hy
    clear hd hst hx hy
    go_wp2
    go_ret
    rw [HR.out]
    exact ⟨by rw [HY.out]; rfl, r1, F1, HD.out, HS.out⟩
  | true =>
    have hx' : (begin S).1 = 0 := by simpa using hx
    have wf1 := wf.begin
    have hfd := find38 hd wf1.few (by omega) s
    rw [hx']
    rcases findI_findF (s := s.data.toList) (l := (begin S).2.files) with ⟨hi, hf⟩ | ⟨k, f, hi, hk, hname, hf⟩
    · have HR := Lib.hid (onFile_none (s := s.data.toList) (k := appendK b) hx' hf)
      rw [hi] at hfd
      have HD := Lib.hid hd
      have HS := Lib.hid hst
      clear hd hst hx hx' hf hi
      go_wp2_with (go_at_call 38; refine hfd.mono ?_; rintro e w' ⟨rfl, rfl⟩)
      go_ret
      rw [HR.out]
      exact ⟨rfl, r1, F1, HD.out, HS.out⟩
    · have hR0 := onFile_some (k := appendK b) hx' hf
      rw [hi] at hfd
      obtain ⟨q, hp⟩ := hd.at_found hk
      obtain ⟨g, cv, a1, c1, a2, c2, hkl, hcv, hM, x0, x1, x2, hdl, hdat⟩ := hd.fileAt wf1 (by omega) hp
      have HD := Lib.hid hd
      have HS := Lib.hid hst
      have HB1 := Lib.hid (HB.out.fr hst.fr hG)
      have HW := Lib.hid wf1
      clear hd hst hx hx' hf hi wf1 hname hk
      by_cases hlong : (268435456 : Int) - (dataOf f).length < b.length
      · have HR := Lib.hid (show onFile S s.data.toList (appendK b) = (2, (begin S).2) by rw [hR0]; unfold appendK; exact if_pos (by omega))
        clear hR0
        go_wp2_with (first
          | (go_at_call 38; refine hfd.mono ?_; rintro e w' ⟨rfl, rfl⟩)
          | (go_at_call 39; refine hdat.mono ?_; rintro e w4 ⟨v4, rfl, hrow4, ho4⟩
             obtain ⟨a4, c4, rfl, _, _⟩ := hrow4.slice
             have HO4 := Lib.hid ho4
             clear hrow4 ho4))
        go_ret
        rw [HR.out]
        exact ⟨rfl, r1, F1, HD.out.fr HO4.out fun _ _ f => f, HS.out.trans ⟨Old.fr HO4.out, fun _ h => .inl h⟩⟩
      · have HR := Lib.hid (show onFile S s.data.toList (appendK b) = change (begin S).2 f (.write (dataOf f).length b) ((dataOf f).length + b.length) by rw [hR0]; unfold appendK; exact if_neg (by omega))
        have HP := Lib.hid (fun W1 (o : Old w1 W1) vb' (hvb : SlT 5 u8 W1.heap (fun x => w1.heap.size ≤ x) vb' b) => mchange_new HD.out HW.out (by omega) hp o (dataOf f).length vb' b hvb ((dataOf f).length + b.length) (by omega))
        clear hR0
        go_wp2_with (first
          | (go_at_call 38; refine hfd.mono ?_; rintro e w' ⟨rfl, rfl⟩)
          | (go_at_call 39; refine hdat.mono ?_; rintro e w4 ⟨v4, rfl, hrow4, ho4⟩
             obtain ⟨a4, c4, rfl, _, _⟩ := hrow4.slice
             have HO4 := Lib.hid ho4
             clear hrow4 ho4)
          | (go_at_call 40; refine (twin40R _ G _ b (HB1.out.fr HO4.out fun _ _ f => f) (by omega)).mono ?_; rintro e w5 ⟨v5, rfl, hs5, ho5⟩
             obtain ⟨a5, c5, rfl, _, _⟩ := hs5.shape
             have HO5 := Lib.hid (HO4.out.trans' ho5)
             have HV := Lib.hid (hs5.mono (G := fun x => w1.heap.size ≤ x) fun x hx => Nat.le_trans HO4.out.size hx)
             clear hs5 ho5)
          | (go_at_call 59; refine (HP.out _ HO5.out _ HV.out).mono ?_; rintro e w2 ⟨rfl, r', F', hd2, hs2⟩
             have HFIN := Lib.hid (And.intro hd2 hs2)
             clear hd2 hs2))
        go_ret
        rw [HR.out]
        exact ⟨rfl, r', F', HFIN.out.1, HS.out.trans HFIN.out.2⟩

set_option maxHeartbeats 2000000 in
set_option maxRecDepth 100000 in
theorem mwriteAt29 (h : IsModel w.heap m S r F) {K : Nat} (wf : Wf S K) (hK : K < 1000000) (s : ByteArray) (pos : Int) (hpos : -9223372036854775808 ≤ pos ∧ pos < 9223372036854775808) (G : Nat → Prop) (vb : Value) (b : Bs) (hb : SlR u8 w.heap G vb b) (hG : ∀ x, G x → F x → False) (hbl : b.length ≤ maxLen) :
    Calls Try.prog 29 #[.pointer (some ⟨m, 0, none⟩), .string s, .int .i64 pos, vb] w (MOpPost w m F (onFile S s.data.toList (writeK pos b))) := by
  have hbg := mbegin55 h wf hK
  obtain ⟨ab, cb, rfl, hcb, _⟩ := hb.shape
  have HB := Lib.hid hb
  unfold maxLen at hbl
  clear h hb
  go_enter Try.func29, Try.ntmps29
  go_wp2_with fail
  refine hbg.mono ?_
  rintro e w1 ⟨rfl, r1, F1, hd, hst⟩
  cases hx : ((begin S).1 == 0) with
  | false =>
    have HR := Lib.hid (onFile_err (s := s.data.toList) (k := writeK pos b) hx)
    have hx' : ((begin S).1 == 0) = false := hx
    have HD := Lib.hid hd
    have HS := Lib.hid hst
    generalize hy : (begin S).1 = y at hx'
    have HY := Lib.hid hy
    clear hd hst hx hy
    go_wp2
    go_ret
    rw [HR.out]
    exact ⟨by rw [HY.out]; rfl, r1, F1, HD.out, HS.out⟩
  | true =>
    have hx' : (begin S).1 = 0 := by simpa using hx
    have wf1 := wf.begin
    have hfd := find38 hd wf1.few (by omega) s
    rw [hx']
    rcases findI_findF (s := s.data.toList) (l := (begin S).2.files) with ⟨hi, hf⟩ | ⟨k, f, hi, hk, hname, hf⟩
    · have HR := Lib.hid (onFile_none (s := s.data.toList) (k := writeK pos b) hx' hf)
      rw [hi] at hfd
      have HD := Lib.hid hd
      have HS := Lib.hid hst
      clear hd hst hx hx' hf hi
      go_wp2_with (go_at_call 38; refine hfd.mono ?_; rintro e w' ⟨rfl, rfl⟩)
      go_ret
      rw [HR.out]
      exact ⟨rfl, r1, F1, HD.out, HS.out⟩
    · have hR0 := onFile_some (k := writeK pos b) hx' hf
      rw [hi] at hfd
      obtain ⟨q, hp⟩ := hd.at_found hk
      obtain ⟨g, cv, a1, c1, a2, c2, hkl, hcv, hM, x0, x1, x2, hdl, hdat⟩ := hd.fileAt wf1 (by omega) hp
      have HD := Lib.hid hd
      have HS := Lib.hid hst
      have HB1 := Lib.hid (HB.out.fr hst.fr hG)
      have HW := Lib.hid wf1
      clear hd hst hx hx' hf hi wf1 hname hk
      by_cases hneg : pos < 0
      · have HR := Lib.hid (show onFile S s.data.toList (writeK pos b) = (1, (begin S).2) by rw [hR0]; unfold writeK; exact if_pos hneg)
        clear hR0
        go_wp2_with (go_at_call 38; refine hfd.mono ?_; rintro e w' ⟨rfl, rfl⟩)
        go_ret
        rw [HR.out]
        exact ⟨rfl, r1, F1, HD.out, HS.out⟩
      · obtain ⟨pn, rfl⟩ := Int.eq_ofNat_of_zero_le (show 0 ≤ pos by omega)
        clear hneg
        by_cases hlong : (268435456 : Int) - b.length < pn
        · have HR := Lib.hid (show onFile S s.data.toList (writeK pn b) = (2, (begin S).2) by rw [hR0]; unfold writeK; rw [if_neg (by omega)]; exact if_pos (by simp only [Int.toNat_natCast]; omega))
          clear hR0
          go_wp2_with (go_at_call 38; refine hfd.mono ?_; rintro e w' ⟨rfl, rfl⟩)
          go_ret
          rw [HR.out]
          exact ⟨rfl, r1, F1, HD.out, HS.out⟩
        · have hR1 : onFile S s.data.toList (writeK pn b) = change (begin S).2 f (.write pn b) (max (dataOf f).length (pn + b.length)) := by rw [hR0]; unfold writeK; rw [if_neg (by omega), if_neg (by simp only [Int.toNat_natCast]; omega)]; simp only [Int.toNat_natCast]
          have HP := Lib.hid (fun has (hh : has ≤ 268435456) W1 (o : Old w1 W1) vb' (hvb : SlT 5 u8 W1.heap (fun x => w1.heap.size ≤ x) vb' b) => mchange_new HD.out HW.out (by omega) hp o pn vb' b hvb has hh)
          clear hR0
          have fin : ∀ has : Nat, has ≤ 268435456 → has = max (dataOf f).length (pn + b.length) → True := fun _ _ _ => trivial
          clear fin
          by_cases hgt : ((dataOf f).length : Int) < pn + b.length
          · have HR := Lib.hid (show onFile S s.data.toList (writeK pn b) = change (begin S).2 f (.write pn b) (pn + b.length) by rw [hR1, Nat.max_eq_right (by omega)])
            have HP2 := Lib.hid (HP.out (pn + b.length) (by omega))
            clear hR1
            go_wp2_with (first
              | (go_at_call 38; refine hfd.mono ?_; rintro e w' ⟨rfl, rfl⟩)
              | (go_at_call 39; refine hdat.mono ?_; rintro e w4 ⟨v4, rfl, hrow4, ho4⟩
                 obtain ⟨a4, c4, rfl, _, _⟩ := hrow4.slice
                 have HO4 := Lib.hid ho4
                 clear hrow4 ho4)
              | (go_at_call 40; refine (twin40R _ G _ b (HB1.out.fr HO4.out fun _ _ f => f) (by omega)).mono ?_; rintro e w5 ⟨v5, rfl, hs5, ho5⟩
                 obtain ⟨a5, c5, rfl, _, _⟩ := hs5.shape
                 have HO5 := Lib.hid (HO4.out.trans' ho5)
                 have HV := Lib.hid (hs5.mono (G := fun x => w1.heap.size ≤ x) fun x hx => Nat.le_trans HO4.out.size hx)
                 clear hs5 ho5)
              | (go_at_call 59; refine (HP2.out _ HO5.out _ HV.out).mono ?_; rintro e w2 ⟨rfl, r', F', hd2, hs2⟩
                 have HFIN := Lib.hid (And.intro hd2 hs2)
                 clear hd2 hs2))
            go_ret
            rw [HR.out]
            exact ⟨rfl, r', F', HFIN.out.1, HS.out.trans HFIN.out.2⟩
          · have HR := Lib.hid (show onFile S s.data.toList (writeK pn b) = change (begin S).2 f (.write pn b) (dataOf f).length by rw [hR1, Nat.max_eq_left (by omega)])
            have HP2 := Lib.hid (HP.out (dataOf f).length (by omega))
            clear hR1
            go_wp2_with (first
              | (go_at_call 38; refine hfd.mono ?_; rintro e w' ⟨rfl, rfl⟩)
              | (go_at_call 39; refine hdat.mono ?_; rintro e w4 ⟨v4, rfl, hrow4, ho4⟩
                 obtain ⟨a4, c4, rfl, _, _⟩ := hrow4.slice
                 have HO4 := Lib.hid ho4
                 clear hrow4 ho4)
              | (go_at_call 40; refine (twin40R _ G _ b (HB1.out.fr HO4.out fun _ _ f => f) (by omega)).mono ?_; rintro e w5 ⟨v5, rfl, hs5, ho5⟩
                 obtain ⟨a5, c5, rfl, _, _⟩ := hs5.shape
                 have HO5 := Lib.hid (HO4.out.trans' ho5)
                 have HV := Lib.hid (hs5.mono (G := fun x => w1.heap.size ≤ x) fun x hx => Nat.le_trans HO4.out.size hx)
                 clear hs5 ho5)
              | (go_at_call 59; refine (HP2.out _ HO5.out _ HV.out).mono ?_; rintro e w2 ⟨rfl, r', F', hd2, hs2⟩
                 have HFIN := Lib.hid (And.intro hd2 hs2)
                 clear hd2 hs2))
            go_ret
            rw [HR.out]
            exact ⟨rfl, r', F', HFIN.out.1, HS.out.trans HFIN.out.2⟩
end
end Go.Proofs.Ytpdflncgemcniaa
