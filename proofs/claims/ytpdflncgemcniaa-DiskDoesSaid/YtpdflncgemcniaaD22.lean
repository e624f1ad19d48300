/- PROVED HERE: the contract of the document's All. No conditions beyond the premises that each theorem names. -/
import Derived.Test.YtpdflncgemcniaaD21
namespace Go.Proofs.Ytpdflncgemcniaa
open Go.RowKit

theorem toldOf_take {l : List Fl} {k : Nat} {f : Fl} (safe : Bool) (h : l[k]? = some f) : toldOf safe (l.take (k + 1)) = toldOf safe (l.take k) ++ [(f.name, tell safe f)] := by
  obtain ⟨hlt', rfl⟩ := List.getElem?_eq_some_iff.1 h
  simp only [toldOf]
  rw [List.take_succ_eq_append_getElem hlt', List.map_append]
  rfl

theorem toldOf_length (safe : Bool) (l : List Fl) : (toldOf safe l).length = l.length := by simp [toldOf]

/-- What Files tells. -/
def liveOf (S : Dk) : List (Bs × Bs) := if S.died then [] else toldOf false S.files

section
variable {w : World} {m : Nat} {S : Dk} {r : MDRep} {F : Nat → Prop}

set_option maxHeartbeats 4000000 in
set_option maxRecDepth 100000 in
theorem mall42s (h : IsModel w.heap m S r F) {K : Nat} (wf : Wf S K) (hK : K ≤ 1000000) :
    Calls Try.prog 42 #[.pointer (some ⟨m, 0, none⟩), .bool true] w (ToldPost w (toldOf true S.files)) := by
  obtain ⟨av, cv, hvf, hcv⟩ := h.shapeF
  have hV : w.cell? ⟨m, 5, none⟩ = some (.slice av S.files.length cv) := by rw [h.blk.rules.1, ← hvf]; rfl
  have hD : w.cell? ⟨m, 7, none⟩ = some (.bool S.died) := by rw [h.blk.rules.1]; rfl
  have HVF := Lib.hid hvf
  have H := Lib.hid h
  have HWF := Lib.hid wf
  have hfew := wf.few
  clear h wf hvf
  go_enter Try.func42, Try.ntmps42
  go_wp2
  go_loopw [14, 5] (fun i v wr => ∃ k : Nat, i = .int .i64 k ∧ k ≤ S.files.length ∧ IsFiles wr.heap (fun b => w.heap.size ≤ b) v (toldOf true (S.files.take k)) ∧ Old w wr) (fun i _ _ => S.files.length - (intOf i).toNat)
  case atStart => exact ⟨0, rfl, Nat.zero_le _, IsFiles.nil, Fr.refl _ _⟩
  case round =>
    obtain ⟨k, rfl, hk, hfiles, ho⟩ := hrel
    by_cases hlt : k < S.files.length
    · obtain ⟨f, q, hp, hfk, hF⟩ := H.out.at_fl hlt
      obtain ⟨g, cv', a1, c1, a2, c2, _, _, hV', x0, x1, x2, hdl, hgo, hFg, _, hdat⟩ := H.out.fileOn HWF.out hK hp
      obtain rfl : av = some ⟨g, 0, none⟩ := by rw [hV] at hV'; simp at hV'; exact hV'.1
      have hfl := HWF.out.each f (List.mem_of_getElem? hfk)
      have y0 : wr.cell? ⟨g, k * 3, none⟩ = some (.string ⟨f.name.toArray⟩) := by rw [cell_cel] at x0 ⊢; exact ho.cel x0 fun f => f
      have y1 : wr.cell? ⟨g, k * 3 + 1, none⟩ = some (.slice a1 f.safe.length c1) := by rw [cell_cel] at x1 ⊢; exact ho.cel x1 fun f => f
      have y2 : wr.cell? ⟨g, k * 3 + 2, none⟩ = some (.slice a2 f.chs.length c2) := by rw [cell_cel] at x2 ⊢; exact ho.cel x2 fun f => f
      have hvs : q.vs = .slice a1 f.safe.length c1 := by
        obtain ⟨g', e1, _, _, _, hcells⟩ := H.out.at_file HVF.out hp
        cases e1
        have h1 : cel w.heap g (k * 3 + 1) = some q.vs := hcells 1 (by omega)
        rw [cell_cel, h1] at x1
        exact Option.some.inj x1
      have hsafe : SlB w.heap F (.slice a1 f.safe.length c1) f.safe := by rw [← hvs]; exact hF.safe
      have oB : Old wr (wr.alloc (.cells #[.string ⟨f.name.toArray⟩, .slice a1 f.safe.length c1, .slice a2 f.chs.length c2] 75)) := (Fr.refl _ _).alloc _
      have bB := blk_new wr #[.string ⟨f.name.toArray⟩, .slice a1 f.safe.length c1, .slice a2 f.chs.length c2] 75
      have hs0 := hsafe.fr (ho.trans' oB) fun _ _ f => f
      have htl : (f.safe).length ≤ 268435456 := by exact hfl.safe
      obtain ⟨rs, ers, hrow, hrsl⟩ := hfiles
      have hll : (toldOf true (S.files.take k)).length = k := by rw [toldOf_length, List.length_take]; omega
      rw [hll] at hrow
      have hsl := hfl.safe
      have hzw : w.heap.size ≤ wr.heap.size := ho.size
      have HROW := Lib.hid hrow
      have HRS := Lib.hid (And.intro ers hrsl)
      have HTAKE := Lib.hid (show toldOf true (S.files.take (k + 1)) = toldOf true (S.files.take k) ++ [(f.name, f.safe)] from toldOf_take true hfk)
      have HHO := Lib.hid ho
      have HOB := Lib.hid oB
      have HBB := Lib.hid bB
      have HDAT := Lib.hid hdat
      have HLL := Lib.hid hll
      have HS0 := Lib.hid hs0
      obtain ⟨z0, _⟩ := bB.rules
      clear hfk hp ers hrsl hrow ho hll x0 x1 x2 hvs hsafe oB bB hs0 hdat hF hgo hV' hfl
      go_wp2_with (first
        | (go_at_call 40
           refine (twin40 _ F _ f.safe (HS0.out.at) (by omega)).mono ?_
           rintro e w2 ⟨v2, rfl, hs2, ho2⟩
           obtain ⟨a3, c3, e3, _, _⟩ := hs2.shape
           subst e3
           obtain ⟨z2, _⟩ := (HBB.out.fr ho2 fun f => f).rules
           have hsl2 : SlB w2.heap (fun b => wr.heap.size ≤ b) (.slice a3 (f.safe).length c3) (f.safe) := hs2.mono fun b h => by simp at h; omega
           have ho3 := (HOB.out.trans' ho2).alloc (.cells #[encStr f.name, .slice a3 (f.safe).length c3] 80)
           have hrowX := HROW.out.kept (h' := (w2.alloc (.cells #[encStr f.name, .slice a3 (f.safe).length c3] 80)).heap) fun b _ _ hb => ho3.block b hb fun f => f
           have hrowN : RowAt (w2.alloc (.cells #[encStr f.name, .slice a3 (f.safe).length c3] 80)).heap 2 (.slice (some ⟨w2.heap.size, 0, none⟩) 1 1) 1 [encStr f.name, .slice a3 (f.safe).length c3] := by
             refine ⟨rfl, .inr ⟨w2.heap.size, 0, 1, rfl, fun j u hj => ?_⟩⟩
             rw [Nat.zero_add, cel_new, ← Array.getElem?_toList]
             exact hj
           have hs3 := hsl2.fr (w' := w2.alloc (.cells #[encStr f.name, .slice a3 (f.safe).length c3] 80)) ((Fr.refl (fun _ => False) w2).alloc _) fun _ _ f => f
           have HS2 := Lib.hid (And.intro hs3 ho3)
           clear ho3 hs3 hsl2
           clear hs2 ho2)
        | (at_builtin; refine wpList_app rfl (.tmp 25) (.tmp 30) 52 rfl 80 (.agg #[.string ⟨#[]⟩, .slice none 0 0]) 2 40 Try.underlying52 Try.info80 rfl (by decide) (fun b => w.heap.size ≤ b) _ k (rs.flatMap lrCells) rfl hrowX _ 1 [encStr f.name, .slice a3 (f.safe).length c3] rfl hrowN (by intro u hu; simp at hu; rcases hu with rfl | rfl <;> rfl) (by unfold maxLen; omega) (by omega) ?_
           intro v3 w3 hown3 hfr3 _
           have htag := fun b hb => (hrowX.owned (b := b) hb)
           have HN := Lib.hid (And.intro hown3 (And.intro hfr3 htag))
           clear hown3 hfr3 hrowX htag))
      refine ⟨⟨k + 1, by go_num, by omega, ?_, ?_⟩, by simp [intOf]; omega⟩
      · rw [HTAKE.out]
        have hz3 := HS2.out.2.size
        refine IsFiles.push HRS.out.1 (fun r hr => (HRS.out.2 r hr).fr HS2.out.2 fun _ _ f => f) (HS2.out.1.mono fun b h => by omega) HN.out.2.1 (fun b e => ?_) ?_
        · obtain ⟨_, cur, e'⟩ := HN.out.2.2 b e
          exact ⟨cur, _, e'⟩
        · rw [HLL.out]
          exact HN.out.1.mono fun b _ h => by
            rcases h with h | h
            · exact (HN.out.2.2 b h).1
            · simp only [World.size_alloc] at h hz3; omega
      · exact (HHO.out.trans' HS2.out.2).trans HN.out.2.1 fun b hb e => by have := (HN.out.2.2 b e).1; omega
    · have hk' : k = S.files.length := by omega
      subst hk'
      rw [List.take_length] at hfiles
      have hD' : wr.cell? ⟨m, 7, none⟩ = some (.bool S.died) := by rw [cell_cel] at hD ⊢; exact ho.cel hD fun f => f
      have HF := Lib.hid hfiles
      have HO := Lib.hid ho
      clear hfiles ho
      cases hd : S.died with
      | true =>
        rw [hd] at hD'
        go_wp2
        go_ret
        exact ⟨_, rfl, HF.out, HO.out⟩
      | false =>
        rw [hd] at hD'
        go_wp2
        go_ret
        exact ⟨_, rfl, HF.out, HO.out⟩

set_option maxHeartbeats 4000000 in
set_option maxRecDepth 100000 in
theorem mall42n (h : IsModel w.heap m S r F) {K : Nat} (wf : Wf S K) (hK : K ≤ 1000000) :
    Calls Try.prog 42 #[.pointer (some ⟨m, 0, none⟩), .bool false] w (ToldPost w (liveOf S)) := by
  obtain ⟨av, cv, hvf, hcv⟩ := h.shapeF
  have hV : w.cell? ⟨m, 5, none⟩ = some (.slice av S.files.length cv) := by rw [h.blk.rules.1, ← hvf]; rfl
  have hD : w.cell? ⟨m, 7, none⟩ = some (.bool S.died) := by rw [h.blk.rules.1]; rfl
  have HVF := Lib.hid hvf
  have H := Lib.hid h
  have HWF := Lib.hid wf
  have hfew := wf.few
  clear h wf hvf
  go_enter Try.func42, Try.ntmps42
  go_wp2
  go_loopw [14, 5] (fun i v wr => ∃ k : Nat, i = .int .i64 k ∧ k ≤ S.files.length ∧ IsFiles wr.heap (fun b => w.heap.size ≤ b) v (toldOf false (S.files.take k)) ∧ Old w wr) (fun i _ _ => S.files.length - (intOf i).toNat)
  case atStart => exact ⟨0, rfl, Nat.zero_le _, IsFiles.nil, Fr.refl _ _⟩
  case round =>
    obtain ⟨k, rfl, hk, hfiles, ho⟩ := hrel
    by_cases hlt : k < S.files.length
    · obtain ⟨f, q, hp, hfk, hF⟩ := H.out.at_fl hlt
      obtain ⟨g, cv', a1, c1, a2, c2, _, _, hV', x0, x1, x2, hdl, hgo, hFg, _, hdat⟩ := H.out.fileOn HWF.out hK hp
      obtain rfl : av = some ⟨g, 0, none⟩ := by rw [hV] at hV'; simp at hV'; exact hV'.1
      have hfl := HWF.out.each f (List.mem_of_getElem? hfk)
      have y0 : wr.cell? ⟨g, k * 3, none⟩ = some (.string ⟨f.name.toArray⟩) := by rw [cell_cel] at x0 ⊢; exact ho.cel x0 fun f => f
      have y1 : wr.cell? ⟨g, k * 3 + 1, none⟩ = some (.slice a1 f.safe.length c1) := by rw [cell_cel] at x1 ⊢; exact ho.cel x1 fun f => f
      have y2 : wr.cell? ⟨g, k * 3 + 2, none⟩ = some (.slice a2 f.chs.length c2) := by rw [cell_cel] at x2 ⊢; exact ho.cel x2 fun f => f
      have hvs : q.vs = .slice a1 f.safe.length c1 := by
        obtain ⟨g', e1, _, _, _, hcells⟩ := H.out.at_file HVF.out hp
        cases e1
        have h1 : cel w.heap g (k * 3 + 1) = some q.vs := hcells 1 (by omega)
        rw [cell_cel, h1] at x1
        exact Option.some.inj x1
      have hsafe : SlB w.heap F (.slice a1 f.safe.length c1) f.safe := by rw [← hvs]; exact hF.safe
      have oB : Old wr (wr.alloc (.cells #[.string ⟨f.name.toArray⟩, .slice a1 f.safe.length c1, .slice a2 f.chs.length c2] 75)) := (Fr.refl _ _).alloc _
      have bB := blk_new wr #[.string ⟨f.name.toArray⟩, .slice a1 f.safe.length c1, .slice a2 f.chs.length c2] 75
      have hs0 := hsafe.fr (ho.trans' oB) fun _ _ f => f
      have htl : (dataOf f).length ≤ 268435456 := by exact hfl.data
      obtain ⟨rs, ers, hrow, hrsl⟩ := hfiles
      have hll : (toldOf false (S.files.take k)).length = k := by rw [toldOf_length, List.length_take]; omega
      rw [hll] at hrow
      have hsl := hfl.safe
      have hzw : w.heap.size ≤ wr.heap.size := ho.size
      have HROW := Lib.hid hrow
      have HRS := Lib.hid (And.intro ers hrsl)
      have HTAKE := Lib.hid (show toldOf false (S.files.take (k + 1)) = toldOf false (S.files.take k) ++ [(f.name, dataOf f)] from toldOf_take false hfk)
      have HHO := Lib.hid ho
      have HOB := Lib.hid oB
      have HBB := Lib.hid bB
      have HDAT := Lib.hid hdat
      have HLL := Lib.hid hll
      have HS0 := Lib.hid hs0
      obtain ⟨z0, _⟩ := bB.rules
      clear hfk hp ers hrsl hrow ho hll x0 x1 x2 hvs hsafe oB bB hs0 hdat hF hgo hV' hfl
      go_wp2_with (first
        | (go_at_call 40
           refine (twin40 _ F _ f.safe (HS0.out.at) (by omega)).mono ?_
           rintro e w2 ⟨v2, rfl, hs2, ho2⟩
           obtain ⟨a3, c3, e3, _, _⟩ := hs2.shape
           subst e3
           have HO2 := Lib.hid (HOB.out.trans' ho2)
           have HB2 := Lib.hid (HBB.out.fr ho2 fun f => f)
           have hcall := HDAT.out w2 (HHO.out.trans' HO2.out)
           obtain ⟨z2, _⟩ := (HBB.out.fr ho2 fun f => f).rules
           clear hs2 ho2)
        | (go_at_call 39
           refine hcall.mono ?_
           rintro e w4 ⟨v4, rfl, hrow4, ho4⟩
           obtain ⟨a5, c5, e5, _, _⟩ := hrow4.slice
           subst e5
           obtain ⟨z4, _⟩ := (HB2.out.fr ho4 fun f => f).rules
           have hsl2 : SlB w4.heap (fun b => wr.heap.size ≤ b) (.slice a5 (dataOf f).length c5) (dataOf f) := hrow4.slT.mono fun b h => by have := HO2.out.size; omega
           have ho3 := (HO2.out.trans' ho4).alloc (.cells #[encStr f.name, .slice a5 (dataOf f).length c5] 80)
           have hrowX := HROW.out.kept (h' := (w4.alloc (.cells #[encStr f.name, .slice a5 (dataOf f).length c5] 80)).heap) fun b _ _ hb => ho3.block b hb fun f => f
           have hrowN : RowAt (w4.alloc (.cells #[encStr f.name, .slice a5 (dataOf f).length c5] 80)).heap 2 (.slice (some ⟨w4.heap.size, 0, none⟩) 1 1) 1 [encStr f.name, .slice a5 (dataOf f).length c5] := by
             refine ⟨rfl, .inr ⟨w4.heap.size, 0, 1, rfl, fun j u hj => ?_⟩⟩
             rw [Nat.zero_add, cel_new, ← Array.getElem?_toList]
             exact hj
           have hs3 := hsl2.fr (w' := w4.alloc (.cells #[encStr f.name, .slice a5 (dataOf f).length c5] 80)) ((Fr.refl (fun _ => False) w4).alloc _) fun _ _ f => f
           have HS2 := Lib.hid (And.intro hs3 ho3)
           clear ho3 hs3 hsl2
           clear hrow4 ho4)
        | (at_builtin; refine wpList_app rfl (.tmp 25) (.tmp 30) 52 rfl 80 (.agg #[.string ⟨#[]⟩, .slice none 0 0]) 2 40 Try.underlying52 Try.info80 rfl (by decide) (fun b => w.heap.size ≤ b) _ k (rs.flatMap lrCells) rfl hrowX _ 1 [encStr f.name, .slice a5 (dataOf f).length c5] rfl hrowN (by intro u hu; simp at hu; rcases hu with rfl | rfl <;> rfl) (by unfold maxLen; omega) (by omega) ?_
           intro v3 w3 hown3 hfr3 _
           have htag := fun b hb => (hrowX.owned (b := b) hb)
           have HN := Lib.hid (And.intro hown3 (And.intro hfr3 htag))
           clear hown3 hfr3 hrowX htag))
      refine ⟨⟨k + 1, by go_num, by omega, ?_, ?_⟩, by simp [intOf]; omega⟩
      · rw [HTAKE.out]
        have hz3 := HS2.out.2.size
        refine IsFiles.push HRS.out.1 (fun r hr => (HRS.out.2 r hr).fr HS2.out.2 fun _ _ f => f) (HS2.out.1.mono fun b h => by omega) HN.out.2.1 (fun b e => ?_) ?_
        · obtain ⟨_, cur, e'⟩ := HN.out.2.2 b e
          exact ⟨cur, _, e'⟩
        · rw [HLL.out]
          exact HN.out.1.mono fun b _ h => by
            rcases h with h | h
            · exact (HN.out.2.2 b h).1
            · simp only [World.size_alloc] at h hz3; omega
      · exact (HHO.out.trans' HS2.out.2).trans HN.out.2.1 fun b hb e => by have := (HN.out.2.2 b e).1; omega
    · have hk' : k = S.files.length := by omega
      subst hk'
      rw [List.take_length] at hfiles
      have hD' : wr.cell? ⟨m, 7, none⟩ = some (.bool S.died) := by rw [cell_cel] at hD ⊢; exact ho.cel hD fun f => f
      have HF := Lib.hid hfiles
      have HO := Lib.hid ho
      clear hfiles ho
      cases hd : S.died with
      | true =>
        rw [hd] at hD'
        have HE := Lib.hid (show liveOf S = [] by simp [liveOf, hd])
        clear hd
        go_wp2
        go_ret
        rw [HE.out]
        exact ⟨_, rfl, IsFiles.nil, HO.out⟩
      | false =>
        rw [hd] at hD'
        have HE := Lib.hid (show liveOf S = toldOf false S.files by simp [liveOf, hd])
        clear hd
        go_wp2
        go_ret
        rw [HE.out]
        exact ⟨_, rfl, HF.out, HO.out⟩
end
end Go.Proofs.Ytpdflncgemcniaa
