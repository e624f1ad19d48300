/- PROVED HERE: the contracts of Remove, Rename, Create. PROVED HERE: the contract of Create. PROVED HERE: the contracts of Start and of New. PROVED HERE: the contract of New. No conditions beyond the premises that each theorem names. -/
import Derived.Test.YtpdflncgemcniaaD11
import Derived.Test.YtpdflncgemcniaaD04
namespace Go.Proofs.Ytpdflncgemcniaa
open Go.RowKit

theorem pair_at {α : Type} {R : α → α → Prop} (hs : ∀ a b, R a b → R b a) : ∀ {l : List α}, l.Pairwise R → ∀ {x y : α}, x ∈ l → y ∈ l → x ≠ y → R x y
  | [], _, _, _, h, _, _ => by cases h
  | a :: l, hp, x, y, hx, hy, hne => by
    rw [List.pairwise_cons] at hp
    rcases List.mem_cons.1 hx with e1 | h1
    · rcases List.mem_cons.1 hy with e2 | h2
      · exact absurd (e1.trans e2.symm) hne
      · rw [e1]; exact hp.1 y h2
    · rcases List.mem_cons.1 hy with e2 | h2
      · rw [e2]; exact hs _ _ (hp.1 x h1)
      · exact pair_at hs hp.2 h1 h2 hne

theorem IsFile.rename {h : Array Obj} {F : Nat → Prop} {f : Fl} {q : FRep} (s : IsFile h F f q) (t : Bs) : IsFile h F { f with name := t } q := ⟨s.fits, s.own, s.blk, s.safe, s.now, s.row, s.chs⟩

section
variable {w : World} {d : Nat} {S : Dk} {r : DRep} {F : Nat → Prop}

set_option maxHeartbeats 2000000 in
set_option maxRecDepth 100000 in
theorem remove26 (h : IsDisk w.heap d S r F) {K : Nat} (wf : Wf S K) (hK : K < 1000000) (s : ByteArray) (hs : s.size ≤ maxLen) :
    Calls Try.prog 26 #[.pointer (some ⟨d, 0, none⟩), .string s] w (OpPost w d F (onFile S s.data.toList removeK)) := by
  have hopen := open49 h wf hK s hs
  clear h
  go_enter Try.func26, Try.ntmps26
  go_wp2_with fail
  refine hopen.mono ?_
  rintro e w1 ⟨r1, F1, hd, hst, hres⟩
  rcases hres with ⟨hx, rfl⟩ | ⟨hx, hf, rfl⟩ | ⟨hx, p, hf, rfl⟩
  · have HR := Lib.hid (onFile_err (s := s.data.toList) (k := removeK) hx)
    have HD := Lib.hid hd
    have HS := Lib.hid hst
    have HX := Lib.hid hx
    generalize hy : (begin S).1 = y at *
    have HY := Lib.hid hy
    clear hd hst hy
    go_wp2
    go_ret
    rw [HR.out]
    exact ⟨by rw [HY.out]; rfl, r1, F1, HD.out, HS.out⟩
  · have HR := Lib.hid (onFile_none (s := s.data.toList) (k := removeK) hx (hd.noFile hf))
    have HD := Lib.hid hd
    have HS := Lib.hid hst
    clear hd hst hx hf
    go_wp2
    go_ret
    rw [HR.out]
    exact ⟨rfl, r1, F1, HD.out, HS.out⟩
  · obtain ⟨hF, hmem, hname, hfind⟩ := hd.file hf
    have HR := Lib.hid (show onFile S s.data.toList removeK = (0, { (begin S).2 with files := dropF s.data.toList (begin S).2.files }) by rw [onFile_some (k := removeK) hx hfind, removeK, hname])
    obtain ⟨q1, _⟩ := hd.blk.rules
    have hM : w1.cell? ⟨d, 8, none⟩ = some (.map (some r1.mb)) := by rw [q1]; rfl
    have hown := hd.map.to
    have HD := Lib.hid hd
    have HS := Lib.hid hst
    have hkey := key_str hs
    clear hd hst hx hf hF hfind hmem q1
    go_wp2_with (at_delete; refine wpList_delete_own _ rfl _ _ 54 9 rfl 67 (Maps.string_keyed Try.underlying9) Try.underlying54 _ r1.mb _ _ rfl hown _ _ rfl hkey ?_; intro w2 hown2 hturn2)
    have hd2 := HD.out.drop _ hown2 hturn2
    have hfr2 : Fr F1 w1 w2 := (mapTurned_fr hturn2).mono fun b _ e => by subst e; exact HD.out.mown
    have H2 := Lib.hid (And.intro hd2 hfr2)
    clear hd2 hfr2 hown2 hturn2 hown
    go_wp2
    go_ret
    rw [HR.out]
    exact ⟨rfl, _, F1, H2.out.1, HS.out.trans ⟨H2.out.2, fun _ h => .inl h⟩⟩

set_option maxHeartbeats 2000000 in
set_option maxRecDepth 100000 in
theorem rename25 (h : IsDisk w.heap d S r F) {K : Nat} (wf : Wf S K) (hK : K < 1000000) (s t : ByteArray) (hs : s.size ≤ maxLen) (ht : t.size ≤ maxLen) :
    Calls Try.prog 25 #[.pointer (some ⟨d, 0, none⟩), .string s, .string t] w (OpPost w d F (onFile S s.data.toList (renameK t.data.toList))) := by
  have hopen := open49 h wf hK s hs
  clear h
  go_enter Try.func25, Try.ntmps25
  go_wp2_with fail
  refine hopen.mono ?_
  rintro e w1 ⟨r1, F1, hd, hst, hres⟩
  rcases hres with ⟨hx, rfl⟩ | ⟨hx, hf, rfl⟩ | ⟨hx, p, hf, rfl⟩
  · have HR := Lib.hid (onFile_err (s := s.data.toList) (k := renameK t.data.toList) hx)
    have HD := Lib.hid hd
    have HS := Lib.hid hst
    have HX := Lib.hid hx
    generalize hy : (begin S).1 = y at *
    have HY := Lib.hid hy
    clear hd hst hy
    go_wp2
    go_ret
    rw [HR.out]
    exact ⟨by rw [HY.out]; rfl, r1, F1, HD.out, HS.out⟩
  · have HR := Lib.hid (onFile_none (s := s.data.toList) (k := renameK t.data.toList) hx (hd.noFile hf))
    have HD := Lib.hid hd
    have HS := Lib.hid hst
    clear hd hst hx hf
    go_wp2
    go_ret
    rw [HR.out]
    exact ⟨rfl, r1, F1, HD.out, HS.out⟩
  · obtain ⟨hF, hmem, hname, hfind⟩ := hd.file hf
    have hR0 := onFile_some (k := renameK t.data.toList) hx hfind
    have hp := List.mem_of_find?_eq_some hf
    have hnm := named47 w1 t ht
    cases hok : okName t.data.toList with
    | false =>
      have HR := Lib.hid (show onFile S s.data.toList (renameK t.data.toList) = (15, (begin S).2) by rw [hR0]; unfold renameK; rw [if_pos (by simp [hok])])
      rw [hok] at hnm
      have HD := Lib.hid hd
      have HS := Lib.hid hst
      clear hd hst hx hf hF hfind hmem hR0 hok
      go_wp2_with (go_at_call 47; refine hnm.mono ?_; rintro e w' ⟨rfl, rfl⟩)
      go_ret
      rw [HR.out]
      exact ⟨rfl, r1, F1, HD.out, HS.out⟩
    | true =>
      have HR := Lib.hid (show onFile S s.data.toList (renameK t.data.toList) = (0, { (begin S).2 with files := putF { p.1 with name := t.data.toList } (dropF t.data.toList (dropF s.data.toList (begin S).2.files)) }) by rw [hR0]; unfold renameK; rw [if_neg (by simp [hok]), hname])
      rw [hok] at hnm
      obtain ⟨q1, _⟩ := hd.blk.rules
      have hM : w1.cell? ⟨d, 8, none⟩ = some (.map (some r1.mb)) := by rw [q1]; rfl
      have hown := hd.map.to
      have hkey := key_str hs
      have hkey2 := key_str ht
      have hsz : Maps.size (datum r1.ps) < maxLen := by
        have h1 := wf.begin.few
        rw [← hd.fits, List.length_map] at h1
        have h2 : Maps.size (datum r1.ps) = r1.ps.length := by simp [Maps.size, datum]
        unfold maxLen
        omega
      have HD := Lib.hid hd
      have HS := Lib.hid hst
      clear hd hst hx hf hF hfind hmem hR0 hok q1
      go_wp2_with (first
        | (go_at_call 47; refine hnm.mono ?_; rintro e w' ⟨rfl, rfl⟩)
        | (at_delete; refine wpList_delete_own _ rfl _ _ 54 9 rfl 67 (Maps.string_keyed Try.underlying9) Try.underlying54 _ r1.mb _ _ rfl hown _ _ rfl hkey ?_; intro w2 hown2 hturn2; have hd2 := HD.out.drop _ hown2 hturn2; have hfr2 := mapTurned_fr hturn2; have hM2 : w2.cell? ⟨d, 8, none⟩ = some (.map (some r1.mb)) := hd2.blk.rules.1 8; have H2 := Lib.hid (And.intro hd2 hfr2); clear hd2 hfr2 hown)
        | (at_mapUpdate; refine wpList_mapUpdate_in _ rfl _ _ _ 54 rfl 9 67 (Maps.string_keyed Try.underlying9) Try.underlying54 ptrR r1.mb _ _ rfl hown2 hsz _ _ (.string t.data.toList) rfl rfl hkey2 (.lit (.int .i64 p.2.blk)) [] rfl ?_; intro w3 hown3 hturn3))
      have hF2 : IsFile w2.heap F1 { p.1 with name := t.data.toList } p.2 := by
        have h0 := HD.out.files p hp
        have keep : ∀ b T, Tag w1.heap b T → w2.heap[b]? = w1.heap[b]? := fun b T t => H2.out.2.block b t.lt fun e => by subst e; exact HD.out.map.noTag t
        exact (h0.kept (fun b _ t => keep b 5 t) (keep _ 72 h0.blk.tag) fun b e => keep b 107 (h0.tagC e).2).rename _
      have hd3 := H2.out.1.put ({ p.1 with name := t.data.toList }, p.2) hF2 (fun q hq hne => by
        have hq' := List.mem_filter.1 hq
        refine (show apartF p q → apartF _ q from id) (pair_at (fun _ _ h => apartF_symm h) HD.out.apart hp hq'.1 fun e => ?_)
        have : q.1.name ≠ s.data.toList := by simpa using hq'.2
        exact this (by rw [← e]; exact hname)) (by rw [← datum_del]; exact hown3) hturn3
      have hfr3 := H2.out.2.trans' (mapTurned_fr hturn3)
      have hfrF : Fr F1 w1 w3 := hfr3.mono fun b _ e => by subst e; exact HD.out.mown
      have H3 := Lib.hid (And.intro hd3 hfrF)
      clear hd3 hfr3 hfrF hown3 hturn3 hF2
      go_wp2
      go_ret
      rw [HR.out]
      exact ⟨rfl, _, F1, H3.out.1, HS.out.trans ⟨H3.out.2, fun _ h => .inl h⟩⟩
end
end Go.Proofs.Ytpdflncgemcniaa
namespace Go.Proofs.Ytpdflncgemcniaa
open Go.RowKit

theorem create_err {D : Dk} {s : Bs} (h : ((begin D).1 == 0) = false) : create D s = begin D := by
  unfold create
  generalize begin D = B at *
  obtain ⟨e, D'⟩ := B
  have h : ¬ e = 0 := by simpa using h
  simp [h]

theorem create_ok {D : Dk} {s : Bs} (h : (begin D).1 = 0) : create D s = (if ¬ okName s then (15, (begin D).2)
    else if (findF s (begin D).2.files).isSome then (14, (begin D).2)
    else if 4096 ≤ (begin D).2.files.length then (2, (begin D).2)
    else if roomErr (begin D).2 0 0 ≠ 0 then (roomErr (begin D).2 0 0, (begin D).2) else (0, { (begin D).2 with files := putF ⟨s, [], []⟩ (begin D).2.files })) := by
  unfold create
  generalize begin D = B at *
  obtain ⟨e, D'⟩ := B
  have h : e = 0 := h
  subst h
  rfl

theorem dropF_none {s : Bs} {l : List Fl} (h : findF s l = none) : dropF s l = l := by
  unfold dropF
  rw [List.filter_eq_self]
  intro f hf
  have := List.find?_eq_none.1 h f hf
  simpa using this

section
variable {w : World} {d : Nat} {S : Dk} {r : DRep} {F : Nat → Prop}

set_option maxHeartbeats 2000000 in
set_option maxRecDepth 100000 in
theorem create15 (h : IsDisk w.heap d S r F) {K : Nat} (wf : Wf S K) (hK : K < 1000000) (s : ByteArray) (hs : s.size ≤ maxLen) :
    Calls Try.prog 15 #[.pointer (some ⟨d, 0, none⟩), .string s] w (OpPost w d F (create S s.data.toList)) := by
  have hb := begin46 h wf hK
  clear h
  go_enter Try.func15, Try.ntmps15
  go_wp2_with fail
  refine hb.mono ?_
  rintro e w1 ⟨rfl, r1, F1, hd, hst⟩
  cases hx : ((begin S).1 == 0) with
  | false =>
    have HR := Lib.hid (create_err (s := s.data.toList) hx)
    have hx' : ((begin S).1 == 0) = false := hx
    have HD := Lib.hid hd
    have HS := Lib.hid hst
    generalize hy : (begin S).1 = y at hx'
    have HY := Lib.hid hy
    clear hd hst hx hy
    go_wp2
    go_ret
    rw [HR.out]
    exact ⟨by rw [HY.out]; rfl, r1, F1, HD.out, HS.out⟩
  | true =>
    have hx' : (begin S).1 = 0 := by simpa using hx
    have hR0 := create_ok (s := s.data.toList) hx'
    rw [hx']
    have hnm := named47 w1 s hs
    have wf1 := wf.begin
    cases hok : okName s.data.toList with
    | false =>
      rw [hok] at hnm hR0
      have HR := Lib.hid (hR0.trans (if_pos (by simp)))
      have HD := Lib.hid hd
      have HS := Lib.hid hst
      clear hd hst hx hx' hR0 hok
      go_wp2_with (go_at_call 47; refine hnm.mono ?_; rintro e w' ⟨rfl, rfl⟩)
      go_ret
      rw [HR.out]
      exact ⟨rfl, r1, F1, HD.out, HS.out⟩
    | true =>
      rw [hok] at hnm hR0
      rw [if_neg (by simp)] at hR0
      have hlk := look_run hd.map s hs
      obtain ⟨q1, _⟩ := hd.blk.rules
      have hM : w1.cell? ⟨d, 8, none⟩ = some (.map (some r1.mb)) := by rw [q1]; rfl
      unfold ptrOf at hlk
      cases hf : r1.ps.find? (fun p => p.1.name == s.data.toList) with
      | some p =>
        obtain ⟨_, _, _, hfind⟩ := hd.file hf
        rw [hf] at hlk
        rw [hfind, if_pos (by simp)] at hR0
        have HR := Lib.hid hR0
        have HD := Lib.hid hd
        have HS := Lib.hid hst
        simp only [] at hlk
        clear hd hst hx hx' hR0 hok hf hfind q1
        go_wp2_with (go_at_call 47; refine hnm.mono ?_; rintro e w' ⟨rfl, rfl⟩)
        go_ret
        rw [HR.out]
        exact ⟨rfl, r1, F1, HD.out, HS.out⟩
      | none =>
        have hfind := hd.noFile hf
        rw [hf] at hlk
        rw [hfind, if_neg (by simp)] at hR0
        simp only [] at hlk
        have hown := hd.map.to
        have hlen : Maps.size (datum r1.ps) = (begin S).2.files.length := by rw [← hd.fits]; simp [Maps.size, datum]
        rw [hlen] at hown
        have hfew := wf1.few
        by_cases h4 : (4096 : Int) ≤ (begin S).2.files.length
        · rw [if_pos (by omega)] at hR0
          have HR := Lib.hid hR0
          have HD := Lib.hid hd
          have HS := Lib.hid hst
          clear hd hst hx hx' hR0 hok hf hfind q1
          go_wp2_with (first | (go_at_call 47; refine hnm.mono ?_; rintro e w' ⟨rfl, rfl⟩) | (at_len; refine wpList_len_own _ rfl _ 54 rfl 9 67 Try.underlying54 _ r1.mb _ _ rfl hown ?_; rw [hlen]))
          go_ret
          rw [HR.out]
          exact ⟨rfl, r1, F1, HD.out, HS.out⟩
        · rw [if_neg (by omega)] at hR0
          have hroom := room48 hd wf1 (by omega) 0 0 (by omega) (by omega)
          have HD := Lib.hid hd
          have HS := Lib.hid hst
          have HF := Lib.hid hfind
          have HP := Lib.hid hf
          have hkey := key_str hs
          clear hd hst hx hx' hok hf hfind q1
          cases hy : roomErr (begin S).2 0 0 == 0 with
          | false =>
            have HR := Lib.hid (hR0.trans (if_pos (by simpa using hy)))
            unfold RoomPost at hroom
            generalize roomErr (begin S).2 0 0 = y at *
            clear hR0
            go_wp2_with (first | (go_at_call 47; refine hnm.mono ?_; rintro e w' ⟨rfl, rfl⟩) | (at_len; refine wpList_len_own _ rfl _ 54 rfl 9 67 Try.underlying54 _ r1.mb _ _ rfl hown ?_; rw [hlen]) | (go_at_call 48; refine hroom.mono ?_; rintro e w2 ⟨rfl, ho⟩; have HO := Lib.hid ho; clear ho))
            go_ret
            rw [HR.out]
            exact ⟨rfl, r1, F1, HD.out.fr HO.out fun _ _ f => f, HS.out.trans ⟨Old.fr HO.out, fun _ h => .inl h⟩⟩
          | true =>
            have HR := Lib.hid (hR0.trans (if_neg (by simpa using hy)))
            have hy' : roomErr (begin S).2 0 0 = 0 := by simpa using hy
            unfold RoomPost at hroom
            rw [hy'] at hroom
            clear hR0 hy hy'
            go_wp2_with (first
              | (go_at_call 47; refine hnm.mono ?_; rintro e w' ⟨rfl, rfl⟩)
              | (at_len; refine wpList_len_own _ rfl _ 54 rfl 9 67 Try.underlying54 _ r1.mb _ _ rfl hown ?_; rw [hlen])
              | (go_at_call 48; refine hroom.mono ?_; rintro e w2 ⟨rfl, ho⟩
                 have hM2 : w2.cell? ⟨d, 8, none⟩ = some (.map (some r1.mb)) := (HD.out.fr ho fun _ _ f => f).blk.rules.1 8
                 have hown3 := (HD.out.more (ho.alloc (.cells #[.slice none 0 0, .slice none 0 0, .slice none 0 0] 72))).map.to
                 rw [hlen] at hown3
                 have HO := Lib.hid ho
                 clear ho)
              | (at_mapUpdate; refine wpList_mapUpdate_in _ rfl _ _ _ 54 rfl 9 67 (Maps.string_keyed Try.underlying9) Try.underlying54 ptrR r1.mb _ _ rfl hown3 (by unfold maxLen; omega) _ _ (.string s.data.toList) rfl rfl hkey (.lit (.int .i64 _)) [] rfl ?_; intro w4 hown4 hturn4))
            have ho3 := HO.out.alloc (.cells #[.slice none 0 0, .slice none 0 0, .slice none 0 0] 72)
            have hd3 := HD.out.more ho3
            have hb3 := blk_new w2 #[.slice none 0 0, .slice none 0 0, .slice none 0 0] 72
            have hz := HO.out.size
            have hd4 := hd3.put (⟨s.data.toList, [], []⟩, ⟨w2.heap.size, .slice none 0 0, .slice none 0 0, .slice none 0 0, []⟩) ⟨rfl, .inr ⟨hz, by simp⟩, hb3, SlT.nil, SlT.nil, OwnRow.nil, fun p hp => by cases hp⟩ (fun q hq _ => by
              refine ⟨fun e => ?_, fun b e => by simp [Value.ownBlock] at e⟩
              have h1 := HD.out.lt _ (HD.out.files q hq).own
              have h2 : w2.heap.size = q.2.blk := e
              omega) hown4 hturn4
            rw [show dropF (FP.name (⟨s.data.toList, [], []⟩, ⟨w2.heap.size, .slice none 0 0, .slice none 0 0, .slice none 0 0, []⟩)) (begin S).2.files = (begin S).2.files from dropF_none HF.out] at hd4
            have hst4 : Step (fun b => F1 b ∨ (w1.heap.size ≤ b ∧ b < (w2.alloc (.cells #[.slice none 0 0, .slice none 0 0, .slice none 0 0] 72)).heap.size)) _ (w2.alloc (.cells #[.slice none 0 0, .slice none 0 0, .slice none 0 0] 72)) w4 := ⟨(mapTurned_fr hturn4).mono fun b _ e => by subst e; exact .inl HD.out.mown, fun b h => .inl h⟩
            have H4 := Lib.hid (And.intro hd4 (Step.more ho3 hst4))
            clear hd4 hst4 hd3 hb3 ho3 hown3 hown4 hturn4
            go_wp2
            go_ret
            rw [HR.out]
            exact ⟨rfl, _, _, H4.out.1, HS.out.trans H4.out.2⟩
end
end Go.Proofs.Ytpdflncgemcniaa
namespace Go.Proofs.Ytpdflncgemcniaa
open Go.RowKit

/-- A plan as it is handed over. -/
structure IsPlan (h : Array Obj) (G : Nat → Prop) (k f u : Value) (p : Pl) : Prop where
  keep : SlAt iv h G k p.keep
  fail : SlAt iv h G f p.fail
  full : SlAt iv h G u p.full

theorem IsPlan.fr {w w' : World} {F G : Nat → Prop} {k f u : Value} {p : Pl} (s : IsPlan w.heap G k f u p) (hf : Fr F w w') (hG : ∀ x, G x → F x → False) : IsPlan w'.heap G k f u p := ⟨s.keep.fr hf hG, s.fail.fr hf hG, s.full.fr hf hG⟩

/-- A plan of one's own. -/
structure OwnPlan (h : Array Obj) (G : Nat → Prop) (k f u : Value) (p : Pl) : Prop where
  keep : SlT 3 iv h G k p.keep
  fail : SlT 3 iv h G f p.fail
  full : SlT 3 iv h G u p.full

section
variable {w w1 w2 : World} {d : Nat} {S : Dk} {r : DRep} {F : Nat → Prop}

/-- The disk has a new plan, and begins anew. -/
theorem IsDisk.replan (s : IsDisk w.heap d S r F) (o : Old w w1) {p : Pl} {k f u : Value} (hp : OwnPlan w1.heap (fun b => w.heap.size ≤ b) k f u p) (hw : Fr (fun b => b = d) w1 w2)
    (hb : Blk w2.heap d #[.int .i64 1, .int .i64 p.crash, k, f, u, .int .i64 p.room, .int .i64 0, .bool false, .map (some r.mb)] 56) :
    IsDisk w2.heap d { plan := p, n := 0, died := false, files := S.files } { r with k := k, f := f, u := u } (fun b => F b ∨ (w.heap.size ≤ b ∧ b < w1.heap.size)) := by
  have s1 := s.more o
  have td := s1.blk.tag
  have keep : ∀ b T, T ≠ 56 → Tag w1.heap b T → w2.heap[b]? = w1.heap[b]? := fun b T hT t => hw.block b t.lt fun e => by subst e; exact hT (t.eq td)
  have own : ∀ {v : Value} {l : List Int}, SlT 3 iv w1.heap (fun b => w.heap.size ≤ b) v l → SlT 3 iv w2.heap (fun b => F b ∨ (w.heap.size ≤ b ∧ b < w1.heap.size)) v l := fun h =>
    (h.monot fun b h1 t => .inr ⟨h1, t.lt⟩).kept fun b _ t => keep b 3 (by decide) t
  exact {
    fits := s.fits
    own := .inl s.own
    blk := hb
    keep := own hp.keep
    fail := own hp.fail
    full := own hp.full
    mown := .inl s.mown
    map := s1.map.kept (hw.block _ s1.map.lt fun e => s1.map.noTag (by rw [e]; exact td))
    files := fun q hq => (s1.files q hq).kept (fun b _ t => keep b 5 (by decide) t) (keep _ 72 (by decide) (s1.files q hq).blk.tag) fun b e => keep b 107 (by decide) ((s1.files q hq).tagC e).2
    apart := s.apart
    lt := fun b h => Nat.lt_of_lt_of_le (s1.lt b h) hw.size }

theorem start_step (s : IsDisk w.heap d S r F) (o : Old w w1) (hw : Fr (fun b => b = d) w1 w2) : Step F (fun b => F b ∨ (w.heap.size ≤ b ∧ b < w1.heap.size)) w w2 :=
  ⟨(Old.fr (F := F) o).trans hw fun x _ e => by subst e; exact s.own, fun b h => h.imp id fun h => h.1⟩

set_option maxHeartbeats 2000000 in
set_option maxRecDepth 100000 in
theorem start19 (h : IsDisk w.heap d S r F) {K : Nat} (wf : Wf S K) (hK : K < 1000000) (p : Pl) (okp : PlOk p) (G : Nat → Prop) (k f u : Value) (hp : IsPlan w.heap G k f u p) (hG : ∀ x, G x → F x → False) :
    Calls Try.prog 19 #[.pointer (some ⟨d, 0, none⟩), .agg #[.int .i64 p.crash, k, f, u, .int .i64 p.room]] w (OpPost w d F (0, start S p)) := by
  have o0 : Old w (w.alloc (.cells #[.int .i64 p.crash, k, f, u, .int .i64 p.room] 24)) := (Fr.refl _ _).alloc _
  have bA := blk_new w #[.int .i64 p.crash, k, f, u, .int .i64 p.room] 24
  have h0 := h.fr o0 fun _ _ f => f
  have hp0 := hp.fr o0 fun _ _ f => f
  have his := h0.is
  have hdie := die51 h0 wf (by omega)
  have hltF := h.lt
  obtain ⟨ak, ck, rfl, _, _⟩ := hp.keep.shape
  obtain ⟨af, cf, rfl, _, _⟩ := hp.fail.shape
  obtain ⟨au, cu, rfl, _, _⟩ := hp.full.shape
  have hfin : ∀ (S2 : Dk) (r2 : DRep) (F2 : Nat → Prop) (w2 w3 w4 : World) (k' f' u' : Value), IsDisk w2.heap d S2 r2 F2 → Step F F2 w w2 → S2.files = (if S.died then S else die S).files → Old w2 w3 → OwnPlan w3.heap (fun b => w2.heap.size ≤ b) k' f' u' p → Fr (fun b => b = d) w3 w4 →
      Blk w4.heap d #[.int .i64 1, .int .i64 p.crash, k', f', u', .int .i64 p.room, .int .i64 0, .bool false, .map (some r2.mb)] 56 → OpPost w d F (0, start S p) (.returned (.int .i64 0)) w4 := by
    intro S2 r2 F2 w2 w3 w4 k' f' u' hd2 hs2 hfiles ho3 hpl hw4 hb4
    have := hd2.replan ho3 hpl hw4 hb4
    rw [hfiles] at this
    exact ⟨rfl, _, _, this, hs2.trans (start_step hd2 ho3 hw4)⟩
  have HFIN := Lib.hid hfin
  have HG := Lib.hid hG
  cases hd : S.died with
  | true =>
    have hD : (w.alloc (.cells #[.int .i64 p.crash, .slice ak p.keep.length ck, .slice af p.fail.length cf, .slice au p.full.length cu, .int .i64 p.room] 24)).cell? ⟨d, 7, none⟩ = some (.bool true) := by rw [h0.blk.rules.1, hd]; rfl
    have htw := twin21 _ G p.crash p.room _ _ _ p.keep p.fail p.full hp0.keep hp0.fail hp0.full okp.keep okp.fail okp.full
    have H0 := Lib.hid h0
    have HO := Lib.hid o0
    obtain ⟨a1, _⟩ := bA.rules
    clear h h0 hp hp0 o0 hdie hfin hG bA
    go_enter Try.func19, Try.ntmps19
    go_wp2_with (first | (go_at_call 35; refine his.mono ?_; rintro e w' ⟨rfl, rfl⟩) | fail)
    refine htw.mono ?_
    rintro e w3 ⟨k', f', u', rfl, t1, t2, t3, ho⟩
    obtain ⟨ak', ck', rfl, _, _⟩ := t1.shape
    obtain ⟨af', cf', rfl, _, _⟩ := t2.shape
    obtain ⟨au', cu', rfl, _, _⟩ := t3.shape
    have hd3 := H0.out.blk.fr ho fun f => f
    obtain ⟨r1, r2⟩ := hd3.rules
    have hb4 := ((((((hd3.set 1 (.int .i64 p.crash)).set 2 (.slice ak' p.keep.length ck')).set 3 (.slice af' p.fail.length cf')).set 4 (.slice au' p.full.length cu')).set 5 (.int .i64 p.room)).set 6 (.int .i64 0)).set 7 (.bool false)
    have hw4 : Fr (fun b => b = d) w3 (((((((w3.setCell ⟨d, 1, none⟩ (.int .i64 p.crash)).setCell ⟨d, 2, none⟩ (.slice ak' p.keep.length ck')).setCell ⟨d, 3, none⟩ (.slice af' p.fail.length cf')).setCell ⟨d, 4, none⟩ (.slice au' p.full.length cu')).setCell ⟨d, 5, none⟩ (.int .i64 p.room)).setCell ⟨d, 6, none⟩ (.int .i64 0)).setCell ⟨d, 7, none⟩ (.bool false)) :=
      (((((((Fr.refl (fun b => b = d) w3).setCell (p := ⟨d, 1, none⟩) (fun _ => rfl) _).setCell (p := ⟨d, 2, none⟩) (fun _ => rfl) _).setCell (p := ⟨d, 3, none⟩) (fun _ => rfl) _).setCell (p := ⟨d, 4, none⟩) (fun _ => rfl) _).setCell (p := ⟨d, 5, none⟩) (fun _ => rfl) _).setCell (p := ⟨d, 6, none⟩) (fun _ => rfl) _).setCell (p := ⟨d, 7, none⟩) (fun _ => rfl) _
    simp only [List.setIfInBounds_toArray, List.set_cons_zero, List.set_cons_succ] at hb4
    have hend := HFIN.out _ _ _ _ _ _ _ _ _ H0.out ⟨Old.fr HO.out, fun _ h => .inl h⟩ (by rw [hd]; rfl) ho ⟨t1, t2, t3⟩ hw4 hb4
    have HEND := Lib.hid hend
    clear hend hb4 hw4 hd3 t1 t2 t3 ho
    go_wp2
    go_ret
    exact HEND.out
  | false =>
    have hD : (w.alloc (.cells #[.int .i64 p.crash, .slice ak p.keep.length ck, .slice af p.fail.length cf, .slice au p.full.length cu, .int .i64 p.room] 24)).cell? ⟨d, 7, none⟩ = some (.bool false) := by rw [h0.blk.rules.1, hd]; rfl
    have HO := Lib.hid o0
    have HP := Lib.hid hp0
    have HBA := Lib.hid bA
    obtain ⟨a1, _⟩ := bA.rules
    clear h h0 hp hp0 o0 hfin hG bA
    go_enter Try.func19, Try.ntmps19
    go_wp2_with (first
      | (go_at_call 35; refine his.mono ?_; rintro e w' ⟨rfl, rfl⟩)
      | (go_at_call 51; refine hdie.mono ?_; rintro e w2 ⟨rfl, r2, F2, hd2, hs2⟩
         have HB2 := Lib.hid (HBA.out.fr hs2.fr fun e => absurd (hltF _ e) (Nat.lt_irrefl _))
         obtain ⟨b1, _⟩ := HB2.out.rules
         have HP2 := Lib.hid (HP.out.fr hs2.fr HG.out)
         have H2 := Lib.hid hd2
         have HS2 := Lib.hid hs2
         clear hd2 hs2))
    have htw := twin21 w2 G p.crash p.room _ _ _ p.keep p.fail p.full HP2.out.keep HP2.out.fail HP2.out.full okp.keep okp.fail okp.full
    refine htw.mono ?_
    rintro e w3 ⟨k', f', u', rfl, t1, t2, t3, ho⟩
    obtain ⟨ak', ck', rfl, _, _⟩ := t1.shape
    obtain ⟨af', cf', rfl, _, _⟩ := t2.shape
    obtain ⟨au', cu', rfl, _, _⟩ := t3.shape
    have hd3 := H2.out.blk.fr ho fun f => f
    obtain ⟨r1, r2⟩ := hd3.rules
    have hb4 := ((((((hd3.set 1 (.int .i64 p.crash)).set 2 (.slice ak' p.keep.length ck')).set 3 (.slice af' p.fail.length cf')).set 4 (.slice au' p.full.length cu')).set 5 (.int .i64 p.room)).set 6 (.int .i64 0)).set 7 (.bool false)
    have hw4 : Fr (fun b => b = d) w3 (((((((w3.setCell ⟨d, 1, none⟩ (.int .i64 p.crash)).setCell ⟨d, 2, none⟩ (.slice ak' p.keep.length ck')).setCell ⟨d, 3, none⟩ (.slice af' p.fail.length cf')).setCell ⟨d, 4, none⟩ (.slice au' p.full.length cu')).setCell ⟨d, 5, none⟩ (.int .i64 p.room)).setCell ⟨d, 6, none⟩ (.int .i64 0)).setCell ⟨d, 7, none⟩ (.bool false)) :=
      (((((((Fr.refl (fun b => b = d) w3).setCell (p := ⟨d, 1, none⟩) (fun _ => rfl) _).setCell (p := ⟨d, 2, none⟩) (fun _ => rfl) _).setCell (p := ⟨d, 3, none⟩) (fun _ => rfl) _).setCell (p := ⟨d, 4, none⟩) (fun _ => rfl) _).setCell (p := ⟨d, 5, none⟩) (fun _ => rfl) _).setCell (p := ⟨d, 6, none⟩) (fun _ => rfl) _).setCell (p := ⟨d, 7, none⟩) (fun _ => rfl) _
    simp only [List.setIfInBounds_toArray, List.set_cons_zero, List.set_cons_succ] at hb4
    have hend := HFIN.out _ _ _ _ _ _ _ _ _ H2.out (Step.trans ⟨Old.fr HO.out, fun _ h => .inl h⟩ HS2.out) (by rw [hd]; rfl) ho ⟨t1, t2, t3⟩ hw4 hb4
    have HEND := Lib.hid hend
    clear hend hb4 hw4 hd3 t1 t2 t3 ho
    go_wp2
    go_ret
    exact HEND.out
end
end Go.Proofs.Ytpdflncgemcniaa
namespace Go.Proofs.Ytpdflncgemcniaa
open Go.RowKit

/-- A new disk. -/
def newDk (p : Pl) : Dk := ⟨p, 0, false, []⟩

def NewPost (w : World) (p : Pl) (e : Ending) (w' : World) : Prop :=
  ∃ d r F, e = .returned (.pointer (some ⟨d, 0, none⟩)) ∧ IsDisk w'.heap d (newDk p) r F ∧ (∀ b, F b → w.heap.size ≤ b) ∧ Old w w'

set_option maxHeartbeats 2000000 in
set_option maxRecDepth 100000 in
theorem new7 (w : World) (p : Pl) (okp : PlOk p) (G : Nat → Prop) (k f u : Value) (hp : IsPlan w.heap G k f u p) :
    Calls Try.prog 7 #[.agg #[.int .i64 p.crash, k, f, u, .int .i64 p.room]] w (NewPost w p) := by
  have o0 : Old w (w.alloc (.cells #[.int .i64 p.crash, k, f, u, .int .i64 p.room] 24)) := (Fr.refl _ _).alloc _
  have hp0 := hp.fr o0 fun _ _ f => f
  obtain ⟨ak, ck, rfl, _, _⟩ := hp.keep.shape
  obtain ⟨af, cf, rfl, _, _⟩ := hp.fail.shape
  obtain ⟨au, cu, rfl, _, _⟩ := hp.full.shape
  have htw := twin21 _ G p.crash p.room _ _ _ p.keep p.fail p.full hp0.keep hp0.fail hp0.full okp.keep okp.fail okp.full
  have HO := Lib.hid o0
  clear hp hp0 o0
  go_enter Try.func7, Try.ntmps7
  go_wp2_with fail
  refine htw.mono ?_
  rintro e w3 ⟨k', f', u', rfl, t1, t2, t3, ho⟩
  obtain ⟨ak', ck', rfl, _, _⟩ := t1.shape
  obtain ⟨af', cf', rfl, _, _⟩ := t2.shape
  obtain ⟨au', cu', rfl, _, _⟩ := t3.shape
  have hz : w.heap.size + 1 ≤ w3.heap.size := by have := ho.size; simpa using this
  have T := Lib.hid (And.intro t1 (And.intro t2 (And.intro t3 (HO.out.trans' ho))))
  clear t1 t2 t3 ho
  have hmk := run_makeMap (P := Try.prog) 54 w3
  go_wp2
  go_ret
  have ho3 := T.out.2.2.2
  have hm0 := World.ownsMap_made (H := Unit) w3 Try.prog 9 ptrR
  have hm1 := hm0.alloc (.cells #[.int .i64 1, .int .i64 p.crash, .slice ak' p.keep.length ck', .slice af' p.fail.length cf', .slice au' p.full.length cu', .int .i64 p.room, .int .i64 0, .bool false, .map (some w3.heap.size)] 56)
  have hb1 := blk_new (w3.alloc (.map #[] 0)) #[.int .i64 1, .int .i64 p.crash, .slice ak' p.keep.length ck', .slice af' p.fail.length cf', .slice au' p.full.length cu', .int .i64 p.room, .int .i64 0, .bool false, .map (some w3.heap.size)] 56
  rw [World.size_alloc] at hb1
  have o4 : Old w3 ((w3.alloc (.map #[] 0)).alloc (.cells #[.int .i64 1, .int .i64 p.crash, .slice ak' p.keep.length ck', .slice af' p.fail.length cf', .slice au' p.full.length cu', .int .i64 p.room, .int .i64 0, .bool false, .map (some w3.heap.size)] 56)) := ((Fr.refl _ _).alloc _).alloc _
  have own : ∀ {v : Value} {l : List Int}, SlT 3 iv w3.heap (fun b => (w.alloc (.cells #[.int .i64 p.crash, .slice ak p.keep.length ck, .slice af p.fail.length cf, .slice au p.full.length cu, .int .i64 p.room] 24)).heap.size ≤ b) v l →
      SlT 3 iv ((w3.alloc (.map #[] 0)).alloc (.cells #[.int .i64 1, .int .i64 p.crash, .slice ak' p.keep.length ck', .slice af' p.fail.length cf', .slice au' p.full.length cu', .int .i64 p.room, .int .i64 0, .bool false, .map (some w3.heap.size)] 56)).heap (fun b => w.heap.size ≤ b ∧ b < w3.heap.size + 2) v l := fun h =>
    (h.monot fun b h1 t => ⟨by rw [World.size_alloc] at h1; omega, by have := t.lt; omega⟩).fr o4 fun _ _ f => f
  refine ⟨w3.heap.size + 1, ⟨w3.heap.size, .slice ak' p.keep.length ck', .slice af' p.fail.length cf', .slice au' p.full.length cu', []⟩, fun b => w.heap.size ≤ b ∧ b < w3.heap.size + 2, by simp, ?_, fun b h => h.1, ho3.trans' o4⟩
  exact {
    fits := rfl
    own := ⟨by omega, by omega⟩
    blk := hb1
    keep := own T.out.1
    fail := own T.out.2.1
    full := own T.out.2.2.1
    mown := (⟨by omega, by omega⟩ : w.heap.size ≤ w3.heap.size ∧ w3.heap.size < w3.heap.size + 2)
    map := OwnMap.of hm1
    files := fun q hq => by cases hq
    apart := List.Pairwise.nil
    lt := fun b h => by simp; omega }
end Go.Proofs.Ytpdflncgemcniaa
