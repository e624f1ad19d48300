/- PROVED HERE: the contracts of the listings of files: told, Files, Safe. PROVED HERE: the document's disk in memory: that it holds a plain disk. No conditions beyond the premises that each theorem names. -/
import Derived.Test.YtpdflncgemcniaaD12
namespace Go.Proofs.Ytpdflncgemcniaa
open Go.RowKit

/-- A listing's row: name, data, and the data's slice. -/
abbrev LR := Bs × Bs × Value

def lrCells (r : LR) : List Value := [encStr r.1, r.2.2]

/-- Files listed: names and data. -/
def IsFiles (h : Array Obj) (F : Nat → Prop) (v : Value) (l : List (Bs × Bs)) : Prop :=
  ∃ rs : List LR, rs.map (fun r => (r.1, r.2.1)) = l ∧ OwnRow h F 80 2 v l.length (rs.flatMap lrCells) ∧ ∀ r ∈ rs, SlT 5 u8 h F r.2.2 r.2.1

theorem IsFiles.nil {h : Array Obj} {F : Nat → Prop} : IsFiles h F (.slice none 0 0) [] := ⟨[], rfl, OwnRow.nil, fun r h => by cases h⟩

theorem IsFiles.mono {h : Array Obj} {F G : Nat → Prop} {v : Value} {l : List (Bs × Bs)} (s : IsFiles h F v l) (hF : ∀ x, F x → G x) : IsFiles h G v l := by
  obtain ⟨rs, e, h1, h2⟩ := s
  exact ⟨rs, e, h1.mono fun x _ h => hF x h, fun r hr => (h2 r hr).mono hF⟩

theorem IsFiles.fr {w w' : World} {F G : Nat → Prop} {v : Value} {l : List (Bs × Bs)} (s : IsFiles w.heap F v l) (hf : Fr G w w') (hd : ∀ b, F b → G b → False) : IsFiles w'.heap F v l := by
  obtain ⟨rs, e, h1, h2⟩ := s
  exact ⟨rs, e, h1.kept fun b _ hb hl => hf.block b hl (hd b hb), fun r hr => (h2 r hr).fr hf hd⟩

theorem Try.info80 : (Try.prog.info? 80).map (fun i => (i.zero, i.size, i.bytes)) = some (some (.agg #[.string ⟨#[]⟩, .slice none 0 0]), 2, 40) := by kernel_rfl

/-- What of a file is told. -/
def tell (safe : Bool) (f : Fl) : Bs := if safe then f.safe else dataOf f

def ToldPost (w : World) (l : List (Bs × Bs)) (e : Ending) (w' : World) : Prop := ∃ v, e = .returned v ∧ IsFiles w'.heap (fun b => w.heap.size ≤ b) v l ∧ Old w w'

def toldOf (safe : Bool) (l : List Fl) : List (Bs × Bs) := l.map fun f => (f.name, tell safe f)

/-- One more file is listed. -/
theorem IsFiles.push {w w' : World} {F : Nat → Prop} {v v' : Value} {l : List (Bs × Bs)} {rs : List LR} (e : rs.map (fun r => (r.1, r.2.1)) = l) (h2 : ∀ r ∈ rs, SlT 5 u8 w.heap F r.2.2 r.2.1)
    {n : Bs} {b : Bs} {vb : Value} (hb : SlT 5 u8 w.heap F vb b) (hfr : Fr (fun b => v.ownBlock = some b) w w') (ht : ∀ b, v.ownBlock = some b → Tag w.heap b 80)
    (h : OwnRow w'.heap F 80 2 v' (l.length + 1) (rs.flatMap lrCells ++ [encStr n, vb])) : IsFiles w'.heap F v' (l ++ [(n, b)]) := by
  refine ⟨rs ++ [(n, b, vb)], by simp [e], ?_, fun r hr => ?_⟩
  · rw [List.flatMap_append, List.length_append]
    exact h
  · have hs : SlT 5 u8 w.heap F r.2.2 r.2.1 := by
      rcases List.mem_append.1 hr with hr | hr
      · exact h2 r hr
      · simp at hr; subst hr; exact hb
    exact hs.frt hfr fun b _ t e => absurd (t.eq (ht b e)) (by decide)

section
variable {w : World} {d : Nat} {S : Dk} {r : DRep} {F : Nat → Prop}

set_option maxHeartbeats 4000000 in
set_option maxRecDepth 100000 in
theorem told_at (h : IsDisk w.heap d S r F) {K : Nat} (wf : Wf S K) (hK : K ≤ 1000000) (fn : Nat) (safe : Bool)
    (hcf : ∀ args w, (callFunc fn args).run Try.prog w = Result.ok (Next.enter fn args) w)
    (hcall : ∀ (W : World) (p : FP), IsFile W.heap F p.1 p.2 → Calls Try.prog fn #[.pointer (some ⟨p.2.blk, 0, none⟩)] W fun e w' => ∃ v, e = .returned v ∧ SlT 5 u8 W.heap F v (tell safe p.1) ∧ W = w') :
    Calls Try.prog 52 #[.pointer (some ⟨d, 0, none⟩), .func (.func fn) #[] #[]] w (ToldPost w (toldOf safe S.files)) := by
  have hnl : (namesOf S).length = S.files.length := by simp [namesOf]
  have hnm := (names68 h wf hK).mono (R' := fun e w1 => ∃ a c, e = .returned (.slice a S.files.length c) ∧ S.files.length ≤ c ∧
      SlT 9 encStr w1.heap (fun b => w.heap.size ≤ b) (.slice a S.files.length c) (namesOf S) ∧ Old w w1) (by
    rintro e w1 ⟨v, rfl, hsl, hold⟩
    obtain ⟨a, c, rfl, hc, _⟩ := hsl.shape
    rw [hnl] at hc hsl ⊢
    exact ⟨a, c, rfl, hc, hsl, hold⟩)
  have hlen : r.ps.length = S.files.length := by rw [← h.fits, List.length_map]
  have HFIT := Lib.hid h.fits
  have HFIND := Lib.hid (fun k f q hk => h.find wf (k := k) (f := f) (q := q) hk)
  have H := Lib.hid h
  have HWF := Lib.hid wf
  have hfew := wf.few
  have HCALL := Lib.hid hcall
  clear h wf hcall
  go_enter Try.func52, Try.ntmps52
  go_wp2_with (go_at_call 68; refine hnm.mono ?_; rintro e w1 ⟨av, cv, rfl, hcv, hsl, hold⟩)
  have HSL := Lib.hid hsl
  have HOLD := Lib.hid hold
  clear hsl hold hnm
  go_loopw [11, 5] (fun i v wr => ∃ k : Nat, i = .int .i64 k ∧ k ≤ S.files.length ∧ IsFiles wr.heap (fun b => w1.heap.size ≤ b) v (toldOf safe (S.files.take k)) ∧ Old w1 wr) (fun i _ _ => S.files.length - (intOf i).toNat)
  case atStart => exact ⟨0, rfl, Nat.zero_le _, IsFiles.nil, Fr.refl _ _⟩
  case round =>
    obtain ⟨k, rfl, hk, hfiles, ho⟩ := hrel
    by_cases hlt : k < S.files.length
    · obtain ⟨p, hp⟩ : ∃ p, r.ps[k]? = some p := ⟨_, List.getElem?_eq_getElem (by omega)⟩
      obtain ⟨f, q⟩ := p
      have hfk : S.files[k]? = some f := by rw [← HFIT.out, List.getElem?_map, hp]; rfl
      have hfl := HWF.out.each f (List.mem_of_getElem? hfk)
      have hold := HOLD.out.trans' ho
      have hd := H.out.fr hold fun _ _ f => f
      obtain ⟨nb, no, rfl, hname⟩ := (HSL.out.fr ho fun _ _ f => f).at_cell (k := k) (x := f.name) (by unfold namesOf; rw [List.getElem?_map, hfk]; rfl)
      have hname : wr.cell? ⟨nb, no + k, none⟩ = some (.string ⟨f.name.toArray⟩) := hname
      have hlk := look_run (w := wr) (mb := r.mb) (ps := r.ps) hd.map ⟨f.name.toArray⟩ (by have := hfl.name; simp only [ByteArray.size, List.size_toArray, maxLen]; omega)
      rw [show (⟨f.name.toArray⟩ : ByteArray).data.toList = f.name from rfl, HFIND.out k f q hp] at hlk
      have D8 : wr.cell? ⟨d, 8, none⟩ = some (.map (some r.mb)) := hd.blk.rules.1 8
      have hc := HCALL.out wr (f, q) (hd.files _ (List.mem_of_getElem? hp))
      have htl : (tell safe f).length ≤ 268435456 := by unfold tell; split; exact hfl.safe; exact hfl.data
      obtain ⟨rs, ers, hrow, hrsl⟩ := hfiles
      have hll : (toldOf safe (S.files.take k)).length = k := by simp [toldOf]; omega
      rw [hll] at hrow
      have htake : toldOf safe (S.files.take (k + 1)) = toldOf safe (S.files.take k) ++ [(f.name, tell safe f)] := by
        obtain ⟨hlt', rfl⟩ := List.getElem?_eq_some_iff.1 hfk
        simp only [toldOf]
        rw [List.take_succ_eq_append_getElem hlt', List.map_append]
        rfl
      have hzw : w1.heap.size ≤ wr.heap.size := ho.size
      have HROW := Lib.hid hrow
      have HRS := Lib.hid (And.intro ers hrsl)
      have HTAKE := Lib.hid htake
      have HOLDR := Lib.hid hold
      have HHO := Lib.hid ho
      have HLL := Lib.hid hll
      clear hfk hfl hold hd hp ers hrsl hrow htake ho hll
      go_wp2_with (first
        | (go_at_call 37
           refine (clone37 _ F _ _ (HV.out.at) (by omega)).mono ?_
           rintro e w2 ⟨v2, rfl, hs2, ho2⟩
           obtain ⟨a2, c2, e2, _, _⟩ := hs2.shape
           subst e2
           have ho3 := ho2.alloc (.cells #[encStr f.name, .slice a2 (tell safe f).length c2] 80)
           have hrowX := HROW.out.kept (h' := (w2.alloc (.cells #[encStr f.name, .slice a2 (tell safe f).length c2] 80)).heap) fun b _ _ hb => ho3.block b hb fun f => f
           have hrowN : RowAt (w2.alloc (.cells #[encStr f.name, .slice a2 (tell safe f).length c2] 80)).heap 2 (.slice (some ⟨w2.heap.size, 0, none⟩) 1 1) 1 [encStr f.name, .slice a2 (tell safe f).length c2] := by
             refine ⟨rfl, .inr ⟨w2.heap.size, 0, 1, rfl, fun j u hj => ?_⟩⟩
             rw [Nat.zero_add, cel_new, ← Array.getElem?_toList]
             exact hj
           have hs3 := hs2.fr (w' := w2.alloc (.cells #[encStr f.name, .slice a2 (tell safe f).length c2] 80)) ((Fr.refl (fun _ => False) w2).alloc _) fun _ _ f => f
           have HS2 := Lib.hid (And.intro hs3 ho3)
           clear hs2 ho2 ho3 hs3)
        | (at_builtin; refine wpList_app rfl (.tmp 15) (.tmp 27) 52 rfl 80 (.agg #[.string ⟨#[]⟩, .slice none 0 0]) 2 40 Try.underlying52 Try.info80 rfl (by decide) (fun b => w1.heap.size ≤ b) _ k (rs.flatMap lrCells) rfl hrowX _ 1 [encStr f.name, .slice a2 (tell safe f).length c2] rfl hrowN (by intro u hu; simp at hu; rcases hu with rfl | rfl <;> rfl) (by unfold maxLen; omega) (by omega) ?_
           intro v3 w3 hown3 hfr3 _
           have htag := fun b hb => (hrowX.owned (b := b) hb)
           have HN := Lib.hid (And.intro hown3 (And.intro hfr3 htag))
           clear hown3 hfr3 hrowX htag)
        | (refine hc.mono ?_
           rintro e w2 ⟨v1, rfl, hs1, rfl⟩
           obtain ⟨a1, c1, e1, _, _⟩ := hs1.shape
           subst e1
           have HV := Lib.hid hs1
           clear hs1 hc))
      refine ⟨⟨k + 1, by go_num, by omega, ?_, ?_⟩, by simp [intOf]; omega⟩
      · rw [HTAKE.out]
        have hz3 := HS2.out.2.size
        refine IsFiles.push HRS.out.1 (fun r hr => (HRS.out.2 r hr).fr HS2.out.2 fun _ _ f => f) (HS2.out.1.mono fun b h => by omega) HN.out.2.1 (fun b e => ?_) ?_
        · obtain ⟨_, cur, e'⟩ := HN.out.2.2 b e
          exact ⟨cur, _, e'⟩
        · rw [HLL.out]
          exact HN.out.1.mono fun b _ h => by
            rcases h with h | h
            · exact (HN.out.2.2 b h).1
            · omega
      · exact (HHO.out.trans' HS2.out.2).trans HN.out.2.1 fun b hb e => by have := (HN.out.2.2 b e).1; omega
    · have hk' : k = S.files.length := by omega
      subst hk'
      rw [List.take_length] at hfiles
      have HF := Lib.hid hfiles
      have HO := Lib.hid ho
      clear hfiles ho
      go_wp2
      go_ret
      have := HOLD.out.size
      exact ⟨_, rfl, HF.out.mono fun b h => by omega, HOLD.out.trans' HO.out⟩

set_option maxRecDepth 100000 in
theorem now53 (W : World) (p : FP) (h : IsFile W.heap F p.1 p.2) : Calls Try.prog 53 #[.pointer (some ⟨p.2.blk, 0, none⟩)] W fun e w' => ∃ v, e = .returned v ∧ SlT 5 u8 W.heap F v (tell false p.1) ∧ W = w' := by
  obtain ⟨r1, _⟩ := h.blk.rules
  have hs : SlT 5 u8 W.heap F p.2.vn (tell false p.1) := h.now
  have HS := Lib.hid hs
  clear h hs
  go_enter Try.func53, Try.ntmps53
  go_wp2
  go_ret
  exact ⟨_, rfl, HS.out, rfl⟩

set_option maxRecDepth 100000 in
theorem safe63 (W : World) (p : FP) (h : IsFile W.heap F p.1 p.2) : Calls Try.prog 63 #[.pointer (some ⟨p.2.blk, 0, none⟩)] W fun e w' => ∃ v, e = .returned v ∧ SlT 5 u8 W.heap F v (tell true p.1) ∧ W = w' := by
  obtain ⟨r1, _⟩ := h.blk.rules
  have hs : SlT 5 u8 W.heap F p.2.vs (tell true p.1) := h.safe
  have HS := Lib.hid hs
  clear h hs
  go_enter Try.func63, Try.ntmps63
  go_wp2
  go_ret
  exact ⟨_, rfl, HS.out, rfl⟩

set_option maxHeartbeats 1000000 in
set_option maxRecDepth 100000 in
theorem files20 (h : IsDisk w.heap d S r F) {K : Nat} (wf : Wf S K) (hK : K ≤ 1000000) : Calls Try.prog 20 #[.pointer (some ⟨d, 0, none⟩)] w (ToldPost w (if S.died then [] else toldOf false S.files)) := by
  have his := h.is
  have ht := told_at h wf hK 53 false (fun args w => enters_of Try.func53 (by kernel_rfl) rfl args w) now53
  obtain ⟨r1, _⟩ := h.blk.rules
  cases hd : S.died with
  | true =>
    have hD : w.cell? ⟨d, 7, none⟩ = some (.bool true) := by rw [r1, hd]; rfl
    clear h r1 ht
    go_enter Try.func20, Try.ntmps20
    go_wp2_with (go_at_call 35; refine his.mono ?_; rintro e w' ⟨rfl, rfl⟩)
    go_ret
    exact ⟨_, rfl, IsFiles.nil, Fr.refl _ _⟩
  | false =>
    have hD : w.cell? ⟨d, 7, none⟩ = some (.bool false) := by rw [r1, hd]; rfl
    clear h r1
    go_enter Try.func20, Try.ntmps20
    go_wp2_with (first | (go_at_call 35; refine his.mono ?_; rintro e w' ⟨rfl, rfl⟩) | (go_at_call 52; refine ht.mono ?_; rintro e w' ⟨v, rfl, hf, ho⟩; have HF := Lib.hid hf; have HO := Lib.hid ho; clear hf ho))
    go_ret
    exact ⟨_, rfl, HF.out, HO.out⟩

set_option maxHeartbeats 1000000 in
set_option maxRecDepth 100000 in
theorem safe43 (h : IsDisk w.heap d S r F) {K : Nat} (wf : Wf S K) (hK : K ≤ 1000000) : Calls Try.prog 43 #[.pointer (some ⟨d, 0, none⟩)] w (ToldPost w (toldOf true S.files)) := by
  have his := h.is
  have ht := told_at h wf hK 63 true (fun args w => enters_of Try.func63 (by kernel_rfl) rfl args w) safe63
  clear h
  go_enter Try.func43, Try.ntmps43
  go_wp2_with (first | (go_at_call 35; refine his.mono ?_; rintro e w' ⟨rfl, rfl⟩) | (go_at_call 52; refine ht.mono ?_; rintro e w' ⟨v, rfl, hf, ho⟩; have HF := Lib.hid hf; have HO := Lib.hid ho; clear hf ho))
  go_ret
  exact ⟨_, rfl, HF.out, HO.out⟩
end

end Go.Proofs.Ytpdflncgemcniaa
namespace Go.Proofs.Ytpdflncgemcniaa
open Go.RowKit

theorem flat_length {α β : Type} {f : α → List β} {n : Nat} (hn : ∀ a, (f a).length = n) : ∀ l : List α, (l.flatMap f).length = l.length * n
  | [] => by simp
  | a :: l => by rw [List.flatMap_cons, List.length_append, hn, flat_length hn l, List.length_cons, Nat.add_mul]; omega

theorem flat_at {α β : Type} {f : α → List β} {n : Nat} (hn : ∀ a, (f a).length = n) : ∀ {l : List α} {i : Nat} {a : α} {j : Nat}, l[i]? = some a → j < n → (l.flatMap f)[i * n + j]? = (f a)[j]?
  | [], _, _, _, h, _ => by simp at h
  | x :: l, 0, a, j, h, hj => by
    simp at h; subst h
    rw [Nat.zero_mul, Nat.zero_add, List.flatMap_cons, List.getElem?_append_left (by rw [hn]; exact hj)]
  | x :: l, i + 1, a, j, h, hj => by
    have h' : l[i]? = some a := by simpa using h
    rw [List.flatMap_cons, List.getElem?_append_right (by rw [hn, Nat.add_mul]; omega), hn, ← flat_at hn h' hj]
    congr 1
    rw [Nat.add_mul]; omega

theorem flat_set {α β : Type} {f : α → List β} {n : Nat} (hn : ∀ a, (f a).length = n) : ∀ {l : List α} {i : Nat} {a b : α} {j : Nat} {u : β}, l[i]? = some a → j < n → (f a).set j u = f b → (l.flatMap f).set (i * n + j) u = (l.set i b).flatMap f
  | [], _, _, _, _, _, h, _, _ => by simp at h
  | x :: l, 0, a, b, j, u, h, hj, hu => by
    simp at h; subst h
    rw [Nat.zero_mul, Nat.zero_add, List.flatMap_cons, List.set_append, if_pos (by rw [hn]; exact hj), hu]
    rfl
  | x :: l, i + 1, a, b, j, u, h, hj, hu => by
    have h' : l[i]? = some a := by simpa using h
    rw [List.flatMap_cons, List.set_append, if_neg (by rw [hn, Nat.add_mul]; omega), hn, List.set_cons_succ, List.flatMap_cons, ← flat_set hn h' hj hu]
    congr 2
    rw [Nat.add_mul]; omega

section
variable {w : World} {F : Nat → Prop} {e : TypeId} {size : Nat} {v : Value} {n : Nat} {xs : List Value}

theorem OwnRow.set (s : OwnRow w.heap F e size v n xs) {b : Nat} (hb : v.ownBlock = some b) {j : Nat} (u : Value) : OwnRow (w.setCell ⟨b, j, none⟩ u).heap F e size v n (xs.set j u) := by
  refine ⟨by rw [List.length_set]; exact s.1, ?_⟩
  rcases s.2 with ⟨rfl, _⟩ | ⟨g, cap, cur, rfl, hg, hgg, h1, h2, h3, h4⟩
  · simp [Value.ownBlock] at hb
  · simp [Value.ownBlock] at hb; subst hb
    refine .inr ⟨g, cap, _, rfl, hg, heap_set_at u hgg, h1, h2, by simpa using h3, ?_⟩
    rw [← h4, Array.toList_setIfInBounds, List.take_set]

theorem OwnRow.rules (s : OwnRow w.heap F e size v n xs) {b : Nat} (hb : v.ownBlock = some b) : (∀ (j : Nat) (u : Value), xs[j]? = some u → w.cell? ⟨b, j, none⟩ = some u) ∧ (∀ j, w.frozen? ⟨b, j, none⟩ = false) := by
  refine ⟨fun j u hu => by rw [cell_cel]; exact s.cell hb hu, fun j => ?_⟩
  obtain ⟨_, cur, h⟩ := s.owned hb
  simp [World.frozen?, h]
end

/-- A change of the document's as it lies in four cells. -/
def IsDc (h : Array Obj) (F : Nat → Prop) (cells : List Value) : Ch → Prop
  | .write pos b => ∃ vb, cells = [.bool false, .int .i64 pos, .int .i64 0, vb] ∧ SlT 5 u8 h F vb b
  | .cut long => cells = [.bool true, .int .i64 0, .int .i64 long, .slice none 0 0]

theorem IsDc.kept {h h' : Array Obj} {F : Nat → Prop} {cells : List Value} {c : Ch} (s : IsDc h F cells c) (hk : ∀ b, F b → Tag h b 5 → h'[b]? = h[b]?) : IsDc h' F cells c := by
  cases c with
  | write pos b =>
    obtain ⟨vb, e, s⟩ := s
    exact ⟨vb, e, s.kept hk⟩
  | cut long => exact s

theorem IsDc.mono {h : Array Obj} {F G : Nat → Prop} {cells : List Value} {c : Ch} (s : IsDc h F cells c) (hF : ∀ x, F x → Tag h x 5 → G x) : IsDc h G cells c := by
  cases c with
  | write pos b =>
    obtain ⟨vb, e, s⟩ := s
    exact ⟨vb, e, s.monot hF⟩
  | cut long => exact s

theorem IsDc.len {h : Array Obj} {F : Nat → Prop} {cells : List Value} {c : Ch} (s : IsDc h F cells c) : cells.length = 4 := by
  cases c with
  | write pos b => obtain ⟨vb, e, _⟩ := s; rw [e]; rfl
  | cut long => rw [s]; rfl

/-- How a file of the document's lies: what is safe, its changes, with their cells. -/
structure MRep where
  vs : Value
  vc : Value
  cs : List (Ch × List Value)

abbrev MP := Fl × MRep

/-- Four cells of a change, whatever. -/
def four (p : Ch × List Value) : List Value := [p.2.getD 0 undef, p.2.getD 1 undef, p.2.getD 2 undef, p.2.getD 3 undef]
theorem four_len (p : Ch × List Value) : (four p).length = 4 := rfl

structure IsMF (h : Array Obj) (F : Nat → Prop) (f : Fl) (q : MRep) : Prop where
  fits : q.cs.map Prod.fst = f.chs
  safe : SlT 5 u8 h F q.vs f.safe
  row : OwnRow h F 101 4 q.vc q.cs.length (q.cs.flatMap four)
  chs : ∀ p ∈ q.cs, IsDc h F (four p) p.1

def mfCells (p : MP) : List Value := [encStr p.1.name, p.2.vs, p.2.vc]
theorem mf_len (p : MP) : (mfCells p).length = 3 := rfl

def apartM (p q : MP) : Prop := ∀ b, p.2.vc.ownBlock = some b → q.2.vc.ownBlock ≠ some b
theorem apartM_symm {p q : MP} (h : apartM p q) : apartM q p := fun b h1 h2 => h b h2 h1

/-- How the document's disk lies. -/
structure MDRep where
  k : Value
  f : Value
  u : Value
  vf : Value
  ps : List MP

structure IsModel (h : Array Obj) (m : Nat) (S : Dk) (r : MDRep) (F : Nat → Prop) : Prop where
  fits : r.ps.map Prod.fst = S.files
  own : F m
  blk : Blk h m #[.int .i64 S.plan.crash, r.k, r.f, r.u, .int .i64 S.plan.room, r.vf, .int .i64 S.n, .bool S.died] 41
  keep : SlT 3 iv h F r.k S.plan.keep
  fail : SlT 3 iv h F r.f S.plan.fail
  full : SlT 3 iv h F r.u S.plan.full
  row : OwnRow h F 75 3 r.vf r.ps.length (r.ps.flatMap mfCells)
  files : ∀ p ∈ r.ps, IsMF h F p.1 p.2
  apart : r.ps.Pairwise apartM
  lt : ∀ b, F b → b < h.size

section
variable {h h' : Array Obj} {F G : Nat → Prop}

theorem IsMF.tagC {f : Fl} {q : MRep} (s : IsMF h F f q) {b : Nat} (hb : q.vc.ownBlock = some b) : F b ∧ Tag h b 101 := by
  obtain ⟨h1, cur, h2⟩ := s.row.owned hb
  exact ⟨h1, cur, _, h2⟩

theorem IsModel.tagF {m : Nat} {S : Dk} {r : MDRep} (s : IsModel h m S r F) {b : Nat} (hb : r.vf.ownBlock = some b) : F b ∧ Tag h b 75 := by
  obtain ⟨h1, cur, h2⟩ := s.row.owned hb
  exact ⟨h1, cur, _, h2⟩

theorem IsMF.kept {f : Fl} {q : MRep} (s : IsMF h F f q) (hk : ∀ b, F b → Tag h b 5 → h'[b]? = h[b]?) (hc : ∀ b, q.vc.ownBlock = some b → h'[b]? = h[b]?) : IsMF h' F f q where
  fits := s.fits
  safe := s.safe.kept hk
  row := s.row.kept fun b e _ _ => hc b e
  chs p hp := (s.chs p hp).kept hk

theorem IsMF.mono {f : Fl} {q : MRep} (s : IsMF h F f q) (hF : ∀ x, F x → x < h.size → G x) : IsMF h G f q where
  fits := s.fits
  safe := s.safe.monot fun x hx t => hF x hx t.lt
  row := s.row.mono fun b e h => hF b h (s.tagC e).2.lt
  chs p hp := (s.chs p hp).mono fun x hx t => hF x hx t.lt

theorem IsModel.kept {m : Nat} {S : Dk} {r : MDRep} (s : IsModel h m S r F) (hk : ∀ b, F b → h'[b]? = h[b]?) : IsModel h' m S r F where
  fits := s.fits
  own := s.own
  blk := (hk m s.own).trans s.blk
  keep := s.keep.kept fun b hb _ => hk b hb
  fail := s.fail.kept fun b hb _ => hk b hb
  full := s.full.kept fun b hb _ => hk b hb
  row := s.row.kept fun b _ hb _ => hk b hb
  files p hp := (s.files p hp).kept (fun b hb _ => hk b hb) fun b hb => hk b ((s.files p hp).tagC hb).1
  apart := s.apart
  lt b hb := by
    have h1 := s.lt b hb
    have h2 := hk b hb
    rcases Nat.lt_or_ge b h'.size with h3 | h3
    · exact h3
    · rw [Array.getElem?_eq_none h3, Array.getElem?_eq_getElem h1] at h2
      cases h2

theorem IsModel.fr {w w' : World} {m : Nat} {S : Dk} {r : MDRep} (s : IsModel w.heap m S r F) (f : Fr G w w') (hd : ∀ b, F b → G b → False) : IsModel w'.heap m S r F :=
  s.kept fun b hb => f.block b (s.lt b hb) (hd b hb)

theorem IsModel.mono {m : Nat} {S : Dk} {r : MDRep} (s : IsModel h m S r F) (hF : ∀ b, F b → G b) (hG : ∀ b, G b → b < h.size) : IsModel h m S r G where
  fits := s.fits
  own := hF _ s.own
  blk := s.blk
  keep := s.keep.mono hF
  fail := s.fail.mono hF
  full := s.full.mono hF
  row := s.row.mono fun b _ h => hF b h
  files p hp := (s.files p hp).mono fun x h _ => hF x h
  apart := s.apart
  lt := hG

theorem IsModel.more {w w1 : World} {m : Nat} {S : Dk} {r : MDRep} (s : IsModel w.heap m S r F) (o : Old w w1) : IsModel w1.heap m S r (fun b => F b ∨ (w.heap.size ≤ b ∧ b < w1.heap.size)) :=
  (s.fr o fun _ _ f => f).mono (fun _ h => .inl h) fun b h => by
    rcases h with h | h
    · exact Nat.lt_of_lt_of_le (s.lt b h) o.size
    · exact h.2

/-- Only the disk's own block has turned: its count, its fate. -/
theorem IsModel.turn {m : Nat} {S : Dk} {r : MDRep} (s : IsModel h m S r F) (hk : ∀ b, b ≠ m → h'[b]? = h[b]?) (n : Nat) (died : Bool)
    (hb : Blk h' m #[.int .i64 S.plan.crash, r.k, r.f, r.u, .int .i64 S.plan.room, r.vf, .int .i64 n, .bool died] 41) :
    IsModel h' m { S with n := n, died := died } r F := by
  have td : Tag h m 41 := s.blk.tag
  have ne : ∀ b T, T ≠ 41 → Tag h b T → b ≠ m := fun b T hT t e => hT (by subst e; exact t.eq td)
  have h5 : ∀ b, F b → Tag h b 5 → h'[b]? = h[b]? := fun b _ t => hk b (ne b 5 (by decide) t)
  have h3 : ∀ b, F b → Tag h b 3 → h'[b]? = h[b]? := fun b _ t => hk b (ne b 3 (by decide) t)
  exact {
    fits := s.fits
    own := s.own
    blk := hb
    keep := s.keep.kept h3
    fail := s.fail.kept h3
    full := s.full.kept h3
    row := s.row.kept fun b e _ _ => hk b (ne b 75 (by decide) (s.tagF e).2)
    files := fun p hp => (s.files p hp).kept h5 fun b hb => hk b (ne b 101 (by decide) ((s.files p hp).tagC hb).2)
    apart := s.apart
    lt := fun b hF => by
      by_cases e : b = m
      · subst e; exact hb.lt
      · have h1 := s.lt b hF
        have h2 := hk b e
        rcases Nat.lt_or_ge b h'.size with h3 | h3
        · exact h3
        · rw [Array.getElem?_eq_none h3, Array.getElem?_eq_getElem h1] at h2
          cases h2 }
end
end Go.Proofs.Ytpdflncgemcniaa
