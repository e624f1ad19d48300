/- PROVED HERE: an operation on the plain disk, and that sizes stay small. PROVED HERE: the contract of Do. No conditions beyond the premises that each theorem names. -/
import Derived.Test.YtpdflncgemcniaaD24
namespace Go.Proofs.Ytpdflncgemcniaa
open Go.RowKit

/-- An operation. -/
structure Opn where
  kind : Int
  name : ByteArray
  target : ByteArray
  pos : Int
  long : Int
  data : Bs
  plan : Pl

def stepOp (D : Dk) (o : Opn) : Int × Dk :=
  if o.kind = 0 then create D o.name.data.toList
  else if o.kind = 1 then onFile D o.name.data.toList (appendK o.data)
  else if o.kind = 2 then onFile D o.name.data.toList (writeK o.pos o.data)
  else if o.kind = 3 then onFile D o.name.data.toList (truncK o.long)
  else if o.kind = 4 then onFile D o.name.data.toList syncK
  else if o.kind = 5 then onFile D o.name.data.toList (renameK o.target.data.toList)
  else if o.kind = 6 then onFile D o.name.data.toList removeK
  else if o.kind = 7 then (0, start D o.plan)
  else ((readF D o.name.data.toList o.pos o.long).2, D)

theorem okName_len {s : Bs} (h : okName s = true) : s.length ≤ 32 := by
  unfold okName at h
  simp only [Bool.and_eq_true, decide_eq_true_eq] at h
  exact h.1.2

theorem mem_setF {g f : Fl} {l : List Fl} (h : f ∈ setF g l) : f = g ∨ f ∈ l := by
  unfold setF at h
  obtain ⟨x, hx, rfl⟩ := List.mem_map.1 h
  split
  · exact .inl rfl
  · exact .inr hx

theorem names_setF {g : Fl} : ∀ l : List Fl, (setF g l).map Fl.name = l.map Fl.name
  | [] => rfl
  | f :: l => by
    have ih := names_setF (g := g) l
    simp only [setF, List.map_cons] at ih ⊢
    rw [ih]
    congr 1
    split
    · rename_i h; exact (by simpa using h : f.name = g.name).symm
    · rfl

theorem sorted_names_iff {l l' : List Fl} (h : l'.map Fl.name = l.map Fl.name) (hs : l.Pairwise fun a b => a.name < b.name) : l'.Pairwise fun a b => a.name < b.name := by
  have h1 : (l.map Fl.name).Pairwise (· < ·) := List.pairwise_map.2 hs
  rw [← h] at h1
  exact List.pairwise_map.1 h1

theorem Wf.setF {S : Dk} {K : Nat} (h : Wf S K) {g : Fl} (hg : FlOk K g) : Wf { S with files := Ytpdflncgemcniaa.setF g S.files } K :=
  ⟨h.plan, h.n, by have := h.few; simpa [Ytpdflncgemcniaa.setF] using this, sorted_names_iff (names_setF _) h.sorted, fun f hf => by
    rcases mem_setF hf with rfl | hf
    · exact hg
    · exact h.each f hf⟩

theorem findF_mem {s : Bs} {l : List Fl} {f : Fl} (h : findF s l = some f) : f ∈ l ∧ f.name = s :=
  ⟨List.mem_of_find?_eq_some h, by have := List.find?_some h; simpa using this⟩

theorem Wf.putF {S : Dk} {K : Nat} (h : Wf S K) {g : Fl} (hg : FlOk (K + 1) g) (hn : ∀ f ∈ S.files, f.name ≠ g.name) : Wf { S with files := Ytpdflncgemcniaa.putF g S.files } (K + 1) :=
  ⟨h.plan, Nat.le_succ_of_le h.n, by show (Ytpdflncgemcniaa.putF g S.files).length ≤ K + 1; rw [length_putBy]; exact Nat.succ_le_succ h.few, sorted_putBy hn h.sorted, fun f hf => by
    rcases mem_putBy.1 hf with rfl | hf
    · exact hg
    · exact (h.each f hf).mono (by omega)⟩

theorem Wf.change {S : Dk} {K : Nat} (h : Wf S K) {f : Fl} (hf : f ∈ S.files) {c : Ch} (hc : ChOk c) (has : Nat) : Wf (Ytpdflncgemcniaa.change S f c has).2 (K + 1) := by
  unfold Ytpdflncgemcniaa.change
  simp only []
  split
  · exact h.mono (by omega)
  · refine (h.mono (by omega : K ≤ K + 1)).setF ?_
    have h1 := h.each f hf
    exact ⟨h1.name, h1.safe, by simp; exact h1.chs, fun c' hc' => by
      rcases List.mem_append.1 hc' with h2 | h2
      · exact h1.each c' h2
      · simp at h2; subst h2; exact hc⟩

theorem Wf.onFile {S : Dk} {K : Nat} (h : Wf S K) (s : Bs) (k : Dk → Fl → Int × Dk) (hk : ∀ D f, Wf D (K + 1) → f ∈ D.files → Wf (k D f).2 (K + 2)) : Wf (Ytpdflncgemcniaa.onFile S s k).2 (K + 2) := by
  have h1 := h.begin
  cases hx : ((Ytpdflncgemcniaa.begin S).1 == 0) with
  | false => rw [onFile_err hx]; exact h1.mono (by omega)
  | true =>
    have hx' : (Ytpdflncgemcniaa.begin S).1 = 0 := by simpa using hx
    cases hf : findF s (Ytpdflncgemcniaa.begin S).2.files with
    | none => rw [onFile_none hx' hf]; exact h1.mono (by omega)
    | some f => rw [onFile_some hx' hf]; exact hk _ f h1 (findF_mem hf).1

/-- What the walks ask of an operation. -/
structure OpOk (o : Opn) : Prop where
  name : o.name.size ≤ maxLen
  target : o.target.size ≤ maxLen
  pos : -9223372036854775808 ≤ o.pos ∧ o.pos < 9223372036854775808
  long : -9223372036854775808 ≤ o.long ∧ o.long < 9223372036854775808
  data : o.data.length ≤ 20000
  plan : PlOk o.plan

theorem Wf.step {S : Dk} {K : Nat} (h : Wf S K) {o : Opn} (ok : OpOk o) : Wf (stepOp S o).2 (K + 2) := by
  unfold stepOp
  split
  · have h1 := h.begin
    cases hx : ((Ytpdflncgemcniaa.begin S).1 == 0) with
    | false => rw [create_err hx]; exact h1.mono (by omega)
    | true =>
      have hx' : (Ytpdflncgemcniaa.begin S).1 = 0 := by simpa using hx
      rw [create_ok hx']
      split
      · exact h1.mono (by omega)
      · rename_i hok
        split
        · exact h1.mono (by omega)
        · rename_i hno
          split
          · exact h1.mono (by omega)
          · split
            · exact h1.mono (by omega)
            · refine h1.putF ⟨okName_len (by simpa using hok), by simp, by simp, fun c hc => by cases hc⟩ fun f hf e => hno ?_
              rw [findF, List.find?_isSome]
              exact ⟨f, hf, by simp [e]⟩
  · split
    · refine h.onFile _ _ fun D f hD hf => ?_
      unfold appendK
      split
      · exact hD.mono (by omega)
      · exact hD.change hf (by simp only [ChOk]; omega) _
    · split
      · refine h.onFile _ _ fun D f hD hf => ?_
        unfold writeK
        split
        · exact hD.mono (by omega)
        · split
          · exact hD.mono (by omega)
          · exact hD.change hf (by simp only [ChOk]; omega) _
      · split
        · refine h.onFile _ _ fun D f hD hf => ?_
          unfold truncK
          split
          · exact hD.mono (by omega)
          · split
            · exact hD.mono (by omega)
            · exact hD.change hf (by simp only [ChOk]; omega) _
        · split
          · refine h.onFile _ _ fun D f hD hf => ?_
            have h1 := hD.each f hf
            exact (hD.mono (by omega)).setF ⟨h1.name, h1.data, by simp, fun c hc => by cases hc⟩
          · split
            · refine h.onFile _ _ fun D f hD hf => ?_
              unfold renameK
              split
              · exact hD.mono (by omega)
              · rename_i hok
                have h1 := (hD.each f hf).mono (by omega : K + 1 ≤ K + 2)
                refine ((hD.dropF f.name).dropF o.target.data.toList).putF ⟨okName_len (by simpa using hok), h1.safe, h1.chs, h1.each⟩ fun g hg e => ?_
                have := (List.mem_filter.1 hg).2
                simp at this
                exact this e
            · split
              · refine h.onFile _ _ fun D f hD _ => ?_
                exact (hD.dropF f.name).mono (by omega)
              · split
                · have h1 : Wf (if S.died then S else Ytpdflncgemcniaa.die S) K := by
                    split
                    · exact h
                    · exact h.die
                  exact ⟨ok.plan, by show 0 ≤ K + 2; omega, Nat.le_trans h1.few (by omega), h1.sorted, fun f hf => (h1.each f hf).mono (by omega)⟩
                · exact h.mono (by omega)
end Go.Proofs.Ytpdflncgemcniaa
namespace Go.Proofs.Ytpdflncgemcniaa
open Go.RowKit

/-- What of an operation lies in memory: its data, its plan's lists. -/
structure IsOp (h : Array Obj) (G : Nat → Prop) (vd k f u : Value) (o : Opn) : Prop where
  data : SlR u8 h G vd o.data
  plan : IsPlanR h G k f u o.plan

def opVal (vd k f u : Value) (o : Opn) : Value := .agg #[.int .i64 o.kind, .string o.name, .string o.target, .int .i64 o.pos, .int .i64 o.long, vd, .int .i64 o.plan.crash, k, f, u, .int .i64 o.plan.room]

theorem do_end {w w1 w2 wr : World} {F F' : Nat → Prop} {d : Nat} {S : Dk} {r : DRep} {v : Value} (oo : Old w w1) (hs2 : Step F F' w1 w2) (hd2 : IsDisk w2.heap d S r F') (hlt : ∀ b, F b → b < w.heap.size)
    (hv : ∀ b, v.ownBlock = some b → w.heap.size ≤ b ∧ b < w1.heap.size) (hfr : Fr (fun b => v.ownBlock = some b) w2 wr) : IsDisk wr.heap d S r F' ∧ Step F F' w wr := by
  refine ⟨hd2.fr hfr fun b hb e => ?_, ⟨((Old.fr (F := F) oo).trans' hs2.fr).trans hfr fun x hx e => ?_, fun b hb => ?_⟩⟩
  · rcases hs2.own b hb with h | h
    · have h1 := hlt b h; have h2 := (hv b e).1; omega
    · have h2 := (hv b e).2; omega
  · have := (hv x e).1; omega
  · rcases hs2.own b hb with h | h
    · exact .inl h
    · exact .inr (Nat.le_trans oo.size h)

theorem row_put {w : World} {F : Nat → Prop} {n g k c : Nat} {xs : List Int} (s : OwnRow w.heap F 5 1 (.slice (some ⟨g, 0, none⟩) n c) n (xs.map (Value.int .u8))) (t : Int) : OwnRow (w.setCell ⟨g, k, none⟩ (.int .u8 t)).heap F 5 1 (.slice (some ⟨g, 0, none⟩) n c) n ((xs.set k t).map (Value.int .u8)) := by
  rw [List.map_set]
  exact s.set rfl _

section
variable {w : World} {d : Nat} {S : Dk} {r : DRep} {F : Nat → Prop}

set_option maxHeartbeats 4000000 in
set_option maxRecDepth 100000 in
theorem do9k0 (h : IsDisk w.heap d S r F) {K : Nat} (wf : Wf S K) (hK : K < 1000000) (o : Opn) (ok : OpOk o) (hk : o.kind = 0) (G : Nat → Prop) (vd k f u : Value) (hop : IsOp w.heap G vd k f u o) (hG : ∀ x, G x → F x → False) (hGs : ∀ x, G x → x < w.heap.size) :
    Calls Try.prog 9 #[.pointer (some ⟨d, 0, none⟩), opVal vd k f u o] w (OpPost w d F (stepOp S o)) := by
  have hres : stepOp S o = create S o.name.data.toList := by unfold stepOp; simp only [hk]; rfl
  obtain ⟨a, c, rfl, _, _⟩ := hop.data.shape
  obtain ⟨ak, ck, rfl, _, _⟩ := hop.plan.keep.shape
  obtain ⟨af, cf, rfl, _, _⟩ := hop.plan.fail.shape
  obtain ⟨au, cu, rfl, _, _⟩ := hop.plan.full.shape
  obtain ⟨W0, hW0⟩ : ∃ W0, w.alloc (.cells #[.int .i64 (0 : Int), .string o.name, .string o.target, .int .i64 o.pos, .int .i64 o.long, .slice a o.data.length c, .int .i64 o.plan.crash, .slice ak o.plan.keep.length ck, .slice af o.plan.fail.length cf, .slice au o.plan.full.length cu, .int .i64 o.plan.room] 35) = W0 := ⟨_, rfl⟩
  have o0 : Old w W0 := by rw [← hW0]; exact (Fr.refl _ _).alloc _
  have bA : Blk W0.heap w.heap.size #[.int .i64 (0 : Int), .string o.name, .string o.target, .int .i64 o.pos, .int .i64 o.long, .slice a o.data.length c, .int .i64 o.plan.crash, .slice ak o.plan.keep.length ck, .slice af o.plan.fail.length cf, .slice au o.plan.full.length cu, .int .i64 o.plan.room] 35 := by rw [← hW0]; exact blk_new w _ 35
  have hz0 : W0.heap.size = w.heap.size + 1 := by rw [← hW0]; simp
  have htw := twin22R W0 G _ o.data (hop.data.fr o0 fun _ _ f => f) (by have := ok.data; omega)
  have hlt := h.lt
  have H := Lib.hid h
  have HO0 := Lib.hid o0
  have HA := Lib.hid bA
  have HZ0 := Lib.hid hz0
  have HGG := Lib.hid (And.intro hG hGs)
  have HOP := Lib.hid hop
  have hdl := ok.data
  have hapart : ∀ x, W0.heap.size ≤ x → F x → False := fun x h1 h2 => by have := hlt x h2; omega
  have HRES := Lib.hid hres
  obtain ⟨a1, _⟩ := bA.rules
  clear h o0 bA hz0 hG hGs hop hres
  show Calls Try.prog 9 #[.pointer (some ⟨d, 0, none⟩), .agg #[.int .i64 o.kind, .string o.name, .string o.target, .int .i64 o.pos, .int .i64 o.long, .slice a o.data.length c, .int .i64 o.plan.crash, .slice ak o.plan.keep.length ck, .slice af o.plan.fail.length cf, .slice au o.plan.full.length cu, .int .i64 o.plan.room]] w _
  rw [hk]
  clear hk
  go_enter Try.func9, Try.ntmps9
  go_wp2_with (first
    | (go_at_call 22; refine htw.mono ?_; rintro e w1 ⟨v1, rfl, hrow1, ho1⟩
       obtain ⟨a5, c5, e5, _, hpos5⟩ := hrow1.slice
       subst e5
       have HO1 := Lib.hid (HO0.out.trans' ho1)
       have HR1 := Lib.hid hrow1
       have HROW1 := Lib.hid hrow1
       have H1 := Lib.hid (H.out.fr HO1.out fun _ _ f => f)
       obtain ⟨b1, _⟩ := (HA.out.fr ho1 fun f => f).rules
       have hz1 := ho1.size
       have hcall := create15 H1.out wf hK o.name ok.name
       clear hrow1 ho1)
    | (go_at_call 15; refine hcall.mono ?_; rintro e w2 ⟨rfl, r', F', hd2, hs2⟩
       have H2 := Lib.hid hd2
       have HS2 := Lib.hid hs2
       clear hd2 hs2))
  have HV := Lib.hid (show ∀ b, (Value.slice a5 o.data.length c5).ownBlock = some b → w.heap.size ≤ b ∧ b < w1.heap.size from fun b e => by
    obtain ⟨h1, cur, h2⟩ := HR1.out.owned e
    exact ⟨by have := HZ0.out; omega, (Array.getElem?_eq_some_iff.1 h2).1⟩)
  have HR2 := Lib.hid (HR1.out.kept (h' := w2.heap) fun b e _ hb => HS2.out.fr.block b hb fun hF => by have h1 := (HV.out b e).1; have h2 := hlt b hF; omega)
  go_loopw [83] (fun i wr => ∃ (k : Nat) (xs : List Int), i = .int .i64 k ∧ k ≤ o.data.length ∧ xs.length = o.data.length ∧ OwnRow wr.heap (fun b => W0.heap.size ≤ b) 5 1 (.slice a5 o.data.length c5) o.data.length (xs.map (Value.int .u8)) ∧ Fr (fun b => (Value.slice a5 o.data.length c5).ownBlock = some b) w2 wr) (fun i _ => o.data.length - (intOf i).toNat)
  case atStart => exact ⟨0, o.data.map (fun x => (x.toNat : Int)), rfl, Nat.zero_le _, by simp, by rw [List.map_map]; exact HR2.out, Fr.refl _ _⟩
  case round =>
    obtain ⟨k, xs, rfl, hk, hxl, hrow, hfr⟩ := hrel
    by_cases hlt2 : k < o.data.length
    · obtain ⟨g, rfl, _, _⟩ := hpos5 (by omega)
      obtain ⟨t1, t2⟩ := hrow.rules (b := g) rfl
      obtain ⟨z, hx⟩ : ∃ z, (xs.map (Value.int .u8))[k]? = some (.int .u8 z) := ⟨_, by rw [List.getElem?_map, List.getElem?_eq_getElem (by omega)]; rfl⟩
      have hc := t1 k _ hx
      have hf := t2 k
      have HROW := Lib.hid hrow
      have HFR := Lib.hid hfr
      have HXL := Lib.hid hxl
      clear t1 t2 hx hrow hfr hxl
      go_wp2
      exact ⟨⟨k + 1, xs.set k _, by go_num, by omega, by rw [List.length_set]; exact HXL.out, row_put HROW.out _, HFR.out.setCell (p := ⟨g, k, none⟩) (fun _ => rfl) _⟩, by simp [intOf]; omega⟩
    · have HFR := Lib.hid hfr
      clear hrow hfr hxl
      go_wp2
      go_ret
      rw [HRES.out]
      have hend := do_end HO1.out HS2.out H2.out hlt HV.out HFR.out
      exact ⟨rfl, _, _, hend.1, hend.2⟩

set_option maxHeartbeats 4000000 in
set_option maxRecDepth 100000 in
theorem do9k1 (h : IsDisk w.heap d S r F) {K : Nat} (wf : Wf S K) (hK : K < 1000000) (o : Opn) (ok : OpOk o) (hk : o.kind = 1) (G : Nat → Prop) (vd k f u : Value) (hop : IsOp w.heap G vd k f u o) (hG : ∀ x, G x → F x → False) (hGs : ∀ x, G x → x < w.heap.size) :
    Calls Try.prog 9 #[.pointer (some ⟨d, 0, none⟩), opVal vd k f u o] w (OpPost w d F (stepOp S o)) := by
  have hres : stepOp S o = onFile S o.name.data.toList (appendK o.data) := by unfold stepOp; simp only [hk]; rfl
  obtain ⟨a, c, rfl, _, _⟩ := hop.data.shape
  obtain ⟨ak, ck, rfl, _, _⟩ := hop.plan.keep.shape
  obtain ⟨af, cf, rfl, _, _⟩ := hop.plan.fail.shape
  obtain ⟨au, cu, rfl, _, _⟩ := hop.plan.full.shape
  obtain ⟨W0, hW0⟩ : ∃ W0, w.alloc (.cells #[.int .i64 (1 : Int), .string o.name, .string o.target, .int .i64 o.pos, .int .i64 o.long, .slice a o.data.length c, .int .i64 o.plan.crash, .slice ak o.plan.keep.length ck, .slice af o.plan.fail.length cf, .slice au o.plan.full.length cu, .int .i64 o.plan.room] 35) = W0 := ⟨_, rfl⟩
  have o0 : Old w W0 := by rw [← hW0]; exact (Fr.refl _ _).alloc _
  have bA : Blk W0.heap w.heap.size #[.int .i64 (1 : Int), .string o.name, .string o.target, .int .i64 o.pos, .int .i64 o.long, .slice a o.data.length c, .int .i64 o.plan.crash, .slice ak o.plan.keep.length ck, .slice af o.plan.fail.length cf, .slice au o.plan.full.length cu, .int .i64 o.plan.room] 35 := by rw [← hW0]; exact blk_new w _ 35
  have hz0 : W0.heap.size = w.heap.size + 1 := by rw [← hW0]; simp
  have htw := twin22R W0 G _ o.data (hop.data.fr o0 fun _ _ f => f) (by have := ok.data; omega)
  have hlt := h.lt
  have H := Lib.hid h
  have HO0 := Lib.hid o0
  have HA := Lib.hid bA
  have HZ0 := Lib.hid hz0
  have HGG := Lib.hid (And.intro hG hGs)
  have HOP := Lib.hid hop
  have hdl := ok.data
  have hapart : ∀ x, W0.heap.size ≤ x → F x → False := fun x h1 h2 => by have := hlt x h2; omega
  have HRES := Lib.hid hres
  obtain ⟨a1, _⟩ := bA.rules
  clear h o0 bA hz0 hG hGs hop hres
  show Calls Try.prog 9 #[.pointer (some ⟨d, 0, none⟩), .agg #[.int .i64 o.kind, .string o.name, .string o.target, .int .i64 o.pos, .int .i64 o.long, .slice a o.data.length c, .int .i64 o.plan.crash, .slice ak o.plan.keep.length ck, .slice af o.plan.fail.length cf, .slice au o.plan.full.length cu, .int .i64 o.plan.room]] w _
  rw [hk]
  clear hk
  go_enter Try.func9, Try.ntmps9
  go_wp2_with (first
    | (go_at_call 22; refine htw.mono ?_; rintro e w1 ⟨v1, rfl, hrow1, ho1⟩
       obtain ⟨a5, c5, e5, _, hpos5⟩ := hrow1.slice
       subst e5
       have HO1 := Lib.hid (HO0.out.trans' ho1)
       have HR1 := Lib.hid hrow1
       have HROW1 := Lib.hid hrow1
       have H1 := Lib.hid (H.out.fr HO1.out fun _ _ f => f)
       obtain ⟨b1, _⟩ := (HA.out.fr ho1 fun f => f).rules
       have hz1 := ho1.size
       have hcall := append16 H1.out wf hK o.name ok.name (fun b => W0.heap.size ≤ b) _ o.data HROW1.out.slT.at hapart (by have := ok.data; unfold maxLen; omega)
       clear hrow1 ho1)
    | (go_at_call 16; refine hcall.mono ?_; rintro e w2 ⟨rfl, r', F', hd2, hs2⟩
       have H2 := Lib.hid hd2
       have HS2 := Lib.hid hs2
       clear hd2 hs2))
  have HV := Lib.hid (show ∀ b, (Value.slice a5 o.data.length c5).ownBlock = some b → w.heap.size ≤ b ∧ b < w1.heap.size from fun b e => by
    obtain ⟨h1, cur, h2⟩ := HR1.out.owned e
    exact ⟨by have := HZ0.out; omega, (Array.getElem?_eq_some_iff.1 h2).1⟩)
  have HR2 := Lib.hid (HR1.out.kept (h' := w2.heap) fun b e _ hb => HS2.out.fr.block b hb fun hF => by have h1 := (HV.out b e).1; have h2 := hlt b hF; omega)
  go_loopw [83] (fun i wr => ∃ (k : Nat) (xs : List Int), i = .int .i64 k ∧ k ≤ o.data.length ∧ xs.length = o.data.length ∧ OwnRow wr.heap (fun b => W0.heap.size ≤ b) 5 1 (.slice a5 o.data.length c5) o.data.length (xs.map (Value.int .u8)) ∧ Fr (fun b => (Value.slice a5 o.data.length c5).ownBlock = some b) w2 wr) (fun i _ => o.data.length - (intOf i).toNat)
  case atStart => exact ⟨0, o.data.map (fun x => (x.toNat : Int)), rfl, Nat.zero_le _, by simp, by rw [List.map_map]; exact HR2.out, Fr.refl _ _⟩
  case round =>
    obtain ⟨k, xs, rfl, hk, hxl, hrow, hfr⟩ := hrel
    by_cases hlt2 : k < o.data.length
    · obtain ⟨g, rfl, _, _⟩ := hpos5 (by omega)
      obtain ⟨t1, t2⟩ := hrow.rules (b := g) rfl
      obtain ⟨z, hx⟩ : ∃ z, (xs.map (Value.int .u8))[k]? = some (.int .u8 z) := ⟨_, by rw [List.getElem?_map, List.getElem?_eq_getElem (by omega)]; rfl⟩
      have hc := t1 k _ hx
      have hf := t2 k
      have HROW := Lib.hid hrow
      have HFR := Lib.hid hfr
      have HXL := Lib.hid hxl
      clear t1 t2 hx hrow hfr hxl
      go_wp2
      exact ⟨⟨k + 1, xs.set k _, by go_num, by omega, by rw [List.length_set]; exact HXL.out, row_put HROW.out _, HFR.out.setCell (p := ⟨g, k, none⟩) (fun _ => rfl) _⟩, by simp [intOf]; omega⟩
    · have HFR := Lib.hid hfr
      clear hrow hfr hxl
      go_wp2
      go_ret
      rw [HRES.out]
      have hend := do_end HO1.out HS2.out H2.out hlt HV.out HFR.out
      exact ⟨rfl, _, _, hend.1, hend.2⟩

set_option maxHeartbeats 4000000 in
set_option maxRecDepth 100000 in
theorem do9k2 (h : IsDisk w.heap d S r F) {K : Nat} (wf : Wf S K) (hK : K < 1000000) (o : Opn) (ok : OpOk o) (hk : o.kind = 2) (G : Nat → Prop) (vd k f u : Value) (hop : IsOp w.heap G vd k f u o) (hG : ∀ x, G x → F x → False) (hGs : ∀ x, G x → x < w.heap.size) :
    Calls Try.prog 9 #[.pointer (some ⟨d, 0, none⟩), opVal vd k f u o] w (OpPost w d F (stepOp S o)) := by
  have hres : stepOp S o = onFile S o.name.data.toList (writeK o.pos o.data) := by unfold stepOp; simp only [hk]; rfl
  obtain ⟨a, c, rfl, _, _⟩ := hop.data.shape
  obtain ⟨ak, ck, rfl, _, _⟩ := hop.plan.keep.shape
  obtain ⟨af, cf, rfl, _, _⟩ := hop.plan.fail.shape
  obtain ⟨au, cu, rfl, _, _⟩ := hop.plan.full.shape
  obtain ⟨W0, hW0⟩ : ∃ W0, w.alloc (.cells #[.int .i64 (2 : Int), .string o.name, .string o.target, .int .i64 o.pos, .int .i64 o.long, .slice a o.data.length c, .int .i64 o.plan.crash, .slice ak o.plan.keep.length ck, .slice af o.plan.fail.length cf, .slice au o.plan.full.length cu, .int .i64 o.plan.room] 35) = W0 := ⟨_, rfl⟩
  have o0 : Old w W0 := by rw [← hW0]; exact (Fr.refl _ _).alloc _
  have bA : Blk W0.heap w.heap.size #[.int .i64 (2 : Int), .string o.name, .string o.target, .int .i64 o.pos, .int .i64 o.long, .slice a o.data.length c, .int .i64 o.plan.crash, .slice ak o.plan.keep.length ck, .slice af o.plan.fail.length cf, .slice au o.plan.full.length cu, .int .i64 o.plan.room] 35 := by rw [← hW0]; exact blk_new w _ 35
  have hz0 : W0.heap.size = w.heap.size + 1 := by rw [← hW0]; simp
  have htw := twin22R W0 G _ o.data (hop.data.fr o0 fun _ _ f => f) (by have := ok.data; omega)
  have hlt := h.lt
  have H := Lib.hid h
  have HO0 := Lib.hid o0
  have HA := Lib.hid bA
  have HZ0 := Lib.hid hz0
  have HGG := Lib.hid (And.intro hG hGs)
  have HOP := Lib.hid hop
  have hdl := ok.data
  have hapart : ∀ x, W0.heap.size ≤ x → F x → False := fun x h1 h2 => by have := hlt x h2; omega
  have HRES := Lib.hid hres
  obtain ⟨a1, _⟩ := bA.rules
  clear h o0 bA hz0 hG hGs hop hres
  show Calls Try.prog 9 #[.pointer (some ⟨d, 0, none⟩), .agg #[.int .i64 o.kind, .string o.name, .string o.target, .int .i64 o.pos, .int .i64 o.long, .slice a o.data.length c, .int .i64 o.plan.crash, .slice ak o.plan.keep.length ck, .slice af o.plan.fail.length cf, .slice au o.plan.full.length cu, .int .i64 o.plan.room]] w _
  rw [hk]
  clear hk
  go_enter Try.func9, Try.ntmps9
  go_wp2_with (first
    | (go_at_call 22; refine htw.mono ?_; rintro e w1 ⟨v1, rfl, hrow1, ho1⟩
       obtain ⟨a5, c5, e5, _, hpos5⟩ := hrow1.slice
       subst e5
       have HO1 := Lib.hid (HO0.out.trans' ho1)
       have HR1 := Lib.hid hrow1
       have HROW1 := Lib.hid hrow1
       have H1 := Lib.hid (H.out.fr HO1.out fun _ _ f => f)
       obtain ⟨b1, _⟩ := (HA.out.fr ho1 fun f => f).rules
       have hz1 := ho1.size
       have hcall := writeAt23 H1.out wf hK o.name ok.name o.pos ok.pos (fun b => W0.heap.size ≤ b) _ o.data HROW1.out.slT.at hapart (by have := ok.data; unfold maxLen; omega)
       clear hrow1 ho1)
    | (go_at_call 23; refine hcall.mono ?_; rintro e w2 ⟨rfl, r', F', hd2, hs2⟩
       have H2 := Lib.hid hd2
       have HS2 := Lib.hid hs2
       clear hd2 hs2))
  have HV := Lib.hid (show ∀ b, (Value.slice a5 o.data.length c5).ownBlock = some b → w.heap.size ≤ b ∧ b < w1.heap.size from fun b e => by
    obtain ⟨h1, cur, h2⟩ := HR1.out.owned e
    exact ⟨by have := HZ0.out; omega, (Array.getElem?_eq_some_iff.1 h2).1⟩)
  have HR2 := Lib.hid (HR1.out.kept (h' := w2.heap) fun b e _ hb => HS2.out.fr.block b hb fun hF => by have h1 := (HV.out b e).1; have h2 := hlt b hF; omega)
  go_loopw [83] (fun i wr => ∃ (k : Nat) (xs : List Int), i = .int .i64 k ∧ k ≤ o.data.length ∧ xs.length = o.data.length ∧ OwnRow wr.heap (fun b => W0.heap.size ≤ b) 5 1 (.slice a5 o.data.length c5) o.data.length (xs.map (Value.int .u8)) ∧ Fr (fun b => (Value.slice a5 o.data.length c5).ownBlock = some b) w2 wr) (fun i _ => o.data.length - (intOf i).toNat)
  case atStart => exact ⟨0, o.data.map (fun x => (x.toNat : Int)), rfl, Nat.zero_le _, by simp, by rw [List.map_map]; exact HR2.out, Fr.refl _ _⟩
  case round =>
    obtain ⟨k, xs, rfl, hk, hxl, hrow, hfr⟩ := hrel
    by_cases hlt2 : k < o.data.length
    · obtain ⟨g, rfl, _, _⟩ := hpos5 (by omega)
      obtain ⟨t1, t2⟩ := hrow.rules (b := g) rfl
      obtain ⟨z, hx⟩ : ∃ z, (xs.map (Value.int .u8))[k]? = some (.int .u8 z) := ⟨_, by rw [List.getElem?_map, List.getElem?_eq_getElem (by omega)]; rfl⟩
      have hc := t1 k _ hx
      have hf := t2 k
      have HROW := Lib.hid hrow
      have HFR := Lib.hid hfr
      have HXL := Lib.hid hxl
      clear t1 t2 hx hrow hfr hxl
      go_wp2
      exact ⟨⟨k + 1, xs.set k _, by go_num, by omega, by rw [List.length_set]; exact HXL.out, row_put HROW.out _, HFR.out.setCell (p := ⟨g, k, none⟩) (fun _ => rfl) _⟩, by simp [intOf]; omega⟩
    · have HFR := Lib.hid hfr
      clear hrow hfr hxl
      go_wp2
      go_ret
      rw [HRES.out]
      have hend := do_end HO1.out HS2.out H2.out hlt HV.out HFR.out
      exact ⟨rfl, _, _, hend.1, hend.2⟩

set_option maxHeartbeats 4000000 in
set_option maxRecDepth 100000 in
theorem do9k3 (h : IsDisk w.heap d S r F) {K : Nat} (wf : Wf S K) (hK : K < 1000000) (o : Opn) (ok : OpOk o) (hk : o.kind = 3) (G : Nat → Prop) (vd k f u : Value) (hop : IsOp w.heap G vd k f u o) (hG : ∀ x, G x → F x → False) (hGs : ∀ x, G x → x < w.heap.size) :
    Calls Try.prog 9 #[.pointer (some ⟨d, 0, none⟩), opVal vd k f u o] w (OpPost w d F (stepOp S o)) := by
  have hres : stepOp S o = onFile S o.name.data.toList (truncK o.long) := by unfold stepOp; simp only [hk]; rfl
  obtain ⟨a, c, rfl, _, _⟩ := hop.data.shape
  obtain ⟨ak, ck, rfl, _, _⟩ := hop.plan.keep.shape
  obtain ⟨af, cf, rfl, _, _⟩ := hop.plan.fail.shape
  obtain ⟨au, cu, rfl, _, _⟩ := hop.plan.full.shape
  obtain ⟨W0, hW0⟩ : ∃ W0, w.alloc (.cells #[.int .i64 (3 : Int), .string o.name, .string o.target, .int .i64 o.pos, .int .i64 o.long, .slice a o.data.length c, .int .i64 o.plan.crash, .slice ak o.plan.keep.length ck, .slice af o.plan.fail.length cf, .slice au o.plan.full.length cu, .int .i64 o.plan.room] 35) = W0 := ⟨_, rfl⟩
  have o0 : Old w W0 := by rw [← hW0]; exact (Fr.refl _ _).alloc _
  have bA : Blk W0.heap w.heap.size #[.int .i64 (3 : Int), .string o.name, .string o.target, .int .i64 o.pos, .int .i64 o.long, .slice a o.data.length c, .int .i64 o.plan.crash, .slice ak o.plan.keep.length ck, .slice af o.plan.fail.length cf, .slice au o.plan.full.length cu, .int .i64 o.plan.room] 35 := by rw [← hW0]; exact blk_new w _ 35
  have hz0 : W0.heap.size = w.heap.size + 1 := by rw [← hW0]; simp
  have htw := twin22R W0 G _ o.data (hop.data.fr o0 fun _ _ f => f) (by have := ok.data; omega)
  have hlt := h.lt
  have H := Lib.hid h
  have HO0 := Lib.hid o0
  have HA := Lib.hid bA
  have HZ0 := Lib.hid hz0
  have HGG := Lib.hid (And.intro hG hGs)
  have HOP := Lib.hid hop
  have hdl := ok.data
  have hapart : ∀ x, W0.heap.size ≤ x → F x → False := fun x h1 h2 => by have := hlt x h2; omega
  have HRES := Lib.hid hres
  obtain ⟨a1, _⟩ := bA.rules
  clear h o0 bA hz0 hG hGs hop hres
  show Calls Try.prog 9 #[.pointer (some ⟨d, 0, none⟩), .agg #[.int .i64 o.kind, .string o.name, .string o.target, .int .i64 o.pos, .int .i64 o.long, .slice a o.data.length c, .int .i64 o.plan.crash, .slice ak o.plan.keep.length ck, .slice af o.plan.fail.length cf, .slice au o.plan.full.length cu, .int .i64 o.plan.room]] w _
  rw [hk]
  clear hk
  go_enter Try.func9, Try.ntmps9
  go_wp2_with (first
    | (go_at_call 22; refine htw.mono ?_; rintro e w1 ⟨v1, rfl, hrow1, ho1⟩
       obtain ⟨a5, c5, e5, _, hpos5⟩ := hrow1.slice
       subst e5
       have HO1 := Lib.hid (HO0.out.trans' ho1)
       have HR1 := Lib.hid hrow1
       have HROW1 := Lib.hid hrow1
       have H1 := Lib.hid (H.out.fr HO1.out fun _ _ f => f)
       obtain ⟨b1, _⟩ := (HA.out.fr ho1 fun f => f).rules
       have hz1 := ho1.size
       have hcall := truncate24 H1.out wf hK o.name ok.name o.long
       clear hrow1 ho1)
    | (go_at_call 24; refine hcall.mono ?_; rintro e w2 ⟨rfl, r', F', hd2, hs2⟩
       have H2 := Lib.hid hd2
       have HS2 := Lib.hid hs2
       clear hd2 hs2))
  have HV := Lib.hid (show ∀ b, (Value.slice a5 o.data.length c5).ownBlock = some b → w.heap.size ≤ b ∧ b < w1.heap.size from fun b e => by
    obtain ⟨h1, cur, h2⟩ := HR1.out.owned e
    exact ⟨by have := HZ0.out; omega, (Array.getElem?_eq_some_iff.1 h2).1⟩)
  have HR2 := Lib.hid (HR1.out.kept (h' := w2.heap) fun b e _ hb => HS2.out.fr.block b hb fun hF => by have h1 := (HV.out b e).1; have h2 := hlt b hF; omega)
  go_loopw [83] (fun i wr => ∃ (k : Nat) (xs : List Int), i = .int .i64 k ∧ k ≤ o.data.length ∧ xs.length = o.data.length ∧ OwnRow wr.heap (fun b => W0.heap.size ≤ b) 5 1 (.slice a5 o.data.length c5) o.data.length (xs.map (Value.int .u8)) ∧ Fr (fun b => (Value.slice a5 o.data.length c5).ownBlock = some b) w2 wr) (fun i _ => o.data.length - (intOf i).toNat)
  case atStart => exact ⟨0, o.data.map (fun x => (x.toNat : Int)), rfl, Nat.zero_le _, by simp, by rw [List.map_map]; exact HR2.out, Fr.refl _ _⟩
  case round =>
    obtain ⟨k, xs, rfl, hk, hxl, hrow, hfr⟩ := hrel
    by_cases hlt2 : k < o.data.length
    · obtain ⟨g, rfl, _, _⟩ := hpos5 (by omega)
      obtain ⟨t1, t2⟩ := hrow.rules (b := g) rfl
      obtain ⟨z, hx⟩ : ∃ z, (xs.map (Value.int .u8))[k]? = some (.int .u8 z) := ⟨_, by rw [List.getElem?_map, List.getElem?_eq_getElem (by omega)]; rfl⟩
      have hc := t1 k _ hx
      have hf := t2 k
      have HROW := Lib.hid hrow
      have HFR := Lib.hid hfr
      have HXL := Lib.hid hxl
      clear t1 t2 hx hrow hfr hxl
      go_wp2
      exact ⟨⟨k + 1, xs.set k _, by go_num, by omega, by rw [List.length_set]; exact HXL.out, row_put HROW.out _, HFR.out.setCell (p := ⟨g, k, none⟩) (fun _ => rfl) _⟩, by simp [intOf]; omega⟩
    · have HFR := Lib.hid hfr
      clear hrow hfr hxl
      go_wp2
      go_ret
      rw [HRES.out]
      have hend := do_end HO1.out HS2.out H2.out hlt HV.out HFR.out
      exact ⟨rfl, _, _, hend.1, hend.2⟩

set_option maxHeartbeats 4000000 in
set_option maxRecDepth 100000 in
theorem do9k4 (h : IsDisk w.heap d S r F) {K : Nat} (wf : Wf S K) (hK : K < 1000000) (o : Opn) (ok : OpOk o) (hk : o.kind = 4) (G : Nat → Prop) (vd k f u : Value) (hop : IsOp w.heap G vd k f u o) (hG : ∀ x, G x → F x → False) (hGs : ∀ x, G x → x < w.heap.size) :
    Calls Try.prog 9 #[.pointer (some ⟨d, 0, none⟩), opVal vd k f u o] w (OpPost w d F (stepOp S o)) := by
  have hres : stepOp S o = onFile S o.name.data.toList syncK := by unfold stepOp; simp only [hk]; rfl
  obtain ⟨a, c, rfl, _, _⟩ := hop.data.shape
  obtain ⟨ak, ck, rfl, _, _⟩ := hop.plan.keep.shape
  obtain ⟨af, cf, rfl, _, _⟩ := hop.plan.fail.shape
  obtain ⟨au, cu, rfl, _, _⟩ := hop.plan.full.shape
  obtain ⟨W0, hW0⟩ : ∃ W0, w.alloc (.cells #[.int .i64 (4 : Int), .string o.name, .string o.target, .int .i64 o.pos, .int .i64 o.long, .slice a o.data.length c, .int .i64 o.plan.crash, .slice ak o.plan.keep.length ck, .slice af o.plan.fail.length cf, .slice au o.plan.full.length cu, .int .i64 o.plan.room] 35) = W0 := ⟨_, rfl⟩
  have o0 : Old w W0 := by rw [← hW0]; exact (Fr.refl _ _).alloc _
  have bA : Blk W0.heap w.heap.size #[.int .i64 (4 : Int), .string o.name, .string o.target, .int .i64 o.pos, .int .i64 o.long, .slice a o.data.length c, .int .i64 o.plan.crash, .slice ak o.plan.keep.length ck, .slice af o.plan.fail.length cf, .slice au o.plan.full.length cu, .int .i64 o.plan.room] 35 := by rw [← hW0]; exact blk_new w _ 35
  have hz0 : W0.heap.size = w.heap.size + 1 := by rw [← hW0]; simp
  have htw := twin22R W0 G _ o.data (hop.data.fr o0 fun _ _ f => f) (by have := ok.data; omega)
  have hlt := h.lt
  have H := Lib.hid h
  have HO0 := Lib.hid o0
  have HA := Lib.hid bA
  have HZ0 := Lib.hid hz0
  have HGG := Lib.hid (And.intro hG hGs)
  have HOP := Lib.hid hop
  have hdl := ok.data
  have hapart : ∀ x, W0.heap.size ≤ x → F x → False := fun x h1 h2 => by have := hlt x h2; omega
  have HRES := Lib.hid hres
  obtain ⟨a1, _⟩ := bA.rules
  clear h o0 bA hz0 hG hGs hop hres
  show Calls Try.prog 9 #[.pointer (some ⟨d, 0, none⟩), .agg #[.int .i64 o.kind, .string o.name, .string o.target, .int .i64 o.pos, .int .i64 o.long, .slice a o.data.length c, .int .i64 o.plan.crash, .slice ak o.plan.keep.length ck, .slice af o.plan.fail.length cf, .slice au o.plan.full.length cu, .int .i64 o.plan.room]] w _
  rw [hk]
  clear hk
  go_enter Try.func9, Try.ntmps9
  go_wp2_with (first
    | (go_at_call 22; refine htw.mono ?_; rintro e w1 ⟨v1, rfl, hrow1, ho1⟩
       obtain ⟨a5, c5, e5, _, hpos5⟩ := hrow1.slice
       subst e5
       have HO1 := Lib.hid (HO0.out.trans' ho1)
       have HR1 := Lib.hid hrow1
       have HROW1 := Lib.hid hrow1
       have H1 := Lib.hid (H.out.fr HO1.out fun _ _ f => f)
       obtain ⟨b1, _⟩ := (HA.out.fr ho1 fun f => f).rules
       have hz1 := ho1.size
       have hcall := sync17 H1.out wf hK o.name ok.name
       clear hrow1 ho1)
    | (go_at_call 17; refine hcall.mono ?_; rintro e w2 ⟨rfl, r', F', hd2, hs2⟩
       have H2 := Lib.hid hd2
       have HS2 := Lib.hid hs2
       clear hd2 hs2))
  have HV := Lib.hid (show ∀ b, (Value.slice a5 o.data.length c5).ownBlock = some b → w.heap.size ≤ b ∧ b < w1.heap.size from fun b e => by
    obtain ⟨h1, cur, h2⟩ := HR1.out.owned e
    exact ⟨by have := HZ0.out; omega, (Array.getElem?_eq_some_iff.1 h2).1⟩)
  have HR2 := Lib.hid (HR1.out.kept (h' := w2.heap) fun b e _ hb => HS2.out.fr.block b hb fun hF => by have h1 := (HV.out b e).1; have h2 := hlt b hF; omega)
  go_loopw [83] (fun i wr => ∃ (k : Nat) (xs : List Int), i = .int .i64 k ∧ k ≤ o.data.length ∧ xs.length = o.data.length ∧ OwnRow wr.heap (fun b => W0.heap.size ≤ b) 5 1 (.slice a5 o.data.length c5) o.data.length (xs.map (Value.int .u8)) ∧ Fr (fun b => (Value.slice a5 o.data.length c5).ownBlock = some b) w2 wr) (fun i _ => o.data.length - (intOf i).toNat)
  case atStart => exact ⟨0, o.data.map (fun x => (x.toNat : Int)), rfl, Nat.zero_le _, by simp, by rw [List.map_map]; exact HR2.out, Fr.refl _ _⟩
  case round =>
    obtain ⟨k, xs, rfl, hk, hxl, hrow, hfr⟩ := hrel
    by_cases hlt2 : k < o.data.length
    · obtain ⟨g, rfl, _, _⟩ := hpos5 (by omega)
      obtain ⟨t1, t2⟩ := hrow.rules (b := g) rfl
      obtain ⟨z, hx⟩ : ∃ z, (xs.map (Value.int .u8))[k]? = some (.int .u8 z) := ⟨_, by rw [List.getElem?_map, List.getElem?_eq_getElem (by omega)]; rfl⟩
      have hc := t1 k _ hx
      have hf := t2 k
      have HROW := Lib.hid hrow
      have HFR := Lib.hid hfr
      have HXL := Lib.hid hxl
      clear t1 t2 hx hrow hfr hxl
      go_wp2
      exact ⟨⟨k + 1, xs.set k _, by go_num, by omega, by rw [List.length_set]; exact HXL.out, row_put HROW.out _, HFR.out.setCell (p := ⟨g, k, none⟩) (fun _ => rfl) _⟩, by simp [intOf]; omega⟩
    · have HFR := Lib.hid hfr
      clear hrow hfr hxl
      go_wp2
      go_ret
      rw [HRES.out]
      have hend := do_end HO1.out HS2.out H2.out hlt HV.out HFR.out
      exact ⟨rfl, _, _, hend.1, hend.2⟩

set_option maxHeartbeats 4000000 in
set_option maxRecDepth 100000 in
theorem do9k5 (h : IsDisk w.heap d S r F) {K : Nat} (wf : Wf S K) (hK : K < 1000000) (o : Opn) (ok : OpOk o) (hk : o.kind = 5) (G : Nat → Prop) (vd k f u : Value) (hop : IsOp w.heap G vd k f u o) (hG : ∀ x, G x → F x → False) (hGs : ∀ x, G x → x < w.heap.size) :
    Calls Try.prog 9 #[.pointer (some ⟨d, 0, none⟩), opVal vd k f u o] w (OpPost w d F (stepOp S o)) := by
  have hres : stepOp S o = onFile S o.name.data.toList (renameK o.target.data.toList) := by unfold stepOp; simp only [hk]; rfl
  obtain ⟨a, c, rfl, _, _⟩ := hop.data.shape
  obtain ⟨ak, ck, rfl, _, _⟩ := hop.plan.keep.shape
  obtain ⟨af, cf, rfl, _, _⟩ := hop.plan.fail.shape
  obtain ⟨au, cu, rfl, _, _⟩ := hop.plan.full.shape
  obtain ⟨W0, hW0⟩ : ∃ W0, w.alloc (.cells #[.int .i64 (5 : Int), .string o.name, .string o.target, .int .i64 o.pos, .int .i64 o.long, .slice a o.data.length c, .int .i64 o.plan.crash, .slice ak o.plan.keep.length ck, .slice af o.plan.fail.length cf, .slice au o.plan.full.length cu, .int .i64 o.plan.room] 35) = W0 := ⟨_, rfl⟩
  have o0 : Old w W0 := by rw [← hW0]; exact (Fr.refl _ _).alloc _
  have bA : Blk W0.heap w.heap.size #[.int .i64 (5 : Int), .string o.name, .string o.target, .int .i64 o.pos, .int .i64 o.long, .slice a o.data.length c, .int .i64 o.plan.crash, .slice ak o.plan.keep.length ck, .slice af o.plan.fail.length cf, .slice au o.plan.full.length cu, .int .i64 o.plan.room] 35 := by rw [← hW0]; exact blk_new w _ 35
  have hz0 : W0.heap.size = w.heap.size + 1 := by rw [← hW0]; simp
  have htw := twin22R W0 G _ o.data (hop.data.fr o0 fun _ _ f => f) (by have := ok.data; omega)
  have hlt := h.lt
  have H := Lib.hid h
  have HO0 := Lib.hid o0
  have HA := Lib.hid bA
  have HZ0 := Lib.hid hz0
  have HGG := Lib.hid (And.intro hG hGs)
  have HOP := Lib.hid hop
  have hdl := ok.data
  have hapart : ∀ x, W0.heap.size ≤ x → F x → False := fun x h1 h2 => by have := hlt x h2; omega
  have HRES := Lib.hid hres
  obtain ⟨a1, _⟩ := bA.rules
  clear h o0 bA hz0 hG hGs hop hres
  show Calls Try.prog 9 #[.pointer (some ⟨d, 0, none⟩), .agg #[.int .i64 o.kind, .string o.name, .string o.target, .int .i64 o.pos, .int .i64 o.long, .slice a o.data.length c, .int .i64 o.plan.crash, .slice ak o.plan.keep.length ck, .slice af o.plan.fail.length cf, .slice au o.plan.full.length cu, .int .i64 o.plan.room]] w _
  rw [hk]
  clear hk
  go_enter Try.func9, Try.ntmps9
  go_wp2_with (first
    | (go_at_call 22; refine htw.mono ?_; rintro e w1 ⟨v1, rfl, hrow1, ho1⟩
       obtain ⟨a5, c5, e5, _, hpos5⟩ := hrow1.slice
       subst e5
       have HO1 := Lib.hid (HO0.out.trans' ho1)
       have HR1 := Lib.hid hrow1
       have HROW1 := Lib.hid hrow1
       have H1 := Lib.hid (H.out.fr HO1.out fun _ _ f => f)
       obtain ⟨b1, _⟩ := (HA.out.fr ho1 fun f => f).rules
       have hz1 := ho1.size
       have hcall := rename25 H1.out wf hK o.name o.target ok.name ok.target
       clear hrow1 ho1)
    | (go_at_call 25; refine hcall.mono ?_; rintro e w2 ⟨rfl, r', F', hd2, hs2⟩
       have H2 := Lib.hid hd2
       have HS2 := Lib.hid hs2
       clear hd2 hs2))
  have HV := Lib.hid (show ∀ b, (Value.slice a5 o.data.length c5).ownBlock = some b → w.heap.size ≤ b ∧ b < w1.heap.size from fun b e => by
    obtain ⟨h1, cur, h2⟩ := HR1.out.owned e
    exact ⟨by have := HZ0.out; omega, (Array.getElem?_eq_some_iff.1 h2).1⟩)
  have HR2 := Lib.hid (HR1.out.kept (h' := w2.heap) fun b e _ hb => HS2.out.fr.block b hb fun hF => by have h1 := (HV.out b e).1; have h2 := hlt b hF; omega)
  go_loopw [83] (fun i wr => ∃ (k : Nat) (xs : List Int), i = .int .i64 k ∧ k ≤ o.data.length ∧ xs.length = o.data.length ∧ OwnRow wr.heap (fun b => W0.heap.size ≤ b) 5 1 (.slice a5 o.data.length c5) o.data.length (xs.map (Value.int .u8)) ∧ Fr (fun b => (Value.slice a5 o.data.length c5).ownBlock = some b) w2 wr) (fun i _ => o.data.length - (intOf i).toNat)
  case atStart => exact ⟨0, o.data.map (fun x => (x.toNat : Int)), rfl, Nat.zero_le _, by simp, by rw [List.map_map]; exact HR2.out, Fr.refl _ _⟩
  case round =>
    obtain ⟨k, xs, rfl, hk, hxl, hrow, hfr⟩ := hrel
    by_cases hlt2 : k < o.data.length
    · obtain ⟨g, rfl, _, _⟩ := hpos5 (by omega)
      obtain ⟨t1, t2⟩ := hrow.rules (b := g) rfl
      obtain ⟨z, hx⟩ : ∃ z, (xs.map (Value.int .u8))[k]? = some (.int .u8 z) := ⟨_, by rw [List.getElem?_map, List.getElem?_eq_getElem (by omega)]; rfl⟩
      have hc := t1 k _ hx
      have hf := t2 k
      have HROW := Lib.hid hrow
      have HFR := Lib.hid hfr
      have HXL := Lib.hid hxl
      clear t1 t2 hx hrow hfr hxl
      go_wp2
      exact ⟨⟨k + 1, xs.set k _, by go_num, by omega, by rw [List.length_set]; exact HXL.out, row_put HROW.out _, HFR.out.setCell (p := ⟨g, k, none⟩) (fun _ => rfl) _⟩, by simp [intOf]; omega⟩
    · have HFR := Lib.hid hfr
      clear hrow hfr hxl
      go_wp2
      go_ret
      rw [HRES.out]
      have hend := do_end HO1.out HS2.out H2.out hlt HV.out HFR.out
      exact ⟨rfl, _, _, hend.1, hend.2⟩

set_option maxHeartbeats 4000000 in
set_option maxRecDepth 100000 in
theorem do9k6 (h : IsDisk w.heap d S r F) {K : Nat} (wf : Wf S K) (hK : K < 1000000) (o : Opn) (ok : OpOk o) (hk : o.kind = 6) (G : Nat → Prop) (vd k f u : Value) (hop : IsOp w.heap G vd k f u o) (hG : ∀ x, G x → F x → False) (hGs : ∀ x, G x → x < w.heap.size) :
    Calls Try.prog 9 #[.pointer (some ⟨d, 0, none⟩), opVal vd k f u o] w (OpPost w d F (stepOp S o)) := by
  have hres : stepOp S o = onFile S o.name.data.toList removeK := by unfold stepOp; simp only [hk]; rfl
  obtain ⟨a, c, rfl, _, _⟩ := hop.data.shape
  obtain ⟨ak, ck, rfl, _, _⟩ := hop.plan.keep.shape
  obtain ⟨af, cf, rfl, _, _⟩ := hop.plan.fail.shape
  obtain ⟨au, cu, rfl, _, _⟩ := hop.plan.full.shape
  obtain ⟨W0, hW0⟩ : ∃ W0, w.alloc (.cells #[.int .i64 (6 : Int), .string o.name, .string o.target, .int .i64 o.pos, .int .i64 o.long, .slice a o.data.length c, .int .i64 o.plan.crash, .slice ak o.plan.keep.length ck, .slice af o.plan.fail.length cf, .slice au o.plan.full.length cu, .int .i64 o.plan.room] 35) = W0 := ⟨_, rfl⟩
  have o0 : Old w W0 := by rw [← hW0]; exact (Fr.refl _ _).alloc _
  have bA : Blk W0.heap w.heap.size #[.int .i64 (6 : Int), .string o.name, .string o.target, .int .i64 o.pos, .int .i64 o.long, .slice a o.data.length c, .int .i64 o.plan.crash, .slice ak o.plan.keep.length ck, .slice af o.plan.fail.length cf, .slice au o.plan.full.length cu, .int .i64 o.plan.room] 35 := by rw [← hW0]; exact blk_new w _ 35
  have hz0 : W0.heap.size = w.heap.size + 1 := by rw [← hW0]; simp
  have htw := twin22R W0 G _ o.data (hop.data.fr o0 fun _ _ f => f) (by have := ok.data; omega)
  have hlt := h.lt
  have H := Lib.hid h
  have HO0 := Lib.hid o0
  have HA := Lib.hid bA
  have HZ0 := Lib.hid hz0
  have HGG := Lib.hid (And.intro hG hGs)
  have HOP := Lib.hid hop
  have hdl := ok.data
  have hapart : ∀ x, W0.heap.size ≤ x → F x → False := fun x h1 h2 => by have := hlt x h2; omega
  have HRES := Lib.hid hres
  obtain ⟨a1, _⟩ := bA.rules
  clear h o0 bA hz0 hG hGs hop hres
  show Calls Try.prog 9 #[.pointer (some ⟨d, 0, none⟩), .agg #[.int .i64 o.kind, .string o.name, .string o.target, .int .i64 o.pos, .int .i64 o.long, .slice a o.data.length c, .int .i64 o.plan.crash, .slice ak o.plan.keep.length ck, .slice af o.plan.fail.length cf, .slice au o.plan.full.length cu, .int .i64 o.plan.room]] w _
  rw [hk]
  clear hk
  go_enter Try.func9, Try.ntmps9
  go_wp2_with (first
    | (go_at_call 22; refine htw.mono ?_; rintro e w1 ⟨v1, rfl, hrow1, ho1⟩
       obtain ⟨a5, c5, e5, _, hpos5⟩ := hrow1.slice
       subst e5
       have HO1 := Lib.hid (HO0.out.trans' ho1)
       have HR1 := Lib.hid hrow1
       have HROW1 := Lib.hid hrow1
       have H1 := Lib.hid (H.out.fr HO1.out fun _ _ f => f)
       obtain ⟨b1, _⟩ := (HA.out.fr ho1 fun f => f).rules
       have hz1 := ho1.size
       have hcall := remove26 H1.out wf hK o.name ok.name
       clear hrow1 ho1)
    | (go_at_call 26; refine hcall.mono ?_; rintro e w2 ⟨rfl, r', F', hd2, hs2⟩
       have H2 := Lib.hid hd2
       have HS2 := Lib.hid hs2
       clear hd2 hs2))
  have HV := Lib.hid (show ∀ b, (Value.slice a5 o.data.length c5).ownBlock = some b → w.heap.size ≤ b ∧ b < w1.heap.size from fun b e => by
    obtain ⟨h1, cur, h2⟩ := HR1.out.owned e
    exact ⟨by have := HZ0.out; omega, (Array.getElem?_eq_some_iff.1 h2).1⟩)
  have HR2 := Lib.hid (HR1.out.kept (h' := w2.heap) fun b e _ hb => HS2.out.fr.block b hb fun hF => by have h1 := (HV.out b e).1; have h2 := hlt b hF; omega)
  go_loopw [83] (fun i wr => ∃ (k : Nat) (xs : List Int), i = .int .i64 k ∧ k ≤ o.data.length ∧ xs.length = o.data.length ∧ OwnRow wr.heap (fun b => W0.heap.size ≤ b) 5 1 (.slice a5 o.data.length c5) o.data.length (xs.map (Value.int .u8)) ∧ Fr (fun b => (Value.slice a5 o.data.length c5).ownBlock = some b) w2 wr) (fun i _ => o.data.length - (intOf i).toNat)
  case atStart => exact ⟨0, o.data.map (fun x => (x.toNat : Int)), rfl, Nat.zero_le _, by simp, by rw [List.map_map]; exact HR2.out, Fr.refl _ _⟩
  case round =>
    obtain ⟨k, xs, rfl, hk, hxl, hrow, hfr⟩ := hrel
    by_cases hlt2 : k < o.data.length
    · obtain ⟨g, rfl, _, _⟩ := hpos5 (by omega)
      obtain ⟨t1, t2⟩ := hrow.rules (b := g) rfl
      obtain ⟨z, hx⟩ : ∃ z, (xs.map (Value.int .u8))[k]? = some (.int .u8 z) := ⟨_, by rw [List.getElem?_map, List.getElem?_eq_getElem (by omega)]; rfl⟩
      have hc := t1 k _ hx
      have hf := t2 k
      have HROW := Lib.hid hrow
      have HFR := Lib.hid hfr
      have HXL := Lib.hid hxl
      clear t1 t2 hx hrow hfr hxl
      go_wp2
      exact ⟨⟨k + 1, xs.set k _, by go_num, by omega, by rw [List.length_set]; exact HXL.out, row_put HROW.out _, HFR.out.setCell (p := ⟨g, k, none⟩) (fun _ => rfl) _⟩, by simp [intOf]; omega⟩
    · have HFR := Lib.hid hfr
      clear hrow hfr hxl
      go_wp2
      go_ret
      rw [HRES.out]
      have hend := do_end HO1.out HS2.out H2.out hlt HV.out HFR.out
      exact ⟨rfl, _, _, hend.1, hend.2⟩

set_option maxHeartbeats 4000000 in
set_option maxRecDepth 100000 in
theorem do9k7 (h : IsDisk w.heap d S r F) {K : Nat} (wf : Wf S K) (hK : K < 1000000) (o : Opn) (ok : OpOk o) (hk : o.kind = 7) (G : Nat → Prop) (vd k f u : Value) (hop : IsOp w.heap G vd k f u o) (hG : ∀ x, G x → F x → False) (hGs : ∀ x, G x → x < w.heap.size) :
    Calls Try.prog 9 #[.pointer (some ⟨d, 0, none⟩), opVal vd k f u o] w (OpPost w d F (stepOp S o)) := by
  have hres : stepOp S o = (0, start S o.plan) := by unfold stepOp; simp only [hk]; rfl
  obtain ⟨a, c, rfl, _, _⟩ := hop.data.shape
  obtain ⟨ak, ck, rfl, _, _⟩ := hop.plan.keep.shape
  obtain ⟨af, cf, rfl, _, _⟩ := hop.plan.fail.shape
  obtain ⟨au, cu, rfl, _, _⟩ := hop.plan.full.shape
  obtain ⟨W0, hW0⟩ : ∃ W0, w.alloc (.cells #[.int .i64 (7 : Int), .string o.name, .string o.target, .int .i64 o.pos, .int .i64 o.long, .slice a o.data.length c, .int .i64 o.plan.crash, .slice ak o.plan.keep.length ck, .slice af o.plan.fail.length cf, .slice au o.plan.full.length cu, .int .i64 o.plan.room] 35) = W0 := ⟨_, rfl⟩
  have o0 : Old w W0 := by rw [← hW0]; exact (Fr.refl _ _).alloc _
  have bA : Blk W0.heap w.heap.size #[.int .i64 (7 : Int), .string o.name, .string o.target, .int .i64 o.pos, .int .i64 o.long, .slice a o.data.length c, .int .i64 o.plan.crash, .slice ak o.plan.keep.length ck, .slice af o.plan.fail.length cf, .slice au o.plan.full.length cu, .int .i64 o.plan.room] 35 := by rw [← hW0]; exact blk_new w _ 35
  have hz0 : W0.heap.size = w.heap.size + 1 := by rw [← hW0]; simp
  have htw := twin22R W0 G _ o.data (hop.data.fr o0 fun _ _ f => f) (by have := ok.data; omega)
  have hlt := h.lt
  have H := Lib.hid h
  have HO0 := Lib.hid o0
  have HA := Lib.hid bA
  have HZ0 := Lib.hid hz0
  have HGG := Lib.hid (And.intro hG hGs)
  have HOP := Lib.hid hop
  have hdl := ok.data
  have hapart : ∀ x, W0.heap.size ≤ x → F x → False := fun x h1 h2 => by have := hlt x h2; omega
  have HRES := Lib.hid hres
  obtain ⟨a1, _⟩ := bA.rules
  clear h o0 bA hz0 hG hGs hop hres
  show Calls Try.prog 9 #[.pointer (some ⟨d, 0, none⟩), .agg #[.int .i64 o.kind, .string o.name, .string o.target, .int .i64 o.pos, .int .i64 o.long, .slice a o.data.length c, .int .i64 o.plan.crash, .slice ak o.plan.keep.length ck, .slice af o.plan.fail.length cf, .slice au o.plan.full.length cu, .int .i64 o.plan.room]] w _
  rw [hk]
  clear hk
  go_enter Try.func9, Try.ntmps9
  go_wp2_with (first
    | (go_at_call 22; refine htw.mono ?_; rintro e w1 ⟨v1, rfl, hrow1, ho1⟩
       obtain ⟨a5, c5, e5, _, hpos5⟩ := hrow1.slice
       subst e5
       have HO1 := Lib.hid (HO0.out.trans' ho1)
       have HR1 := Lib.hid hrow1
       have HROW1 := Lib.hid hrow1
       have H1 := Lib.hid (H.out.fr HO1.out fun _ _ f => f)
       obtain ⟨b1, _⟩ := (HA.out.fr ho1 fun f => f).rules
       have hz1 := ho1.size
       have hp1 := HOP.out.plan.fr HO1.out fun _ _ f => f
       have htp := twin6R w1 G o.plan.crash o.plan.room _ _ _ o.plan.keep o.plan.fail o.plan.full hp1.keep hp1.fail hp1.full ok.plan.keep ok.plan.fail ok.plan.full (fun b hb => Nat.lt_of_lt_of_le (HGG.out.2 b hb) HO1.out.size)
       clear hp1
       clear hrow1 ho1)
    | (go_at_call 6; refine htp.mono ?_; rintro e w3 ⟨k', f', u', rfl, t1, t2, t3, ho3⟩
       obtain ⟨ak', ck', e1, _, _⟩ := t1.shape
       obtain ⟨af', cf', e2, _, _⟩ := t2.shape
       obtain ⟨au', cu', e3, _, _⟩ := t3.shape
       subst e1 e2 e3
       have H3 := Lib.hid (H1.out.fr ho3 fun _ _ f => f)
       have HP3 := Lib.hid (show IsPlan w3.heap (fun b => w1.heap.size ≤ b) _ _ _ o.plan from ⟨t1.at, t2.at, t3.at⟩)
       have HO3 := Lib.hid ho3
       have hcall := start19 H3.out wf hK o.plan ok.plan (fun b => w1.heap.size ≤ b) _ _ _ HP3.out (fun x h1 h2 => by have := hlt x h2; have := HO1.out.size; omega)
       clear t1 t2 t3 ho3)
    | (go_at_call 19; refine hcall.mono ?_; rintro e w2 ⟨rfl, r', F', hd2, hs2'⟩
       have H2 := Lib.hid hd2
       have HS2 := Lib.hid ((⟨Old.fr HO3.out, fun _ h => .inl h⟩ : Step F F w1 w3).trans hs2')
       clear hd2 hs2'))
  have HV := Lib.hid (show ∀ b, (Value.slice a5 o.data.length c5).ownBlock = some b → w.heap.size ≤ b ∧ b < w1.heap.size from fun b e => by
    obtain ⟨h1, cur, h2⟩ := HR1.out.owned e
    exact ⟨by have := HZ0.out; omega, (Array.getElem?_eq_some_iff.1 h2).1⟩)
  have HR2 := Lib.hid (HR1.out.kept (h' := w2.heap) fun b e _ hb => HS2.out.fr.block b hb fun hF => by have h1 := (HV.out b e).1; have h2 := hlt b hF; omega)
  go_loopw [83] (fun i wr => ∃ (k : Nat) (xs : List Int), i = .int .i64 k ∧ k ≤ o.data.length ∧ xs.length = o.data.length ∧ OwnRow wr.heap (fun b => W0.heap.size ≤ b) 5 1 (.slice a5 o.data.length c5) o.data.length (xs.map (Value.int .u8)) ∧ Fr (fun b => (Value.slice a5 o.data.length c5).ownBlock = some b) w2 wr) (fun i _ => o.data.length - (intOf i).toNat)
  case atStart => exact ⟨0, o.data.map (fun x => (x.toNat : Int)), rfl, Nat.zero_le _, by simp, by rw [List.map_map]; exact HR2.out, Fr.refl _ _⟩
  case round =>
    obtain ⟨k, xs, rfl, hk, hxl, hrow, hfr⟩ := hrel
    by_cases hlt2 : k < o.data.length
    · obtain ⟨g, rfl, _, _⟩ := hpos5 (by omega)
      obtain ⟨t1, t2⟩ := hrow.rules (b := g) rfl
      obtain ⟨z, hx⟩ : ∃ z, (xs.map (Value.int .u8))[k]? = some (.int .u8 z) := ⟨_, by rw [List.getElem?_map, List.getElem?_eq_getElem (by omega)]; rfl⟩
      have hc := t1 k _ hx
      have hf := t2 k
      have HROW := Lib.hid hrow
      have HFR := Lib.hid hfr
      have HXL := Lib.hid hxl
      clear t1 t2 hx hrow hfr hxl
      go_wp2
      exact ⟨⟨k + 1, xs.set k _, by go_num, by omega, by rw [List.length_set]; exact HXL.out, row_put HROW.out _, HFR.out.setCell (p := ⟨g, k, none⟩) (fun _ => rfl) _⟩, by simp [intOf]; omega⟩
    · have HFR := Lib.hid hfr
      clear hrow hfr hxl
      go_wp2
      go_ret
      rw [HRES.out]
      have hend := do_end HO1.out HS2.out H2.out hlt HV.out HFR.out
      exact ⟨rfl, _, _, hend.1, hend.2⟩

set_option maxHeartbeats 4000000 in
set_option maxRecDepth 100000 in
theorem do9k8 (h : IsDisk w.heap d S r F) {K : Nat} (wf : Wf S K) (_hK : K < 1000000) (o : Opn) (ok : OpOk o) (hk : ∀ i : Int, 0 ≤ i → i ≤ 7 → o.kind ≠ i) (G : Nat → Prop) (vd k f u : Value) (hop : IsOp w.heap G vd k f u o) (hG : ∀ x, G x → F x → False) (hGs : ∀ x, G x → x < w.heap.size) :
    Calls Try.prog 9 #[.pointer (some ⟨d, 0, none⟩), opVal vd k f u o] w (OpPost w d F (stepOp S o)) := by
  have hres : stepOp S o = ((readF S o.name.data.toList o.pos o.long).2, S) := by unfold stepOp; rw [if_neg (hk 0 (by omega) (by omega)), if_neg (hk 1 (by omega) (by omega)), if_neg (hk 2 (by omega) (by omega)), if_neg (hk 3 (by omega) (by omega)), if_neg (hk 4 (by omega) (by omega)), if_neg (hk 5 (by omega) (by omega)), if_neg (hk 6 (by omega) (by omega)), if_neg (hk 7 (by omega) (by omega))]
  obtain ⟨a, c, rfl, _, _⟩ := hop.data.shape
  obtain ⟨ak, ck, rfl, _, _⟩ := hop.plan.keep.shape
  obtain ⟨af, cf, rfl, _, _⟩ := hop.plan.fail.shape
  obtain ⟨au, cu, rfl, _, _⟩ := hop.plan.full.shape
  obtain ⟨W0, hW0⟩ : ∃ W0, w.alloc (.cells #[.int .i64 o.kind, .string o.name, .string o.target, .int .i64 o.pos, .int .i64 o.long, .slice a o.data.length c, .int .i64 o.plan.crash, .slice ak o.plan.keep.length ck, .slice af o.plan.fail.length cf, .slice au o.plan.full.length cu, .int .i64 o.plan.room] 35) = W0 := ⟨_, rfl⟩
  have o0 : Old w W0 := by rw [← hW0]; exact (Fr.refl _ _).alloc _
  have bA : Blk W0.heap w.heap.size #[.int .i64 o.kind, .string o.name, .string o.target, .int .i64 o.pos, .int .i64 o.long, .slice a o.data.length c, .int .i64 o.plan.crash, .slice ak o.plan.keep.length ck, .slice af o.plan.fail.length cf, .slice au o.plan.full.length cu, .int .i64 o.plan.room] 35 := by rw [← hW0]; exact blk_new w _ 35
  have hz0 : W0.heap.size = w.heap.size + 1 := by rw [← hW0]; simp
  have htw := twin22R W0 G _ o.data (hop.data.fr o0 fun _ _ f => f) (by have := ok.data; omega)
  have hlt := h.lt
  have H := Lib.hid h
  have HO0 := Lib.hid o0
  have HA := Lib.hid bA
  have HZ0 := Lib.hid hz0
  have HGG := Lib.hid (And.intro hG hGs)
  have HOP := Lib.hid hop
  have hdl := ok.data
  have hapart : ∀ x, W0.heap.size ≤ x → F x → False := fun x h1 h2 => by have := hlt x h2; omega
  have HRES := Lib.hid hres
  obtain ⟨a1, _⟩ := bA.rules
  have q0 : (o.kind == 0) = false := by simpa using hk 0 (by omega) (by omega)
  have q1 : (o.kind == 1) = false := by simpa using hk 1 (by omega) (by omega)
  have q2 : (o.kind == 2) = false := by simpa using hk 2 (by omega) (by omega)
  have q3 : (o.kind == 3) = false := by simpa using hk 3 (by omega) (by omega)
  have q4 : (o.kind == 4) = false := by simpa using hk 4 (by omega) (by omega)
  have q5 : (o.kind == 5) = false := by simpa using hk 5 (by omega) (by omega)
  have q6 : (o.kind == 6) = false := by simpa using hk 6 (by omega) (by omega)
  have q7 : (o.kind == 7) = false := by simpa using hk 7 (by omega) (by omega)
  clear hk
  clear h o0 bA hz0 hG hGs hop hres
  show Calls Try.prog 9 #[.pointer (some ⟨d, 0, none⟩), .agg #[.int .i64 o.kind, .string o.name, .string o.target, .int .i64 o.pos, .int .i64 o.long, .slice a o.data.length c, .int .i64 o.plan.crash, .slice ak o.plan.keep.length ck, .slice af o.plan.fail.length cf, .slice au o.plan.full.length cu, .int .i64 o.plan.room]] w _
  go_enter Try.func9, Try.ntmps9
  go_wp2_with (first
    | (go_at_call 22; refine htw.mono ?_; rintro e w1 ⟨v1, rfl, hrow1, ho1⟩
       obtain ⟨a5, c5, e5, _, hpos5⟩ := hrow1.slice
       subst e5
       have HO1 := Lib.hid (HO0.out.trans' ho1)
       have HR1 := Lib.hid hrow1
       have HROW1 := Lib.hid hrow1
       have H1 := Lib.hid (H.out.fr HO1.out fun _ _ f => f)
       obtain ⟨b1, _⟩ := (HA.out.fr ho1 fun f => f).rules
       have hz1 := ho1.size
       have hcall := read12 H1.out wf o.name ok.name o.pos o.long ok.pos ok.long
       clear hrow1 ho1)
    | (go_at_call 12; refine hcall.mono ?_; rintro e w2 ⟨v2, rfl, _, ho2⟩
       have H2 := Lib.hid (H1.out.fr ho2 fun _ _ f => f)
       have HS2 := Lib.hid (⟨Old.fr ho2, fun _ h => .inl h⟩ : Step F F w1 w2)
       clear ho2))
  have HV := Lib.hid (show ∀ b, (Value.slice a5 o.data.length c5).ownBlock = some b → w.heap.size ≤ b ∧ b < w1.heap.size from fun b e => by
    obtain ⟨h1, cur, h2⟩ := HR1.out.owned e
    exact ⟨by have := HZ0.out; omega, (Array.getElem?_eq_some_iff.1 h2).1⟩)
  have HR2 := Lib.hid (HR1.out.kept (h' := w2.heap) fun b e _ hb => HS2.out.fr.block b hb fun hF => by have h1 := (HV.out b e).1; have h2 := hlt b hF; omega)
  go_loopw [83] (fun i wr => ∃ (k : Nat) (xs : List Int), i = .int .i64 k ∧ k ≤ o.data.length ∧ xs.length = o.data.length ∧ OwnRow wr.heap (fun b => W0.heap.size ≤ b) 5 1 (.slice a5 o.data.length c5) o.data.length (xs.map (Value.int .u8)) ∧ Fr (fun b => (Value.slice a5 o.data.length c5).ownBlock = some b) w2 wr) (fun i _ => o.data.length - (intOf i).toNat)
  case atStart => exact ⟨0, o.data.map (fun x => (x.toNat : Int)), rfl, Nat.zero_le _, by simp, by rw [List.map_map]; exact HR2.out, Fr.refl _ _⟩
  case round =>
    obtain ⟨k, xs, rfl, hk, hxl, hrow, hfr⟩ := hrel
    by_cases hlt2 : k < o.data.length
    · obtain ⟨g, rfl, _, _⟩ := hpos5 (by omega)
      obtain ⟨t1, t2⟩ := hrow.rules (b := g) rfl
      obtain ⟨z, hx⟩ : ∃ z, (xs.map (Value.int .u8))[k]? = some (.int .u8 z) := ⟨_, by rw [List.getElem?_map, List.getElem?_eq_getElem (by omega)]; rfl⟩
      have hc := t1 k _ hx
      have hf := t2 k
      have HROW := Lib.hid hrow
      have HFR := Lib.hid hfr
      have HXL := Lib.hid hxl
      clear t1 t2 hx hrow hfr hxl
      go_wp2
      exact ⟨⟨k + 1, xs.set k _, by go_num, by omega, by rw [List.length_set]; exact HXL.out, row_put HROW.out _, HFR.out.setCell (p := ⟨g, k, none⟩) (fun _ => rfl) _⟩, by simp [intOf]; omega⟩
    · have HFR := Lib.hid hfr
      clear hrow hfr hxl
      go_wp2
      go_ret
      rw [HRES.out]
      have hend := do_end HO1.out HS2.out H2.out hlt HV.out HFR.out
      exact ⟨rfl, _, _, hend.1, hend.2⟩

/-- DO: an operation of the program's disk. -/
theorem do9 (h : IsDisk w.heap d S r F) {K : Nat} (wf : Wf S K) (hK : K < 1000000) (o : Opn) (ok : OpOk o) (G : Nat → Prop) (vd k f u : Value) (hop : IsOp w.heap G vd k f u o) (hG : ∀ x, G x → F x → False) (hGs : ∀ x, G x → x < w.heap.size) :
    Calls Try.prog 9 #[.pointer (some ⟨d, 0, none⟩), opVal vd k f u o] w (OpPost w d F (stepOp S o)) := by
  by_cases k0 : o.kind = 0
  · exact do9k0 h wf hK o ok k0 G vd k f u hop hG hGs
  by_cases k1 : o.kind = 1
  · exact do9k1 h wf hK o ok k1 G vd k f u hop hG hGs
  by_cases k2 : o.kind = 2
  · exact do9k2 h wf hK o ok k2 G vd k f u hop hG hGs
  by_cases k3 : o.kind = 3
  · exact do9k3 h wf hK o ok k3 G vd k f u hop hG hGs
  by_cases k4 : o.kind = 4
  · exact do9k4 h wf hK o ok k4 G vd k f u hop hG hGs
  by_cases k5 : o.kind = 5
  · exact do9k5 h wf hK o ok k5 G vd k f u hop hG hGs
  by_cases k6 : o.kind = 6
  · exact do9k6 h wf hK o ok k6 G vd k f u hop hG hGs
  by_cases k7 : o.kind = 7
  · exact do9k7 h wf hK o ok k7 G vd k f u hop hG hGs
  exact do9k8 h wf hK o ok (fun i h1 h2 e => by rcases (by omega : i = 0 ∨ i = 1 ∨ i = 2 ∨ i = 3 ∨ i = 4 ∨ i = 5 ∨ i = 6 ∨ i = 7) with rfl | rfl | rfl | rfl | rfl | rfl | rfl | rfl <;> contradiction) G vd k f u hop hG hGs
end
end Go.Proofs.Ytpdflncgemcniaa
