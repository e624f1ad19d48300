/- PROVED HERE: the contract of the document's Apply. PROVED HERE: the contracts of the document's Data and find. PROVED HERE: the contract of the document's find. PROVED HERE: the document's disk with a file turned; a death on its way. No conditions beyond the premises that each theorem names. -/
import Derived.Test.YtpdflncgemcniaaD13
namespace Go.Proofs.Ytpdflncgemcniaa
open Go.RowKit

/-- A new row of bytes, which may be appended to. -/
def MadeRow (w : World) (l : Bs) (e : Ending) (w' : World) : Prop := ∃ v', e = .returned v' ∧ OwnRow w'.heap (fun b => w.heap.size ≤ b) 5 1 v' l.length (l.map u8) ∧ Old w w'

theorem MadeRow.made {w w' : World} {l : Bs} {e : Ending} (h : MadeRow w l e w') : Made 5 u8 w l e w' := by
  obtain ⟨v, e, h1, h2⟩ := h
  exact ⟨v, e, h1.slT, h2⟩

set_option maxHeartbeats 400000 in
theorem twin40o (w : World) (F : Nat → Prop) (v : Value) (l : Bs) (hs : SlAt u8 w.heap F v l) (hl : l.length ≤ 140737488355328) : Calls Try.prog 40 #[v] w (MadeRow w l) := by
  have hrow := hs.row
  clear hs
  go_enter Try.func40, Try.ntmps40
  go_wp2_with (at_builtin; refine wpList_app rfl (.const (.slice none 0 0)) (.tmp 3) 33 rfl 5 (.int .u8 0) 1 1 Try.underlying33 Try.info5 rfl (by decide) (fun b => w.heap.size ≤ b) _ 0 [] rfl OwnRow.nil _ l.length (l.map u8) rfl hrow (u8_one l) ?h63 ?hby ?_)
  case h63 => unfold maxLen; omega
  case hby => omega
  intro v' w' hown hfr _
  go_wp2
  go_ret
  refine ⟨_, rfl, ?_, ?_⟩
  · have := hown.mono (G := fun b => w.heap.size ≤ b) (fun x _ h => by simpa [Value.ownBlock] using h)
    simpa using this
  · exact hfr.mono fun x hx h => by simp [Value.ownBlock] at h

theorem sized_snoc (l : Bs) (k : Nat) : sized l (l.length + k) ++ [0] = sized l (l.length + (k + 1)) := by
  unfold sized
  rw [List.take_of_length_le (by omega), List.take_of_length_le (by omega), List.append_assoc]
  congr 1
  rw [show l.length + k - l.length = k by omega, show l.length + (k + 1) - l.length = k + 1 by omega, List.replicate_succ']

theorem sized_self (l : Bs) : sized l l.length = l := by simp [sized]

theorem sized_cut {l : Bs} {n : Nat} (h : n ≤ l.length) : sized l n = l.take n := by
  unfold sized
  rw [show n - l.length = 0 by omega]
  simp

theorem laid_nil (d : Bs) (pos : Nat) : laid d pos [] = d := by simp [laid]

theorem laid_set {d : Bs} {pos : Nat} {b : Bs} {x : UInt8} (h : pos + b.length < d.length) : (laid d pos b).set (pos + b.length) x = laid d pos (b ++ [x]) := by
  unfold laid
  have h1 : (d.take pos).length = pos := by simp; omega
  have h2 : d.drop (pos + b.length) = d[pos + b.length] :: d.drop (pos + b.length + 1) := List.drop_eq_getElem_cons h
  rw [List.set_append, if_neg (by omega), h1, show pos + b.length - pos = b.length by omega, List.set_append, if_neg (by omega), Nat.sub_self, h2, List.set_cons_zero]
  simp [Nat.add_assoc]

theorem OwnRow.slice {h : Array Obj} {F : Nat → Prop} {e : TypeId} {size : Nat} {v : Value} {n : Nat} {xs : List Value} (s : OwnRow h F e size v n xs) : ∃ a c, v = .slice a n c ∧ n ≤ c ∧ (0 < n → ∃ g, a = some ⟨g, 0, none⟩ ∧ v.ownBlock = some g ∧ F g) := by
  rcases s.shape with ⟨rfl, rfl⟩ | ⟨g, cap, rfl, hc, hF, ho⟩
  · exact ⟨none, 0, rfl, Nat.le_refl _, fun h => absurd h (by omega)⟩
  · exact ⟨_, cap, rfl, hc, fun _ => ⟨g, rfl, ho, hF⟩⟩

theorem SlAt.at_cell {α : Type} {enc : α → Value} {w : World} {F : Nat → Prop} {a : Option Addr} {n c : Nat} {l : List α} (s : SlAt enc w.heap F (.slice a n c) l) {k : Nat} {x : α} (hk : l[k]? = some x) :
    ∃ b o, a = some ⟨b, o, none⟩ ∧ F b ∧ cel w.heap b (o + k) = some (enc x) := by
  rcases s with ⟨rfl, _⟩ | ⟨b, o, c', e, _, hF, hx⟩
  · simp at hk
  · simp only [Value.slice.injEq] at e
    obtain ⟨rfl, _, _⟩ := e
    exact ⟨b, o, rfl, hF, hx k x hk⟩

theorem row_one {w : World} (x : Value) (T : Nat) : RowAt (w.alloc (.cells #[x] T)).heap 1 (.slice (some ⟨w.heap.size, 0, none⟩) 1 1) 1 [x] := by
  refine ⟨rfl, .inr ⟨w.heap.size, 0, 1, rfl, fun j u hj => ?_⟩⟩
  rw [Nat.zero_add, cel_new, ← Array.getElem?_toList]
  exact hj

/-- A change in a box. -/
abbrev box101 (w : World) (x0 x1 x2 x3 : Value) : World := w.alloc (.cells #[x0, x1, x2, x3] 101)

set_option maxHeartbeats 4000000 in
set_option maxRecDepth 100000 in
theorem apply62w (w : World) (F : Nat → Prop) (v vb : Value) (l b : Bs) (pos : Nat) (hs : SlAt u8 w.heap F v l) (hb : SlAt u8 w.heap F vb b) (hl : l.length ≤ 268435456) (hp : pos + b.length ≤ 268435456) (hF : ∀ x, F x → x < w.heap.size) :
    Calls Try.prog 62 #[v, .agg #[.bool false, .int .i64 pos, .int .i64 0, vb]] w (MadeRow w (applyCh l (.write pos b))) := by
  obtain ⟨a, c, rfl, hc, _⟩ := hs.shape
  obtain ⟨ab, cb, rfl, hcb, _⟩ := hb.shape
  have o0 : Old w (w.alloc (.cells #[.bool false, .int .i64 pos, .int .i64 0, .slice ab b.length cb] 101)) := (Fr.refl _ _).alloc _
  have B0 := blk_new w #[.bool false, .int .i64 pos, .int .i64 0, .slice ab b.length cb] 101
  have htw := twin40o _ F _ l (hs.fr o0 fun _ _ f => f) (by omega)
  have HB := Lib.hid hb
  have HO := Lib.hid o0
  obtain ⟨r1, _⟩ := B0.rules
  have HB0 := Lib.hid B0
  clear hs hb o0 B0
  go_enter Try.func62, Try.ntmps62
  go_wp2_with (go_at_call 40; refine htw.mono ?_; rintro e w1 ⟨v1, rfl, hrow, ho⟩
               have HR := Lib.hid hrow
               have HO1 := Lib.hid ho
               clear hrow ho)
  have hz1 : w.heap.size + 1 ≤ w1.heap.size := by have := HO1.out.size; simpa using this
  go_loopw [6] (fun v6 wr => ∃ k : Nat, OwnRow wr.heap (fun b => w.heap.size + 1 ≤ b) 5 1 v6 (l.length + k) ((sized l (l.length + k)).map u8) ∧ Old (box101 w (.bool false) (.int .i64 pos) (.int .i64 0) (.slice ab b.length cb)) wr ∧ l.length + k ≤ max l.length (pos + b.length)) (fun v6 _ => pos + b.length - (match v6 with | .slice _ n _ => n | _ => 0))
  case atStart =>
    refine ⟨0, ?_, HO1.out, by omega⟩
    have := sized_self l
    simp only [Nat.add_zero, this]
    exact HR.out.mono fun b _ h => by simpa using h
  case round =>
    obtain ⟨k, hrow, ho, hk⟩ := hrel
    obtain ⟨a6, c6, rfl, hc6, hnil6⟩ := hrow.slice
    by_cases hlt : l.length + k < pos + b.length
    · have hrowX := hrow.kept (h' := (wr.alloc (.cells #[.int .u8 0] 5)).heap) fun b _ _ hb => heap_push _ hb
      have hrowN := row_one (w := wr) (.int .u8 0) 5
      have hlt' : ((l.length + k : Nat) : Int) < pos + b.length := by omega
      have HOw := Lib.hid ho
      have hzr := ho.size
      clear hrow ho
      go_wp2_with (at_builtin; refine wpList_app rfl (.tmp 33) (.tmp 34) 33 rfl 5 (.int .u8 0) 1 1 Try.underlying33 Try.info5 rfl (by decide) (fun b => w.heap.size + 1 ≤ b) _ (l.length + k) ((sized l (l.length + k)).map u8) rfl hrowX _ 1 [.int .u8 0] rfl hrowN (by intro u hu; simp at hu; subst hu; rfl) (by unfold maxLen; omega) (by omega) ?_
                   intro v3 w3 hown3 hfr3 _
                   have htag := fun b hb => (hrowX.owned (b := b) hb)
                   have HN := Lib.hid (And.intro hown3 (And.intro hfr3 htag))
                   clear hown3 hfr3 hrowX htag)
      obtain ⟨a7, c7, e7, _, _⟩ := HN.out.1.slice
      refine ⟨⟨k + 1, ?_, ?_, by omega⟩, ?_⟩
      · rw [← sized_snoc, List.map_append]
        exact HN.out.1.mono fun b _ h => by
          rcases h with h | h
          · exact (HN.out.2.2 b h).1
          · simp at h; simp at hzr; omega
      · exact (HOw.out.alloc _).trans HN.out.2.1 fun b hb e => by have := (HN.out.2.2 b e).1; simp at hb; omega
      · rw [e7]
        simp only []
        omega
    · have hk' : l.length + k = max l.length (pos + b.length) := by omega
      have hlt' : ¬ ((l.length + k : Nat) : Int) < pos + b.length := by omega
      have hfin : applyCh l (.write pos b) = laid (sized l (l.length + k)) pos b := by rw [hk']; rfl
      have hDl : (sized l (l.length + k)).length = l.length + k := sized_length _ _
      have hpb : pos + b.length ≤ l.length + k := by omega
      generalize hD : sized l (l.length + k) = D at *
      generalize hn : l.length + k = n at *
      have HBW := Lib.hid (HB0.out.fr ho fun f => f)
      obtain ⟨q1, _⟩ := HBW.out.rules
      have HROW := Lib.hid hrow
      have HOW := Lib.hid ho
      have HFIN := Lib.hid hfin
      clear hrow ho hfin hD hn hk hk' hlt HR r1
      go_wp2
      rename World => wi
      go_loopw [39] (fun i wr => ∃ j : Nat, i = .int .i64 j ∧ j ≤ b.length ∧ OwnRow wr.heap (fun b => w.heap.size + 1 ≤ b) 5 1 (.slice a6 n c6) n ((laid D pos (b.take j)).map u8) ∧ Fr (fun x => w.heap.size + 1 ≤ x) wi wr) (fun i _ => b.length - (intOf i).toNat)
      case atStart =>
        refine ⟨0, rfl, Nat.zero_le _, ?_, Fr.refl _ _⟩
        rw [List.take_zero, laid_nil]
        exact HROW.out
      case round =>
        obtain ⟨j, rfl, hj, hrow, hfr⟩ := hrel
        by_cases hjl : j < b.length
        · obtain ⟨g, rfl, hg, hFg⟩ := hnil6 (by omega)
          obtain ⟨gb, ob, rfl, hFb, hcel⟩ := HB.out.at_cell (k := j) (x := b[j]) (by simp [hjl])
          have hgb := hF gb hFb
          have hcell : wr.cell? ⟨gb, ob + j, none⟩ = some (.int .u8 (b[j]).toNat) := by
            rw [cell_cel]
            have h1 := HO.out.cel hcel fun f => f
            have h2 := HOW.out.cel h1 fun f => f
            exact hfr.cel h2 (by omega)
          obtain ⟨s1, _⟩ := (HBW.out.fr hfr (by omega)).rules
          obtain ⟨t1, t2⟩ := hrow.rules (b := g) rfl
          have hlaid : (laid D pos (b.take j)).length = D.length := laid_length (by rw [List.length_take]; omega)
          obtain ⟨y, hy⟩ : ∃ y, ((laid D pos (b.take j)).map Ytpdflncgemcniaa.u8)[pos + j]? = some y := ⟨_, List.getElem?_eq_getElem (by rw [List.length_map]; omega)⟩
          have t3 := t1 (pos + j) y hy
          have hset := hrow.set (b := g) rfl (j := pos + j) (.int .u8 (b[j]).toNat)
          rw [show Value.int .u8 (b[j]).toNat = Ytpdflncgemcniaa.u8 b[j] from rfl, ← List.map_set] at hset
          have hls := laid_set (d := D) (pos := pos) (b := b.take j) (x := b[j]) (by rw [List.length_take]; omega)
          rw [List.length_take, Nat.min_eq_left hj, ← List.take_succ_eq_append_getElem hjl] at hls
          rw [hls] at hset
          have hfr' := hfr.setCell (p := ⟨g, pos + j, none⟩) (fun _ => hFg) (.int .u8 (b[j]).toNat)
          have HN := Lib.hid (And.intro hset hfr')
          clear hset hfr' hrow hfr t1 hls hlaid hy hcel
          go_wp2
          exact ⟨⟨j + 1, by go_num, by omega, HN.out.1, HN.out.2⟩, by simp [intOf]; omega⟩
        · have hjb : j = b.length := by omega
          subst hjb
          rw [List.take_length] at hrow
          have HE := Lib.hid (And.intro hrow hfr)
          clear hrow hfr
          go_wp2
          go_ret
          refine ⟨_, rfl, ?_, ?_⟩
          · have hll : (laid D pos b).length = n := by rw [laid_length (by omega), hDl]
            rw [HFIN.out, hll]
            exact HE.out.1.mono fun b _ h => by omega
          · exact (HO.out.trans' HOW.out).trans HE.out.2 fun x hx h => by omega

set_option maxHeartbeats 4000000 in
set_option maxRecDepth 100000 in
theorem apply62c (w : World) (F : Nat → Prop) (v : Value) (l : Bs) (long : Nat) (hs : SlAt u8 w.heap F v l) (hl : l.length ≤ 268435456) (hlo : long ≤ 268435456) :
    Calls Try.prog 62 #[v, .agg #[.bool true, .int .i64 0, .int .i64 long, .slice none 0 0]] w (MadeRow w (applyCh l (.cut long))) := by
  obtain ⟨a, c, rfl, hc, _⟩ := hs.shape
  have o0 : Old w (box101 w (.bool true) (.int .i64 0) (.int .i64 long) (.slice none 0 0)) := (Fr.refl _ _).alloc _
  have B0 := blk_new w #[.bool true, .int .i64 0, .int .i64 long, .slice none 0 0] 101
  have hs0 := hs.fr o0 fun _ _ f => f
  have HO := Lib.hid o0
  obtain ⟨r1, _⟩ := B0.rules
  have HB0 := Lib.hid B0
  by_cases hcut : long < l.length
  · have hpart := hs0.part (lo := 0) (hi := long) (Nat.zero_le _) (by omega)
    rw [if_neg (by omega)] at hpart
    simp only [Nat.zero_mul, Nat.sub_zero, List.drop_zero] at hpart
    rw [show Option.map (fun x => Addr.add x 0) a = a by cases a <;> simp [Addr.add]] at hpart
    have htw := twin40o _ F _ _ hpart (by rw [List.length_take]; omega)
    have HFIN := Lib.hid (show applyCh l (.cut long) = l.take long from sized_cut (by omega))
    have hcut' : (long : Int) < l.length := by omega
    have hcc : (long : Int) ≤ c := by omega
    clear hs hs0 o0 B0 hpart hcut
    go_enter Try.func62, Try.ntmps62
    go_wp2_with (go_at_call 40; refine htw.mono ?_; rintro e w1 ⟨v1, rfl, hrow, ho⟩
                 have HR := Lib.hid hrow
                 have HO1 := Lib.hid ho
                 clear hrow ho)
    go_ret
    refine ⟨_, rfl, ?_, HO.out.trans' HO1.out⟩
    rw [HFIN.out]
    exact HR.out.mono fun b _ h => by simp at h; omega
  · have htw := twin40o _ F _ l hs0 (by omega)
    have hcut' : ¬ (long : Int) < l.length := by omega
    clear hs hs0 o0 B0
    go_enter Try.func62, Try.ntmps62
    go_wp2_with (go_at_call 40; refine htw.mono ?_; rintro e w1 ⟨v1, rfl, hrow, ho⟩
                 have HR := Lib.hid hrow
                 have HO1 := Lib.hid ho
                 clear hrow ho)
    go_loopw [6] (fun v6 wr => ∃ k : Nat, OwnRow wr.heap (fun b => w.heap.size + 1 ≤ b) 5 1 v6 (l.length + k) ((sized l (l.length + k)).map u8) ∧ Old (box101 w (.bool true) (.int .i64 0) (.int .i64 long) (.slice none 0 0)) wr ∧ l.length + k ≤ max l.length long) (fun v6 _ => long - (match v6 with | .slice _ n _ => n | _ => 0))
    case atStart =>
      refine ⟨0, ?_, HO1.out, by omega⟩
      have := sized_self l
      simp only [Nat.add_zero, this]
      exact HR.out.mono fun b _ h => by simpa using h
    case round =>
      obtain ⟨k, hrow, ho, hk⟩ := hrel
      obtain ⟨a6, c6, rfl, hc6, hnil6⟩ := hrow.slice
      by_cases hlt : l.length + k < long
      · have hrowX := hrow.kept (h' := (wr.alloc (.cells #[.int .u8 0] 5)).heap) fun b _ _ hb => heap_push _ hb
        have hrowN := row_one (w := wr) (.int .u8 0) 5
        have hlt' : ((l.length + k : Nat) : Int) < long := by omega
        have HOw := Lib.hid ho
        have hzr := ho.size
        clear hrow ho
        go_wp2_with (at_builtin; refine wpList_app rfl (.tmp 33) (.tmp 34) 33 rfl 5 (.int .u8 0) 1 1 Try.underlying33 Try.info5 rfl (by decide) (fun b => w.heap.size + 1 ≤ b) _ (l.length + k) ((sized l (l.length + k)).map u8) rfl hrowX _ 1 [.int .u8 0] rfl hrowN (by intro u hu; simp at hu; subst hu; rfl) (by unfold maxLen; omega) (by omega) ?_
                     intro v3 w3 hown3 hfr3 _
                     have htag := fun b hb => (hrowX.owned (b := b) hb)
                     have HN := Lib.hid (And.intro hown3 (And.intro hfr3 htag))
                     clear hown3 hfr3 hrowX htag)
        obtain ⟨a7, c7, e7, _, _⟩ := HN.out.1.slice
        refine ⟨⟨k + 1, ?_, ?_, by omega⟩, ?_⟩
        · rw [← sized_snoc, List.map_append]
          exact HN.out.1.mono fun b _ h => by
            rcases h with h | h
            · exact (HN.out.2.2 b h).1
            · simp at h; simp at hzr; omega
        · exact (HOw.out.alloc _).trans HN.out.2.1 fun b hb e => by have := (HN.out.2.2 b e).1; simp at hb; omega
        · rw [e7]
          simp only []
          omega
      · have hk' : l.length + k = long := by omega
        have hlt' : ¬ ((l.length + k : Nat) : Int) < long := by omega
        have hfin : applyCh l (.cut long) = sized l (l.length + k) := by rw [hk']; rfl
        have HFIN := Lib.hid hfin
        obtain ⟨q1, _⟩ := (HB0.out.fr ho fun f => f).rules
        have HROW := Lib.hid hrow
        have HOW := Lib.hid ho
        clear hrow ho hfin hk hk' hlt HR r1
        go_wp2
        go_rounds 1
        go_ret
        refine ⟨_, rfl, ?_, HO.out.trans' HOW.out⟩
        rw [HFIN.out, sized_length]
        exact HROW.out.mono fun b _ h => by omega

/-- A change of the document's, done to data. -/
theorem apply62 (w : World) (F : Nat → Prop) (v : Value) (l : Bs) (c : Ch) (cells : List Value) (hc : IsDc w.heap F cells c) (hok : ChOk c) (hs : SlAt u8 w.heap F v l) (hl : l.length ≤ 268435456) (hF : ∀ x, F x → x < w.heap.size) :
    Calls Try.prog 62 #[v, .agg cells.toArray] w (MadeRow w (applyCh l c)) := by
  cases c with
  | write pos b =>
    obtain ⟨vb, rfl, hb⟩ := hc
    exact apply62w w F v vb l b pos hs hb.at hl hok hF
  | cut long =>
    have e : cells = [.bool true, .int .i64 0, .int .i64 long, .slice none 0 0] := hc
    subst e
    exact apply62c w F v l long hs hl hok
end Go.Proofs.Ytpdflncgemcniaa
namespace Go.Proofs.Ytpdflncgemcniaa
open Go.RowKit

/-- Cells of a change in a row of changes. -/
theorem IsMF.at_change {h : Array Obj} {F : Nat → Prop} {f : Fl} {q : MRep} (s : IsMF h F f q) {a : Option Addr} {n c : Nat} (hv : q.vc = .slice a n c) {j : Nat} {p : Ch × List Value} (hp : q.cs[j]? = some p) :
    ∃ g, a = some ⟨g, 0, none⟩ ∧ F g ∧ Tag h g 101 ∧ ∀ o, o < 4 → cel h g (j * 4 + o) = (four p)[o]? := by
  rcases s.row.shape with ⟨e, h0⟩ | ⟨g, cap, e, hc, hF, hown⟩
  · have : q.cs = [] := List.eq_nil_of_length_eq_zero h0
    rw [this] at hp; simp at hp
  · rw [hv] at e
    cases e
    refine ⟨g, rfl, hF, (s.tagC hown).2, fun o ho => ?_⟩
    have h1 := flat_at (f := four) four_len hp ho
    obtain ⟨y, hy⟩ : ∃ y, (four p)[o]? = some y := ⟨_, List.getElem?_eq_getElem (by rw [four_len]; exact ho)⟩
    rw [hy] at h1 ⊢
    exact s.row.cell hown h1

theorem IsDc.form {h : Array Obj} {F : Nat → Prop} {cells : List Value} {c : Ch} (s : IsDc h F cells c) : ∃ t p1 p2 a n cp, cells = [.bool t, .int .i64 p1, .int .i64 p2, .slice a n cp] := by
  cases c with
  | write pos b =>
    obtain ⟨vb, e, s⟩ := s
    obtain ⟨a, n, rfl, _⟩ := s.shape
    exact ⟨_, _, _, _, _, _, e⟩
  | cut long => exact ⟨_, _, _, _, _, _, s⟩

theorem IsMF.shapeC {h : Array Obj} {F : Nat → Prop} {f : Fl} {q : MRep} (s : IsMF h F f q) : ∃ a c, q.vc = .slice a f.chs.length c ∧ f.chs.length ≤ c := by
  have hl : q.cs.length = f.chs.length := by rw [← s.fits, List.length_map]
  obtain ⟨a, c, e, hc, _⟩ := s.row.slice
  rw [hl] at e hc
  exact ⟨a, c, e, hc⟩

set_option maxHeartbeats 4000000 in
set_option maxRecDepth 100000 in
theorem data39 (w : World) (F : Nat → Prop) (f : Fl) (q : MRep) (h : IsMF w.heap F f q) {K : Nat} (ok : FlOk K f) (hK : K ≤ 1000000) (hF : ∀ x, F x → x < w.heap.size) :
    Calls Try.prog 39 #[.agg #[.string ⟨f.name.toArray⟩, q.vs, q.vc]] w (MadeRow w (dataOf f)) := by
  obtain ⟨a, c, hvc, hc⟩ := h.shapeC
  obtain ⟨sa, sc, hvs, _, _⟩ := h.safe.shape
  have o0 : Old w (w.alloc (.cells #[.string ⟨f.name.toArray⟩, .slice sa f.safe.length sc, .slice a f.chs.length c] 75)) := (Fr.refl _ _).alloc _
  have hsf := h.safe.fr o0 fun _ _ f => f
  have B0 := blk_new w #[.string ⟨f.name.toArray⟩, .slice sa f.safe.length sc, .slice a f.chs.length c] 75
  have htw := twin40o _ F _ f.safe hsf.at (by have := ok.safe; omega)
  have hchs := ok.chs
  have H := Lib.hid h
  have HOK := Lib.hid ok
  rw [hvs] at htw
  rw [hvs, hvc]
  have HVC := Lib.hid hvc
  have HO := Lib.hid o0
  clear h ok hvs hvc hsf o0
  go_enter Try.func39, Try.ntmps39
  go_wp2_with (go_at_call 40; refine htw.mono ?_; rintro e w1 ⟨v1, rfl, hrow, ho⟩
               have HR := Lib.hid hrow
               have HO1 := Lib.hid ho
               obtain ⟨q1, _⟩ := (B0.fr ho fun f => f).rules
               clear hrow ho)
  go_loopw [12, 3] (fun i v3 wr => ∃ j : Nat, i = .int .i64 j ∧ j ≤ f.chs.length ∧ OwnRow wr.heap (fun b => w.heap.size ≤ b) 5 1 v3 ((f.chs.take j).foldl applyCh f.safe).length (((f.chs.take j).foldl applyCh f.safe).map u8) ∧ Old w wr) (fun i _ _ => f.chs.length - (intOf i).toNat)
  case atStart => exact ⟨0, rfl, Nat.zero_le _, HR.out.mono fun b _ h => by simp at h; omega, HO.out.trans' HO1.out⟩
  case round =>
    obtain ⟨j, rfl, hj, hrow, ho⟩ := hrel
    by_cases hjl : j < f.chs.length
    · obtain ⟨cp, hcp⟩ : ∃ p, q.cs[j]? = some p := ⟨_, List.getElem?_eq_getElem (by have := H.out.fits; rw [← this, List.length_map] at hjl; exact hjl)⟩
      have hcj : f.chs[j]? = some cp.1 := by rw [← H.out.fits, List.getElem?_map, hcp]; rfl
      obtain ⟨g, rfl, hFg, tg, hcells⟩ := H.out.at_change HVC.out hcp
      have hcell : ∀ o, o < 4 → wr.cell? ⟨g, j * 4 + o, none⟩ = (four cp)[o]? := fun o ho4 => by
        rw [cell_cel, cel_eq (ho.block g (hF g hFg) fun f => f), hcells o ho4]
      have c0 := hcell 0 (by omega)
      have c1 := hcell 1 (by omega)
      have c2 := hcell 2 (by omega)
      have c3 := hcell 3 (by omega)
      have hdc := H.out.chs cp (List.mem_of_getElem? hcp)
      obtain ⟨x0, x1, x2, xa, xn, xc, hx⟩ := hdc.form
      rw [hx] at c0 c1 c2 c3
      have c0 : wr.cell? ⟨g, j * 4, none⟩ = some (.bool x0) := c0
      have c1 : wr.cell? ⟨g, j * 4 + 1, none⟩ = some (.int .i64 x1) := c1
      have c2 : wr.cell? ⟨g, j * 4 + 2, none⟩ = some (.int .i64 x2) := c2
      have c3 : wr.cell? ⟨g, j * 4 + 3, none⟩ = some (.slice xa xn xc) := c3
      obtain ⟨a3, c3', rfl, _, _⟩ := hrow.slice
      have hbf := ho.alloc (.cells #[.bool x0, .int .i64 x1, .int .i64 x2, .slice xa xn xc] 101)
      have hbr := (Fr.refl (fun _ => False) wr).alloc (.cells #[.bool x0, .int .i64 x1, .int .i64 x2, .slice xa xn xc] 101)
      have hlen3 : ((f.chs.take j).foldl applyCh f.safe).length ≤ 268435456 := foldl_le HOK.out.safe fun c hc => HOK.out.each c (List.mem_of_mem_take hc)
      have hstep : (f.chs.take (j + 1)).foldl applyCh f.safe = applyCh ((f.chs.take j).foldl applyCh f.safe) cp.1 := by
        obtain ⟨hlt', he⟩ := List.getElem?_eq_some_iff.1 hcj
        rw [List.take_succ_eq_append_getElem hlt', List.foldl_append, he]
        rfl
      have hzr := ho.size
      have hzb := hbf.size
      have hzbr := hbr.size
      have hap := apply62 _ (fun b => F b ∨ (w.heap.size ≤ b ∧ b < wr.heap.size)) _ ((f.chs.take j).foldl applyCh f.safe) cp.1 (four cp) ((hdc.kept fun b hb _ => hbf.block b (hF b hb) fun f => f).mono fun b h _ => .inl h) (HOK.out.each _ (List.mem_of_getElem? hcj))
        ((hrow.slT.monot (G := fun b => F b ∨ (w.heap.size ≤ b ∧ b < wr.heap.size)) fun b h t => .inr ⟨h, t.lt⟩).fr hbr fun _ _ f => f).at hlen3 fun x hx => by
          rcases hx with h | h
          · have := hF x h; omega
          · omega
      rw [hx] at hap
      have HBF := Lib.hid hbf
      have HST := Lib.hid hstep
      clear hrow ho hcell hcells hcp hbr hbf hstep hdc
      go_wp2_with (go_at_call 62; refine hap.mono ?_; rintro e w4 ⟨v4, rfl, hrow4, ho4⟩
                   have H4 := Lib.hid (And.intro hrow4 ho4)
                   clear hrow4 ho4)
      refine ⟨⟨j + 1, by go_num, by omega, ?_, HBF.out.trans' H4.out.2⟩, by simp [intOf]; omega⟩
      rw [HST.out]
      exact H4.out.1.mono fun b _ h => by omega
    · have hjb : j = f.chs.length := by omega
      subst hjb
      rw [List.take_length] at hrow
      have HE := Lib.hid (And.intro hrow ho)
      clear hrow ho
      go_wp2
      go_ret
      exact ⟨_, rfl, HE.out.1, HE.out.2⟩
end Go.Proofs.Ytpdflncgemcniaa
namespace Go.Proofs.Ytpdflncgemcniaa
open Go.RowKit

/-- A file's place, or -1. -/
def findI (s : Bs) (l : List Fl) : Int := match l.findIdx? (fun f => f.name == s) with | some i => i | none => -1

theorem findI_at {s : Bs} {l : List Fl} {k : Nat} (h : k < l.length) (h0 : ∀ j (hj : j < l.length), j < k → l[j].name ≠ s) (h1 : l[k].name = s) : findI s l = k := by
  unfold findI
  have : l.findIdx? (fun f => f.name == s) = some k := by
    rw [List.findIdx?_eq_some_iff_getElem]
    refine ⟨h, by simp [h1], fun j hj => ?_⟩
    have := h0 j (by omega) hj
    simpa using this
  rw [this]

theorem findI_none {s : Bs} {l : List Fl} (h0 : ∀ j (hj : j < l.length), l[j].name ≠ s) : findI s l = -1 := by
  unfold findI
  have : l.findIdx? (fun f => f.name == s) = none := by
    rw [List.findIdx?_eq_none_iff]
    intro f hf
    obtain ⟨j, hj, rfl⟩ := List.getElem_of_mem hf
    simpa using h0 j hj
  rw [this]

theorem findI_findF {s : Bs} {l : List Fl} : (findI s l = -1 ∧ findF s l = none) ∨ ∃ (k : Nat) (f : Fl), findI s l = k ∧ l[k]? = some f ∧ f.name = s ∧ findF s l = some f := by
  unfold findI findF
  cases hq : l.findIdx? (fun f => f.name == s) with
  | none =>
    left
    refine ⟨rfl, ?_⟩
    rw [List.findIdx?_eq_none_iff] at hq
    rw [List.find?_eq_none]
    intro f hf
    have := hq f hf
    simpa using this
  | some k =>
    right
    rw [List.findIdx?_eq_some_iff_getElem] at hq
    obtain ⟨hk, h1, h2⟩ := hq
    refine ⟨k, l[k], rfl, List.getElem?_eq_getElem hk, by simpa using h1, ?_⟩
    rw [List.find?_eq_some_iff_getElem]
    exact ⟨h1, k, hk, rfl, fun j hj => by have := h2 j hj; simpa using this⟩

section
variable {w : World} {m : Nat} {S : Dk} {r : MDRep} {F : Nat → Prop}

theorem IsModel.len (h : IsModel w.heap m S r F) : r.ps.length = S.files.length := by rw [← h.fits, List.length_map]

/-- Cells of a file in the row of files. -/
theorem IsModel.at_file (h : IsModel w.heap m S r F) {a : Option Addr} {n c : Nat} (hv : r.vf = .slice a n c) {k : Nat} {p : MP} (hp : r.ps[k]? = some p) :
    ∃ g, a = some ⟨g, 0, none⟩ ∧ F g ∧ Tag w.heap g 75 ∧ r.vf.ownBlock = some g ∧ ∀ o, o < 3 → cel w.heap g (k * 3 + o) = (mfCells p)[o]? := by
  rcases h.row.shape with ⟨e, h0⟩ | ⟨g, cap, e, hc, hF, hown⟩
  · have : r.ps = [] := List.eq_nil_of_length_eq_zero h0
    rw [this] at hp; simp at hp
  · have hb := hown
    rw [hv] at e
    cases e
    refine ⟨g, rfl, hF, (h.tagF hown).2, hb, fun o ho => ?_⟩
    have h1 := flat_at (f := mfCells) mf_len hp ho
    obtain ⟨y, hy⟩ : ∃ y, (mfCells p)[o]? = some y := ⟨_, List.getElem?_eq_getElem (by rw [mf_len]; exact ho)⟩
    rw [hy] at h1 ⊢
    exact h.row.cell hown h1

theorem IsModel.shapeF (h : IsModel w.heap m S r F) : ∃ a c, r.vf = .slice a S.files.length c ∧ S.files.length ≤ c := by
  obtain ⟨a, c, e, hc, _⟩ := h.row.slice
  rw [h.len] at e hc
  exact ⟨a, c, e, hc⟩

theorem IsModel.at_fl (h : IsModel w.heap m S r F) {k : Nat} (hk : k < S.files.length) : ∃ f q, r.ps[k]? = some (f, q) ∧ S.files[k]? = some f ∧ IsMF w.heap F f q := by
  obtain ⟨p, hp⟩ : ∃ p, r.ps[k]? = some p := ⟨_, List.getElem?_eq_getElem (by rw [h.len]; exact hk)⟩
  exact ⟨p.1, p.2, hp, by rw [← h.fits, List.getElem?_map, hp]; rfl, h.files p (List.mem_of_getElem? hp)⟩

set_option maxHeartbeats 2000000 in
set_option maxRecDepth 100000 in
theorem find38 (h : IsModel w.heap m S r F) {K : Nat} (hK : S.files.length ≤ K) (hK2 : K ≤ 1000000) (s : ByteArray) :
    Calls Try.prog 38 #[.pointer (some ⟨m, 0, none⟩), .string s] w fun e w' => e = .returned (.int .i64 (findI s.data.toList S.files)) ∧ w = w' := by
  obtain ⟨a, c, hvf, hc⟩ := h.shapeF
  obtain ⟨r1, _⟩ := h.blk.rules
  have hM : w.cell? ⟨m, 5, none⟩ = some (.slice a S.files.length c) := by rw [r1, ← hvf]; rfl
  have HVF := Lib.hid hvf
  have H := Lib.hid h
  clear h r1 hvf
  go_enter Try.func38, Try.ntmps38
  go_wp2
  go_loop [11] (fun i => ∃ k : Nat, i = .int .i64 k ∧ k ≤ S.files.length ∧ ∀ j (hj : j < S.files.length), j < k → S.files[j].name ≠ s.data.toList) (fun i => S.files.length - (intOf i).toNat)
  case atStart => exact ⟨0, rfl, Nat.zero_le _, fun j _ h => absurd h (by omega)⟩
  case round =>
    obtain ⟨k, rfl, hk, hno⟩ := hrel
    by_cases hlt : k < S.files.length
    · obtain ⟨f, q, hp, hf, _⟩ := H.out.at_fl hlt
      obtain ⟨g, rfl, hFg, tg, _, hcells⟩ := H.out.at_file HVF.out hp
      have c0 : w.cell? ⟨g, k * 3, none⟩ = some (.string ⟨f.name.toArray⟩) := by rw [cell_cel]; exact hcells 0 (by omega)
      have hfe : S.files[k] = f := by rw [List.getElem?_eq_getElem hlt] at hf; simpa using hf
      have HNO := Lib.hid hno
      have HFE := Lib.hid hfe
      clear hcells hno hp hf hfe
      by_cases he : f.name = s.data.toList
      · have hd : (f.name == s.toList) = true := by rw [Go.ByteArray.toList_eq]; simpa using he
        have HE := Lib.hid (findI_at hlt HNO.out (by rw [HFE.out]; exact he))
        clear he
        go_wp2
        go_ret
        exact ⟨ret_i HE.out.symm, rfl⟩
      · have hd : (f.name == s.toList) = false := by rw [Go.ByteArray.toList_eq]; simpa using he
        have HE := Lib.hid he
        clear he
        go_wp2
        go_round
        case rel => exact ⟨k + 1, by go_num, by omega, fun j hj hjk => by
          by_cases e : j = k
          · subst e; rw [HFE.out]; exact HE.out
          · exact HNO.out j hj (by omega)⟩
        case measure => simp [intOf]; omega
    · have HE := Lib.hid (findI_none (s := s.data.toList) (l := S.files) fun j hj => hno j hj (by omega))
      clear hno
      go_wp2
      go_ret
      exact ⟨ret_i HE.out.symm, rfl⟩
end
end Go.Proofs.Ytpdflncgemcniaa
namespace Go.Proofs.Ytpdflncgemcniaa
open Go.RowKit

theorem set_mid {α : Type} (l1 l2 : List α) (x y : α) : (l1 ++ x :: l2).set l1.length y = l1 ++ y :: l2 := by
  rw [List.set_append, if_neg (by omega), Nat.sub_self, List.set_cons_zero]

theorem mid_at {α : Type} (l1 l2 : List α) (x : α) : (l1 ++ x :: l2)[l1.length]? = some x := by
  rw [List.getElem?_append_right (Nat.le_refl _), Nat.sub_self]; rfl

theorem split_at {α : Type} {l : List α} {k : Nat} {x : α} (h : l[k]? = some x) : ∃ l1 l2, l = l1 ++ x :: l2 ∧ l1.length = k := by
  obtain ⟨hk, rfl⟩ := List.getElem?_eq_some_iff.1 h
  refine ⟨l.take k, l.drop (k + 1), ?_, by rw [List.length_take]; omega⟩
  rw [← List.drop_eq_getElem_cons hk, List.take_append_drop]

/-- A FILE HAS TURNED, in its place in the row. -/
theorem IsModel.redo {w w' : World} {m : Nat} {S : Dk} {r : MDRep} {F : Nat → Prop} (s : IsModel w.heap m S r F) {l1 l2 : List MP} {f f' : Fl} {q q' : MRep} (hr : r.ps = l1 ++ (f, q) :: l2)
    (hsz : w.heap.size ≤ w'.heap.size) (hk : ∀ b, F b → r.vf.ownBlock ≠ some b → q.vc.ownBlock ≠ some b → w'.heap[b]? = w.heap[b]?)
    (hrow : OwnRow w'.heap (fun b => F b ∨ w.heap.size ≤ b) 75 3 r.vf r.ps.length ((l1 ++ (f', q') :: l2).flatMap mfCells))
    (hf : IsMF w'.heap (fun b => F b ∨ w.heap.size ≤ b) f' q') (hc : ∀ b, q'.vc.ownBlock = some b → q.vc.ownBlock = some b ∨ w.heap.size ≤ b) :
    IsModel w'.heap m { S with files := l1.map Prod.fst ++ f' :: l2.map Prod.fst } { r with ps := l1 ++ (f', q') :: l2 } (fun b => F b ∨ (w.heap.size ≤ b ∧ b < w'.heap.size)) := by
  have hq := s.files (f, q) (by rw [hr]; simp)
  have tf : ∀ b, r.vf.ownBlock = some b → Tag w.heap b 75 := fun b e => (s.tagF e).2
  have tc : ∀ b, q.vc.ownBlock = some b → Tag w.heap b 101 := fun b e => (hq.tagC e).2
  have keep : ∀ b T, F b → Tag w.heap b T → T ≠ 75 → T ≠ 101 → w'.heap[b]? = w.heap[b]? := fun b T hF t h1 h2 => hk b hF (fun e => h1 (t.eq (tf b e))) fun e => h2 (t.eq (tc b e))
  have hap := s.apart
  rw [hr] at hap
  have hA : ∀ p ∈ l1 ++ l2, apartM (f, q) p := fun p hp => by
    rw [List.pairwise_append] at hap
    rcases List.mem_append.1 hp with hp | hp
    · exact apartM_symm (hap.2.2 p hp (f, q) (by simp))
    · exact (List.pairwise_cons.1 hap.2.1).1 p hp
  have hother : ∀ p ∈ l1 ++ l2, p ∈ r.ps := fun p hp => by
    rw [hr]
    rcases List.mem_append.1 hp with hp | hp
    · simp [hp]
    · simp [hp]
  have hnew : ∀ p ∈ l1 ++ l2, apartM (f', q') p := fun p hp b h1 h2 => by
    rcases hc b h1 with h1 | h1
    · exact hA p hp b h1 h2
    · have := s.lt b ((s.files p (hother p hp)).tagC h2).1
      omega
  exact {
    fits := by simp
    own := .inl s.own
    blk := (keep m 41 s.own s.blk.tag (by decide) (by decide)).trans s.blk
    keep := (s.keep.kept fun b hb t => keep b 3 hb t (by decide) (by decide)).mono fun b h => .inl h
    fail := (s.fail.kept fun b hb t => keep b 3 hb t (by decide) (by decide)).mono fun b h => .inl h
    full := (s.full.kept fun b hb t => keep b 3 hb t (by decide) (by decide)).mono fun b h => .inl h
    row := by
      rw [hr] at hrow
      have : (l1 ++ (f, q) :: l2).length = (l1 ++ (f', q') :: l2).length := by simp
      rw [this] at hrow
      exact hrow.mono fun b e h => by
        rcases h with h | h
        · exact .inl h
        · obtain ⟨_, cur, e'⟩ := hrow.owned e
          exact .inr ⟨h, (Array.getElem?_eq_some_iff.1 e').1⟩
    files := fun p hp => by
      have hfin : IsMF w'.heap (fun b => F b ∨ (w.heap.size ≤ b ∧ b < w'.heap.size)) f' q' := hf.mono fun b h hl => by
        rcases h with h | h
        · exact .inl h
        · exact .inr ⟨h, hl⟩
      have hrest : ∀ p ∈ l1 ++ l2, IsMF w'.heap (fun b => F b ∨ (w.heap.size ≤ b ∧ b < w'.heap.size)) p.1 p.2 := fun p hp => by
        have h0 := s.files p (hother p hp)
        have h1 := hA p hp
        refine (h0.kept (fun b hb t => keep b 5 hb t (by decide) (by decide)) fun b e => hk b (h0.tagC e).1 (fun e' => ?_) fun e' => h1 b e' e).mono fun b h _ => .inl h
        exact absurd ((h0.tagC e).2.eq (tf b e')) (by decide)
      rcases List.mem_append.1 hp with hp | hp
      · exact hrest p (by simp [hp])
      · rcases List.mem_cons.1 hp with rfl | hp
        · exact hfin
        · exact hrest p (by simp [hp])
    apart := by
      rw [List.pairwise_append] at hap ⊢
      obtain ⟨p1, p2, p3⟩ := hap
      rw [List.pairwise_cons] at p2 ⊢
      refine ⟨p1, ⟨fun p hp => hnew p (by simp [hp]), p2.2⟩, fun a ha b hb => ?_⟩
      rcases List.mem_cons.1 hb with rfl | hb
      · exact apartM_symm (hnew a (by simp [ha]))
      · exact p3 a ha b (by simp [hb])
    lt := fun b h => by
      rcases h with h | h
      · exact Nat.lt_of_lt_of_le (s.lt b h) hsz
      · exact h.2 }

/-- A death has met the first k files. -/
structure MDieAt (w0 wr : World) (m : Nat) (S : Dk) (r : MDRep) (F : Nat → Prop) (K k : Nat) (ps1 : List MP) (cnt : Nat) (F' : Nat → Prop) : Prop where
  model : IsModel wr.heap m { S with files := ps1.map Prod.fst ++ S.files.drop k } { r with ps := ps1 ++ r.ps.drop k } F'
  len1 : ps1.length = k
  own : ∀ b, F' b → F b ∨ w0.heap.size ≤ b
  fr : Fr F w0 wr
  fits : ps1.map Prod.fst ++ dieFiles S.plan.keep cnt (S.files.drop k) = dieFiles S.plan.keep 0 S.files
  few : cnt ≤ k * K
  base : ∀ b, F b → b < w0.heap.size

/-- Within a file: the first j changes are met. -/
structure MDieIn (wi wr : World) (keep : List Int) (f : Fl) (cnt j cnt' : Nat) (vs' : Value) (acc : Bs) : Prop where
  fr : Old wi wr
  safe : SlT 5 u8 wr.heap (fun b => wi.heap.size ≤ b) vs' acc
  long : acc.length ≤ 268435456
  fits : dieChs keep cnt' (f.chs.drop j) acc = dieChs keep cnt f.chs f.safe
  num : keepOn keep cnt' (f.chs.length - j) = keepOn keep cnt f.chs.length
  few : cnt' ≤ cnt + j

section
variable {w0 wi wr : World} {m : Nat} {S : Dk} {r : MDRep} {F F' : Nat → Prop} {K k : Nat} {ps1 : List MP} {cnt : Nat} {f : Fl} {q : MRep}

theorem MDieAt.file (D : MDieAt w0 wi m S r F K k ps1 cnt F') (hk : r.ps[k]? = some (f, q)) : IsMF wi.heap F' f q := D.model.files (f, q) (by simp [drop_at hk])

theorem MDieAt.close {cnt' : Nat} {vs' : Value} {acc : Bs} (D : MDieAt w0 wi m S r F K k ps1 cnt F') (hfit : r.ps.map Prod.fst = S.files) (hk : r.ps[k]? = some (f, q)) (hfew : f.chs.length ≤ K)
    (I : MDieIn wi wr S.plan.keep f cnt f.chs.length cnt' vs' acc) {g : Nat} (hg : r.vf.ownBlock = some g) {W : World} (hW : W = (wr.setCell ⟨g, k * 3 + 1, none⟩ vs').setCell ⟨g, k * 3 + 2, none⟩ (.slice none 0 0)) :
    MDieAt w0 W m S r F K (k + 1) (ps1 ++ [({ f with safe := acc, chs := [] }, ⟨vs', .slice none 0 0, []⟩)]) cnt' (fun b => F' b ∨ (wi.heap.size ≤ b ∧ b < W.heap.size)) := by
  have hF := D.file hk
  have hps : ps1 ++ r.ps.drop k = ps1 ++ (f, q) :: r.ps.drop (k + 1) := by rw [drop_at hk]
  have hfk : S.files[k]? = some f := by rw [← hfit, List.getElem?_map, hk]; rfl
  have hsd : S.files.drop k = f :: S.files.drop (k + 1) := drop_at hfk
  obtain ⟨hgF, tg⟩ := D.model.tagF hg
  have hgF : F' g := hgF
  have tg : Tag wi.heap g 75 := tg
  have hst : Fr (fun b => b = g) wr W := by rw [hW]; exact (Fr.store wr g (k * 3 + 1) vs').setCell (fun _ => rfl) _
  have hall : Fr (fun b => b = g) wi W := (Old.fr I.fr).trans' hst
  have hgl := D.model.lt g hgF
  have hs : SlT 5 u8 W.heap (fun b => F' b ∨ wi.heap.size ≤ b) vs' acc := (I.safe.fr hst fun b h e => by omega).mono fun b h => .inr h
  have hnum := I.num
  simp only [Nat.sub_self] at hnum
  have hn0 : ∀ c, keepOn S.plan.keep c 0 = c := fun c => by unfold keepOn; split <;> rfl
  rw [hn0] at hnum
  have hfits := I.fits
  simp only [List.drop_length, dieChs] at hfits
  have hrow0 := D.model.row
  simp only [] at hrow0
  have hrow1 := hrow0.kept (h' := wr.heap) fun b e hb hl => I.fr.block b hl fun f => f
  have hrow2 := (hrow1.set hg (j := k * 3 + 1) vs').set (w := wr.setCell ⟨g, k * 3 + 1, none⟩ vs') hg (j := k * 3 + 2) (.slice none 0 0)
  rw [← hW] at hrow2
  have hl1 := D.len1
  have hset : (((ps1 ++ r.ps.drop k).flatMap mfCells).set (k * 3 + 1) vs').set (k * 3 + 2) (.slice none 0 0) = (ps1 ++ (({ f with safe := acc, chs := [] } : Fl), (⟨vs', .slice none 0 0, []⟩ : MRep)) :: r.ps.drop (k + 1)).flatMap mfCells := by
    rw [hps]
    have h1 := flat_set (f := mfCells) mf_len (l := ps1 ++ (f, q) :: r.ps.drop (k + 1)) (i := ps1.length) (b := (f, ⟨vs', q.vc, q.cs⟩)) (j := 1) (u := vs') (mid_at _ _ _) (by omega) rfl
    rw [set_mid, hl1] at h1
    rw [h1]
    have h2 := flat_set (f := mfCells) mf_len (l := ps1 ++ (f, (⟨vs', q.vc, q.cs⟩ : MRep)) :: r.ps.drop (k + 1)) (i := ps1.length) (b := (({ f with safe := acc, chs := [] } : Fl), (⟨vs', .slice none 0 0, []⟩ : MRep))) (j := 2) (u := .slice none 0 0) (mid_at _ _ _) (by omega) rfl
    rw [set_mid, hl1] at h2
    exact h2
  rw [hset] at hrow2
  exact {
    model := by
      have := D.model.redo (r := { r with ps := ps1 ++ r.ps.drop k }) (w' := W) (f' := { f with safe := acc, chs := [] }) (q' := ⟨vs', .slice none 0 0, []⟩) hps hall.size
        (fun b hb h1 _ => hall.block b (D.model.lt b hb) fun e => h1 (by rw [e]; exact hg)) (hrow2.mono fun b _ h => .inl h) ?_ (fun b e => by simp [Value.ownBlock] at e)
      · have hd2 : (r.ps.drop (k + 1)).map Prod.fst = S.files.drop (k + 1) := by rw [← hfit, List.map_drop]
        rw [hd2] at this
        simpa using this
      · exact ⟨rfl, hs, OwnRow.nil, fun p hp => by cases hp⟩
    len1 := by simp [hl1]
    own := fun b hb => by
      rcases hb with hb | hb
      · exact D.own b hb
      · have := D.fr.size; exact .inr (by omega)
    fr := D.fr.trans hall fun b hb e => by
      subst e
      exact (D.own _ hgF).resolve_right (by omega)
    fits := by
      rw [← D.fits, hsd, List.map_append, List.append_assoc]
      simp only [dieFiles, List.map_cons, List.map_nil, List.singleton_append]
      rw [← hfits, hnum]
    few := by
      have := I.few
      have := D.few
      rw [Nat.add_mul]
      omega
    base := D.base }
end
end Go.Proofs.Ytpdflncgemcniaa
