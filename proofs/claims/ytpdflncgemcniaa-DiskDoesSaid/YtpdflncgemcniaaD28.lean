/- PROVED HERE: the contract of awake: chapter 1's first example. PROVED HERE: twin once more: the twin of Keep is a row that may be written. No conditions beyond the premises that each theorem names. -/
import Derived.Test.YtpdflncgemcniaaD27
import Derived.Lib.SlBytesConst
namespace Go.Proofs.Ytpdflncgemcniaa
open Go.RowKit

def pA : Pl := ⟨4, [2], [], [], 0⟩
def pZ : Pl := ⟨0, [], [], [], 0⟩
def dA0 : Dk := newDk pA
def dA1 : Dk := ⟨pA, 1, false, [⟨[97], [], []⟩]⟩
def dA2 : Dk := ⟨pA, 2, false, [⟨[97], [], [.write 0 [97, 98, 99]]⟩]⟩
def dA3 : Dk := ⟨pA, 3, false, [⟨[97], [], [.write 0 [97, 98, 99]]⟩]⟩
def dA4 : Dk := ⟨pA, 4, true, [⟨[97], [97, 98], []⟩]⟩
def dA5 : Dk := ⟨pZ, 0, false, [⟨[97], [97, 98], []⟩]⟩

theorem eA1 : create dA0 [97] = (0, dA1) := by kernel_rfl
theorem eA2 : onFile dA1 [97] (appendK [97, 98, 99]) = (0, dA2) := by kernel_rfl
theorem eA3 : onFile dA2 [98] syncK = (13, dA3) := by kernel_rfl
theorem eA4 : onFile dA3 [97] (appendK [100, 101]) = (10, dA4) := by kernel_rfl
theorem eA5 : start dA4 pZ = dA5 := by kernel_rfl
theorem eA6 : readF dA5 [97] 0 2 = ([97, 98], 0) := by kernel_rfl
theorem eA7 : liveOf dA5 = [([97], [97, 98])] := by kernel_rfl

theorem okPA : PlOk pA := ⟨by decide, by decide, by decide, by intro x hx; simp [pA] at hx; omega⟩
theorem okPZ : PlOk pZ := ⟨by decide, by decide, by decide, by intro x hx; simp [pZ] at hx⟩

theorem wfA0 : Wf dA0 0 := ⟨okPA, Nat.le_refl _, Nat.le_refl _, List.Pairwise.nil, fun f hf => by cases hf⟩
theorem wfA1 : Wf dA1 1 := ⟨okPA, Nat.le_refl _, Nat.le_refl _, List.pairwise_singleton _ _, fun f hf => by simp [dA1] at hf; subst hf; exact ⟨by decide, by decide, by decide, by simp⟩⟩
theorem wfA2 : Wf dA2 2 := ⟨okPA, Nat.le_refl _, by decide, List.pairwise_singleton _ _, fun f hf => by simp [dA2] at hf; subst hf; exact ⟨by decide, by decide, by decide, by simp [ChOk]⟩⟩
theorem wfA3 : Wf dA3 3 := ⟨okPA, Nat.le_refl _, by decide, List.pairwise_singleton _ _, fun f hf => by simp [dA3] at hf; subst hf; exact ⟨by decide, by decide, by decide, by simp [ChOk]⟩⟩
theorem wfA4 : Wf dA4 4 := ⟨okPA, Nat.le_refl _, by decide, List.pairwise_singleton _ _, fun f hf => by simp [dA4] at hf; subst hf; exact ⟨by decide, by decide, by decide, by simp⟩⟩
theorem wfA5 : Wf dA5 4 := ⟨okPZ, by decide, by decide, List.pairwise_singleton _ _, fun f hf => by simp [dA5] at hf; subst hf; exact ⟨by decide, by decide, by decide, by simp⟩⟩

theorem step_on {w w1 w2 : World} {F F' : Nat → Prop} (hB : Below w.heap.size w w1) (hF : ∀ b, F b → w.heap.size ≤ b) (hs : Step F F' w1 w2) : Below w.heap.size w w2 ∧ ∀ b, F' b → w.heap.size ≤ b :=
  ⟨hB.trans (hs.fr.to_below hB.size hF), fun b hb => by
    rcases hs.own b hb with h | h
    · exact hF b h
    · exact Nat.le_trans hB.size h⟩

theorem sl_new {w : World} (l : Bs) (z : Nat × Nat) : SlAt u8 (w.alloc (.cells (l.map u8).toArray 5 z)).heap (fun b => b = w.heap.size) (.slice (some ⟨w.heap.size, 0, none⟩) l.length l.length) l :=
  .inr ⟨_, 0, _, rfl, Nat.le_refl _, rfl, fun i x hi => by
    simp only [cel, heap_new, Nat.zero_add]
    simp [hi]⟩

def AwakePost (w : World) (e : Ending) (w' : World) : Prop := e = .returned (.bool true) ∧ Below w.heap.size w w'

set_option maxHeartbeats 4000000 in
set_option maxRecDepth 100000 in
theorem awake4 (w : World) : Calls Try.prog 4 #[] w (AwakePost w) := by
  have o0 : Old w (w.alloc (.cells #[.int .i64 2] 3)) := (Fr.refl _ _).alloc _
  have hp0 : IsPlan (w.alloc (.cells #[.int .i64 2] 3)).heap (fun b => b = w.heap.size) (.slice (some ⟨w.heap.size, 0, none⟩) 1 1) (.slice none 0 0) (.slice none 0 0) pA :=
    ⟨.inr ⟨_, 0, 1, rfl, Nat.le_refl _, rfl, fun i x hi => by
      have h0 : i < [(2 : Int)].length := (List.getElem?_eq_some_iff.1 hi).1
      have h1 : i = 0 := by simp at h0; exact h0
      subst h1
      rw [cel_new]
      have h2 : (2 : Int) = x := by simpa [pA] using hi
      subst h2
      rfl⟩, SlAt.nil, SlAt.nil⟩
  have hnew := new7 _ pA okPA _ _ _ _ hp0
  have HB0 := Lib.hid (o0.to_below (B := w.heap.size) (Nat.le_refl _) fun _ f => f.elim)
  have HZ := Lib.hid (show (w.alloc (.cells #[.int .i64 2] 3)).heap.size = w.heap.size + 1 by simp)
  change Calls Try.prog 7 #[.agg #[.int .i64 4, .slice (some ⟨w.heap.size, 0, none⟩) 1 1, .slice none 0 0, .slice none 0 0, .int .i64 0]] _ _ at hnew
  have hci := fun (w : World) (C : Array Value) (n c : Nat) => Lib.run_convert_bytes_const (P := Try.prog) w 33 5 C n c Try.underlying33 Try.elem5
  clear o0 hp0
  go_enter Try.func4, Try.ntmps4
  go_wp2_with (first
    | (go_at_call 7; refine hnew.mono ?_; clear hnew; rintro e w1 ⟨d, r, F, rfl, hd, hF, ho⟩
       have HD := Lib.hid (show IsDisk w1.heap d dA0 r F from hd)
       have HB := Lib.hid (HB0.out.old ho)
       have HF := Lib.hid (show ∀ b, F b → w.heap.size ≤ b from fun b hb => by have := hF b hb; have := HZ.out; omega)
       have hcr := create15 HD.out wfA0 (by omega) ⟨#[97]⟩ (by decide)
       rw [show (⟨#[97]⟩ : ByteArray).data.toList = [97] from rfl, eA1] at hcr
       clear hd hF ho)
    | (go_at_call 15; refine hcr.mono ?_; clear hcr; rintro e w2 ⟨rfl, r2, F2, hd2, hs2⟩
       have HB2 := Lib.hid (step_on HB.out HF.out hs2)
       have oS : Old w2 (w2.alloc (.cells ([97, 98, 99].map u8).toArray 5 (3, 4))) := (Fr.refl _ _).alloc _
       have hA1 := append16 (hd2.fr oS fun _ _ f => f) wfA1 (by omega) ⟨#[97]⟩ (by decide) _ _ _ (sl_new (w := w2) [97, 98, 99] (3, 4)) (fun x h1 h2 => by have := hd2.lt x h2; omega) (by decide)
       rw [show (⟨#[97]⟩ : ByteArray).data.toList = [97] from rfl, eA2] at hA1
       have HBS := Lib.hid (HB2.out.1.old oS)
       clear hd2 hs2 oS)
    | (go_at_call 16; refine hA1.mono ?_; clear hA1; rintro e w3 ⟨rfl, r3, F3, hd3, hs3⟩
       have HB3 := Lib.hid (step_on HBS.out HB2.out.2 hs3)
       have hsy := sync17 hd3 wfA2 (by omega) ⟨#[98]⟩ (by decide)
       rw [show (⟨#[98]⟩ : ByteArray).data.toList = [98] from rfl, eA3] at hsy
       clear hd3 hs3)
    | (go_at_call 17; refine hsy.mono ?_; clear hsy; rintro e w4 ⟨rfl, r4, F4, hd4, hs4⟩
       have HB4 := Lib.hid (step_on HB3.out.1 HB3.out.2 hs4)
       have oS2 : Old w4 (w4.alloc (.cells ([100, 101].map u8).toArray 5 (2, 3))) := (Fr.refl _ _).alloc _
       have hA2 := append16 (hd4.fr oS2 fun _ _ f => f) wfA3 (by omega) ⟨#[97]⟩ (by decide) _ _ _ (sl_new (w := w4) [100, 101] (2, 3)) (fun x h1 h2 => by have := hd4.lt x h2; omega) (by decide)
       rw [show (⟨#[97]⟩ : ByteArray).data.toList = [97] from rfl, eA4] at hA2
       have HBS2 := Lib.hid (HB4.out.1.old oS2)
       clear hd4 hs4 oS2)
    | (go_at_call 16; refine hA2.mono ?_; clear hA2; rintro e w5 ⟨rfl, r5, F5, hd5, hs5⟩
       have HB5 := Lib.hid (step_on HBS2.out HB4.out.2 hs5)
       have hdd := dead18 hd5
       have hoo := ops11 hd5
       have hstt := start19 hd5 wfA4 (by omega) pZ okPZ (fun _ => False) (.slice none 0 0) (.slice none 0 0) (.slice none 0 0) ⟨SlAt.nil, SlAt.nil, SlAt.nil⟩ (fun _ f => f.elim)
       rw [eA5] at hstt
       change Calls Try.prog 19 #[_, .agg #[.int .i64 0, .slice none 0 0, .slice none 0 0, .slice none 0 0, .int .i64 0]] _ _ at hstt
       change Calls Try.prog 18 _ _ (fun e w' => e = .returned (.bool true) ∧ _) at hdd
       change Calls Try.prog 11 _ _ (fun e w' => e = .returned (.int .i64 4) ∧ _) at hoo
       clear hd5 hs5)
    | (go_at_call 18; refine hdd.mono ?_; rintro e w' ⟨rfl, rfl⟩)
    | (go_at_call 11; refine hoo.mono ?_; rintro e w' ⟨rfl, rfl⟩)
    | (go_at_call 19; refine hstt.mono ?_; clear hstt; rintro e w6 ⟨rfl, r6, F6, hd6, hs6⟩
       have HB6 := Lib.hid (step_on HB5.out.1 HB5.out.2 hs6)
       have hrr := read12 hd6 wfA5 ⟨#[97]⟩ (by decide) 0 2 (by omega) (by omega)
       rw [show (⟨#[97]⟩ : ByteArray).data.toList = [97] from rfl, eA6] at hrr
       have HD6 := Lib.hid hd6
       clear hd6 hs6)
    | (go_at_call 12; refine hrr.mono ?_; clear hrr; rintro e w7 ⟨v7, rfl, hs7, ho7⟩
       have hs7' : SlT 5 u8 w7.heap (fun x => w6.heap.size ≤ x) v7 [97, 98] := hs7
       obtain ⟨a7, c7, e7, _, _⟩ := hs7'.shape
       subst e7
       have hcv : (convert 33 9 (.slice a7 2 c7)).run Try.prog w7 = .ok (.string ⟨#[97, 98]⟩) w7 := conv_str hs7'.at
       have hfi : Calls Try.prog 20 #[.pointer (some ⟨d, 0, none⟩)] w7 (ToldPost w7 (liveOf dA5)) := files20 (HD6.out.fr ho7 fun _ _ f => f) wfA5 (by omega)
       rw [eA7] at hfi
       have HB7 := Lib.hid (HB6.out.1.old ho7)
       clear hs7 hs7' ho7)
    | (go_at_call 20; refine hfi.mono ?_; clear hfi; rintro e w8 ⟨v8, rfl, hf8, ho8⟩
       obtain ⟨a8, c8, e8, _⟩ := hf8.shape
       subst e8
       have HB8 := Lib.hid (HB7.out.old ho8)
       clear hf8 ho8))
  go_ret
  exact ⟨rfl, HB8.out⟩
end Go.Proofs.Ytpdflncgemcniaa
namespace Go.Proofs.Ytpdflncgemcniaa
open Go.RowKit

def PlanRow (w : World) (cr ro : Int) (lk lf lu : List Int) (e : Ending) (w' : World) : Prop :=
  ∃ k' f' u', e = .returned (.agg #[.int .i64 cr, k', f', u', .int .i64 ro]) ∧
      OwnRow w'.heap (fun b => w.heap.size ≤ b) 3 1 k' lk.length (lk.map iv) ∧ SlT 3 iv w'.heap (fun b => w.heap.size ≤ b) f' lf ∧ SlT 3 iv w'.heap (fun b => w.heap.size ≤ b) u' lu ∧ Old w w'

theorem OwnRow.fr {w w' : World} {F G : Nat → Prop} {e : TypeId} {size n : Nat} {v : Value} {xs : List Value} (s : OwnRow w.heap F e size v n xs) (hf : Fr G w w') (hd : ∀ b, F b → G b → False) : OwnRow w'.heap F e size v n xs :=
  s.kept fun b _ hb hl => hf.block b hl (hd b hb)
theorem OwnRow.mono0 {h : Array Obj} {F G : Nat → Prop} {e : TypeId} {size n : Nat} {v : Value} {xs : List Value} (s : OwnRow h F e size v n xs) (hF : ∀ x, F x → G x) : OwnRow h G e size v n xs := s.mono fun x _ h => hF x h

set_option maxRecDepth 100000 in
set_option maxHeartbeats 2000000 in
theorem twin6w (w : World) (F : Nat → Prop) (cr ro : Int) (k f u : Value) (lk lf lu : List Int) (hk : SlR iv w.heap F k lk) (hf : SlR iv w.heap F f lf) (hu : SlR iv w.heap F u lu)
    (bk : lk.length ≤ 17592186044416) (bf : lf.length ≤ 17592186044416) (bu : lu.length ≤ 17592186044416) (hFs : ∀ b, F b → b < w.heap.size) :
    Calls Try.prog 6 #[.agg #[.int .i64 cr, k, f, u, .int .i64 ro]] w (PlanRow w cr ro lk lf lu) := by
  obtain ⟨ak, ck, rfl, _, _⟩ := hk.shape
  obtain ⟨af, cf, rfl, _, _⟩ := hf.shape
  obtain ⟨au, cu, rfl, _, _⟩ := hu.shape
  have o0 : Old w ((w.alloc (Obj.cells #[.int .i64 cr, .slice ak lk.length ck, .slice af lf.length cf, .slice au lu.length cu, .int .i64 ro] 24)).alloc (Obj.cells #[.int .i64 0, .slice none 0 0, .slice none 0 0, .slice none 0 0, .int .i64 0] 24)) := ((Fr.refl _ _).alloc _).alloc _
  have hk0 := (hk.fr o0 fun _ _ f => f).row
  have hf0 := hf.fr o0 fun _ _ f => f
  have hu0 := hu.fr o0 fun _ _ f => f
  have hb1 : Blk ((w.alloc (Obj.cells #[.int .i64 cr, .slice ak lk.length ck, .slice af lf.length cf, .slice au lu.length cu, .int .i64 ro] 24)).alloc (Obj.cells #[.int .i64 0, .slice none 0 0, .slice none 0 0, .slice none 0 0, .int .i64 0] 24)).heap w.heap.size _ 24 := blk_old (blk_new w #[.int .i64 cr, .slice ak lk.length ck, .slice af lf.length cf, .slice au lu.length cu, .int .i64 ro] 24) _
  have hb2 := blk_new (w.alloc (Obj.cells #[.int .i64 cr, .slice ak lk.length ck, .slice af lf.length cf, .slice au lu.length cu, .int .i64 ro] 24)) #[.int .i64 0, .slice none 0 0, .slice none 0 0, .slice none 0 0, .int .i64 0] 24
  rw [World.size_alloc] at hb2
  go_enter Try.func6, Try.ntmps6
  go_wp2_with (at_builtin; refine wpList_appR rfl (.const (.slice none 0 0)) (.tmp 4) 22 rfl 3 (.int .i64 0) 1 8 Try.underlying22 Try.info3 rfl (by decide) (fun b => w.heap.size ≤ b) _ 0 [] rfl OwnRow.nil _ lk.length (lk.map iv) rfl hk0 (iv_one lk) ?h63 ?hby ?_)
  case h63 => unfold maxLen; omega
  case hby => omega
  intro v1 w1 hown1 hfr1 _
  have s1 := hown1
  clear hown1
  have n1 := hfr1.mono (G := fun _ => False) fun x hx h => by simp [Value.ownBlock] at h
  clear hfr1
  obtain ⟨a1, c1, e1, _, _⟩ := s1.slice
  subst e1
  have hB1 := hb1.fr n1 fun f => f
  have hB2 := hb2.fr n1 fun f => f
  have hz1 := hB2.lt
  have o1 := o0.trans' n1
  have hf1 := hf0.fr n1 fun _ _ f => f
  have hu1 := hu0.fr n1 fun _ _ f => f
  clear o0 hf0 hu0 hb1 hb2 n1 hk0
  have t1 := Fr.store w1 w.heap.size 1 (.slice a1 lk.length c1)
  have hx1 := hB1.rules
  have hf2 := (hf1.fr t1 fun b h1 h2 => by have := hFs b h1; omega).row
  have hu2 := hu1.fr t1 fun b h1 h2 => by have := hFs b h1; omega
  have s1' := s1.fr t1 fun b h1 h2 => by simp [Value.ownBlock] at h1; omega
  have hC1 := hB1.set 1 (.slice a1 lk.length c1)
  have hC2 := hB2.fr t1 (by omega)
  have p1 : Old w (w1.setCell ⟨w.heap.size, 1, none⟩ (.slice a1 lk.length c1)) := o1.setCell (fun h => absurd h (Nat.lt_irrefl _)) _
  simp only [Value.ownBlock] at s1'
  clear s1 o1 hf1 hu1 t1 hB1 hB2
  obtain ⟨r1, r2⟩ := hx1
  go_wp2_with (at_builtin; refine wpList_appR rfl (.const (.slice none 0 0)) (.tmp 8) 22 rfl 3 (.int .i64 0) 1 8 Try.underlying22 Try.info3 rfl (by decide) (fun b => w.heap.size ≤ b) _ 0 [] rfl OwnRow.nil _ lf.length (lf.map iv) rfl hf2 (iv_one lf) (by unfold maxLen; omega) (by omega) ?_)
  intro v2 w2 hown2 hfr2 _
  have hz2 : w.heap.size + 1 < w2.heap.size := by have := hfr2.size; simp at this; omega
  have s2 := hown2.slT.mono (G := fun b => w.heap.size + 2 ≤ b) fun b h => by simp [Value.ownBlock] at h; omega
  have n2 := hfr2.mono (G := fun _ => False) fun x hx h => by simp [Value.ownBlock] at h
  clear hown2 hfr2
  obtain ⟨a2, c2, e2, _, _⟩ := s2.shape
  subst e2
  have hB1 := hC1.fr n2 fun f => f
  have hB2 := hC2.fr n2 fun f => f
  simp at hB1
  have o2 := p1.trans' n2
  have hu3 := hu2.fr n2 fun _ _ f => f
  have s1'' := (s1'.fr n2 fun _ _ f => f).mono0 (G := fun b => w.heap.size + 2 ≤ b) fun b h => by simp at h; omega
  clear p1 hu2 hC1 hC2 n2 s1' hf2 r1 r2
  have t2 := Fr.store w2 w.heap.size 2 (.slice a2 lf.length c2)
  have hx2 := hB1.rules
  have hu4 := (hu3.fr t2 fun b h1 h2 => by have := hFs b h1; omega).row
  have s1 := s1''.fr t2 fun b h1 h2 => by omega
  have s2' := s2.fr t2 fun b h1 h2 => by omega
  have hC1 := hB1.set 2 (.slice a2 lf.length c2)
  have hC2 := hB2.fr t2 (by omega)
  have p2 : Old w (w2.setCell ⟨w.heap.size, 2, none⟩ (.slice a2 lf.length c2)) := o2.setCell (fun h => absurd h (Nat.lt_irrefl _)) _
  clear s1'' s2 o2 hu3 t2 hB1 hB2
  obtain ⟨r1, r2⟩ := hx2
  go_wp2_with (at_builtin; refine wpList_appR rfl (.const (.slice none 0 0)) (.tmp 12) 22 rfl 3 (.int .i64 0) 1 8 Try.underlying22 Try.info3 rfl (by decide) (fun b => w.heap.size ≤ b) _ 0 [] rfl OwnRow.nil _ lu.length (lu.map iv) rfl hu4 (iv_one lu) (by unfold maxLen; omega) (by omega) ?_)
  intro v3 w3 hown3 hfr3 _
  have hz3 : w.heap.size + 1 < w3.heap.size := by have := hfr3.size; simp at this; omega
  have s3 := hown3.slT.mono (G := fun b => w.heap.size + 2 ≤ b) fun b h => by simp [Value.ownBlock] at h; omega
  have n3 := hfr3.mono (G := fun _ => False) fun x hx h => by simp [Value.ownBlock] at h
  clear hown3 hfr3
  obtain ⟨a3, c3, e3, _, _⟩ := s3.shape
  subst e3
  have hB1 := hC1.fr n3 fun f => f
  have hB2 := hC2.fr n3 fun f => f
  simp at hB1
  have o3 := p2.trans' n3
  have s1' := s1.fr n3 fun _ _ f => f
  have s2'' := s2'.fr n3 fun _ _ f => f
  clear p2 hC1 hC2 n3 s1 s2' hu4 r1 r2
  have hx3 := hB1.rules
  have hy3 := hB2.rules
  obtain ⟨r1, r2⟩ := hx3
  obtain ⟨u1, u2⟩ := hy3
  clear hB1 hB2
  go_wp2
  refine bodyPost_ret (v := .agg #[.int .i64 cr, .slice a1 lk.length c1, .slice a2 lf.length c2, .slice a3 lu.length c3, .int .i64 ro]) (by simp [results, Try.results6, go_sem, u1]) rfl ?_
  have g0 := (((((((Fr.refl (fun b => b = w.heap.size ∨ b = w.heap.size + 1) w3).setCell (p := ⟨w.heap.size, 3, none⟩) (fun _ => .inl rfl) (.slice a3 lu.length c3))).setCell (p := ⟨w.heap.size + 1, 0, none⟩) (fun _ => .inr rfl) (.int .i64 cr)).setCell (p := ⟨w.heap.size + 1, 1, none⟩) (fun _ => .inr rfl) (.slice a1 lk.length c1)).setCell (p := ⟨w.heap.size + 1, 2, none⟩) (fun _ => .inr rfl) (.slice a2 lf.length c2)).setCell (p := ⟨w.heap.size + 1, 3, none⟩) (fun _ => .inr rfl) (.slice a3 lu.length c3)).setCell (p := ⟨w.heap.size + 1, 4, none⟩) (fun _ => .inr rfl) (.int .i64 ro)
  exact ⟨_, _, _, rfl, (s1'.fr g0 fun b h1 h2 => by omega).mono0 fun b h => by omega, (s2''.fr g0 fun b h1 h2 => by omega).mono fun b h => by omega, (s3.fr g0 fun b h1 h2 => by omega).mono fun b h => by omega, o3.trans g0 fun b h1 h2 => by omega⟩

end Go.Proofs.Ytpdflncgemcniaa
