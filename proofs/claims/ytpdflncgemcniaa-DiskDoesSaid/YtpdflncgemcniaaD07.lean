/- PROVED HERE: the contracts of what survives of a change, and of a cut done to data. PROVED HERE: the contract of doing a change to a file. No conditions beyond the premises that each theorem names. -/
import Derived.Test.YtpdflncgemcniaaD06
import Derived.BigQuiet
import Derived.Deep.QuietTactic
namespace Go.Proofs.Ytpdflncgemcniaa
open Go.RowKit

/-- A change, or none, as an interface value. -/
def RawOf (h : Array Obj) (F : Nat → Prop) (raw : Value) : Option Ch → Prop
  | none => raw = .nilIface
  | some c => IsCh h F raw c

def Surv (w : World) (F : Nat → Prop) (c : Option Ch) (e : Ending) (w' : World) : Prop := ∃ raw, e = .returned raw ∧ RawOf w'.heap F raw c ∧ Old w w'

theorem OldSl {α : Type} {T : TypeId} {enc : α → Value} {w w' : World} {F : Nat → Prop} {v : Value} {l : List α} (s : SlT T enc w.heap F v l) (o : Old w w') : SlT T enc w'.heap F v l := s.fr o fun _ _ f => f

set_option maxHeartbeats 2000000 in
set_option maxRecDepth 100000 in
theorem wsurv114 (w : World) (F : Nat → Prop) (vb : Value) (b : Bs) (pos : Nat) (k : Int) (hb : SlT 5 u8 w.heap F vb b) (hp : pos + b.length ≤ 268435456) (hk : -9223372036854775808 ≤ k ∧ k < 9223372036854775808) :
    Calls Try.prog 114 #[.agg #[.int .i64 pos, vb], .int .i64 k] w (Surv w F (survivor k (.write pos b))) := by
  obtain ⟨a, c, e, hc, _⟩ := hb.shape
  subst e
  have HB := Lib.hid hb
  have o0 : Old w (w.alloc (.cells #[.int .i64 pos, .slice a b.length c] 91)) := (Fr.refl _ _).alloc _
  have HO := Lib.hid o0
  clear hb o0
  by_cases hneg : k < 0
  · have F1 := Lib.hid (show survivor k (.write pos b) = some (.write pos b) by simp only [survivor, if_pos hneg])
    go_enter Try.func114, Try.ntmps114
    go_wp2
    go_ret
    rw [F1.out]
    exact ⟨_, rfl, ⟨_, rfl, OldSl HB.out HO.out⟩, HO.out⟩
  · obtain ⟨kn, rfl⟩ := Int.eq_ofNat_of_zero_le (show 0 ≤ k by omega)
    have hm : ((kn : Int) % ((b.length : Int) + 1)) = ((kn % (b.length + 1) : Nat) : Int) := by simp
    have hlt : kn % (b.length + 1) < b.length + 1 := Nat.mod_lt _ (by omega)
    have F1 := Lib.hid (show survivor kn (.write pos b) = if kn % (b.length + 1) = 0 then none else some (.write pos (b.take (kn % (b.length + 1)))) by simp only [survivor, if_neg hneg, Int.toNat_natCast])
    by_cases hz : kn % (b.length + 1) = 0
    · have hz' : ((kn : Int) % ((b.length : Int) + 1) == 0) = true := by rw [hm, hz]; rfl
      rw [if_pos hz] at F1
      clear hz hm hlt
      go_enter Try.func114, Try.ntmps114
      go_wp2
      go_ret
      rw [F1.out]
      exact ⟨_, rfl, rfl, HO.out⟩
    · have hz' : ((kn : Int) % ((b.length : Int) + 1) == 0) = false := by rw [hm]; simp; omega
      rw [if_neg hz] at F1
      have hq0 : 0 < kn % (b.length + 1) := by omega
      generalize hq : kn % (b.length + 1) = q at *
      have HM := Lib.hid hm
      clear hm hq
      have hc0 : ¬ c = 0 := by omega
      have hqc : (q : Int) ≤ c := by omega
      have hpart := HB.out.part (lo := 0) (hi := q) (Nat.zero_le _) (by omega)
      rw [if_neg hc0] at hpart
      simp only [Nat.zero_mul, Nat.sub_zero, List.drop_zero] at hpart
      rw [show Option.map (fun x => Addr.add x 0) a = a by cases a <;> simp [Addr.add]] at hpart
      have HP := Lib.hid hpart
      clear hpart
      go_enter Try.func114, Try.ntmps114
      go_wp2
      rw [HM.out]
      go_quiet (fail)
      go_wp2
      go_ret
      rw [F1.out]
      exact ⟨_, rfl, ⟨_, rfl, OldSl HP.out (HO.out.drewN _)⟩, HO.out.drewN _⟩

set_option maxHeartbeats 2000000 in
set_option maxRecDepth 100000 in
theorem capply116 (w : World) (F : Nat → Prop) (v : Value) (l : Bs) (long : Nat) (hs : SlAt u8 w.heap F v l) (hl : long ≤ 268435456) :
    Calls Try.prog 116 #[.agg #[.int .i64 long], v] w (Fresh w (applyCh l (.cut long))) := by
  have o0 : Old w (w.alloc (.cells #[.int .i64 long] 96)) := (Fr.refl _ _).alloc _
  have hsz := sized115 _ F _ l long (hs.fr o0 fun _ _ f => f) hl
  clear hs
  have HO := Lib.hid o0
  clear o0
  go_enter Try.func116, Try.ntmps116
  go_wp2_with (go_at_call 115; refine hsz.mono ?_; rintro e w1 ⟨g, rfl, hg1, hg2, ho⟩)
  go_ret
  exact ⟨g, rfl, by rw [World.size_alloc] at hg1; omega, hg2, HO.out.trans' ho⟩

set_option maxHeartbeats 2000000 in
set_option maxRecDepth 100000 in
theorem csurv117 (w : World) (F : Nat → Prop) (long : Nat) (k : Int) (hk : -9223372036854775808 ≤ k ∧ k < 9223372036854775808) :
    Calls Try.prog 117 #[.agg #[.int .i64 long], .int .i64 k] w (Surv w F (survivor k (.cut long))) := by
  have o0 : Old w (w.alloc (.cells #[.int .i64 long] 96)) := (Fr.refl _ _).alloc _
  have HO := Lib.hid o0
  clear o0
  by_cases hneg : k < 0
  · have F1 := Lib.hid (show survivor k (.cut long) = some (.cut long) by simp only [survivor]; rw [if_pos (.inl hneg)])
    go_enter Try.func117, Try.ntmps117
    go_wp2
    go_ret
    rw [F1.out]
    exact ⟨_, rfl, rfl, HO.out⟩
  · by_cases h1 : k % 2 = 1
    · have F1 := Lib.hid (show survivor k (.cut long) = some (.cut long) by simp only [survivor]; rw [if_pos (.inr h1)])
      have hm : (k % 2 == 1) = true := by simp [h1]
      clear h1
      go_enter Try.func117, Try.ntmps117
      go_wp2
      go_ret
      rw [F1.out]
      exact ⟨_, rfl, rfl, HO.out⟩
    · have F1 := Lib.hid (show survivor k (.cut long) = none by simp only [survivor]; rw [if_neg (by omega)])
      have hm : (k % 2 == 1) = false := by simp; omega
      clear h1
      go_enter Try.func117, Try.ntmps117
      go_wp2
      go_ret
      rw [F1.out]
      exact ⟨_, rfl, rfl, HO.out⟩
end Go.Proofs.Ytpdflncgemcniaa
namespace Go.Proofs.Ytpdflncgemcniaa
open Go.RowKit

theorem Try.info107 : (Try.prog.info? 107).map (fun i => (i.zero, i.size, i.bytes)) = some (some .nilIface, 1, 16) := by kernel_rfl

theorem ap91 (x : Value) (w : World) : (method 262 91 x "cairn/disk.apply").run Try.prog w = Result.ok (113, x) w := by kernel_rfl
theorem ap96 (x : Value) (w : World) : (method 262 96 x "cairn/disk.apply").run Try.prog w = Result.ok (116, x) w := by kernel_rfl
theorem sv91 (x : Value) (w : World) : (method 262 91 x "cairn/disk.survivor").run Try.prog w = Result.ok (114, x) w := by kernel_rfl
theorem sv96 (x : Value) (w : World) : (method 262 96 x "cairn/disk.survivor").run Try.prog w = Result.ok (117, x) w := by kernel_rfl
theorem na91 (x : Value) (w : World) : (nilAhead 262 91 x "cairn/disk.apply").run Try.prog w = Result.ok (some false) w := by kernel_rfl
theorem na96 (x : Value) (w : World) : (nilAhead 262 96 x "cairn/disk.apply").run Try.prog w = Result.ok (some false) w := by kernel_rfl
theorem ns91 (x : Value) (w : World) : (nilAhead 262 91 x "cairn/disk.survivor").run Try.prog w = Result.ok (some false) w := by kernel_rfl
theorem ns96 (x : Value) (w : World) : (nilAhead 262 96 x "cairn/disk.survivor").run Try.prog w = Result.ok (some false) w := by kernel_rfl

theorem cel_new (w : World) (c : Array Value) (T j : Nat) : cel (w.alloc (.cells c T)).heap w.heap.size j = c[j]? := by simp only [cel, heap_new]

theorem dataOf_push (f : Fl) (c : Ch) : dataOf { f with chs := f.chs ++ [c] } = applyCh (dataOf f) c := by
  simp [dataOf, List.foldl_append]

theorem Fresh.sl {w w' : World} {b : Bs} {e : Ending} (h : Fresh w b e w') : ∃ v, e = .returned v ∧ SlT 5 u8 w'.heap (fun x => w.heap.size ≤ x) v b ∧ Old w w' ∧ (∃ a n c, v = .slice a n c) := by
  obtain ⟨g, rfl, h1, h2, h3⟩ := h
  exact ⟨_, rfl, h2.slT h1, h3, _, _, _, rfl⟩

/-- What doing a change to a file comes to. -/
def DidCh (w : World) (F : Nat → Prop) (f : Fl) (q : FRep) (c : Ch) (e : Ending) (w' : World) : Prop :=
  e = .returned (.tuple #[]) ∧ ∃ q', IsFile w'.heap (fun b => F b ∨ w.heap.size ≤ b) { f with chs := f.chs ++ [c] } q' ∧ q'.blk = q.blk ∧
    (∀ b, q'.vc.ownBlock = some b → q.vc.ownBlock = some b ∨ w.heap.size ≤ b) ∧ Fr (fun b => b = q.blk ∨ q.vc.ownBlock = some b) w w'

section
variable {w : World} {F : Nat → Prop} {f : Fl} {q : FRep}

set_option maxHeartbeats 2000000 in
set_option maxRecDepth 100000 in
theorem do66_at (h : IsFile w.heap F f q) (c : Ch) (T fn : Nat) (x : Value) (hc : IsCh w.heap F (.iface T x) c) (hn : q.cs.length ≤ 1000000) (hF : ∀ x, F x → x < w.heap.size)
    (hcf : ∀ args w, (callFunc fn args).run Try.prog w = Result.ok (Next.enter fn args) w) (hap : ∀ w, (method 262 T x "cairn/disk.apply").run Try.prog w = Result.ok (fn, x) w) (hna : ∀ w, (nilAhead 262 T x "cairn/disk.apply").run Try.prog w = Result.ok (some false) w)
    (hcall : ∀ (W : World) (v : Value), IsCh W.heap F (.iface T x) c → SlAt u8 W.heap F v (dataOf f) → (∀ x, F x → x < W.heap.size) → Calls Try.prog fn #[x, v] W (Fresh W (applyCh (dataOf f) c))) :
    Calls Try.prog 66 #[.pointer (some ⟨q.blk, 0, none⟩), .iface T x] w (DidCh w F f q c) := by
  have hlt := h.blk.lt
  have hown := h.row.kept (h' := (w.alloc (Obj.cells #[.iface T x] 107)).heap) fun b _ _ hb => heap_push _ hb
  have hblk0 := blk_old h.blk (Obj.cells #[.iface T x] 107)
  have hnow0 := h.now.fr ((Fr.refl (fun _ => False) w).alloc (Obj.cells #[.iface T x] 107)) fun _ _ f => f
  have hsafe0 := h.safe.fr ((Fr.refl (fun _ => False) w).alloc (Obj.cells #[.iface T x] 107)) fun _ _ f => f
  have hchs0 : ∀ p ∈ q.cs, IsCh (w.alloc (Obj.cells #[.iface T x] 107)).heap F p.2 p.1 := fun p hp => (h.chs p hp).kept fun b _ t => heap_push _ t.lt
  have hc0 : IsCh (w.alloc (Obj.cells #[.iface T x] 107)).heap F (.iface T x) c := hc.kept fun b _ t => heap_push _ t.lt
  have hrow : RowAt (w.alloc (Obj.cells #[.iface T x] 107)).heap 1 (.slice (some ⟨w.heap.size, 0, none⟩) 1 1) 1 [.iface T x] := by
    refine ⟨rfl, .inr ⟨w.heap.size, 0, 1, rfl, fun j u hj => ?_⟩⟩
    match j, hj with
    | 0, hj => simp at hj; subst hj; rw [cel_new]; rfl
  have hne1 : ∀ b, q.vc.ownBlock = some b → b ≠ q.blk := fun b hb e => by
    have t1 := (h.tagC hb).2
    rw [e] at t1
    exact absurd (t1.eq h.blk.tag) (by decide)
  have htag1 : ∀ b, q.vc.ownBlock = some b → Tag (w.alloc (Obj.cells #[.iface T x] 107)).heap b 107 := fun b hb => (h.tagC hb).2.kept (heap_push _ (h.tagC hb).2.lt)
  have hFc : ∀ b, q.vc.ownBlock = some b → F b := fun b hb => (h.tagC hb).1
  have hFb := h.own
  have hfits := h.fits
  obtain ⟨r1, r2⟩ := h.blk.rules
  have H := Lib.hid h
  clear h hc
  go_enter Try.func66, Try.ntmps66
  go_wp2_with (at_builtin; refine wpList_app rfl (.tmp 8) (.tmp 10) 70 rfl 107 .nilIface 1 16 Try.underlying70 Try.info107 rfl (by decide) F q.vc q.cs.length (q.cs.map Prod.snd) rfl hown _ 1 [.iface T x] rfl hrow (by intro u hu; simp at hu; subst hu; rfl) (by unfold maxLen; omega) (by omega) ?_)
  intro v1 w1 hown1 hfr1 hne
  have hz1 : w.heap.size + 1 ≤ w1.heap.size := by have := hfr1.size; simp at this; omega
  have hblk1 := hblk0.fr hfr1 fun e => hne1 _ e rfl
  have hnow1 := hnow0.frt hfr1 fun b _ t e => absurd (t.eq (htag1 b e)) (by decide)
  have hsafe1 := hsafe0.frt hfr1 fun b _ t e => absurd (t.eq (htag1 b e)) (by decide)
  have hchs1 : ∀ p ∈ q.cs, IsCh w1.heap F p.2 p.1 := fun p hp => (hchs0 p hp).kept fun b _ t => hfr1.block b t.lt fun e => absurd (t.eq (htag1 b e)) (by decide)
  have hc1 : IsCh w1.heap F (.iface T x) c := hc0.kept fun b _ t => hfr1.block b t.lt fun e => absurd (t.eq (htag1 b e)) (by decide)
  have hfr1' : Fr (fun b => b = q.blk ∨ q.vc.ownBlock = some b) w w1 := ((Fr.refl _ w).alloc _).trans hfr1 fun b _ e => .inr e
  have hv1 : ∃ g cap, v1 = .slice (some ⟨g, 0, none⟩) (q.cs.length + 1) cap ∧ (q.vc.ownBlock = some g ∨ w.heap.size + 1 ≤ g) := by
    rcases hown1.shape with ⟨rfl, _⟩ | ⟨g, cap, rfl, _, hg, _⟩
    · simp at hne
    · exact ⟨g, cap, rfl, hg⟩
  obtain ⟨g1, cap1, rfl, hg1⟩ := hv1
  have tg1 : Tag w1.heap g1 107 := by
    obtain ⟨_, cur, e⟩ := hown1.owned (b := g1) rfl
    exact ⟨cur, _, e⟩
  have hne2 : g1 ≠ q.blk := fun e => by rw [e] at tg1; exact absurd (tg1.eq hblk1.tag) (by decide)
  have hB2 := hblk1.set 1 (.slice (some ⟨g1, 0, none⟩) (q.cs.length + 1) cap1)
  have hst := Fr.store w1 q.blk 1 (.slice (some ⟨g1, 0, none⟩) (q.cs.length + 1) cap1)
  have t72 := hblk1.tag
  have hnow2 := hnow1.frt hst fun b _ t e => by subst e; exact absurd (t.eq t72) (by decide)
  have hsafe2 := hsafe1.frt hst fun b _ t e => by subst e; exact absurd (t.eq t72) (by decide)
  have hchs2 : ∀ p ∈ q.cs, IsCh (w1.setCell ⟨q.blk, 1, none⟩ (.slice (some ⟨g1, 0, none⟩) (q.cs.length + 1) cap1)).heap F p.2 p.1 := fun p hp => (hchs1 p hp).kept fun b _ t => hst.block b t.lt fun e => by subst e; exact absurd (t.eq t72) (by decide)
  have hc2 : IsCh (w1.setCell ⟨q.blk, 1, none⟩ (.slice (some ⟨g1, 0, none⟩) (q.cs.length + 1) cap1)).heap F (.iface T x) c := hc1.kept fun b _ t => hst.block b t.lt fun e => by subst e; exact absurd (t.eq t72) (by decide)
  have hown2 := hown1.kept (h' := (w1.setCell ⟨q.blk, 1, none⟩ (.slice (some ⟨g1, 0, none⟩) (q.cs.length + 1) cap1)).heap) fun b e _ hb => hst.block b hb fun e' => by simp [Value.ownBlock] at e; omega
  have hfr2 : Fr (fun b => b = q.blk ∨ q.vc.ownBlock = some b) w (w1.setCell ⟨q.blk, 1, none⟩ (.slice (some ⟨g1, 0, none⟩) (q.cs.length + 1) cap1)) := hfr1'.setCell (fun _ => .inl rfl) _
  simp at hB2
  obtain ⟨s1, s2⟩ := hblk1.rules
  have HO := Lib.hid hown2
  clear hown hblk0 hnow0 hsafe0 hchs0 hc0 hrow htag1 hown1 hfr1 hne hnow1 hsafe1 hchs1 hc1 hfr1' hblk1 hst hown2 r1 r2
  go_wp2_with fail
  generalize w1.setCell ⟨q.blk, 1, none⟩ (.slice (some ⟨g1, 0, none⟩) (q.cs.length + 1) cap1) = W at *
  have hzW : w.heap.size ≤ W.heap.size := hfr2.size
  generalize hV : Value.slice (some ⟨g1, 0, none⟩) (q.cs.length + 1) cap1 = V at *
  clear s1 s2
  refine wp_region_lits (by kernel_rfl) (by kernel_rfl) (fun L val W1 => Fr (fun b => b = q.blk) W W1 ∧
      (L 12 = false → Blk W1.heap q.blk #[q.vs, V, q.vn] 72) ∧ (L 12 = true → Blk W1.heap q.blk #[q.vs, V, val 9] 72) ∧ (L 12 = true → L 5 = true ∧ L 9 = true) ∧
      (L 9 = true → SlT 5 u8 W1.heap (fun b => W.heap.size ≤ b) (val 9) (applyCh (dataOf f) c) ∧ ∃ a n c, val 9 = .slice a n c) ∧
      (L 0 = true → val 0 = .pointer (some ⟨q.blk, 0, none⟩)) ∧ (L 1 = true → val 1 = .iface T x) ∧ (L 2 = true → val 2 = .pointer (some ⟨q.blk, 0, none⟩)) ∧ (L 3 = true → val 3 = .pointer (some ⟨q.blk, 0, none⟩)) ∧
      (L 4 = true → val 4 = .pointer (some ⟨q.blk, 2, none⟩)) ∧ (L 5 = true → val 5 = q.vn) ∧ (L 6 = true → val 6 = .func (.method "cairn/disk.apply") #[.iface T x] #[]) ∧
      (L 7 = true → val 7 = .func (.method "cairn/disk.apply") #[.iface T x] #[]) ∧ (L 8 = true → val 8 = .iface T x) ∧ (L 10 = true → val 10 = .pointer (some ⟨q.blk, 0, none⟩)) ∧ (L 11 = true → val 11 = .pointer (some ⟨q.blk, 2, none⟩))) ?h0 ?hs ?he
  case h0 => exact ⟨(Fr.refl _ _).drew, fun _ => hB2, by simp⟩
  case hs =>
    refine ⟨?_, ?_, ?_, ?_, ?_, ?_, ?_, ?_, ?_, ?_, ?_, ?_, ?_, trivial⟩
    all_goals
      intro L val W1 a ha hB hLi hd
      simp [putL, Act.put] at ha
      subst ha
      simp [Region.binds] at hd
      obtain ⟨hfr, hb0, hb1, c12, p9, p0, p1, p2, p3, p4, p5, p6, p7, p8, p10, p11⟩ := hB
    case refine_1 =>
      go_simp
      simp only [StepOk, upd, valPut, ↓reduceIte, Nat.reduceEqDiff]
      and_intros
      all_goals first | assumption | (intro h; cases h; done) | (intro _; assumption) | (simp_all; done)
    case refine_2 =>
      go_simp
      simp only [StepOk, upd, valPut, ↓reduceIte, Nat.reduceEqDiff]
      and_intros
      all_goals first | assumption | (intro h; cases h; done) | (intro _; assumption) | (simp_all; done)
    case refine_3 =>
      go_simp
      simp only [StepOk, upd, valPut, ↓reduceIte, Nat.reduceEqDiff]
      and_intros
      all_goals first | assumption | (intro h; cases h; done) | (intro _; assumption) | (simp_all; done)
    case refine_4 =>
      have q2 := p2 (by simp [hd])
      go_simp
      simp only [StepOk, upd, valPut, ↓reduceIte, Nat.reduceEqDiff]
      and_intros
      all_goals first | assumption | (intro h; cases h; done) | (intro _; assumption) | (simp_all; done)
    case refine_5 =>
      have q3 := p3 (by simp [hd])
      go_simp
      simp only [StepOk, upd, valPut, ↓reduceIte, Nat.reduceEqDiff]
      and_intros
      all_goals first | assumption | (intro h; cases h; done) | (intro _; assumption) | (simp_all; done)
    case refine_6 =>
      have q4 := p4 (by simp [hd])
      have hL : L 12 = false := by cases hL : L 12 with | false => rfl | true => have := (c12 hL).1; rw [this] at hLi; cases hLi
      obtain ⟨r1, r2⟩ := (hb0 hL).rules
      go_simp
      simp only [StepOk, upd, valPut, ↓reduceIte, Nat.reduceEqDiff]
      and_intros
      all_goals first | assumption | (intro h; cases h; done) | (intro _; assumption) | (simp_all; done)
    case refine_7 =>
      have q1 := p1 (by simp [hd])
      go_simp
      simp only [StepOk, upd, valPut, ↓reduceIte, Nat.reduceEqDiff]
      and_intros
      all_goals first | assumption | (intro h; cases h; done) | (intro _; assumption) | (simp_all; done)
    case refine_8 =>
      have q6 := p6 (by simp [hd])
      go_simp
      simp only [StepOk, upd, valPut, ↓reduceIte, Nat.reduceEqDiff]
      and_intros
      all_goals first | assumption | (intro h; cases h; done) | (intro _; assumption) | (simp_all; done)
    case refine_9 =>
      have q1 := p1 (by simp [hd])
      go_simp
      simp only [StepOk, upd, valPut, ↓reduceIte, Nat.reduceEqDiff]
      and_intros
      all_goals first | assumption | (intro h; cases h; done) | (intro _; assumption) | (simp_all; done)
    case refine_10 =>
      have q8 := p8 (by simp [hd])
      have q5 := p5 (by simp [hd])
      have hL : L 12 = false := by cases hL : L 12 with | false => rfl | true => have := (c12 hL).2; rw [this] at hLi; cases hLi
      have t72' := hB2.tag
      have k1 : IsCh W1.heap F (.iface T x) c := hc2.kept fun b _ t => hfr.block b t.lt fun e => by subst e; exact absurd (t.eq t72') (by decide)
      have k2 := (hnow2.frt hfr fun b _ t e => by subst e; exact absurd (t.eq t72') (by decide)).at
      have k3 := hcall W1 q.vn k1 k2 fun y hy => by have := hF y hy; have := hfr.size; omega
      go_simp
      show Calls Try.prog fn _ W1 _
      refine k3.mono ?_
      intro e W2 hfresh
      obtain ⟨v, rfl, hsl, hold, hshape⟩ := hfresh.sl
      have hfr' := hfr.trans hold fun _ _ f => f.elim
      have hb0' := (hb0 hL).fr hold fun f => f
      have hsz := hfr.size
      have hsl' := hsl.mono (G := fun b => W.heap.size ≤ b) fun b h => by omega
      refine ⟨v, rfl, ?_⟩
      simp only [upd, valPut, ↓reduceIte, Nat.reduceEqDiff]
      refine ⟨hfr', fun _ => hb0', fun (h : L 12 = true) => absurd h (by simp [hL]), fun (h : L 12 = true) => absurd h (by simp [hL]), fun _ => ⟨hsl', hshape⟩, p0, p1, p2, p3, p4, p5, p6, p7, p8, p10, p11⟩
    case refine_11 =>
      have q0 := p0 (by simp [hd])
      go_simp
      simp only [StepOk, upd, valPut, ↓reduceIte, Nat.reduceEqDiff]
      and_intros
      all_goals first | assumption | (intro h; cases h; done) | (intro _; assumption) | (simp_all; done)
    case refine_12 =>
      have q10 := p10 (by simp [hd])
      go_simp
      simp only [StepOk, upd, valPut, ↓reduceIte, Nat.reduceEqDiff]
      and_intros
      all_goals first | assumption | (intro h; cases h; done) | (intro _; assumption) | (simp_all; done)
    case refine_13 =>
      have q11 := p11 (by simp [hd])
      obtain ⟨hsl, a9, n9, c9, e9⟩ := p9 (by simp [hd])
      have hL : L 12 = false := hLi
      have hb := hb0 hL
      obtain ⟨r1, r2⟩ := hb.rules
      go_simp
      have hst := Fr.store W1 q.blk 2 (.slice a9 n9 c9)
      have hfr' := hfr.setCell (p := ⟨q.blk, 2, none⟩) (fun _ => rfl) (.slice a9 n9 c9)
      have hb' := hb.set 2 (.slice a9 n9 c9)
      have t72' := hb.tag
      have hsl' := hsl.frt hst fun b _ t e => by subst e; exact absurd (t.eq t72') (by decide)
      have e9' : ∃ a n c, val 9 = .slice a n c := ⟨a9, n9, c9, e9⟩
      have d5 : L 5 = true ∧ L 9 = true := by simp [hd]
      have hb'' : Blk (W1.setCell ⟨q.blk, 2, none⟩ (.slice a9 n9 c9)).heap q.blk #[q.vs, V, val 9] 72 := by rw [e9]; simpa using hb'
      simp only [StepOk, upd, valPut, ↓reduceIte, Nat.reduceEqDiff]
      exact ⟨hfr', fun h => by simp at h, fun _ => hb'', fun _ => d5, fun _ => ⟨hsl', e9'⟩, p0, p1, p2, p3, p4, p5, p6, p7, p8, p10, p11⟩
  case he =>
    intro L val W1 a ha hL hB
    simp [putL, Act.put] at ha
    subst ha
    obtain ⟨hfr, hb0, hb1, c12, p9, _⟩ := hB
    have hb := hb1 (hL 12 (by decide))
    have hsl := (p9 (hL 9 (by decide))).1
    generalize val 9 = V9 at *
    have t72' := hB2.tag
    have HFIN : DidCh w F f q c (.returned (.tuple #[])) W1 := by
      refine ⟨rfl, ⟨q.blk, q.vs, V, V9, q.cs ++ [(c, .iface T x)]⟩, ?_, rfl, ?_, hfr2.trans hfr fun b _ e => .inl e⟩
      · exact {
          fits := by simp [hfits]
          own := .inl hFb
          blk := hb
          safe := (hsafe2.frt hfr fun b _ t e => by subst e; exact absurd (t.eq t72') (by decide)).mono fun b h => .inl h
          now := by rw [dataOf_push]; exact hsl.mono fun b h => .inr (by omega)
          row := by
            have o1 := HO.out.kept (h' := W1.heap) fun b e _ hb => hfr.block b hb fun e' => by rw [← hV] at e; simp [Value.ownBlock] at e; omega
            have o2 := o1.mono (G := fun b => F b ∨ w.heap.size ≤ b) fun b _ h => by
              rcases h with h | h
              · exact .inl (hFc b h)
              · exact .inr (by omega)
            simpa using o2
          chs := fun p hp => by
            have hk : ∀ b, F b → Tag W.heap b 5 → W1.heap[b]? = W.heap[b]? := fun b _ t => hfr.block b t.lt fun e => by subst e; exact absurd (t.eq t72') (by decide)
            rcases List.mem_append.1 hp with hp | hp
            · exact ((hchs2 p hp).kept hk).mono fun b h => .inl h
            · simp at hp; subst hp; exact (hc2.kept hk).mono fun b h => .inl h }
      · intro b hb
        rw [← hV] at hb
        simp [Value.ownBlock] at hb
        subst hb
        rcases hg1 with h | h
        · exact .inl h
        · exact .inr (by omega)
    have HF := Lib.hid HFIN
    clear HFIN hb hsl hb0 hb1 c12 p9 hL hfr
    go_wp2
    go_end0
    exact HF.out

/-- DOING A CHANGE. -/
theorem do66 (h : IsFile w.heap F f q) (c : Ch) (raw : Value) (hc : IsCh w.heap F raw c) (hok : ChOk c) (hd : (dataOf f).length ≤ 268435456) (hn : q.cs.length ≤ 1000000) (hF : ∀ x, F x → x < w.heap.size) :
    Calls Try.prog 66 #[.pointer (some ⟨q.blk, 0, none⟩), raw] w (DidCh w F f q c) := by
  cases c with
  | write pos b =>
    obtain ⟨vb, rfl, hvb⟩ := hc
    refine do66_at h _ 91 113 _ ⟨vb, rfl, hvb⟩ hn hF (fun args w => enters_of Try.func113 (by kernel_rfl) rfl args w) (ap91 _) (na91 _) fun W v k1 k2 k3 => ?_
    obtain ⟨vb', e, k1⟩ := k1
    cases e
    exact wapply113 W F v vb (dataOf f) b pos k2 k1.at hd hok k3
  | cut long =>
    obtain rfl := hc
    exact do66_at h _ 96 116 _ rfl hn hF (fun args w => enters_of Try.func116 (by kernel_rfl) rfl args w) (ap96 _) (na96 _) fun W v k1 k2 k3 => capply116 W F v (dataOf f) long k2 hok
end
end Go.Proofs.Ytpdflncgemcniaa
