/- PROVED HERE: the contracts of begin and of open. PROVED HERE: the contract of put. PROVED HERE: the contracts of Append and of WriteAt. No conditions beyond the premises that each theorem names. -/
import Derived.Test.YtpdflncgemcniaaD09
namespace Go.Proofs.Ytpdflncgemcniaa
open Go.RowKit

/-- What an operation on the disk comes to: a number, and a disk. -/
def OpPost (w : World) (d : Nat) (F : Nat → Prop) (res : Int × Dk) (e : Ending) (w' : World) : Prop :=
  e = .returned (.int .i64 res.1) ∧ ∃ r' F', IsDisk w'.heap d res.2 r' F' ∧ Step F F' w w'

theorem dieChs_le {keep : List Int} : ∀ (l : List Ch) (i : Nat) (b : Bs), b.length ≤ 268435456 → (∀ c ∈ l, ChOk c) → (dieChs keep i l b).length ≤ 268435456
  | [], _, b, h, _ => h
  | c :: l, i, b, h, hc => by
    simp only [dieChs]
    refine dieChs_le l _ _ ?_ fun c' h' => hc c' (by simp [h'])
    cases hs : survivor (keepAt keep i) c with
    | none => exact h
    | some s => exact applyCh_le h (survivor_ok hs (hc c (by simp)))

theorem dieFiles_names (keep : List Int) : ∀ (l : List Fl) (i : Nat), (dieFiles keep i l).map Fl.name = l.map Fl.name
  | [], _ => rfl
  | f :: l, i => by simp [dieFiles, dieFiles_names keep l]

theorem dieFiles_ok {keep : List Int} {K : Nat} : ∀ (l : List Fl) (i : Nat), (∀ f ∈ l, FlOk K f) → ∀ f ∈ dieFiles keep i l, FlOk K f
  | [], _, _ => fun f h => by cases h
  | f :: l, i, h => fun g hg => by
    simp only [dieFiles, List.mem_cons] at hg
    rcases hg with rfl | hg
    · have := h f (by simp)
      exact ⟨this.name, dieChs_le _ _ _ this.safe this.each, Nat.zero_le _, fun c hc => by cases hc⟩
    · exact dieFiles_ok l _ (fun f' h' => h f' (by simp [h'])) g hg

theorem Wf.die {S : Dk} {K : Nat} (h : Wf S K) : Wf (Ytpdflncgemcniaa.die S) K where
  plan := h.plan
  n := h.n
  few := by
    have : (dieFiles S.plan.keep 0 S.files).length = S.files.length := by have := congrArg List.length (dieFiles_names S.plan.keep S.files 0); simpa using this
    show (dieFiles S.plan.keep 0 S.files).length ≤ K
    rw [this]; exact h.few
  sorted := by
    have h1 : (S.files.map Fl.name).Pairwise (· < ·) := List.pairwise_map.2 h.sorted
    rw [← dieFiles_names S.plan.keep S.files 0] at h1
    exact List.pairwise_map.1 h1
  each := dieFiles_ok _ _ h.each

theorem FlOk.mono {K K' : Nat} {f : Fl} (h : FlOk K f) (hK : K ≤ K') : FlOk K' f := ⟨h.name, h.safe, Nat.le_trans h.chs hK, h.each⟩
theorem Wf.mono {S : Dk} {K K' : Nat} (h : Wf S K) (hK : K ≤ K') : Wf S K' := ⟨h.plan, Nat.le_trans h.n hK, Nat.le_trans h.few hK, h.sorted, fun f hf => (h.each f hf).mono hK⟩

/-- A counted operation. -/
def tick (S : Dk) : Dk := { S with n := S.n + 1 }
theorem Wf.tick {S : Dk} {K : Nat} (h : Wf S K) : Wf (Ytpdflncgemcniaa.tick S) (K + 1) := ⟨h.plan, Nat.add_le_add_right h.n 1, Nat.le_succ_of_le h.few, h.sorted, fun f hf => (h.each f hf).mono (by omega)⟩

theorem begin_eq (D : Dk) : begin D = if D.died then (10, D) else if ((D.n : Int) + 1) = D.plan.crash then (10, die (tick D)) else if hasB D.plan.fail ((D.n : Int) + 1) then (11, tick D) else (0, tick D) := rfl

theorem Wf.begin {S : Dk} {K : Nat} (h : Wf S K) : Wf (Ytpdflncgemcniaa.begin S).2 (K + 1) := by
  rw [begin_eq]
  split
  · exact h.mono (by omega)
  · split
    · exact h.tick.die
    · split <;> exact h.tick

section
variable {w : World} {d : Nat} {S : Dk} {r : DRep} {F : Nat → Prop}

set_option maxHeartbeats 2000000 in
set_option maxRecDepth 100000 in
theorem begin46 (h : IsDisk w.heap d S r F) {K : Nat} (wf : Wf S K) (hK : K < 1000000) : Calls Try.prog 46 #[.pointer (some ⟨d, 0, none⟩)] w (OpPost w d F (begin S)) := by
  have hi := Lib.hid h
  obtain ⟨r1, r2⟩ := h.blk.rules
  cases hd : S.died with
  | true =>
    have hb : begin S = (10, S) := by rw [begin_eq, hd]; rfl
    have hD : w.cell? ⟨d, 7, none⟩ = some (.bool true) := by rw [r1, hd]; rfl
    have HB := Lib.hid hb
    clear hb h r1 r2 hd
    go_enter Try.func46, Try.ntmps46
    go_wp2_with (go_at_call 35; refine (hi.out.is).mono ?_; rintro e w' ⟨rfl, rfl⟩)
    go_ret
    rw [HB.out]
    exact ⟨rfl, r, F, hi.out, Step.refl _ _⟩
  | false =>
    have hD : w.cell? ⟨d, 7, none⟩ = some (.bool false) := by rw [r1, hd]; rfl
    have hset := h.blk.set 6 (.int .i64 ((S.n : Int) + 1))
    have hturn : IsDisk (w.setCell ⟨d, 6, none⟩ (.int .i64 ((S.n : Int) + 1))).heap d (tick S) r F := by
      have := h.turn (fun b hb => heap_set ⟨d, 6, none⟩ (.int .i64 ((S.n : Int) + 1)) hb) (S.n + 1) false (by simpa [hd] using hset)
      rw [show tick S = { S with n := S.n + 1, died := false } by simp only [tick, ← hd]]
      exact this
    have hst : Step F F w (w.setCell ⟨d, 6, none⟩ (.int .i64 ((S.n : Int) + 1))) := ⟨(Fr.refl F w).setCell (p := ⟨d, 6, none⟩) (fun _ => h.own) _, fun _ h => .inl h⟩
    have hn : (S.n : Int) + 1 ≤ 1000000 := by have := wf.n; omega
    have hN : w.cell? ⟨d, 6, none⟩ = some (.int .i64 S.n) := by rw [r1]; rfl
    have hF6 := r2 6
    have HT := Lib.hid hturn
    have HS := Lib.hid hst
    have wt := Lib.hid wf.tick
    have hbd := wf.plan.fail
    generalize hw1 : w.setCell ⟨d, 6, none⟩ (.int .i64 ((S.n : Int) + 1)) = w1 at *
    obtain ⟨q1, q2⟩ := hturn.blk.rules
    have hC1 : w1.cell? ⟨d, 1, none⟩ = some (.int .i64 S.plan.crash) := by rw [q1]; rfl
    have hN1 : w1.cell? ⟨d, 6, none⟩ = some (.int .i64 ((S.n : Int) + 1)) := by rw [q1]; rfl
    clear q2 hset h r1 r2 hst
    by_cases hcr : ((S.n : Int) + 1) = S.plan.crash
    · have HB := Lib.hid (show begin S = (10, die (tick S)) by rw [begin_eq, hd, if_pos hcr]; rfl)
      have hcr' : ((S.n : Int) + 1 == S.plan.crash) = true := by simpa using hcr
      clear hcr hturn q1
      go_enter Try.func46, Try.ntmps46
      go_wp2_with (go_at_call 35; refine (hi.out.is).mono ?_; rintro e w' ⟨rfl, rfl⟩)
      go_quiet (fail)
      have hdie := die51 (w := w1.drewN nq) HT.out wt.out (by omega)
      go_wp2_with (go_at_call 51; refine hdie.mono ?_; rintro e w2 ⟨rfl, r', F', i2, s2⟩)
      have I2 := Lib.hid i2
      have S2 := Lib.hid s2
      clear i2 s2
      go_wp2
      go_ret
      rw [HB.out]
      exact ⟨rfl, r', F', I2.out, (HS.out.drewN _).trans S2.out⟩
    · have hcr' : ((S.n : Int) + 1 == S.plan.crash) = false := by simpa using hcr
      obtain ⟨a, c, e, _, _⟩ := hturn.fail.shape
      have e : r.f = .slice a S.plan.fail.length c := e
      have hFl : w1.cell? ⟨d, 3, none⟩ = some (.slice a S.plan.fail.length c) := by rw [q1, ← e]; rfl
      have hct := fun m => contains65q (w1.drewN m) _ _ S.plan.fail ((S.n : Int) + 1) hturn.fail.at hbd
      simp only [e] at hct
      cases hb : hasB S.plan.fail ((S.n : Int) + 1) with
      | true =>
        have HB := Lib.hid (show begin S = (11, tick S) by rw [begin_eq, hd, if_neg hcr, hb]; rfl)
        have hct := fun m n => (hct m true hb n)
        simp only [World.drewN_drewN] at hct
        clear hcr hturn hb q1 e
        go_enter Try.func46, Try.ntmps46
        go_wp2_with (go_at_call 35; refine (hi.out.is).mono ?_; rintro e w' ⟨rfl, rfl⟩)
        go_quiet (fail)
        go_wp2_with fail
        go_quiet (refine hct _ _)
        go_wp2
        go_ret
        rw [HB.out]
        exact ⟨rfl, r, F, HT.out, (HS.out.drewN _).drewN _⟩
      | false =>
        have HB := Lib.hid (show begin S = (0, tick S) by rw [begin_eq, hd, if_neg hcr, hb]; rfl)
        have hct := fun m n => (hct m false hb n)
        simp only [World.drewN_drewN] at hct
        clear hcr hturn hb q1 e
        go_enter Try.func46, Try.ntmps46
        go_wp2_with (go_at_call 35; refine (hi.out.is).mono ?_; rintro e w' ⟨rfl, rfl⟩)
        go_quiet (fail)
        go_wp2_with fail
        go_quiet (refine hct _ _)
        go_wp2
        go_ret
        rw [HB.out]
        exact ⟨rfl, r, F, HT.out, (HS.out.drewN _).drewN _⟩

/-- What open comes to. -/
def OpenPost (w : World) (d : Nat) (F : Nat → Prop) (S : Dk) (s : Bs) (e : Ending) (w' : World) : Prop :=
  ∃ r' F', IsDisk w'.heap d (begin S).2 r' F' ∧ Step F F' w w' ∧
    (((begin S).1 == 0) = false ∧ e = .returned (.tuple #[.pointer none, .int .i64 (begin S).1]) ∨
     (begin S).1 = 0 ∧ r'.ps.find? (fun p => p.1.name == s) = none ∧ e = .returned (.tuple #[.pointer none, .int .i64 13]) ∨
     (begin S).1 = 0 ∧ ∃ p, r'.ps.find? (fun p => p.1.name == s) = some p ∧ e = .returned (.tuple #[.pointer (some ⟨p.2.blk, 0, none⟩), .int .i64 0]))

set_option maxHeartbeats 2000000 in
set_option maxRecDepth 100000 in
theorem open49 (h : IsDisk w.heap d S r F) {K : Nat} (wf : Wf S K) (hK : K < 1000000) (s : ByteArray) (hs : s.size ≤ maxLen) :
    Calls Try.prog 49 #[.pointer (some ⟨d, 0, none⟩), .string s] w (OpenPost w d F S s.data.toList) := by
  have hb := begin46 h wf hK
  clear h
  go_enter Try.func49, Try.ntmps49
  go_wp2_with fail
  refine hb.mono ?_
  rintro e w1 ⟨rfl, r', F', hd, hst⟩
  have hlk := look_run hd.map s hs
  obtain ⟨r1, _⟩ := hd.blk.rules
  have hM : w1.cell? ⟨d, 8, none⟩ = some (.map (some r'.mb)) := by rw [r1]; rfl
  have HD := Lib.hid hd
  have HS := Lib.hid hst
  clear hd hst r1
  cases hx : ((begin S).1 == 0) with
  | false =>
    have HX := Lib.hid hx
    have hx' : ((begin S).1 == 0) = false := hx
    generalize hy : (begin S).1 = y at hx'
    have HY := Lib.hid hy
    clear hx hy
    go_wp2
    go_ret2
    exact ⟨r', F', HD.out, HS.out, .inl ⟨HX.out, by rw [HY.out]; rfl⟩⟩
  | true =>
    have hx' : (begin S).1 = 0 := by simpa using hx
    unfold ptrOf at hlk
    rw [hx']
    cases hf : r'.ps.find? (fun p => p.1.name == s.data.toList) with
    | none =>
      rw [hf] at hlk
      simp only [] at hlk
      have HF := Lib.hid hf
      have HX := Lib.hid hx'
      clear hf hx hx'
      go_wp2
      go_ret2
      exact ⟨r', F', HD.out, HS.out, .inr (.inl ⟨HX.out, HF.out, rfl⟩)⟩
    | some p =>
      rw [hf] at hlk
      simp only [] at hlk
      have HF := Lib.hid hf
      have HX := Lib.hid hx'
      clear hf hx hx'
      go_wp2
      go_ret2
      exact ⟨r', F', HD.out, HS.out, .inr (.inr ⟨HX.out, p, HF.out, rfl⟩)⟩
end
end Go.Proofs.Ytpdflncgemcniaa
namespace Go.Proofs.Ytpdflncgemcniaa
open Go.RowKit

theorem setF_mid {l1 l2 : List Fl} {f g : Fl} (hn : g.name = f.name) (h : (l1 ++ f :: l2).Pairwise fun a b => a.name ≠ b.name) : setF g (l1 ++ f :: l2) = l1 ++ g :: l2 := by
  rw [List.pairwise_append] at h
  obtain ⟨_, h2, h3⟩ := h
  rw [List.pairwise_cons] at h2
  have e1 : l1.map (fun f => if f.name == g.name then g else f) = l1 := by
    rw [List.map_congr_left (g := id) (fun a ha => by
      have := h3 a ha f (by simp)
      simp [hn, this]), List.map_id]
  have e2 : l2.map (fun f => if f.name == g.name then g else f) = l2 := by
    rw [List.map_congr_left (g := id) (fun a ha => by
      have := h2.1 a ha
      simp [hn, Ne.symm this]), List.map_id]
  unfold setF
  rw [List.map_append, List.map_cons, e1, e2]
  simp [hn]

theorem find_split {α : Type} {p : α → Bool} {l : List α} {x : α} (h : l.find? p = some x) : ∃ l1 l2, l = l1 ++ x :: l2 := by
  have := List.mem_of_find?_eq_some h
  obtain ⟨s, t, e⟩ := List.append_of_mem this
  exact ⟨s, t, e⟩

theorem IsDisk.mono {h : Array Obj} {d : Nat} {S : Dk} {r : DRep} {F G : Nat → Prop} (s : IsDisk h d S r F) (hF : ∀ b, F b → G b) (hG : ∀ b, G b → b < h.size) : IsDisk h d S r G where
  fits := s.fits
  own := hF _ s.own
  blk := s.blk
  keep := s.keep.mono hF
  fail := s.fail.mono hF
  full := s.full.mono hF
  mown := hF _ s.mown
  map := s.map
  files p hp := (s.files p hp).mono hF
  apart := s.apart
  lt := hG

theorem Wf.names {S : Dk} {K : Nat} (h : Wf S K) : S.files.Pairwise fun a b => a.name ≠ b.name := h.sorted.imp fun {a b} hab e => by rw [e] at hab; exact List.lt_irrefl _ hab

section
variable {w : World} {d : Nat} {S : Dk} {r : DRep} {F : Nat → Prop}

/-- A FILE HAS TURNED: the disk as the plain law says it. -/
theorem IsDisk.reset {w w' : World} {d : Nat} {S : Dk} {r : DRep} {F : Nat → Prop} (s : IsDisk w.heap d S r F) {K : Nat} (wf : Wf S K) {p : FP} (hp : p ∈ r.ps) {f' : Fl} {q' : FRep}
    (hn : f'.name = p.1.name) (hb : q'.blk = p.2.blk) (hsz : w.heap.size ≤ w'.heap.size) (hk : ∀ b, F b → b ≠ p.2.blk → p.2.vc.ownBlock ≠ some b → w'.heap[b]? = w.heap[b]?)
    (hf : IsFile w'.heap (fun b => F b ∨ w.heap.size ≤ b) f' q') (hc : ∀ b, q'.vc.ownBlock = some b → p.2.vc.ownBlock = some b ∨ w.heap.size ≤ b) :
    ∃ r' F', IsDisk w'.heap d { S with files := setF f' S.files } r' F' ∧ ∀ b, F' b → F b ∨ w.heap.size ≤ b := by
  obtain ⟨l1, l2, hr⟩ := List.append_of_mem hp
  obtain ⟨f, q⟩ := p
  have hfit := s.fits
  have hd := s.redo hr hn hb hsz hk hf hc
  have hset : setF f' S.files = l1.map Prod.fst ++ f' :: l2.map Prod.fst := by
    rw [← hfit, hr, List.map_append, List.map_cons]
    refine setF_mid hn ?_
    have := wf.names
    rw [← hfit, hr, List.map_append, List.map_cons] at this
    exact this
  rw [← hset] at hd
  exact ⟨_, _, hd, fun b h => h.imp id fun h => h.1⟩

set_option maxHeartbeats 2000000 in
set_option maxRecDepth 100000 in
theorem put50 (h : IsDisk w.heap d S r F) {K : Nat} (wf : Wf S K) (hK : K ≤ 1000000) {p : FP} (hp : p ∈ r.ps) (c : Ch) (raw : Value) (hc : IsCh w.heap F raw c) (hok : ChOk c) (has : Nat) (hh : has ≤ 268435456) :
    Calls Try.prog 50 #[.pointer (some ⟨d, 0, none⟩), .pointer (some ⟨p.2.blk, 0, none⟩), raw, .int .i64 has] w (OpPost w d F (change S p.1 c has)) := by
  have hfl := wf.each p.1 (by rw [← h.fits]; exact List.mem_map_of_mem hp)
  have hF := h.files p hp
  obtain ⟨r1, _⟩ := hF.blk.rules
  obtain ⟨a, ca, e, hca, _⟩ := hF.now.shape
  have hN : w.cell? ⟨p.2.blk, 2, none⟩ = some (.slice a (dataOf p.1).length ca) := by rw [r1, ← e]; rfl
  have hroom := room48 h wf hK (dataOf p.1).length has hfl.data hh
  have HD := Lib.hid h
  have HF := Lib.hid hF
  have HC := Lib.hid hc
  have HFL := Lib.hid hfl
  have hdl := hfl.data
  have hcs : p.2.cs.length ≤ 1000000 := by
    have := hF.fits
    have h2 := hfl.chs
    rw [← this, List.length_map] at h2
    omega
  clear h hF hc hfl r1 e
  go_enter Try.func50, Try.ntmps50
  go_wp2_with fail
  refine hroom.mono ?_
  rintro e w1 ⟨rfl, ho⟩
  cases hx : roomErr S (dataOf p.1).length has == 0 with
  | false =>
    have HX := Lib.hid (show change S p.1 c has = (roomErr S (dataOf p.1).length has, S) by unfold change; exact if_pos (by simpa using hx))
    have HO := Lib.hid ho
    generalize roomErr S (dataOf p.1).length has = y at *
    clear ho
    go_wp2
    go_ret
    rw [HX.out]
    exact ⟨rfl, r, F, HD.out.fr HO.out fun _ _ f => f, ⟨Old.fr HO.out, fun b h => .inl h⟩⟩
  | true =>
    have hx' : roomErr S (dataOf p.1).length has = 0 := by simpa using hx
    have HX := Lib.hid (show change S p.1 c has = (0, { S with files := setF { p.1 with chs := p.1.chs ++ [c] } S.files }) by unfold change; exact if_neg (by simpa using hx))
    rw [hx']
    have hd1 := HD.out.fr ho fun _ _ f => f
    have hdo := do66 (hd1.files p hp) c raw (by
      cases c with
      | write pos b => obtain ⟨vb, e, hs⟩ := HC.out; exact ⟨vb, e, hs.fr ho fun _ _ f => f⟩
      | cut long => exact HC.out) hok hdl hcs hd1.lt
    have HO := Lib.hid ho
    have HD1 := Lib.hid hd1
    clear ho hd1 hx hx'
    go_wp2_with fail
    refine hdo.mono ?_
    rintro e w2 ⟨rfl, q', hq, hb, hown, hfr⟩
    have hreset := HD1.out.reset (f' := { p.1 with chs := p.1.chs ++ [c] }) wf hp rfl hb hfr.size (fun b hb h1 h2 => hfr.block b (HD1.out.lt b hb) fun e => e.elim h1 h2) hq hown
    have hfr' : Fr F w1 w2 := hfr.mono fun b hb e => by
      rcases e with e | e
      · subst e; exact HF.out.own
      · exact (HF.out.tagC e).1
    have HR := Lib.hid hreset
    have HFR := Lib.hid hfr'
    clear hreset hfr' hq hb hown hfr
    go_wp2
    go_ret
    rw [HX.out]
    obtain ⟨r', F', h1, h2⟩ := HR.out
    exact ⟨rfl, r', F', h1, ⟨(Old.fr HO.out).trans' HFR.out, fun b hb => (h2 b hb).imp id fun h => Nat.le_trans HO.out.size h⟩⟩
end
end Go.Proofs.Ytpdflncgemcniaa
namespace Go.Proofs.Ytpdflncgemcniaa
open Go.RowKit

/-- What an operation has come to. -/
def OpAt (w : World) (d : Nat) (F : Nat → Prop) (res : Int × Dk) (v : Value) (w' : World) : Prop :=
  v = .int .i64 res.1 ∧ ∃ r' F', IsDisk w'.heap d res.2 r' F' ∧ Step F F' w w'

theorem OpAt.post {w w0 w' : World} {d : Nat} {F F0 : Nat → Prop} {res : Int × Dk} {v : Value} (h : OpAt w d F res v w') (hs : Step F0 F w0 w) : OpPost w0 d F0 res (.returned v) w' := by
  obtain ⟨rfl, r', F', h1, h2⟩ := h
  exact ⟨rfl, r', F', h1, hs.trans h2⟩

theorem OpPost.at {w w' : World} {d : Nat} {F : Nat → Prop} {res : Int × Dk} {e : Ending} (h : OpPost w d F res e w') : ∃ v, e = .returned v ∧ OpAt w d F res v w' := ⟨_, h.1, rfl, h.2⟩

/-- New data at hand: the disk goes by them too. -/
theorem IsDisk.more {w w1 : World} {d : Nat} {S : Dk} {r : DRep} {F : Nat → Prop} (s : IsDisk w.heap d S r F) (o : Old w w1) : IsDisk w1.heap d S r (fun b => F b ∨ (w.heap.size ≤ b ∧ b < w1.heap.size)) :=
  (s.fr o fun _ _ f => f).mono (fun _ h => .inl h) fun b h => by
    rcases h with h | h
    · exact Nat.lt_of_lt_of_le (s.lt b h) o.size
    · exact h.2

theorem Step.more {w w1 w2 : World} {F F' : Nat → Prop} (o : Old w w1) (s : Step (fun b => F b ∨ (w.heap.size ≤ b ∧ b < w1.heap.size)) F' w1 w2) : Step F F' w w2 :=
  ⟨(Old.fr (F := F) o).trans s.fr fun x hx f => f.resolve_right (by omega), fun b hb => by
    rcases s.own b hb with (h | h) | h
    · exact .inl h
    · exact .inr h.1
    · exact .inr (Nat.le_trans o.size h)⟩

section
variable {w : World} {d : Nat} {S : Dk} {r : DRep} {F : Nat → Prop}

/-- put, of a write of new data. -/
theorem put_new {W1 : World} (h : IsDisk w.heap d S r F) {K : Nat} (wf : Wf S K) (hK : K ≤ 1000000) {p : FP} (hp : p ∈ r.ps) (o : Old w W1) (pos : Nat) (vb : Value) (b : Bs) (hb : SlT 5 u8 W1.heap (fun x => w.heap.size ≤ x) vb b) (hok : pos + b.length ≤ 268435456) (has : Nat) (hh : has ≤ 268435456) :
    Calls Try.prog 50 #[.pointer (some ⟨d, 0, none⟩), .pointer (some ⟨p.2.blk, 0, none⟩), .iface 91 (.agg #[.int .i64 pos, vb]), .int .i64 has] W1 fun e w' => ∃ v, e = .returned v ∧ OpAt w d F (change S p.1 (.write pos b) has) v w' := by
  refine (put50 (h.more o) wf hK hp (.write pos b) _ ⟨vb, rfl, hb.monot fun x h1 t => .inr ⟨h1, t.lt⟩⟩ hok has hh).mono ?_
  rintro e w' ⟨rfl, r', F', h1, h2⟩
  exact ⟨_, rfl, rfl, r', F', h1, Step.more o h2⟩

theorem onFile_err {D : Dk} {s : Bs} {k : Dk → Fl → Int × Dk} (h : ((begin D).1 == 0) = false) : onFile D s k = begin D := by
  unfold onFile
  generalize begin D = B at *
  obtain ⟨e, D'⟩ := B
  have h : ¬ e = 0 := by simpa using h
  simp [h]

theorem onFile_none {D : Dk} {s : Bs} {k : Dk → Fl → Int × Dk} (h : (begin D).1 = 0) (hf : findF s (begin D).2.files = none) : onFile D s k = (13, (begin D).2) := by
  unfold onFile
  simp only [h, hf]
  rfl

theorem onFile_some {D : Dk} {s : Bs} {k : Dk → Fl → Int × Dk} {f : Fl} (h : (begin D).1 = 0) (hf : findF s (begin D).2.files = some f) : onFile D s k = k (begin D).2 f := by
  unfold onFile
  simp only [h, hf]
  rfl


set_option maxHeartbeats 4000000 in
set_option maxRecDepth 100000 in
theorem append16 (h : IsDisk w.heap d S r F) {K : Nat} (wf : Wf S K) (hK : K < 1000000) (s : ByteArray) (hs : s.size ≤ maxLen) (G : Nat → Prop) (vb : Value) (b : Bs) (hb : SlAt u8 w.heap G vb b) (hG : ∀ x, G x → F x → False) (hbl : b.length ≤ maxLen) :
    Calls Try.prog 16 #[.pointer (some ⟨d, 0, none⟩), .string s, vb] w (OpPost w d F (onFile S s.data.toList (appendK b))) := by
  have hopen := open49 h wf hK s hs
  obtain ⟨ab, cb, rfl, hcb, _⟩ := hb.shape
  have HB := Lib.hid hb
  unfold maxLen at hbl
  clear hb h
  go_enter Try.func16, Try.ntmps16
  go_wp2_with fail
  refine hopen.mono ?_
  rintro e w1 ⟨r1, F1, hd, hst, hres⟩
  rcases hres with ⟨hx, rfl⟩ | ⟨hx, hf, rfl⟩ | ⟨hx, p, hf, rfl⟩
  · have HR := Lib.hid (onFile_err (s := s.data.toList) (k := appendK b) hx)
    have HD := Lib.hid hd
    have HS := Lib.hid hst
    have HX := Lib.hid hx
    generalize hy : (begin S).1 = y at *
    have HY := Lib.hid hy
    clear hd hst hy
    go_wp2
    go_ret
    rw [HR.out]
    exact ⟨by rw [HY.out]; rfl, r1, F1, HD.out, HS.out⟩
  · have HR := Lib.hid (onFile_none (s := s.data.toList) (k := appendK b) hx (hd.noFile hf))
    have HD := Lib.hid hd
    have HS := Lib.hid hst
    clear hd hst hx hf
    go_wp2
    go_ret
    rw [HR.out]
    exact ⟨rfl, r1, F1, HD.out, HS.out⟩
  · have wf1 := wf.begin
    obtain ⟨hF, hmem, _, hfind⟩ := hd.file hf
    have hdl := (wf1.each p.1 hmem).data
    have hR0 := onFile_some (k := appendK b) hx hfind
    have hp := List.mem_of_find?_eq_some hf
    obtain ⟨q1, _⟩ := hF.blk.rules
    obtain ⟨a, c, e, hc, _⟩ := hF.now.shape
    have hN : w1.cell? ⟨p.2.blk, 2, none⟩ = some (.slice a (dataOf p.1).length c) := by rw [q1, ← e]; rfl
    have HD := Lib.hid hd
    have HS := Lib.hid hst
    have hb1 := HB.out.fr hst.fr hG
    have HB1 := Lib.hid hb1
    have HW := Lib.hid wf1
    clear hd hst hx hf hF hfind hmem q1 e hb1 wf1
    by_cases hlong : (268435456 : Int) - (dataOf p.1).length < b.length
    · have HR := Lib.hid (show onFile S s.data.toList (appendK b) = (2, (begin S).2) by rw [hR0]; unfold appendK; exact if_pos (by omega))
      clear hR0
      go_wp2
      go_ret
      rw [HR.out]
      exact ⟨rfl, r1, F1, HD.out, HS.out⟩
    · have HR := Lib.hid (show onFile S s.data.toList (appendK b) = change (begin S).2 p.1 (.write (dataOf p.1).length b) ((dataOf p.1).length + b.length) by rw [hR0]; unfold appendK; exact if_neg (by omega))
      have hok : (dataOf p.1).length + b.length ≤ 268435456 := by omega
      have HP := Lib.hid (fun W1 (o : Old w1 W1) vb' (hvb : SlT 5 u8 W1.heap (fun x => w1.heap.size ≤ x) vb' b) => put_new HD.out HW.out (by omega) hp o (dataOf p.1).length vb' b hvb hok ((dataOf p.1).length + b.length) hok)
      clear hR0
      go_wp2_with fail
      refine wp_region_lits (by kernel_rfl) (by kernel_rfl) (fun L val W1 => (L 19 = false → Old w1 W1 ∧ (L 8 = true → SlT 5 u8 W1.heap (fun x => w1.heap.size ≤ x) (val 8) b))  ∧
        (L 19 = true → OpAt w1 d F1 (change (begin S).2 p.1 (.write (dataOf p.1).length b) ((dataOf p.1).length + b.length)) (val 19) W1) ∧
        (L 19 = true → L 5 = true ∧ L 8 = true ∧ L 14 = true) ∧
        (L 0 = true → val 0 = .pointer (some ⟨d, 0, none⟩)) ∧
        (L 1 = true → val 1 = .pointer (some ⟨p.2.blk, 0, none⟩)) ∧
        (L 2 = true → val 2 = .pointer (some ⟨p.2.blk, 0, none⟩)) ∧
        (L 3 = true → val 3 = .pointer (some ⟨p.2.blk, 0, none⟩)) ∧
        (L 4 = true → val 4 = .pointer (some ⟨p.2.blk, 2, none⟩)) ∧
        (L 5 = true → val 5 = .slice a (dataOf p.1).length c) ∧
        (L 6 = true → L 5 = true ∧ val 6 = .int .i64 (dataOf p.1).length) ∧
        (L 7 = true → val 7 = .slice ab b.length cb) ∧
        (L 8 = true → ∃ a n c, val 8 = .slice a n c) ∧
        (L 9 = true → L 8 = true ∧ L 5 = true ∧ val 9 = .agg #[.int .i64 (dataOf p.1).length, val 8]) ∧
        (L 10 = true → L 8 = true ∧ L 5 = true ∧ val 10 = .iface 91 (.agg #[.int .i64 (dataOf p.1).length, val 8])) ∧
        (L 11 = true → val 11 = .pointer (some ⟨p.2.blk, 0, none⟩)) ∧
        (L 12 = true → val 12 = .pointer (some ⟨p.2.blk, 0, none⟩)) ∧
        (L 13 = true → val 13 = .pointer (some ⟨p.2.blk, 2, none⟩)) ∧
        (L 14 = true → val 14 = .slice a (dataOf p.1).length c) ∧
        (L 15 = true → L 14 = true ∧ val 15 = .int .i64 (dataOf p.1).length) ∧
        (L 16 = true → val 16 = .slice ab b.length cb) ∧
        (L 17 = true → val 17 = .int .i64 b.length) ∧
        (L 18 = true → L 14 = true ∧ val 18 = .int .i64 ((dataOf p.1).length + b.length : Nat)) ∧
        (L 20 = true → L 19 = true ∧ val 20 = val 19)) ?h0 ?hs ?he
      case h0 => exact ⟨fun _ => ⟨(Fr.refl _ _).drew, by simp⟩, by simp⟩
      case hs =>
        refine ⟨?_, ?_, ?_, ?_, ?_, ?_, ?_, ?_, ?_, ?_, ?_, ?_, ?_, ?_, ?_, ?_, ?_, ?_, ?_, ?_, ?_, trivial⟩
        all_goals
          intro L val W1 a ha hB hLi hd
          simp [putL, Act.put] at ha
          subst ha
          simp [Region.binds] at hd
          obtain ⟨hold, hdone, hcond, p0, p1, p2, p3, p4, p5, p6, p7, p8, p9, p10, p11, p12, p13, p14, p15, p16, p17, p18, p20⟩ := hB
        case refine_1 =>
          go_simp
          simp only [StepOk, upd, valPut, ↓reduceIte, Nat.reduceEqDiff]
          and_intros
          all_goals first | assumption | (intro h; cases h; done) | (intro _; assumption) | (simp_all; done)
        case refine_2 =>
          go_simp
          simp only [StepOk, upd, valPut, ↓reduceIte, Nat.reduceEqDiff]
          and_intros
          all_goals first | assumption | (intro h; cases h; done) | (intro _; assumption) | (simp_all; done)
        case refine_3 =>
          go_simp
          simp only [StepOk, upd, valPut, ↓reduceIte, Nat.reduceEqDiff]
          and_intros
          all_goals first | assumption | (intro h; cases h; done) | (intro _; assumption) | (simp_all; done)
        case refine_4 =>
          have q2 := p2 (by simp [hd])
          go_simp
          simp only [StepOk, upd, valPut, ↓reduceIte, Nat.reduceEqDiff]
          and_intros
          all_goals first | assumption | (intro h; cases h; done) | (intro _; assumption) | (simp_all; done)
        case refine_5 =>
          have q3 := p3 (by simp [hd])
          go_simp
          simp only [StepOk, upd, valPut, ↓reduceIte, Nat.reduceEqDiff]
          and_intros
          all_goals first | assumption | (intro h; cases h; done) | (intro _; assumption) | (simp_all; done)
        case refine_6 =>
          have q4 := p4 (by simp [hd])
          have hC : L 19 = false := by cases hL : L 19 with | false => rfl | true => have := hcond hL; simp_all
          obtain ⟨ho, hv⟩ := hold hC
          have hN1 : W1.cell? ⟨p.2.blk, 2, none⟩ = some (.slice a (dataOf p.1).length c) := by rw [cell_cel] at hN ⊢; exact ho.cel hN fun f => f
          go_simp
          simp only [StepOk, upd, valPut, ↓reduceIte, Nat.reduceEqDiff]
          and_intros
          all_goals first | assumption | (intro h; cases h; done) | (intro _; assumption) | (simp_all; done)
        case refine_7 =>
          have q5 := p5 (by simp [hd])
          go_simp
          simp only [StepOk, upd, valPut, ↓reduceIte, Nat.reduceEqDiff]
          and_intros
          all_goals first | assumption | (intro h; cases h; done) | (intro _; assumption) | (simp_all; done)
        case refine_8 =>
          go_simp
          simp only [StepOk, upd, valPut, ↓reduceIte, Nat.reduceEqDiff]
          and_intros
          all_goals first | assumption | (intro h; cases h; done) | (intro _; assumption) | (simp_all; done)
        case refine_9 =>
          have q7 := p7 (by simp [hd])
          have hC : L 19 = false := by cases hL : L 19 with | false => rfl | true => have := hcond hL; simp_all
          obtain ⟨ho, hv⟩ := hold hC
          have hcl := clone37 W1 G _ b (HB1.out.fr ho fun _ _ f => f) (by omega)
          go_simp
          show Calls Try.prog 37 _ W1 _
          refine hcl.mono ?_
          rintro e W2 ⟨v, rfl, hsl, ho2⟩
          obtain ⟨av, cv, ev, _, _⟩ := hsl.shape
          have ho' := ho.trans' ho2
          have hsl' := hsl.mono (G := fun x => w1.heap.size ≤ x) fun x hx => Nat.le_trans ho.size hx
          have hev : ∃ a n c, v = .slice a n c := ⟨av, _, cv, ev⟩
          clear hsl ho2 ev
          refine ⟨v, rfl, ?_⟩
          simp only [upd, valPut, ↓reduceIte, Nat.reduceEqDiff]
          and_intros
          all_goals first | assumption | (intro h; cases h; done) | (intro _; assumption) | (intro _; exact ⟨ho', fun _ => hsl'⟩) | (simp_all; done)
        case refine_10 =>
          have q6 := p6 (by simp [hd])
          obtain ⟨a8, n8, c8, e8⟩ := p8 (by simp [hd])
          have hL8 : L 8 = true := by simp [hd]
          go_simp
          simp only [StepOk, upd, valPut, ↓reduceIte, Nat.reduceEqDiff]
          and_intros
          all_goals first | assumption | (intro h; cases h; done) | (intro _; assumption) | (simp_all; done)
        case refine_11 =>
          obtain ⟨hL8, hL5, q9⟩ := p9 (by simp [hd])
          obtain ⟨a8, n8, c8, e8⟩ := p8 hL8
          go_simp
          simp only [StepOk, upd, valPut, ↓reduceIte, Nat.reduceEqDiff]
          and_intros
          all_goals first | assumption | (intro h; cases h; done) | (intro _; assumption) | (simp_all; done)
        case refine_12 =>
          go_simp
          simp only [StepOk, upd, valPut, ↓reduceIte, Nat.reduceEqDiff]
          and_intros
          all_goals first | assumption | (intro h; cases h; done) | (intro _; assumption) | (simp_all; done)
        case refine_13 =>
          have q11 := p11 (by simp [hd])
          go_simp
          simp only [StepOk, upd, valPut, ↓reduceIte, Nat.reduceEqDiff]
          and_intros
          all_goals first | assumption | (intro h; cases h; done) | (intro _; assumption) | (simp_all; done)
        case refine_14 =>
          have q12 := p12 (by simp [hd])
          go_simp
          simp only [StepOk, upd, valPut, ↓reduceIte, Nat.reduceEqDiff]
          and_intros
          all_goals first | assumption | (intro h; cases h; done) | (intro _; assumption) | (simp_all; done)
        case refine_15 =>
          have q13 := p13 (by simp [hd])
          have hC : L 19 = false := by cases hL : L 19 with | false => rfl | true => have := hcond hL; simp_all
          obtain ⟨ho, hv⟩ := hold hC
          have hN1 : W1.cell? ⟨p.2.blk, 2, none⟩ = some (.slice a (dataOf p.1).length c) := by rw [cell_cel] at hN ⊢; exact ho.cel hN fun f => f
          go_simp
          simp only [StepOk, upd, valPut, ↓reduceIte, Nat.reduceEqDiff]
          and_intros
          all_goals first | assumption | (intro h; cases h; done) | (intro _; assumption) | (simp_all; done)
        case refine_16 =>
          have q14 := p14 (by simp [hd])
          go_simp
          simp only [StepOk, upd, valPut, ↓reduceIte, Nat.reduceEqDiff]
          and_intros
          all_goals first | assumption | (intro h; cases h; done) | (intro _; assumption) | (simp_all; done)
        case refine_17 =>
          go_simp
          simp only [StepOk, upd, valPut, ↓reduceIte, Nat.reduceEqDiff]
          and_intros
          all_goals first | assumption | (intro h; cases h; done) | (intro _; assumption) | (simp_all; done)
        case refine_18 =>
          have q16 := p16 (by simp [hd])
          go_simp
          simp only [StepOk, upd, valPut, ↓reduceIte, Nat.reduceEqDiff]
          and_intros
          all_goals first | assumption | (intro h; cases h; done) | (intro _; assumption) | (simp_all; done)
        case refine_19 =>
          have q15 := p15 (by simp [hd])
          have q17 := p17 (by simp [hd])
          have hw : IntKind.i64.wrap (((dataOf p.1).length : Int) + b.length) = (dataOf p.1).length + b.length := by rw [IntKind.wrap_i64]; omega
          go_simp
          simp only [StepOk, upd, valPut, ↓reduceIte, Nat.reduceEqDiff]
          and_intros
          all_goals first | assumption | (intro h; cases h; done) | (intro _; assumption) | (simp_all; done)
        case refine_20 =>
          have q0 := p0 (by simp [hd])
          have q1 := p1 (by simp [hd])
          obtain ⟨hL8, hL5, q10⟩ := p10 (by simp [hd])
          obtain ⟨hL14, q18⟩ := p18 (by simp [hd])
          obtain ⟨ho, hv⟩ := hold hLi
          have hsl := hv hL8
          have hput := HP.out W1 ho (val 8) hsl
          have hall : L 5 = true ∧ L 8 = true ∧ L 14 = true := by simp [hL5, hL8, hL14]
          go_simp
          show Calls Try.prog 50 _ W1 _
          refine hput.mono ?_
          rintro e W2 ⟨v, rfl, hat⟩
          refine ⟨v, rfl, ?_⟩
          simp only [upd, valPut, ↓reduceIte, Nat.reduceEqDiff]
          and_intros
          all_goals first | assumption | (intro h; cases h; done) | (intro _; assumption) | (simp_all; done)
        case refine_21 =>
          go_simp
          simp only [StepOk, upd, valPut, ↓reduceIte, Nat.reduceEqDiff]
          and_intros
          all_goals first | assumption | (intro h; cases h; done) | (intro _; assumption) | (simp_all; done)
      case he =>
        intro L val W1 a ha hL hB
        simp [putL, Act.put] at ha
        subst ha
        obtain ⟨hold, hdone, hcond, hrest⟩ := hB
        have hfin := hdone (hL 19 (by decide))
        have h20 := (hrest.2.2.2.2.2.2.2.2.2.2.2.2.2.2.2.2.2.2.2 (hL 20 (by decide))).2
        have HFIN := Lib.hid hfin
        clear hold hdone hcond hrest hL hfin
        rw [h20]
        obtain ⟨v, hv⟩ : ∃ v, val 19 = v := ⟨_, rfl⟩
        rw [hv] at HFIN ⊢
        go_wp2
        go_ret
        rw [HR.out]
        exact HFIN.out.post HS.out
end
end Go.Proofs.Ytpdflncgemcniaa
