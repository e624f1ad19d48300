/- PROVED HERE: the contract of DiskDoes. No conditions beyond the premises that each theorem names. -/
import Derived.Test.YtpdflncgemcniaaD28
namespace Go.Proofs.Ytpdflncgemcniaa
open Go.RowKit

theorem Below.old {w w' : World} (h : Below w.heap.size w w') : Fr (fun b => w.heap.size ≤ b) w w' := ⟨h.os, h.tape, h.output, h.size, fun b _ hn => h.block b (Nat.not_le.1 hn)⟩

theorem Blk.below {n : Nat} {w w' : World} {b : Nat} {c : Array Value} {T : TypeId} (s : Blk w.heap b c T) (h : Below n w w') (hb : b < n) : Blk w'.heap b c T := (h.block b hb).trans s

/-- Both disks, at hand in one memory. -/
def Both (w W : World) (d m : Nat) (Sd Sm : Dk) (N : Nat → Prop) : Prop :=
  ∃ r F r' F', IsDisk W.heap d Sd r F ∧ IsModel W.heap m Sm r' F' ∧ (∀ b, F b → F' b → False) ∧ (∀ b, F b → w.heap.size ≤ b) ∧ (∀ b, F' b → w.heap.size ≤ b) ∧ (∀ b, N b → b < W.heap.size ∧ ¬ F b ∧ ¬ F' b) ∧ Below w.heap.size w W

theorem Both.old {w W W' : World} {d m : Nat} {Sd Sm : Dk} {N : Nat → Prop} (h : Both w W d m Sd Sm N) (o : Old W W') : Both w W' d m Sd Sm N := by
  obtain ⟨r, F, r', F', h1, h2, h3, h4, h5, h6, h7⟩ := h
  exact ⟨r, F, r', F', h1.fr o fun _ _ f => f, h2.fr o fun _ _ f => f, h3, h4, h5, fun b hb => ⟨Nat.lt_of_lt_of_le (h6 b hb).1 o.size, (h6 b hb).2⟩, h7.trans (o.to_below h7.size fun _ f => f.elim)⟩

/-- A new block is nobody's. -/
theorem Both.new {w W W' : World} {d m : Nat} {Sd Sm : Dk} {N : Nat → Prop} (h : Both w W d m Sd Sm N) (o : Old W W') {b : Nat} (h1 : W.heap.size ≤ b) (h2 : b < W'.heap.size) : Both w W' d m Sd Sm (fun x => N x ∨ x = b) := by
  obtain ⟨r, F, r', F', d1, d2, d3, d4, d5, d6, d7⟩ := h
  refine ⟨r, F, r', F', d1.fr o fun _ _ f => f, d2.fr o fun _ _ f => f, d3, d4, d5, fun x hx => ?_, d7.trans (o.to_below d7.size fun _ f => f.elim)⟩
  rcases hx with hx | rfl
  · exact ⟨Nat.lt_of_lt_of_le (d6 x hx).1 o.size, (d6 x hx).2⟩
  · exact ⟨h2, fun f => absurd (d1.lt x f) (Nat.not_lt.2 h1), fun f => absurd (d2.lt x f) (Nat.not_lt.2 h1)⟩

theorem Both.less {w W : World} {d m : Nat} {Sd Sm : Dk} {N N' : Nat → Prop} (h : Both w W d m Sd Sm N) (hN : ∀ b, N' b → N b) : Both w W d m Sd Sm N' := by
  obtain ⟨r, F, r', F', h1, h2, h3, h4, h5, h6, h7⟩ := h
  exact ⟨r, F, r', F', h1, h2, h3, h4, h5, fun b hb => h6 b (hN b hb), h7⟩

/-- Blocks that are nobody's have turned. -/
theorem Both.turn {w W W' : World} {d m : Nat} {Sd Sm : Dk} {N G : Nat → Prop} (h : Both w W d m Sd Sm N) (f : Fr G W W') (hG : ∀ b, G b → N b ∧ w.heap.size ≤ b) : Both w W' d m Sd Sm N := by
  obtain ⟨r, F, r', F', h1, h2, h3, h4, h5, h6, h7⟩ := h
  exact ⟨r, F, r', F', h1.fr f fun b hF g => (h6 b (hG b g).1).2.1 hF, h2.fr f fun b hF g => (h6 b (hG b g).1).2.2 hF, h3, h4, h5, fun b hb => ⟨Nat.lt_of_lt_of_le (h6 b hb).1 f.size, (h6 b hb).2⟩,
    h7.trans (f.to_below h7.size fun b g => (hG b g).2)⟩

theorem Both.below {w W : World} {d m : Nat} {Sd Sm : Dk} {N : Nat → Prop} (h : Both w W d m Sd Sm N) : Below w.heap.size w W := by
  obtain ⟨r, F, r', F', h1, h2, h3, h4, h5, h6, h7⟩ := h
  exact h7

/-- Block b is as it was. -/
theorem Both.keep {w W W' : World} {d m : Nat} {Sd Sm Sd' Sm' : Dk} {N : Nat → Prop} (_ : Both w W d m Sd Sm N) (_ : Both w W' d m Sd' Sm' N) {b : Nat} (e : W'.heap[b]? = W.heap[b]?) {c : Array Value} {T : TypeId} (s : Blk W.heap b c T) : Blk W'.heap b c T := e.trans s

/-- What an operation of the program's disk does to both. -/
theorem do_both {w W : World} {d m : Nat} {Sd Sm : Dk} {N : Nat → Prop} (h : Both w W d m Sd Sm N) {K : Nat} (wf : Wf Sd K) (hK : K < 1000000) (o : Opn) (ok : OpOk o) (G : Nat → Prop) (vd k f u : Value) (hop : IsOp w.heap G vd k f u o) (hGs : ∀ x, G x → x < w.heap.size) :
    Calls Try.prog 9 #[.pointer (some ⟨d, 0, none⟩), opVal vd k f u o] W fun e W' => e = .returned (.int .i64 (stepOp Sd o).1) ∧ Both w W' d m (stepOp Sd o).2 Sm N ∧ ∀ b, N b → W'.heap[b]? = W.heap[b]? := by
  obtain ⟨r, F, r', F', h1, h2, h3, h4, h5, h6, h7⟩ := h
  refine (do9 h1 wf hK o ok G vd k f u (hop.fr (Below.old h7) fun x h1 h2 => absurd (hGs x h1) (Nat.not_lt.2 h2)) (fun x g hF => absurd (hGs x g) (Nat.not_lt.2 (h4 x hF))) fun x g => Nat.lt_of_lt_of_le (hGs x g) h7.size).mono ?_
  rintro e W' ⟨rfl, r2, F2, hd, hs⟩
  refine ⟨rfl, ⟨r2, F2, r', F', hd, h2.fr hs.fr fun b hF' hF => h3 b hF hF', fun b hF2 hF' => ?_, fun b hF2 => ?_, h5, fun b hb => ⟨Nat.lt_of_lt_of_le (h6 b hb).1 hs.fr.size, fun hF2 => ?_, (h6 b hb).2.2⟩, h7.trans (hs.fr.to_below h7.size h4)⟩, fun b hb => hs.fr.block b (h6 b hb).1 (h6 b hb).2.1⟩
  · rcases hs.own b hF2 with h | h
    · exact h3 b h hF'
    · have := h2.lt b hF'; omega
  · rcases hs.own b hF2 with h | h
    · exact h4 b h
    · exact Nat.le_trans h7.size h
  · rcases hs.own b hF2 with h | h
    · exact (h6 b hb).2.1 h
    · have := (h6 b hb).1; omega

/-- What an operation of the document's disk does to both. -/
theorem model_both {w W : World} {d m : Nat} {Sd Sm : Dk} {N : Nat → Prop} (h : Both w W d m Sd Sm N) {K : Nat} (wf : Wf Sm K) (hK : K < 1000000) (o : Opn) (ok : OpOk o) (G : Nat → Prop) (vd k f u : Value) (hop : IsOp w.heap G vd k f u o) (hGs : ∀ x, G x → x < w.heap.size) :
    Calls Try.prog 10 #[.pointer (some ⟨m, 0, none⟩), opVal vd k f u o] W fun e W' => e = .returned (.int .i64 (stepOp Sm o).1) ∧ Both w W' d m Sd (stepOp Sm o).2 N ∧ ∀ b, N b → W'.heap[b]? = W.heap[b]? := by
  obtain ⟨r, F, r', F', h1, h2, h3, h4, h5, h6, h7⟩ := h
  refine (model10 h2 wf hK o ok G vd k f u (hop.fr (Below.old h7) fun x h1 h2 => absurd (hGs x h1) (Nat.not_lt.2 h2)) (fun x g hF => absurd (hGs x g) (Nat.not_lt.2 (h5 x hF))) fun x g => Nat.lt_of_lt_of_le (hGs x g) h7.size).mono ?_
  rintro e W' ⟨rfl, r2, F2, hd, hs⟩
  refine ⟨rfl, ⟨r, F, r2, F2, h1.fr hs.fr fun b hF hF' => h3 b hF hF', hd, fun b hF hF2 => ?_, h4, fun b hF2 => ?_, fun b hb => ⟨Nat.lt_of_lt_of_le (h6 b hb).1 hs.fr.size, (h6 b hb).2.1, fun hF2 => ?_⟩, h7.trans (hs.fr.to_below h7.size h5)⟩, fun b hb => hs.fr.block b (h6 b hb).1 (h6 b hb).2.2⟩
  · rcases hs.own b hF2 with h | h
    · exact h3 b hF h
    · have := h1.lt b hF; omega
  · rcases hs.own b hF2 with h | h
    · exact h5 b h
    · exact Nat.le_trans h7.size h
  · rcases hs.own b hF2 with h | h
    · exact (h6 b hb).2.2 h
    · have := (h6 b hb).1; omega

/-- What the statement asks of an operation's data ahead of few. -/
structure OpRd (o : Opn) : Prop where
  name : o.name.size ≤ maxLen
  target : o.target.size ≤ maxLen
  pos : -9223372036854775808 ≤ o.pos ∧ o.pos < 9223372036854775808
  long : -9223372036854775808 ≤ o.long ∧ o.long < 9223372036854775808
  data : o.data.length ≤ 140737488355328
  keep : o.plan.keep.length ≤ 140737488355328
  fail : o.plan.fail.length ≤ 140737488355328
  full : o.plan.full.length ≤ 140737488355328
  wide : ∀ x ∈ o.plan.keep, -9223372036854775808 ≤ x ∧ x < 9223372036854775808

theorem OpRd.ok {o : Opn} (h : OpRd o) (s : small o) : OpOk o := ⟨h.name, h.target, h.pos, h.long, s.1, ⟨by have := s.2.1; omega, by have := s.2.2.1; omega, by have := s.2.2.2; omega, h.wide⟩⟩

theorem iput {w : World} {F : Nat → Prop} {n g k c : Nat} {xs : List Int} (s : OwnRow w.heap F 3 1 (.slice (some ⟨g, 0, none⟩) n c) n (xs.map iv)) (t : Int) : OwnRow (w.setCell ⟨g, k, none⟩ (.int .i64 t)).heap F 3 1 (.slice (some ⟨g, 0, none⟩) n c) n ((xs.set k t).map iv) := by
  rw [List.map_set]
  exact s.set rfl _

theorem wf_new {p : Pl} (h : PlOk p) : Wf (newDk p) 0 := ⟨h, Nat.le_refl _, Nat.le_refl _, List.Pairwise.nil, fun f hf => by cases hf⟩

/-- Behind j operations. -/
def StateAt (w wr : World) (d m j : Nat) : Prop := ∃ S, Wf S (2 * j) ∧ Both w wr d m S S (fun _ => False)

/-- The two new disks. -/
def NewAt (W4 W1 : World) (p : Pl) (v1 : Value) (l3 : Bool) (v3 : Value) : Prop := ∃ d r F, v1 = .pointer (some ⟨d, 0, none⟩) ∧ IsDisk W1.heap d (newDk p) r F ∧ (∀ b, F b → W4.heap.size ≤ b) ∧
  (l3 = true → ∃ m r' F', v3 = .pointer (some ⟨m, 0, none⟩) ∧ IsModel W1.heap m (newDk p) r' F' ∧ (∀ b, F' b → W4.heap.size ≤ b) ∧ ∀ b, F b → F' b → False)

set_option maxHeartbeats 8000000 in
set_option maxRecDepth 100000 in
theorem diskDoes3 (w : World) (G : Nat → Prop) (p : Pl) (okp : PlOk p) (k f u : Value) (hp : IsPlanR w.heap G k f u p) (v : Value) (ps : List OP) (hops : IsOps w.heap G v ps) (hl : ps.length ≤ 1000000000000) (hrd : ∀ q ∈ ps, OpRd q.o) (hGs : ∀ b, G b → b < w.heap.size) :
    Calls Try.prog 3 #[.agg #[.int .i64 p.crash, k, f, u, .int .i64 p.room], v] w (AwakePost w) := by
  obtain ⟨a, c, rfl, hc⟩ := hops.shape
  obtain ⟨ak, ck, rfl, _, _⟩ := hp.keep.shape
  obtain ⟨af, cf, rfl, _, _⟩ := hp.fail.shape
  obtain ⟨au, cu, rfl, _, _⟩ := hp.full.shape
  obtain ⟨W0, hW0⟩ : ∃ W0, w.alloc (.cells #[.int .i64 p.crash, .slice ak p.keep.length ck, .slice af p.fail.length cf, .slice au p.full.length cu, .int .i64 p.room] 24) = W0 := ⟨_, rfl⟩
  have o0 : Old w W0 := by rw [← hW0]; exact (Fr.refl _ _).alloc _
  have bA : Blk W0.heap w.heap.size #[.int .i64 p.crash, .slice ak p.keep.length ck, .slice af p.fail.length cf, .slice au p.full.length cu, .int .i64 p.room] 24 := by rw [← hW0]; exact blk_new w _ 24
  have hz0 : W0.heap.size = w.heap.size + 1 := by rw [← hW0]; simp
  have HB0 := Lib.hid (o0.to_below (B := w.heap.size) (Nat.le_refl _) fun _ f => f.elim)
  have HA := Lib.hid bA
  have HZ0 := Lib.hid hz0
  have HP := Lib.hid hp
  have HOPS := Lib.hid hops
  have HRD := Lib.hid hrd
  have HGS := Lib.hid hGs
  have haw := awake4 W0
  clear o0 bA hz0 hp hops hrd hGs
  go_enter Try.func3, Try.ntmps3
  go_wp2_with (first
    | (go_at_call 4; refine haw.mono ?_; clear haw; rintro e w1 ⟨rfl, hb1⟩
       have HB1 := Lib.hid (HB0.out.trans (hb1.mono HB0.out.size))
       have hA1 := HA.out.below hb1 (by have := HZ0.out; omega)
       have HA1 := Lib.hid hA1
       obtain ⟨x1, _⟩ := hA1.rules
       have hfew := few5 w1 G _ ps (HOPS.out.fr (Below.old HB1.out) fun x h1 h2 => absurd (HGS.out x h1) (Nat.not_lt.2 h2)) hl (fun q hq => ⟨(HRD.out q hq).data, (HRD.out q hq).keep, (HRD.out q hq).fail, (HRD.out q hq).full⟩) (fun q hq => ⟨(HRD.out q hq).pos.1, (HRD.out q hq).pos.2, (HRD.out q hq).long.1, (HRD.out q hq).long.2⟩)
       clear hb1 hA1)
    | fail)
  refine hfew.mono ?_
  rintro e w2 ⟨bf, rfl, hbf, ho2⟩
  cases bf with
  | false =>
    have HB2 := Lib.hid (show Below w.heap.size w w2 from HB1.out.trans (ho2.to_below HB1.out.size fun _ f => f.elim))
    clear ho2 hbf hfew
    go_wp2
    go_ret
    exact ⟨rfl, HB2.out⟩
  | true =>
    obtain ⟨h60, hsm⟩ := hbf rfl
    have HSM := Lib.hid hsm
    have HB2 := Lib.hid (show Below w.heap.size w w2 from HB1.out.trans (ho2.to_below HB1.out.size fun _ f => f.elim))
    have hA2 := HA1.out.fr ho2 fun f => f
    obtain ⟨x2, _⟩ := hA2.rules
    have HA2 := Lib.hid hA2
    have hp2 := HP.out.fr (Below.old HB2.out) fun x h1 h2 => absurd (HGS.out x h1) (Nat.not_lt.2 h2)
    have hGs2 : ∀ b, G b → b < w2.heap.size := fun b hb => Nat.lt_of_lt_of_le (HGS.out b hb) HB2.out.size
    have htw := twin6w w2 G p.crash p.room _ _ _ p.keep p.fail p.full hp2.keep hp2.fail hp2.full okp.keep okp.fail okp.full hGs2
    have HP2 := Lib.hid hp2
    have HGS2 := Lib.hid hGs2
    clear ho2 hbf hfew hsm hA2 hp2 hGs2
    go_wp2_with (go_at_call 6; refine htw.mono ?_; clear htw; rintro e w3 ⟨k', f', u', rfl, hk3, hf3, hu3, ho3⟩
                 obtain ⟨ak', ck', e1, _, hpk⟩ := hk3.slice
                 obtain ⟨af', cf', e2, _, _⟩ := hf3.shape
                 obtain ⟨au', cu', e3, _, _⟩ := hu3.shape
                 subst e1 e2 e3
                 have HK3 := Lib.hid hk3
                 have HF3 := Lib.hid hf3
                 have HU3 := Lib.hid hu3
                 have HO3 := Lib.hid ho3
                 clear hk3 hf3 hu3 ho3)
    obtain ⟨W4, hW4⟩ : ∃ W4, w3.alloc (.cells #[.int .i64 p.crash, .slice ak' p.keep.length ck', .slice af' p.fail.length cf', .slice au' p.full.length cu', .int .i64 p.room] 24) = W4 := ⟨_, rfl⟩
    have o4 : Old w3 W4 := by rw [← hW4]; exact (Fr.refl _ _).alloc _
    have bM : Blk W4.heap w3.heap.size #[.int .i64 p.crash, .slice ak' p.keep.length ck', .slice af' p.fail.length cf', .slice au' p.full.length cu', .int .i64 p.room] 24 := by rw [← hW4]; exact blk_new w3 _ 24
    have hz4 : W4.heap.size = w3.heap.size + 1 := by rw [← hW4]; simp
    rw [hW4]
    have HO4 := Lib.hid o4
    have HM := Lib.hid bM
    have HZ4 := Lib.hid hz4
    have HA4 := Lib.hid (HA2.out.fr (HO3.out.trans' o4) fun f => f)
    have hplM : IsPlan W4.heap (fun b => w2.heap.size ≤ b) (.slice ak' p.keep.length ck') (.slice af' p.fail.length cf') (.slice au' p.full.length cu') p := ⟨(HK3.out.slT.fr o4 fun _ _ f => f).at, (HF3.out.fr o4 fun _ _ f => f).at, (HU3.out.fr o4 fun _ _ f => f).at⟩
    have HPM := Lib.hid hplM
    have HP4 := Lib.hid (HP2.out.fr (HO3.out.trans' o4) fun _ _ f => f)
    have hz34 : w2.heap.size ≤ w3.heap.size := HO3.out.size
    clear o4 bM hz4 hplM
    refine wp_region_lits (by kernel_rfl) (by kernel_rfl) (fun L val W1 => Old W4 W1 ∧
      (L 0 = true → val 0 = .agg #[.int .i64 p.crash, .slice ak' p.keep.length ck', .slice af' p.fail.length cf', .slice au' p.full.length cu', .int .i64 p.room]) ∧
      (L 2 = true → val 2 = .agg #[.int .i64 p.crash, .slice ak p.keep.length ck, .slice af p.fail.length cf, .slice au p.full.length cu, .int .i64 p.room]) ∧
      (L 1 = true → NewAt W4 W1 p (val 1) (L 3) (val 3)) ∧
      (L 3 = true → L 1 = true) ∧ (L 4 = true → L 3 = true) ∧ (L 5 = true → L 3 = true) ∧
      (L 4 = true → val 4 = val 1) ∧
      (L 5 = true → val 5 = val 3)) ?h0 ?hs ?he
    case h0 => exact ⟨(Fr.refl _ _).drew, by simp⟩
    case hs =>
      refine ⟨?_, ?_, ?_, ?_, ?_, ?_, trivial⟩
      all_goals
        intro L val W1 a ha hB hLi hd
        simp [putL, Act.put] at ha
        subst ha
        simp [Region.binds] at hd
        obtain ⟨ho, p0, p2, hc1, c3, c4, c5, p4, p5⟩ := hB
      case refine_1 =>
        obtain ⟨y1, _⟩ := (HM.out.fr ho fun f => f).rules
        go_simp
        simp only [StepOk, upd, valPut, ↓reduceIte, Nat.reduceEqDiff]
        exact ⟨ho, by simp, p2, hc1, c3, c4, c5, p4, p5⟩
      case refine_2 =>
        have q0 := p0 (by simp [hd])
        have h3 : L 3 = false := by cases hL : L 3 with | false => rfl | true => have := c3 hL; rw [this] at hLi; cases hLi
        have h4e : L 4 = false := by cases hL : L 4 with | false => rfl | true => have := c4 hL; rw [this] at h3; cases h3
        have hcall := new7 W1 p okp _ _ _ _ (HPM.out.fr ho fun _ _ f => f)
        go_simp
        show Calls Try.prog 7 _ W1 _
        refine hcall.mono ?_
        rintro e W2 ⟨d, r, F, rfl, hd2, hF2, ho2⟩
        refine ⟨_, rfl, ?_⟩
        simp only [upd, valPut, ↓reduceIte, Nat.reduceEqDiff]
        exact ⟨ho.trans' ho2, p0, p2, fun _ => ⟨d, r, F, rfl, hd2, fun b hb => Nat.le_trans ho.size (hF2 b hb), fun h => absurd h (by simp [h3])⟩, by simp, c4, c5, fun h => absurd h (by simp [h4e]), p5⟩
      case refine_3 =>
        obtain ⟨y1, _⟩ := (HA4.out.fr ho fun f => f).rules
        go_simp
        simp only [StepOk, upd, valPut, ↓reduceIte, Nat.reduceEqDiff]
        exact ⟨ho, p0, by simp, hc1, c3, c4, c5, p4, p5⟩
      case refine_4 =>
        have q2 := p2 (by simp [hd])
        obtain ⟨d, r, F, e1, hdk, hFk, _⟩ := hc1 (by simp [hd])
        have hcall := mnew8 W1 p okp _ _ _ _ (HP4.out.fr ho fun _ _ f => f) (fun b hb => Nat.lt_of_lt_of_le (HGS2.out b hb) (Nat.le_trans (Nat.le_trans HO3.out.size HO4.out.size) ho.size))
        have hL1 : L 1 = true := by simp [hd]
        have h5e : L 5 = false := by cases hL : L 5 with | false => rfl | true => have := c5 hL; rw [this] at hLi; cases hLi
        go_simp
        show Calls Try.prog 8 _ W1 _
        refine hcall.mono ?_
        rintro e W2 ⟨m, r', F', rfl, hm2, hF2, ho2⟩
        refine ⟨_, rfl, ?_⟩
        simp only [upd, valPut, ↓reduceIte, Nat.reduceEqDiff]
        exact ⟨ho.trans' ho2, p0, p2, fun _ => ⟨d, r, F, e1, hdk.fr ho2 fun _ _ f => f, hFk, fun _ => ⟨m, r', F', rfl, hm2, fun b hb => Nat.le_trans ho.size (hF2 b hb), fun b h1 h2 => absurd (hdk.lt b h1) (Nat.not_lt.2 (hF2 b h2))⟩⟩, fun _ => hL1, by simp, by simp, p4, fun h => absurd h (by simp [h5e])⟩
      case refine_5 =>
        go_simp
        simp only [StepOk, upd, valPut, ↓reduceIte, Nat.reduceEqDiff]
        have hL3 : L 3 = true := by simp [hd]
        exact ⟨ho, p0, p2, hc1, c3, fun _ => hL3, c5, by simp, p5⟩
      case refine_6 =>
        go_simp
        simp only [StepOk, upd, valPut, ↓reduceIte, Nat.reduceEqDiff]
        have hL3 : L 3 = true := by simp [hd]
        exact ⟨ho, p0, p2, hc1, c3, c4, fun _ => hL3, p4, by simp⟩
    case he =>
      intro L val W5 a ha hL hB
      simp [putL, Act.put] at ha
      subst ha
      obtain ⟨ho, p0, p2, hc1, c3, c4, c5, p4, p5⟩ := hB
      obtain ⟨d, r, F, e1, hdk, hFk, hc3⟩ := hc1 (hL 1 (by decide))
      obtain ⟨m, r', F', e3, hmk, hFk', hdis⟩ := hc3 (hL 3 (by decide))
      have e4 := p4 (hL 4 (by decide))
      have e5 := p5 (hL 5 (by decide))
      rw [e4, e5, e1, e3]
      generalize val 0 = z0, val 2 = z2
      have hboth : Both w W5 d m (newDk p) (newDk p) (fun b => b < W4.heap.size) := by
        have hw4 : w.heap.size ≤ W4.heap.size := Nat.le_trans (Nat.le_trans HB2.out.size HO3.out.size) HO4.out.size
        refine ⟨r, F, r', F', hdk, hmk, hdis, fun b hb => Nat.le_trans hw4 (hFk b hb), fun b hb => Nat.le_trans hw4 (hFk' b hb), fun b hb => ⟨Nat.lt_of_lt_of_le hb ho.size, fun h => absurd (hFk b h) (Nat.not_le.2 hb), fun h => absurd (hFk' b h) (Nat.not_le.2 hb)⟩, ?_⟩
        exact HB2.out.trans (((HO3.out.trans' HO4.out).trans' ho).to_below HB2.out.size fun _ f => f.elim)
      have HBO := Lib.hid hboth
      have hM5 := HM.out.fr ho fun f => f
      have HM5 := Lib.hid hM5
      obtain ⟨y1, _⟩ := hM5.rules
      have HK5 := Lib.hid (HK3.out.fr (HO4.out.trans' ho) fun _ _ f => f)
      have HKB := Lib.hid (show ∀ b, (Value.slice ak' p.keep.length ck').ownBlock = some b → w2.heap.size ≤ b ∧ b < w3.heap.size from fun b e => by
        obtain ⟨h1, cur, h2⟩ := HK3.out.owned e
        exact ⟨h1, (Array.getElem?_eq_some_iff.1 h2).1⟩)
      have hkl := okp.keep
      clear ho p0 p2 hc1 c3 c4 c5 p4 p5 hdk hFk hc3 hmk hFk' hdis e1 e3 e4 e5 hboth hM5 hL
      go_wp2
      go_loopw [31] (fun i wr => ∃ (kk : Nat) (xs : List Int), i = .int .i64 kk ∧ kk ≤ p.keep.length ∧ xs.length = p.keep.length ∧ OwnRow wr.heap (fun b => w2.heap.size ≤ b) 3 1 (.slice ak' p.keep.length ck') p.keep.length (xs.map iv) ∧ Fr (fun b => (Value.slice ak' p.keep.length ck').ownBlock = some b) W5 wr) (fun i _ => p.keep.length - (intOf i).toNat)
      case atStart => exact ⟨0, p.keep, rfl, Nat.zero_le _, rfl, HK5.out, Fr.refl _ _⟩
      case round =>
        obtain ⟨kk, xs, rfl, hkk, hxl, hrow, hfr⟩ := hrel
        have hM6 := HM5.out.fr hfr fun e => absurd (HKB.out _ e).2 (Nat.lt_irrefl _)
        obtain ⟨y2, _⟩ := hM6.rules
        by_cases hlt2 : kk < p.keep.length
        · obtain ⟨g, rfl, _, _⟩ := hpk (by omega)
          obtain ⟨t1, t2⟩ := hrow.rules (b := g) rfl
          obtain ⟨z, hx⟩ : ∃ z, (xs.map iv)[kk]? = some (.int .i64 z) := ⟨_, by rw [List.getElem?_map, List.getElem?_eq_getElem (by omega)]; rfl⟩
          have hcc := t1 kk _ hx
          have hff := t2 kk
          have HROW := Lib.hid hrow
          have HFR := Lib.hid hfr
          have HXL := Lib.hid hxl
          clear t1 t2 hx hrow hfr hxl hM6
          go_wp2
          exact ⟨⟨kk + 1, xs.set kk _, by go_num, by omega, by rw [List.length_set]; exact HXL.out, iput HROW.out _, HFR.out.setCell (p := ⟨g, kk, none⟩) (fun _ => rfl) _⟩, by simp [intOf]; omega⟩
        · have hb6 : Both w wr d m (newDk p) (newDk p) (fun _ => False) := (HBO.out.turn hfr fun b e => ⟨Nat.lt_of_lt_of_le (HKB.out b e).2 (by have := HZ4.out; omega), Nat.le_trans HB2.out.size (HKB.out b e).1⟩).less fun _ f => f.elim
          have HB6 := Lib.hid hb6
          clear hrow hfr hxl hM6 y2 hb6 y1
          go_wp2
          clear hkk hlt2 hkl
          go_loopw [41] (fun i wr => ∃ j : Nat, i = .int .i64 j ∧ j ≤ ps.length ∧ StateAt w wr d m j) (fun i _ => ps.length - (intOf i).toNat)
          case atStart => exact ⟨0, rfl, Nat.zero_le _, newDk p, wf_new okp, HB6.out⟩
          case round =>
            clear HB6
            obtain ⟨j, rfl, hj, S, hwf, hbo⟩ := hrel
            have hops := HOPS.out.fr (Below.old hbo.below) fun x h1 h2 => absurd (HGS.out x h1) (Nat.not_lt.2 h2)
            have HWF := Lib.hid hwf
            by_cases hlt2 : j < ps.length
            · obtain ⟨q, hq⟩ : ∃ q, ps[j]? = some q := ⟨_, List.getElem?_eq_getElem hlt2⟩
              have hmem := List.mem_of_getElem? hq
              obtain ⟨b, o, rfl, hb, c0, c1, c2, c3, c4, c5, c6, c7, c8, c9, c10⟩ := hops.at rfl hq
              have hop := HOPS.out.each q hmem
              have hok := (HRD.out q hmem).ok (HSM.out q hmem)
              obtain ⟨xa, xc, ed, _, _⟩ := hop.data.shape
              obtain ⟨xk, xkc, ek, _, _⟩ := hop.plan.keep.shape
              obtain ⟨xf, xfc, ef, _, _⟩ := hop.plan.fail.shape
              obtain ⟨xu, xuc, eu, _, _⟩ := hop.plan.full.shape
              rw [ed] at c5
              rw [ek] at c7
              rw [ef] at c8
              rw [eu] at c9
              rw [ed, ek, ef, eu] at hop
              have HOP := Lib.hid hop
              have HOK := Lib.hid hok
              obtain ⟨Wb, hWb⟩ : ∃ Wb, wr.alloc (.cells #[.int .i64 q.o.kind, .string q.o.name, .string q.o.target, .int .i64 q.o.pos, .int .i64 q.o.long, .slice xa q.o.data.length xc, .int .i64 q.o.plan.crash, .slice xk q.o.plan.keep.length xkc, .slice xf q.o.plan.fail.length xfc, .slice xu q.o.plan.full.length xuc, .int .i64 q.o.plan.room] 35) = Wb := ⟨_, rfl⟩
              have ob : Old wr Wb := by rw [← hWb]; exact (Fr.refl _ _).alloc _
              have bX : Blk Wb.heap wr.heap.size #[.int .i64 q.o.kind, .string q.o.name, .string q.o.target, .int .i64 q.o.pos, .int .i64 q.o.long, .slice xa q.o.data.length xc, .int .i64 q.o.plan.crash, .slice xk q.o.plan.keep.length xkc, .slice xf q.o.plan.fail.length xfc, .slice xu q.o.plan.full.length xuc, .int .i64 q.o.plan.room] 35 := by rw [← hWb]; exact blk_new wr _ 35
              have hzb : wr.heap.size < Wb.heap.size := by rw [← hWb]; simp
              have HBW := Lib.hid ((hbo.new ob (Nat.le_refl _) hzb).less (N' := fun x => x = wr.heap.size) fun x h => .inr h)
              have HX := Lib.hid bX
              obtain ⟨y, hy⟩ : ∃ y, (stepOp S q.o).1 = y := ⟨_, rfl⟩
              obtain ⟨S2, hS2⟩ : ∃ S2, (stepOp S q.o).2 = S2 := ⟨_, rfl⟩
              have hwf2 := hwf.step hok
              rw [hS2] at hwf2
              have HW2 := Lib.hid hwf2
              have HY := Lib.hid (And.intro hy hS2)
              clear hops hmem hq ed ek ef eu hop hok ob bX hzb hbo hwf hy hS2 hwf2
              go_wp2_with fail
              refine wp_region_litsG (by kernel_rfl) (by kernel_rfl) (by simp) (fun L val W1 => (L 2 = false → Both w W1 d m S S (fun x => x = wr.heap.size)) ∧ (L 2 = true → L 5 = false → Both w W1 d m S2 S (fun x => x = wr.heap.size)) ∧ (L 5 = true → Both w W1 d m S2 S2 (fun x => x = wr.heap.size)) ∧
                Blk W1.heap wr.heap.size #[.int .i64 q.o.kind, .string q.o.name, .string q.o.target, .int .i64 q.o.pos, .int .i64 q.o.long, .slice xa q.o.data.length xc, .int .i64 q.o.plan.crash, .slice xk q.o.plan.keep.length xkc, .slice xf q.o.plan.fail.length xfc, .slice xu q.o.plan.full.length xuc, .int .i64 q.o.plan.room] 35 ∧ (L 5 = true → L 2 = true) ∧ (L 7 = true → L 5 = true) ∧
                (L 0 = true → val 0 = .pointer (some ⟨d, 0, none⟩)) ∧
                (L 1 = true → val 1 = .agg #[.int .i64 q.o.kind, .string q.o.name, .string q.o.target, .int .i64 q.o.pos, .int .i64 q.o.long, .slice xa q.o.data.length xc, .int .i64 q.o.plan.crash, .slice xk q.o.plan.keep.length xkc, .slice xf q.o.plan.fail.length xfc, .slice xu q.o.plan.full.length xuc, .int .i64 q.o.plan.room]) ∧
                (L 2 = true → val 2 = .int .i64 y) ∧
                (L 3 = true → val 3 = .pointer (some ⟨m, 0, none⟩)) ∧
                (L 4 = true → val 4 = .agg #[.int .i64 q.o.kind, .string q.o.name, .string q.o.target, .int .i64 q.o.pos, .int .i64 q.o.long, .slice xa q.o.data.length xc, .int .i64 q.o.plan.crash, .slice xk q.o.plan.keep.length xkc, .slice xf q.o.plan.fail.length xfc, .slice xu q.o.plan.full.length xuc, .int .i64 q.o.plan.room]) ∧
                (L 5 = true → val 5 = .int .i64 y) ∧
                (L 6 = true → val 6 = .bool false) ∧
                (L 7 = true → val 7 = .bool false) ∧
                (L 8 = true → val 8 = .pointer (some ⟨d, 0, none⟩)) ∧
                (L 9 = true → val 9 = .int .i64 S2.n) ∧
                (L 10 = true → val 10 = .pointer (some ⟨m, 0, none⟩)) ∧
                (L 11 = true → val 11 = .pointer (some ⟨m, 0, none⟩)) ∧
                (L 12 = true → val 12 = .pointer (some ⟨m, 6, none⟩)) ∧
                (L 13 = true → val 13 = .int .i64 S2.n) ∧
                (L 14 = true → val 14 = .bool false) ∧
                (L 15 = true → val 15 = .bool false)) ?h0 ?hs ?he
              case h0 => exact ⟨fun _ => HBW.out.old ((Fr.refl _ _).drew), by simp, by simp, HX.out, by simp⟩
              case hs =>
                refine ⟨?_, ?_, ?_, ?_, ?_, ?_, ?_, ?_, ?_, ?_, ?_, ?_, ?_, ?_, ?_, ?_, trivial⟩
                all_goals
                  intro L val W1 a ha hB hLi hd
                  simp [putL, Act.put] at ha
                  subst ha
                  simp [Region.binds] at hd
                  obtain ⟨bo0, bo1, bo2, bX, c5x, c7x, p0, p1, p2, p3, p4, p5, p6, p7, p8, p9, p10, p11, p12, p13, p14, p15⟩ := hB
                case refine_1 =>
                  refine ⟨by (intro j b e; simp at e), ?_⟩
                  go_simp
                  simp only [StepOk, upd, valPut, ↓reduceIte, Nat.reduceEqDiff]
                  and_intros
                  all_goals first | assumption | (intro h; cases h; done) | (intro _; assumption) | (simp_all; done)
                case refine_2 =>
                  refine ⟨by (intro j b e; simp at e), ?_⟩
                  obtain ⟨x1, _⟩ := bX.rules
                  go_simp
                  simp only [StepOk, upd, valPut, ↓reduceIte, Nat.reduceEqDiff]
                  and_intros
                  all_goals first | assumption | (intro h; cases h; done) | (intro _; assumption) | trivial | (intro _; rfl) | (simp_all; done)
                case refine_3 =>
                  refine ⟨by (intro j b e; simp at e), ?_⟩
                  have q0 := p0 (by simp [hd])
                  have q1 := p1 (by simp [hd])
                  have h5 : L 5 = false := by cases hL : L 5 with | false => rfl | true => have := c5x hL; rw [this] at hLi; cases hLi
                  have hcall := do_both (bo0 hLi) HWF.out (by omega) q.o HOK.out G _ _ _ _ HOP.out HGS.out
                  go_simp
                  show Calls Try.prog 9 _ W1 _
                  refine hcall.mono ?_
                  rintro e W2 ⟨rfl, hb2, hk2⟩
                  rw [HY.out.2] at hb2
                  have bX2 : Blk W2.heap wr.heap.size _ 35 := (hk2 _ rfl).trans bX
                  refine ⟨_, rfl, ?_⟩
                  simp only [upd, valPut, ↓reduceIte, Nat.reduceEqDiff]
                  exact ⟨by simp, fun _ _ => hb2, fun h => absurd h (by simp [h5]), bX2, by simp, c7x, p0, p1, fun _ => by rw [HY.out.1], p3, p4, p5, p6, p7, p8, p9, p10, p11, p12, p13, p14, p15⟩
                case refine_4 =>
                  refine ⟨by (intro j b e; simp at e), ?_⟩
                  go_simp
                  simp only [StepOk, upd, valPut, ↓reduceIte, Nat.reduceEqDiff]
                  and_intros
                  all_goals first | assumption | (intro h; cases h; done) | (intro _; assumption) | (simp_all; done)
                case refine_5 =>
                  refine ⟨by (intro j b e; simp at e), ?_⟩
                  obtain ⟨x1, _⟩ := bX.rules
                  go_simp
                  simp only [StepOk, upd, valPut, ↓reduceIte, Nat.reduceEqDiff]
                  and_intros
                  all_goals first | assumption | (intro h; cases h; done) | (intro _; assumption) | trivial | (intro _; rfl) | (simp_all; done)
                case refine_6 =>
                  refine ⟨by (intro j b e; simp at e), ?_⟩
                  have q3 := p3 (by simp [hd])
                  have q4 := p4 (by simp [hd])
                  have h2 : L 2 = true := by simp [hd]
                  have hcall := model_both (bo1 h2 hLi) HWF.out (by omega) q.o HOK.out G _ _ _ _ HOP.out HGS.out
                  go_simp
                  show Calls Try.prog 10 _ W1 _
                  refine hcall.mono ?_
                  rintro e W2 ⟨rfl, hb2, hk2⟩
                  rw [HY.out.2] at hb2
                  have bX2 : Blk W2.heap wr.heap.size _ 35 := (hk2 _ rfl).trans bX
                  refine ⟨_, rfl, ?_⟩
                  simp only [upd, valPut, ↓reduceIte, Nat.reduceEqDiff]
                  exact ⟨fun h => absurd h (by simp [h2]), by simp, fun _ => hb2, bX2, fun _ => h2, by simp, p0, p1, p2, p3, p4, fun _ => by rw [HY.out.1], p6, p7, p8, p9, p10, p11, p12, p13, p14, p15⟩
                case refine_7 =>
                  refine ⟨by (intro j b e; simp at e), ?_⟩
                  have q2 := p2 (by simp [hd])
                  have q5 := p5 (by simp [hd])
                  go_simp
                  simp only [StepOk, upd, valPut, ↓reduceIte, Nat.reduceEqDiff]
                  and_intros
                  all_goals first | assumption | (intro h; cases h; done) | (intro _; assumption) | (simp_all; done)
                case refine_8 =>
                  refine ⟨by (intro j b e; simp at e), ?_⟩
                  have q6 := p6 (by simp [hd])
                  have h5 : L 5 = true := by simp [hd]
                  go_simp
                  simp only [StepOk, upd, valPut, ↓reduceIte, Nat.reduceEqDiff]
                  and_intros
                  all_goals first | assumption | (intro h; cases h; done) | (intro _; assumption) | (simp_all; done)
                case refine_9 =>
                  refine ⟨by (intro j b e; simp at e; obtain ⟨rfl, rfl⟩ := e; exact p7 (by simp [hd])), ?_⟩
                  go_simp
                  simp only [StepOk, upd, valPut, ↓reduceIte, Nat.reduceEqDiff]
                  and_intros
                  all_goals first | assumption | (intro h; cases h; done) | (intro _; assumption) | (simp_all; done)
                case refine_10 =>
                  refine ⟨by (intro j b e; simp at e; obtain ⟨rfl, rfl⟩ := e; exact p7 (by simp [hd])), ?_⟩
                  have q8 := p8 (by simp [hd])
                  have h5 : L 5 = true := c7x (by simp [hd])
                  obtain ⟨r9, F9, r9', F9', k1, k2, _⟩ := bo2 h5
                  have hcall := ops11 k1
                  go_simp
                  show Calls Try.prog 11 _ W1 _
                  refine hcall.mono ?_
                  rintro e W2 ⟨rfl, rfl⟩
                  refine ⟨_, rfl, ?_⟩
                  simp only [upd, valPut, ↓reduceIte, Nat.reduceEqDiff]
                  exact ⟨bo0, bo1, bo2, bX, c5x, c7x, p0, p1, p2, p3, p4, p5, p6, p7, p8, by simp, p10, p11, p12, p13, p14, p15⟩
                case refine_11 =>
                  refine ⟨by (intro j b e; simp at e; obtain ⟨rfl, rfl⟩ := e; exact p7 (by simp [hd])), ?_⟩
                  go_simp
                  simp only [StepOk, upd, valPut, ↓reduceIte, Nat.reduceEqDiff]
                  and_intros
                  all_goals first | assumption | (intro h; cases h; done) | (intro _; assumption) | (simp_all; done)
                case refine_12 =>
                  refine ⟨by (intro j b e; simp at e; obtain ⟨rfl, rfl⟩ := e; exact p7 (by simp [hd])), ?_⟩
                  have q10 := p10 (by simp [hd])
                  go_simp
                  simp only [StepOk, upd, valPut, ↓reduceIte, Nat.reduceEqDiff]
                  and_intros
                  all_goals first | assumption | (intro h; cases h; done) | (intro _; assumption) | (simp_all; done)
                case refine_13 =>
                  refine ⟨by (intro j b e; simp at e; obtain ⟨rfl, rfl⟩ := e; exact p7 (by simp [hd])), ?_⟩
                  have q11 := p11 (by simp [hd])
                  go_simp
                  simp only [StepOk, upd, valPut, ↓reduceIte, Nat.reduceEqDiff]
                  and_intros
                  all_goals first | assumption | (intro h; cases h; done) | (intro _; assumption) | (simp_all; done)
                case refine_14 =>
                  refine ⟨by (intro j b e; simp at e; obtain ⟨rfl, rfl⟩ := e; exact p7 (by simp [hd])), ?_⟩
                  have q12 := p12 (by simp [hd])
                  have h5 : L 5 = true := c7x (by simp [hd])
                  have hc : W1.cell? ⟨m, 6, none⟩ = some (.int .i64 S2.n) := by
                    obtain ⟨r9, F9, r9', F9', k1, k2, _⟩ := bo2 h5
                    rw [k2.blk.rules.1]; rfl
                  go_simp
                  simp only [StepOk, upd, valPut, ↓reduceIte, Nat.reduceEqDiff]
                  and_intros
                  all_goals first | assumption | (intro h; cases h; done) | (intro _; assumption) | (simp_all; done)
                case refine_15 =>
                  refine ⟨by (intro j b e; simp at e; obtain ⟨rfl, rfl⟩ := e; exact p7 (by simp [hd])), ?_⟩
                  have q9 := p9 (by simp [hd])
                  have q13 := p13 (by simp [hd])
                  go_simp
                  simp only [StepOk, upd, valPut, ↓reduceIte, Nat.reduceEqDiff]
                  and_intros
                  all_goals first | assumption | (intro h; cases h; done) | (intro _; assumption) | (simp_all; done)
                case refine_16 =>
                  refine ⟨by (intro j b e; simp at e), ?_⟩
                  have q7 := p7 (by simp [hd])
                  have q14 := p14 (by simp [hd])
                  go_simp
                  simp only [StepOk, upd, valPut, ↓reduceIte, Nat.reduceEqDiff]
                  and_intros
                  all_goals first | assumption | (intro h; cases h; done) | (intro _; assumption) | (simp_all; done)
              case he =>
                intro L val W6 a ha hL hB
                simp [putL, Act.put] at ha
                subst ha
                obtain ⟨bo0, bo1, bo2, bX, c5x, c7x, p0, p1, p2, p3, p4, p5, p6, p7, p8, p9, p10, p11, p12, p13, p14, p15⟩ := hB
                have hbo2 := bo2 (hL 5 (by decide))
                have q15 := p15 (hL 15 (by decide))
                rw [q15]
                generalize val 0 = gg0, val 1 = gg1, val 2 = gg2, val 3 = gg3, val 4 = gg4, val 5 = gg5, val 6 = gg6, val 7 = gg7, val 8 = gg8, val 9 = gg9, val 10 = gg10, val 11 = gg11, val 12 = gg12, val 13 = gg13, val 14 = gg14
                clear bo0 bo1 bo2 c5x c7x p0 p1 p2 p3 p4 p5 p6 p7 p8 p9 p10 p11 p12 p13 p14 p15 hL q15
                obtain ⟨x6, _⟩ := bX.rules
                have HX6 := Lib.hid bX
                have HB6 := Lib.hid (hbo2.less (N' := fun _ => False) fun _ f => f.elim)
                obtain ⟨r9, F9, r9', F9', k1, k2, _⟩ := hbo2
                have hr1 := read12 k1 HW2.out q.o.name HOK.out.name q.o.pos q.o.long HOK.out.pos HOK.out.long
                have K2 := Lib.hid k2
                clear bX k1 k2
                by_cases hk8 : q.o.kind = 8
                · have hk1 : (q.o.kind == 8) = true := by simpa using hk8
                  clear hk8
                  go_wp2_with (first
                    | (go_at_call 12; refine hr1.mono ?_; clear hr1; rintro e w7 ⟨v7, rfl, hs7, ho7⟩
                       obtain ⟨a7, c7', e7, _, _⟩ := hs7.shape
                       subst e7
                       have hr2 := mread13 (K2.out.fr ho7 fun _ _ f => f) HW2.out (by omega) q.o.name q.o.pos q.o.long HOK.out.pos HOK.out.long
                       obtain ⟨x7, _⟩ := (HX6.out.fr ho7 fun f => f).rules
                       have HS7 := Lib.hid hs7
                       have HO7 := Lib.hid ho7
                       clear hs7 ho7)
                    | (go_at_call 13; refine hr2.mono ?_; clear hr2; rintro e w8 ⟨v8, rfl, hs8, ho8⟩
                       obtain ⟨a8, c8', e8, _, _⟩ := hs8.shape
                       subst e8
                       have hcv1 := conv_str (HS7.out.fr ho8 fun _ _ f => f).at
                       have hcv2 := conv_str hs8.at
                       have HO8 := Lib.hid (HO7.out.trans' ho8)
                       clear hs8 ho8))
                  exact ⟨⟨j + 1, by go_num, by omega, S2, HW2.out, HB6.out.old HO8.out⟩, by simp [intOf]; omega⟩
                · have hk1 : (q.o.kind == 8) = false := by simpa using hk8
                  clear hk8
                  go_wp2_with fail
                  exact ⟨⟨j + 1, by go_num, by omega, S2, HW2.out, HB6.out⟩, by simp [intOf]; omega⟩
            · have hbF := hbo.below
              obtain ⟨rz, Fz, rz', Fz', hz1, hz2, _, _, _, _, _⟩ := hbo
              have hlk := looks14 hz1 hz2 hwf (by omega)
              have HBF := Lib.hid hbF
              clear hops hbF hz1 hz2 hwf
              go_wp2_with (go_at_call 14; refine hlk.mono ?_; rintro e w9 ⟨rfl, hb9⟩
                           have HB9 := Lib.hid (HBF.out.trans (hb9.mono HBF.out.size))
                           clear hb9)
              go_ret
              exact ⟨rfl, HB9.out⟩
end Go.Proofs.Ytpdflncgemcniaa
