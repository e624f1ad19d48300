/- PROVED HERE: the contract of room, and of put. PROVED HERE: the contract of the numbers that a death takes; a file in the place of another. PROVED HERE: a death on its way: the plain laws. No conditions beyond the premises that each theorem names. -/
import Derived.Test.YtpdflncgemcniaaD07
import Derived.Deep.QuietTactic
namespace Go.Proofs.Ytpdflncgemcniaa
open Go.RowKit

/-- The bytes of the files that a range has met. -/
def seen (ps : List FP) (left : Lit → Bool) : Nat := ((ps.filter fun p => !left (.string p.1.name)).map fun p => (dataOf p.1).length).sum

theorem seen_cons (p : FP) (ps : List FP) (left : Lit → Bool) : seen (p :: ps) left = (if left (.string p.1.name) then 0 else (dataOf p.1).length) + seen ps left := by
  unfold seen
  rw [List.filter_cons]
  cases left (.string p.1.name) <;> simp

theorem seen_other {ps : List FP} {s : Bs} (left : Lit → Bool) (h : ∀ p ∈ ps, p.1.name ≠ s) : seen ps (fun z => left z && !z.sameKey (.string s)) = seen ps left := by
  induction ps with
  | nil => rfl
  | cons p ps ih =>
    rw [seen_cons, seen_cons, ih fun q hq => h q (by simp [hq])]
    have : (Lit.string p.1.name).sameKey (.string s) = false := by simpa [Lit.sameKey] using h p (by simp)
    simp [this]

theorem seen_step {ps : List FP} (hd : ps.Pairwise fun p q => p.1.name ≠ q.1.name) {p : FP} (hp : p ∈ ps) (left : Lit → Bool) (hl : left (.string p.1.name) = true) :
    seen ps (fun z => left z && !z.sameKey (.string p.1.name)) = seen ps left + (dataOf p.1).length := by
  induction ps with
  | nil => cases hp
  | cons q ps ih =>
    rw [List.pairwise_cons] at hd
    rw [seen_cons, seen_cons]
    rcases List.mem_cons.1 hp with rfl | hp
    · rw [seen_other left fun r hr e => hd.1 r hr e.symm]
      simp [Lit.sameKey, hl]
      omega
    · rw [ih hd.2 hp]
      have : (Lit.string q.1.name).sameKey (.string p.1.name) = false := by simpa [Lit.sameKey] using hd.1 p hp
      simp [this]
      omega

theorem seen_none (ps : List FP) {left : Lit → Bool} (h : ∀ p ∈ ps, left (.string p.1.name) = true) : seen ps left = 0 := by
  induction ps with
  | nil => rfl
  | cons p ps ih => rw [seen_cons, h p (by simp), ih fun q hq => h q (by simp [hq])]; rfl

theorem seen_all (ps : List FP) {left : Lit → Bool} (h : ∀ kl, left kl = false) : seen ps left = sumData (ps.map Prod.fst) := by
  induction ps with
  | nil => rfl
  | cons p ps ih => rw [seen_cons, h, ih]; simp [sumData]

theorem seen_le {ps : List FP} (left : Lit → Bool) (h : ∀ p ∈ ps, (dataOf p.1).length ≤ 268435456) : seen ps left ≤ ps.length * 268435456 := by
  induction ps with
  | nil => simp [seen]
  | cons p ps ih =>
    rw [seen_cons]
    have h1 := ih fun q hq => h q (by simp [hq])
    have h2 := h p (by simp)
    simp only [List.length_cons, Nat.add_mul]
    split <;> omega

theorem has_datum {ps : List FP} {p : FP} (h : p ∈ ps) : Maps.has (datum ps) (.string p.1.name) = true := by
  exact List.any_eq_true.2 ⟨_, List.mem_map_of_mem h, by simp [Lit.sameKey]⟩

section
variable {w : World} {d : Nat} {S : Dk} {r : DRep} {F : Nat → Prop}

theorem datum_any (ps : List FP) (s : Bs) (zd : DataW Unit) : (datum ps).atKey (.string s) zd = match ps.find? (fun p => p.1.name == s) with
    | some p => .lit (.int .i64 p.2.blk)
    | none => zd := by
  simp only [datum, DataW.atKey, List.find?_map]
  rw [show (fun p : Lit × DataW Unit => p.1.sameKey (.string s)) ∘ (fun p : FP => (Lit.string p.1.name, (DataW.lit (.int .i64 p.2.blk) : DataW Unit))) = fun p : FP => p.1.name == s from by
    funext p; simp [Lit.sameKey]]
  cases ps.find? (fun p => p.1.name == s) <;> rfl

/-- What a range over the files hands on is a file. -/
theorem entry_file {ps : List FP} {x : Bs} {c : Option Nat} {y : DataW Unit × List MemPlace} (hv : ptrR (ptrV c) = some y) (hat : ∀ zd, (datum ps).atKey (.string x) zd = y.1) :
    ∃ p ∈ ps, p.1.name = x ∧ ptrV c = .pointer (some ⟨p.2.blk, 0, none⟩) := by
  have h1 := hat .nil
  have h2 := hat (.lit (.bool true))
  rw [datum_any] at h1 h2
  cases hf : ps.find? (fun p => p.1.name == x) with
  | none => rw [hf] at h1 h2; simp only [] at h1 h2; rw [← h1] at h2; cases h2
  | some p =>
    rw [hf] at h1
    refine ⟨p, List.mem_of_find?_eq_some hf, by simpa using List.find?_some hf, ?_⟩
    simp only [] at h1
    obtain ⟨y1, y2⟩ := y
    simp only [] at h1
    subst h1
    exact ptrR_some hv

theorem IsDisk.apartN (h : IsDisk w.heap d S r F) {K : Nat} (wf : Wf S K) : r.ps.Pairwise fun p q => p.1.name ≠ q.1.name := by
  have := wf.sorted
  rw [← h.fits, List.pairwise_map] at this
  exact this.imp fun {a b} hab e => by rw [e] at hab; exact List.lt_irrefl _ hab

/-- What room comes to. -/
def RoomPost (w : World) (S : Dk) (had has : Nat) (e : Ending) (w' : World) : Prop := e = .returned (.int .i64 (roomErr S had has)) ∧ Old w w'

theorem contains65q (w : World) (F : Nat → Prop) (v : Value) (l : List Int) (x : Int) (hs : SlAt iv w.heap F v l) (hl : l.length ≤ 17592186044416) (b : Bool) (hb : hasB l x = b) (n : Nat) :
    Calls Try.prog 65 #[v, .int .i64 x] (w.drewN n) fun e w' => e = .returned (.bool b) ∧ ∃ m, w' = w.drewN m :=
  Calls.quiet_of_same ((contains65 (w.drewN n) F v l x hs hl).mono fun e w' h => ⟨by rw [h.1, hb], h.2.symm⟩)

theorem Old.drewN_left {w w' : World} (n : Nat) (h : Old (w.drewN n) w') : Old w w' := ((Fr.refl _ w).drewN n).trans' h

set_option maxHeartbeats 2000000 in
set_option maxRecDepth 100000 in
theorem room48 (h : IsDisk w.heap d S r F) {K : Nat} (wf : Wf S K) (hK : K ≤ 1000000) (had has : Nat) (h1 : had ≤ 268435456) (h2 : has ≤ 268435456) :
    Calls Try.prog 48 #[.pointer (some ⟨d, 0, none⟩), .int .i64 had, .int .i64 has] w (RoomPost w S had has) := by
  have hi := Lib.hid h
  have hown := h.map.to
  have hct := contains65q w _ _ S.plan.full S.n h.full.at wf.plan.full
  obtain ⟨a, c, e, _, _⟩ := h.full.shape
  obtain ⟨r1, r2⟩ := h.blk.rules
  have hU : w.cell? ⟨d, 4, none⟩ = some (.slice a S.plan.full.length c) := by rw [r1, ← e]; rfl
  have hR : w.cell? ⟨d, 5, none⟩ = some (.int .i64 S.plan.room) := by rw [r1]; rfl
  have hN : w.cell? ⟨d, 6, none⟩ = some (.int .i64 S.n) := by rw [r1]; rfl
  have hM : w.cell? ⟨d, 8, none⟩ = some (.map (some r.mb)) := by rw [r1]; rfl
  rw [e] at hct
  clear r1 r2 e
  cases hb : hasB S.plan.full S.n with
  | true =>
    have hct := hct true hb
    have hres := Lib.hid (show roomErr S had has = 12 by simp [roomErr, hb])
    clear hown hM hR h hb
    go_enter Try.func48, Try.ntmps48
    go_wp2_with fail
    go_quiet (refine hct _)
    go_wp2
    go_ret
    exact ⟨ret_i hres.out.symm, (Fr.refl _ w).drewN _⟩
  | false =>
    have hct := hct false hb
    have hap := Lib.hid (h.apartN wf)
    have hnum := wf.few
    have hlen : r.ps.length = S.files.length := by rw [← h.fits, List.length_map]
    have hdat : ∀ p ∈ r.ps, (dataOf p.1).length ≤ 268435456 := fun p hp => (wf.each p.1 (by rw [← h.fits]; exact List.mem_map_of_mem hp)).data
    have hcells : ∀ p ∈ r.ps, ∃ a c, cel w.heap p.2.blk 2 = some (.slice a (dataOf p.1).length c) := fun p hp => by
      obtain ⟨a, c, e, _⟩ := (h.files p hp).now.shape
      refine ⟨a, c, ?_⟩
      have := (h.files p hp).blk
      unfold Blk at this
      simp [cel, this, e]
    have hsum : sumData (r.ps.map Prod.fst) = sumData S.files := by rw [h.fits]
    clear h
    by_cases c1 : S.plan.room ≤ 0 ∨ has ≤ had
    · have hres := Lib.hid (show roomErr S had has = 0 by simp [roomErr, hb, c1])
      clear hown hM hb hdat hcells hsum
      by_cases c2 : S.plan.room ≤ 0
      · clear c1
        go_enter Try.func48, Try.ntmps48
        go_wp2_with fail
        go_quiet (refine hct _)
        go_wp2
        go_ret
        exact ⟨ret_i hres.out.symm, (Fr.refl _ w).drewN _⟩
      · have c3 : (has : Int) ≤ had := by omega
        clear c1
        go_enter Try.func48, Try.ntmps48
        go_wp2_with fail
        go_quiet (refine hct _)
        go_wp2
        go_ret
        exact ⟨ret_i hres.out.symm, (Fr.refl _ w).drewN _⟩
    · have c2 : ¬ S.plan.room ≤ 0 := fun e => c1 (.inl e)
      have c3 : ¬ (has : Int) ≤ had := by omega
      have hres := Lib.hid (show roomErr S had has = if ((has : Int) - had + sumData S.files) > S.plan.room then 12 else 0 by simp only [roomErr, hb, if_neg c1]; rfl)
      clear hb c1
      have HC := Lib.hid hcells
      have HD := Lib.hid hdat
      have HS := Lib.hid hsum
      have hbound : ∀ left, seen r.ps left ≤ 268435456000000 := fun left => by have := seen_le left hdat; omega
      have HB := Lib.hid hbound
      clear hcells hdat hsum hbound
      go_enter Try.func48, Try.ntmps48
      go_wp2_with fail
      go_quiet (refine hct _)
      have hown : (w.drewN nq).ownsMap Try.prog 9 ptrR r.mb (Maps.size (datum r.ps)) (datum r.ps) := hown
      have hz : (w.drewN nq).heap.size = w.heap.size := rfl
      have ho : Old w (w.drewN nq) := (Fr.refl _ w).drewN _
      go_wp2_with (first | (at_range; refine wpList_range_own _ rfl _ 54 rfl 9 67 (Maps.string_keyed Try.underlying9) Try.underlying54 _ r.mb _ _ rfl hown ?_; intro w0 hrg0 hg0 hs0) | go_in)
      go_frame
      go_loopw [7] (fun v wr => ∃ (left : Lit → Bool) (cnt : Nat), wr.ranges Try.prog 9 ptrR r.mb w.heap.size (Maps.size (datum r.ps)) (datum r.ps) left cnt ∧ Old w wr ∧ v = .int .i64 ((has : Int) - had + seen r.ps left)) (fun _ wr => wr.rangeLeft r.mb w.heap.size)
      case atStart =>
        refine ⟨_, _, hrg0, ho.grown hg0 (fun k e => nomatch e), ?_⟩
        rw [seen_none r.ps fun p hp => has_datum hp]
        simp
      case round =>
        obtain ⟨left, cnt, hrg, hold, rfl⟩ := hrel
        have hbl := HB.out left
        go_wp2_with (first
          | (at_next; refine wpList_next_ranges _ rfl _ rfl 9 (Maps.string_keyed Try.underlying9) ptrR encStr ptrV (fun key kl h => by obtain ⟨x, hx, _⟩ := Maps.keyOf_str Try.underlying9 h; exact ⟨x, hx⟩) (fun v y h => ptrR_inv h) r.mb w.heap.size _ _ _ _ rfl hrg ?_ ?_)
          | go_in)
        · intro hc0 hl0
          have hs := seen_all r.ps hl0
          rw [HS.out] at hs
          have hR' : wr.cell? ⟨d, 5, none⟩ = some (.int .i64 S.plan.room) := by rw [cell_cel] at hR ⊢; exact hold.cel hR fun f => f
          rw [hs]
          rw [hs] at hbl
          clear hrg hrg0 hs
          by_cases hgt : ((has : Int) - had + sumData S.files) > S.plan.room
          · have hE := Lib.hid (hres.out.trans (if_pos hgt))
            have hgt' : S.plan.room < (has : Int) - had + sumData S.files := hgt
            clear hres hgt
            go_wp2
            go_ret
            exact ⟨ret_i hE.out.symm, hold⟩
          · have hE := Lib.hid (hres.out.trans (if_neg hgt))
            have hgt' : ¬ (S.plan.room < (has : Int) - had + sumData S.files) := hgt
            clear hres hgt
            go_wp2
            go_ret
            exact ⟨ret_i hE.out.symm, hold⟩
        · intro x c kl y1 y2 w1 cnt1 hkey hlk hv hat hrg1 hlt hg1 hs1 hen
          obtain ⟨x', ex, rfl, _⟩ := Maps.keyOf_str Try.underlying9 hkey
          have ex : x = x' := by simpa [encStr] using ex
          subst ex
          obtain ⟨p, hp, hname, hc⟩ := entry_file (y := (y1, y2)) hv hat
          rw [hc] at hen ⊢
          have hold1 : Old w w1 := hold.grown hg1 fun k e => by cases e; exact fun h => absurd h (Nat.lt_irrefl _)
          obtain ⟨a', c', hcl⟩ := HC.out p hp
          have hcl1 : w1.cell? ⟨p.2.blk, 2, none⟩ = some (.slice a' (dataOf p.1).length c') := by rw [cell_cel]; exact hold1.cel hcl fun f => f
          have hb1 := HD.out p hp
          have hst := seen_step hap.out hp left (by rw [hname]; exact hlk)
          rw [hname] at hst
          have HST := Lib.hid hst
          have HRG := Lib.hid hrg1
          clear hat hv hkey hlk hcl hst hc hrg1
          go_wp2
          go_roundw
          case rel =>
            refine ⟨_, ⟨cnt1, HRG.out⟩, ?_⟩
            rw [HST.out]
            omega
          case measure => rw [HRG.out.left_eq, hrg.left_eq]; exact hlt
end

end Go.Proofs.Ytpdflncgemcniaa
namespace Go.Proofs.Ytpdflncgemcniaa
open Go.RowKit

/-- What taking a number comes to. -/
def NextPost (w : World) (B : Nat) (keep : List Int) (i : Nat) (e : Ending) (w' : World) : Prop :=
  e = .returned (.int .i64 (keepAt keep i)) ∧ Blk w'.heap B #[.int .i64 (keepOn keep i 1)] 3 ∧ Fr (fun b => b = B) w w'

set_option maxHeartbeats 2000000 in
set_option maxRecDepth 100000 in
theorem next67 (w : World) (F : Nat → Prop) (A B d : Nat) (c : Array Value) (vk : Value) (keep : List Int) (i : Nat) (hA : Blk w.heap A #[.pointer (some ⟨d, 0, none⟩)] 29) (hB : Blk w.heap B #[.int .i64 i] 3)
    (hd : Blk w.heap d c 56) (h2 : c[2]? = some vk) (hs : SlAt iv w.heap F vk keep) (hi : i ≤ 1000000000000000) (hk : keep.length ≤ 17592186044416) :
    Calls Try.prog 67 #[.pointer (some ⟨A, 0, none⟩), .pointer (some ⟨B, 0, none⟩)] w (NextPost w B keep i) := by
  obtain ⟨a1, a2⟩ := hA.rules
  obtain ⟨b1, b2⟩ := hB.rules
  obtain ⟨d1, d2⟩ := hd.rules
  have A0 := a1 0
  have B0 := b1 0
  have BF := b2 0
  have D2 := (d1 2).trans h2
  simp only [List.size_toArray, List.length_cons, List.length_nil, Nat.zero_add, Nat.lt_add_one, getElem?_pos, List.getElem_toArray, List.getElem_cons_zero] at A0 B0
  rcases hs with ⟨rfl, rfl⟩ | ⟨bk, o, ck, rfl, hc, hbk, hx⟩
  · have HB := Lib.hid hB
    clear a1 a2 b1 b2 d1 d2 hA hB hd h2
    go_enter Try.func67, Try.ntmps67
    go_wp2
    go_ret
    exact ⟨rfl, HB.out, Fr.refl _ _⟩
  · cases keep with
    | nil =>
      have HB := Lib.hid hB
      clear a1 a2 b1 b2 d1 d2 hA hB hd h2 hx
      simp only [List.length_nil] at D2
      go_enter Try.func67, Try.ntmps67
      go_wp2
      go_ret
      exact ⟨rfl, HB.out, Fr.refl _ _⟩
    | cons k0 ks =>
      generalize hL : k0 :: ks = l at *
      have hpos : 0 < l.length := by rw [← hL]; simp
      have hne : ((l.length : Int) == 0) = false := by rw [beq_eq_false_iff_ne]; omega
      have hlt : i % l.length < l.length := Nat.mod_lt _ hpos
      have hm : (i : Int) % (l.length : Int) = ((i % l.length : Nat) : Int) := by simp
      have HK := hx (i % l.length) (l[i % l.length]) (by simp [hlt])
      have hkey : w.cell? ⟨bk, o + i % l.length, none⟩ = some (.int .i64 l[i % l.length]) := by rw [cell_cel]; exact HK
      have hat : keepAt l i = l[i % l.length] := by simp [keepAt, hlt]
      have hon : keepOn l i 1 = i + 1 := if_neg (by omega)
      have HAT := Lib.hid hat
      have HON := Lib.hid hon
      have hset := hB.set 0 (.int .i64 (i + 1))
      have HB := Lib.hid hset
      clear a1 a2 b1 b2 d1 d2 hA hB hd h2 hx HK hat hon hset hL
      generalize hq : i % l.length = q at *
      have HQ := Lib.hid hq
      clear hq
      go_enter Try.func67, Try.ntmps67
      go_wp2_with fail
      go_quiet (fail)
      go_wp2
      go_ret
      unfold NextPost
      rw [HAT.out, HON.out]
      refine ⟨rfl, ?_, ?_⟩
      · have h := HB.out
        simp only [List.setIfInBounds_toArray, List.set_cons_zero] at h
        exact h
      · exact ((Fr.refl (fun b => b = B) w).drewN nq).setCell (p := ⟨B, 0, none⟩) (fun _ => rfl) _

/-- How a method of a change is met. -/
structure Meth (T fn : Nat) (x : Value) (nm : String) : Prop where
  call : ∀ args w, (callFunc fn args).run Try.prog w = Result.ok (Next.enter fn args) w
  meth : ∀ w, (method 262 T x nm).run Try.prog w = Result.ok (fn, x) w
  ahead : ∀ w, (nilAhead 262 T x nm).run Try.prog w = Result.ok (some false) w

/-- A change's survivor, whatever the change is. -/
theorem sv_any {h : Array Obj} {F : Nat → Prop} {raw : Value} {c : Ch} (hc : IsCh h F raw c) (hok : ChOk c) : ∃ T x fn, raw = .iface T x ∧ Meth T fn x "cairn/disk.survivor" ∧
    ∀ (W : World) (k : Int), IsCh W.heap F raw c → (-9223372036854775808 ≤ k ∧ k < 9223372036854775808) → Calls Try.prog fn #[x, .int .i64 k] W (Surv W F (survivor k c)) := by
  cases c with
  | write pos b =>
    obtain ⟨vb, rfl, _⟩ := hc
    refine ⟨91, _, 114, rfl, ⟨fun args w => enters_of Try.func114 (by kernel_rfl) rfl args w, sv91 _, ns91 _⟩, fun W k hW hk => ?_⟩
    obtain ⟨vb', e, hb⟩ := hW
    cases e
    exact wsurv114 W F vb b pos k hb hok hk
  | cut long =>
    obtain rfl := hc
    exact ⟨96, _, 117, rfl, ⟨fun args w => enters_of Try.func117 (by kernel_rfl) rfl args w, sv96 _, ns96 _⟩, fun W k _ hk => csurv117 W F long k hk⟩

/-- A change done to data, whatever the change is. -/
theorem ap_any {h : Array Obj} {F : Nat → Prop} {raw : Value} {c : Ch} (hc : IsCh h F raw c) (hok : ChOk c) : ∃ T x fn, raw = .iface T x ∧ Meth T fn x "cairn/disk.apply" ∧
    ∀ (W : World) (G : Nat → Prop) (v : Value) (l : Bs), IsCh W.heap F raw c → SlAt u8 W.heap G v l → l.length ≤ 268435456 → (∀ x, F x → G x) → (∀ x, G x → x < W.heap.size) → Calls Try.prog fn #[x, v] W (Fresh W (applyCh l c)) := by
  cases c with
  | write pos b =>
    obtain ⟨vb, rfl, _⟩ := hc
    refine ⟨91, _, 113, rfl, ⟨fun args w => enters_of Try.func113 (by kernel_rfl) rfl args w, ap91 _, na91 _⟩, fun W G v l hW hv hl hFG hG => ?_⟩
    obtain ⟨vb', e, hb⟩ := hW
    cases e
    exact wapply113 W G v vb l b pos hv (hb.at.mono hFG) hl hok hG
  | cut long =>
    obtain rfl := hc
    exact ⟨96, _, 116, rfl, ⟨fun args w => enters_of Try.func116 (by kernel_rfl) rfl args w, ap96 _, na96 _⟩, fun W G v l _ hv _ _ _ => capply116 W G v l long hv hok⟩

theorem survivor_ok {k : Int} {c c' : Ch} (h : survivor k c = some c') (hc : ChOk c) : ChOk c' := by
  cases c with
  | write pos b =>
    simp only [survivor] at h
    simp only [ChOk] at hc
    split at h
    · cases h; exact hc
    · split at h
      · cases h
      · cases h; simp only [ChOk, List.length_take]; omega
  | cut long =>
    simp only [survivor] at h
    split at h
    · cases h; exact hc
    · cases h

/-- The files' map with a file in the place of one of its name and block. -/
theorem datum_redo (l1 l2 : List FP) {f f' : Fl} {q q' : FRep} (hn : f'.name = f.name) (hb : q'.blk = q.blk) : datum (l1 ++ (f', q') :: l2) = datum (l1 ++ (f, q) :: l2) := by
  simp [datum, hn, hb]

theorem apartF_symm {p q : FP} (h : apartF p q) : apartF q p := ⟨Ne.symm h.1, fun b h1 h2 => h.2 b h2 h1⟩

/-- A FILE HAS TURNED: all else is as it was. -/
theorem IsDisk.redo {w w' : World} {d : Nat} {S : Dk} {r : DRep} {F : Nat → Prop} (s : IsDisk w.heap d S r F) {l1 l2 : List FP} {f f' : Fl} {q q' : FRep} (hr : r.ps = l1 ++ (f, q) :: l2)
    (hn : f'.name = f.name) (hb : q'.blk = q.blk) (hsz : w.heap.size ≤ w'.heap.size) (hk : ∀ b, F b → b ≠ q.blk → q.vc.ownBlock ≠ some b → w'.heap[b]? = w.heap[b]?)
    (hf : IsFile w'.heap (fun b => F b ∨ w.heap.size ≤ b) f' q') (hc : ∀ b, q'.vc.ownBlock = some b → q.vc.ownBlock = some b ∨ w.heap.size ≤ b) :
    IsDisk w'.heap d { S with files := l1.map Prod.fst ++ f' :: l2.map Prod.fst } { r with ps := l1 ++ (f', q') :: l2 } (fun b => F b ∨ (w.heap.size ≤ b ∧ b < w'.heap.size)) := by
  have hq := s.files (f, q) (by rw [hr]; simp)
  have tq := hq.blk.tag
  have tc : ∀ b, q.vc.ownBlock = some b → Tag w.heap b 107 := fun b e => (hq.tagC e).2
  have keep : ∀ b T, F b → Tag w.heap b T → T ≠ 72 → T ≠ 107 → w'.heap[b]? = w.heap[b]? := fun b T hF t h1 h2 => hk b hF (fun e => h1 (by subst e; exact t.eq tq)) fun e => h2 (t.eq (tc b e))
  have hap := s.apart
  rw [hr] at hap
  have hA : ∀ p ∈ l1 ++ l2, apartF (f, q) p := fun p hp => by
    rw [List.pairwise_append] at hap
    rcases List.mem_append.1 hp with hp | hp
    · exact apartF_symm (hap.2.2 p hp (f, q) (by simp))
    · exact (List.pairwise_cons.1 hap.2.1).1 p hp
  have hother : ∀ p ∈ l1 ++ l2, p ∈ r.ps := fun p hp => by
    rw [hr]
    rcases List.mem_append.1 hp with hp | hp
    · simp [hp]
    · simp [hp]
  have hnew : ∀ p ∈ l1 ++ l2, apartF (f', q') p := fun p hp => by
    have h0 := hA p hp
    refine ⟨by show q'.blk ≠ _; rw [hb]; exact h0.1, fun b h1 h2 => ?_⟩
    rcases hc b h1 with h1 | h1
    · exact h0.2 b h1 h2
    · have := s.lt b ((s.files p (hother p hp)).tagC h2).1
      omega
  exact {
    fits := by simp
    own := .inl s.own
    blk := (keep d 56 s.own s.blk.tag (by decide) (by decide)).trans s.blk
    keep := (s.keep.kept fun b hb t => keep b 3 hb t (by decide) (by decide)).mono fun b h => .inl h
    fail := (s.fail.kept fun b hb t => keep b 3 hb t (by decide) (by decide)).mono fun b h => .inl h
    full := (s.full.kept fun b hb t => keep b 3 hb t (by decide) (by decide)).mono fun b h => .inl h
    mown := .inl s.mown
    map := by
      show OwnMap w'.heap r.mb (datum (l1 ++ (f', q') :: l2))
      rw [datum_redo l1 l2 hn hb, ← hr]
      refine s.map.kept (hk _ s.mown (fun e => s.map.noTag (by rw [e]; exact tq)) fun e => s.map.noTag (tc _ e))
    files := fun p hp => by
      have hfin : IsFile w'.heap (fun b => F b ∨ (w.heap.size ≤ b ∧ b < w'.heap.size)) f' q' := {
        fits := hf.fits
        own := by rcases hf.own with h | h; exact .inl h; exact .inr ⟨h, hf.blk.lt⟩
        blk := hf.blk
        safe := hf.safe.monot fun b h t => by rcases h with h | h; exact .inl h; exact .inr ⟨h, t.lt⟩
        now := hf.now.monot fun b h t => by rcases h with h | h; exact .inl h; exact .inr ⟨h, t.lt⟩
        row := hf.row.mono fun b e h => by rcases h with h | h; exact .inl h; exact .inr ⟨h, (hf.tagC e).2.lt⟩
        chs := fun p hp => by
          have := hf.chs p hp
          obtain ⟨c, raw⟩ := p
          cases c with
          | write pos b =>
            obtain ⟨vb, e, hs⟩ := this
            exact ⟨vb, e, hs.monot fun b h t => by rcases h with h | h; exact .inl h; exact .inr ⟨h, t.lt⟩⟩
          | cut long => exact this }
      have hrest : ∀ p ∈ l1 ++ l2, IsFile w'.heap (fun b => F b ∨ (w.heap.size ≤ b ∧ b < w'.heap.size)) p.1 p.2 := fun p hp => by
        have h0 := s.files p (hother p hp)
        have h1 := hA p hp
        refine (h0.kept (fun b hb t => keep b 5 hb t (by decide) (by decide)) (hk _ h0.own (fun e => h1.1 e.symm) fun e => ?_) fun b e => hk b (h0.tagC e).1 (fun e' => ?_) fun e' => h1.2 b e' e).mono fun b h => .inl h
        · exact absurd ((tc _ e).eq h0.blk.tag) (by decide)
        · subst e'; exact absurd ((h0.tagC e).2.eq tq) (by decide)
      rcases List.mem_append.1 hp with hp | hp
      · exact hrest p (by simp [hp])
      · rcases List.mem_cons.1 hp with rfl | hp
        · exact hfin
        · exact hrest p (by simp [hp])
    apart := by
      rw [List.pairwise_append] at hap ⊢
      obtain ⟨p1, p2, p3⟩ := hap
      rw [List.pairwise_cons] at p2 ⊢
      refine ⟨p1, ⟨fun p hp => hnew p (by simp [hp]), p2.2⟩, fun a ha b hb => ?_⟩
      rcases List.mem_cons.1 hb with rfl | hb
      · exact apartF_symm (hnew a (by simp [ha]))
      · exact p3 a ha b (by simp [hb])
    lt := fun b h => by
      rcases h with h | h
      · exact Nat.lt_of_lt_of_le (s.lt b h) hsz
      · exact h.2 }

end Go.Proofs.Ytpdflncgemcniaa
namespace Go.Proofs.Ytpdflncgemcniaa
open Go.RowKit

/-- A death has met the first k files. -/
structure DieAt (w0 wr : World) (d : Nat) (S : Dk) (r : DRep) (F : Nat → Prop) (v : Value) (K k : Nat) (ps1 : List FP) (cnt : Nat) (F' : Nat → Prop) : Prop where
  disk : IsDisk wr.heap d { S with files := ps1.map Prod.fst ++ S.files.drop k } { r with ps := ps1 ++ r.ps.drop k } F'
  own : ∀ b, F' b → F b ∨ w0.heap.size + 2 ≤ b
  fr : Fr F w0 wr
  bA : Blk wr.heap w0.heap.size #[.pointer (some ⟨d, 0, none⟩)] 29
  bB : Blk wr.heap (w0.heap.size + 1) #[.int .i64 cnt] 3
  names : SlT 9 encStr wr.heap (fun b => w0.heap.size + 2 ≤ b) v (namesOf S)
  fits : ps1.map Prod.fst ++ dieFiles S.plan.keep cnt (S.files.drop k) = dieFiles S.plan.keep 0 S.files
  dat : datum (ps1 ++ r.ps.drop k) = datum r.ps
  few : cnt ≤ k * K
  base : ∀ b, F b → b < w0.heap.size

/-- Within a file: the first j changes are met. -/
structure DieIn (wi wr : World) (F' : Nat → Prop) (keep : List Int) (f : Fl) (q : FRep) (B cnt j cnt' : Nat) (vs' : Value) (acc : Bs) : Prop where
  fr : Fr (fun b => b = q.blk ∨ b = B) wi wr
  blk : Blk wr.heap q.blk #[vs', q.vc, q.vn] 72
  bB : Blk wr.heap B #[.int .i64 cnt'] 3
  safe : SlT 5 u8 wr.heap (fun b => F' b ∨ wi.heap.size ≤ b) vs' acc
  long : acc.length ≤ 268435456
  fits : dieChs keep cnt' (f.chs.drop j) acc = dieChs keep cnt f.chs f.safe
  num : keepOn keep cnt' (f.chs.length - j) = keepOn keep cnt f.chs.length
  few : cnt' ≤ cnt + j

theorem keepOn_add (keep : List Int) (i a b : Nat) : keepOn keep (keepOn keep i a) b = keepOn keep i (a + b) := by
  unfold keepOn
  split
  · rfl
  · omega

theorem keepOn_le (keep : List Int) (i a : Nat) : keepOn keep i a ≤ i + a := by
  unfold keepOn
  split <;> omega

section
variable {w0 wi wr : World} {d : Nat} {S : Dk} {r : DRep} {F F' : Nat → Prop} {v : Value} {K k : Nat} {ps1 : List FP} {cnt : Nat} {f : Fl} {q : FRep}

theorem drop_at {α : Type} {l : List α} {k : Nat} {x : α} (h : l[k]? = some x) : l.drop k = x :: l.drop (k + 1) := by
  obtain ⟨hk, rfl⟩ := List.getElem?_eq_some_iff.1 h
  rw [List.drop_eq_getElem_cons hk]

theorem DieAt.file (D : DieAt w0 wi d S r F v K k ps1 cnt F') (hk : r.ps[k]? = some (f, q)) : IsFile wi.heap F' f q := D.disk.files (f, q) (by simp [drop_at hk])

theorem DieAt.start (D : DieAt w0 wi d S r F v K k ps1 cnt F') (hk : r.ps[k]? = some (f, q)) (hs : f.safe.length ≤ 268435456) : DieIn wi wi F' S.plan.keep f q (w0.heap.size + 1) cnt 0 cnt q.vs f.safe where
  fr := Fr.refl _ _
  blk := (D.file hk).blk
  bB := D.bB
  safe := (D.file hk).safe.mono fun _ h => .inl h
  long := hs
  fits := rfl
  num := rfl
  few := Nat.le_refl _

theorem DieAt.close {cnt' : Nat} {vs' : Value} {acc : Bs} (D : DieAt w0 wi d S r F v K k ps1 cnt F') (hfit : r.ps.map Prod.fst = S.files) (hk : r.ps[k]? = some (f, q)) (hfew : f.chs.length ≤ K)
    (I : DieIn wi wr F' S.plan.keep f q (w0.heap.size + 1) cnt f.chs.length cnt' vs' acc) {W : World} (hW : W = (wr.setCell ⟨q.blk, 1, none⟩ (.slice none 0 0)).setCell ⟨q.blk, 2, none⟩ vs') :
    DieAt w0 W d S r F v K (k + 1) (ps1 ++ [({ f with safe := acc, chs := [] }, ⟨q.blk, vs', .slice none 0 0, vs', []⟩)]) cnt' (fun b => F' b ∨ (wi.heap.size ≤ b ∧ b < W.heap.size)) := by
  have hF := D.file hk
  have hlt := D.bB.lt
  have hps : ps1 ++ r.ps.drop k = ps1 ++ (f, q) :: r.ps.drop (k + 1) := by rw [drop_at hk]
  have hfk : S.files[k]? = some f := by rw [← hfit, List.getElem?_map, hk]; rfl
  have hsd : S.files.drop k = f :: S.files.drop (k + 1) := drop_at hfk
  have hb1 := (I.blk.set 1 (.slice none 0 0)).set 2 vs'
  rw [← hW] at hb1
  simp only [List.setIfInBounds_toArray, List.set_cons_zero, List.set_cons_succ] at hb1
  have hst : Fr (fun b => b = q.blk) wr W := by rw [hW]; exact (Fr.store wr q.blk 1 (.slice none 0 0)).setCell (fun _ => rfl) _
  have hall : Fr (fun b => b = q.blk ∨ b = w0.heap.size + 1) wi W := I.fr.trans hst fun b _ h => .inl h
  have tq := hF.blk.tag
  have tq2 : Tag wr.heap q.blk 72 := I.blk.tag
  have hno : ∀ b, F' b → b ≠ w0.heap.size + 1 := fun b hb e => by
    rcases D.own b hb with h | h
    · have := D.base b h; omega
    · omega
  have hs : SlT 5 u8 W.heap (fun b => F' b ∨ wi.heap.size ≤ b) vs' acc := I.safe.frt hst fun b _ t e => by subst e; exact absurd (t.eq tq2) (by decide)
  have hnum := I.num
  simp only [Nat.sub_self] at hnum
  have hn0 : ∀ c, keepOn S.plan.keep c 0 = c := fun c => by unfold keepOn; split <;> rfl
  rw [hn0] at hnum
  have hfits := I.fits
  simp only [List.drop_length, dieChs] at hfits
  exact {
    disk := by
      have := D.disk.redo (r := { r with ps := ps1 ++ r.ps.drop k }) (w' := W) (f' := { f with safe := acc, chs := [] }) (q' := ⟨q.blk, vs', .slice none 0 0, vs', []⟩) hps rfl rfl hall.size
        (fun b hb h1 _ => hall.block b (D.disk.lt b hb) fun e => by rcases e with e | e; exact h1 e; exact hno b hb e) ?_ (fun b e => by simp [Value.ownBlock] at e)
      · have hd2 : (r.ps.drop (k + 1)).map Prod.fst = S.files.drop (k + 1) := by rw [← hfit, List.map_drop]
        rw [hd2] at this
        simpa using this
      · exact {
          fits := rfl
          own := .inl hF.own
          blk := hb1
          safe := hs
          now := hs
          row := OwnRow.nil
          chs := fun p hp => by cases hp }
    own := fun b hb => by
      rcases hb with hb | hb
      · exact D.own b hb
      · exact .inr (by omega)
    fr := D.fr.trans hall fun b hb e => by
      rcases e with e | e
      · subst e
        exact (D.own _ hF.own).resolve_right (by omega)
      · omega
    bA := D.bA.fr hall fun e => by
      rcases e with e | e
      · have t := D.bA.tag
        rw [e] at t
        exact absurd (t.eq tq) (by decide)
      · omega
    bB := I.bB.fr hst fun e => hno _ hF.own e.symm
    names := D.names.frt hall fun b hb t e => by
      rcases e with e | e
      · subst e; exact absurd (t.eq tq) (by decide)
      · omega
    fits := by
      rw [← D.fits, hsd, List.map_append, List.append_assoc]
      simp only [dieFiles, List.map_cons, List.map_nil, List.singleton_append]
      rw [← hfits, hnum]
    dat := by
      rw [← D.dat, hps]
      simp [datum]
    base := D.base
    few := by
      have := I.few
      have := D.few
      rw [Nat.add_mul]
      omega }

/-- What a death comes to. -/
def DiePost (w : World) (d : Nat) (S : Dk) (F : Nat → Prop) (e : Ending) (w' : World) : Prop :=
  e = .returned (.tuple #[]) ∧ ∃ r' F', IsDisk w'.heap d (die S) r' F' ∧ Step F F' w w'

theorem IsDisk.find {w : World} {d : Nat} {S : Dk} {r : DRep} {F : Nat → Prop} (h : IsDisk w.heap d S r F) {K : Nat} (wf : Wf S K) {k : Nat} {f : Fl} {q : FRep} (hk : r.ps[k]? = some (f, q)) : ptrOf r.ps f.name = .pointer (some ⟨q.blk, 0, none⟩) := by
  have hd := h.apartN wf
  unfold ptrOf
  have : r.ps.find? (fun p => p.1.name == f.name) = some (f, q) := by
    obtain ⟨hlt, he⟩ := List.getElem?_eq_some_iff.1 hk
    rw [List.find?_eq_some_iff_getElem]
    refine ⟨by simp, k, hlt, he, fun j hj => ?_⟩
    rw [List.pairwise_iff_getElem] at hd
    have := hd j k (by omega) hlt hj
    rw [he] at this
    simpa using this
  rw [this]

theorem SlT.at_cell {α : Type} {T : TypeId} {enc : α → Value} {w : World} {F : Nat → Prop} {a : Option Addr} {n c : Nat} {l : List α} (s : SlT T enc w.heap F (.slice a n c) l) {k : Nat} {x : α} (hk : l[k]? = some x) :
    ∃ b o, a = some ⟨b, o, none⟩ ∧ w.cell? ⟨b, o + k, none⟩ = some (enc x) := by
  rcases s with ⟨rfl, _⟩ | ⟨b, o, c', e, _, _, hx⟩
  · simp at hk
  · simp only [Value.slice.injEq] at e
    obtain ⟨rfl, _, _⟩ := e
    exact ⟨b, o, rfl, by rw [cell_cel]; exact hx k x hk⟩

end
end Go.Proofs.Ytpdflncgemcniaa
