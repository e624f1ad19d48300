/- PROVED HERE: the program's disk in memory: that it holds a plain disk; how that is kept, and turned. PROVED HERE: the contracts of the small functions that look through numbers, and of the looking up of a file. No conditions beyond the premises that each theorem names. -/
import Derived.Test.YtpdflncgemcniaaD02
import Derived.Maps.RangeWalk
import Derived.Maps.OwnSet
import Derived.Sort.KeysCollected
import Derived.Sort.Walk0
import Derived.Test.YtpdflncgemcniaaD01
import Derived.Handy
namespace Go.Proofs.Ytpdflncgemcniaa
open Go.RowKit

theorem before_eq : ∀ a b : Bs, bytesBefore a b = decide (a < b)
  | [], [] => by simp [bytesBefore]
  | [], _ :: _ => by simp [bytesBefore]
  | _ :: _, [] => by simp [bytesBefore]
  | a :: x, b :: y => by
    rw [bytesBefore, before_eq x y]
    simp only [List.cons_lt_cons_iff]
    by_cases h1 : a < b <;> by_cases h2 : a = b <;> by_cases h3 : x < y <;> simp [h1, h2, h3]

theorem string_enc (s : ByteArray) : Value.string s = encStr s.data.toList := by simp [encStr]

/-- How an element of the files' map reads: the block's number. -/
def ptrR : Value → Option (DataW Unit × List MemPlace)
  | .pointer (some ⟨b, 0, none⟩) => some (.lit (.int .i64 b), [])
  | .pointer none => some (.nil, [])
  | _ => none

def ptrV : Option Nat → Value
  | some b => .pointer (some ⟨b, 0, none⟩)
  | none => .pointer none

theorem ptrR_inv {v : Value} {y : DataW Unit × List MemPlace} (h : ptrR v = some y) : ∃ c, v = ptrV c := by
  unfold ptrR at h
  split at h
  · exact ⟨some _, rfl⟩
  · exact ⟨none, rfl⟩
  · cases h

theorem ptrR_some {v : Value} {b : Nat} {ps : List MemPlace} (h : ptrR v = some (.lit (.int .i64 b), ps)) : v = .pointer (some ⟨b, 0, none⟩) := by
  unfold ptrR at h
  split at h
  · simp at h; obtain ⟨h1, _⟩ := h; have h2 := Int.ofNat_inj.1 h1; subst h2; rfl
  · simp at h
  · cases h

theorem ptrR_none {v : Value} {ps : List MemPlace} (h : ptrR v = some (.nil, ps)) : v = .pointer none := by
  unfold ptrR at h
  split at h
  · simp at h
  · rfl
  · cases h

/-- Block b is a map that reads as D. -/
def OwnMap (h : Array Obj) (b : Nat) (D : DataW Unit) : Prop := ∃ w : World, w.heap = h ∧ w.ownsMap Try.prog 9 ptrR b (Maps.size D) D

theorem ownsMap_heap {w w' : World} {P : Program} {k : TypeId} {R : Value → Option (DataW Unit × List MemPlace)} {b n : Nat} {D : DataW Unit} (h : w.ownsMap P k R b n D) (e : w'.heap[b]? = w.heap[b]?) : w'.ownsMap P k R b n D := by
  obtain ⟨es, clock, hb, r⟩ := h
  exact ⟨es, clock, e.trans hb, r⟩

theorem ownsMap_size {w : World} {P : Program} {k : TypeId} {R : Value → Option (DataW Unit × List MemPlace)} {b n : Nat} {D : DataW Unit} (h : w.ownsMap P k R b n D) : w.ownsMap P k R b (Maps.size D) D := by
  obtain ⟨es, clock, hb, F, _, rfl⟩ := h
  exact ⟨es, clock, hb, F, by simp [Maps.size, length_sorted], rfl⟩

theorem OwnMap.to {w : World} {b : Nat} {D : DataW Unit} (s : OwnMap w.heap b D) : w.ownsMap Try.prog 9 ptrR b (Maps.size D) D := by
  obtain ⟨w', e, h⟩ := s
  exact ownsMap_heap h (by rw [e])

theorem OwnMap.of {w : World} {b n : Nat} {D : DataW Unit} (s : w.ownsMap Try.prog 9 ptrR b n D) : OwnMap w.heap b D := ⟨w, rfl, ownsMap_size s⟩

theorem OwnMap.kept {h h' : Array Obj} {b : Nat} {D : DataW Unit} (s : OwnMap h b D) (e : h'[b]? = h[b]?) : OwnMap h' b D := by
  obtain ⟨w, rfl, s⟩ := s
  exact ⟨{ w with heap := h' }, rfl, ownsMap_heap s e⟩

/-- A map's block is no block of cells. -/
theorem OwnMap.noTag {h : Array Obj} {b : Nat} {D : DataW Unit} (s : OwnMap h b D) {T : TypeId} (t : Tag h b T) : False := by
  obtain ⟨w, rfl, es, clock, hb, _⟩ := s
  obtain ⟨c, z, e⟩ := t
  rw [hb] at e
  cases e

theorem OwnMap.lt {h : Array Obj} {b : Nat} {D : DataW Unit} (s : OwnMap h b D) : b < h.size := by
  obtain ⟨w, rfl, s⟩ := s
  exact s.lt

/-- A change of a file as it lies in a cell. -/
def IsCh (h : Array Obj) (F : Nat → Prop) (raw : Value) : Ch → Prop
  | .write pos b => ∃ vb, raw = .iface 91 (.agg #[.int .i64 pos, vb]) ∧ SlT 5 u8 h F vb b
  | .cut long => raw = .iface 96 (.agg #[.int .i64 long])

/-- How a file lies: its block, what its three cells hold, its changes with their cells. -/
structure FRep where
  blk : Nat
  vs : Value
  vc : Value
  vn : Value
  cs : List (Ch × Value)

abbrev FP := Fl × FRep
abbrev FP.name (p : FP) : Bs := p.1.name

structure IsFile (h : Array Obj) (F : Nat → Prop) (f : Fl) (q : FRep) : Prop where
  fits : q.cs.map Prod.fst = f.chs
  own : F q.blk
  blk : Blk h q.blk #[q.vs, q.vc, q.vn] 72
  safe : SlT 5 u8 h F q.vs f.safe
  now : SlT 5 u8 h F q.vn (dataOf f)
  row : OwnRow h F 107 1 q.vc q.cs.length (q.cs.map Prod.snd)
  chs : ∀ p ∈ q.cs, IsCh h F p.2 p.1

/-- The files' map as a datum. -/
def datum (ps : List FP) : DataW Unit := .map (ps.map fun p => (.string p.1.name, .lit (.int .i64 p.2.blk)))

/-- How a disk lies. -/
structure DRep where
  mb : Nat
  k : Value
  f : Value
  u : Value
  ps : List FP

def apartF (p q : FP) : Prop := p.2.blk ≠ q.2.blk ∧ ∀ b, p.2.vc.ownBlock = some b → q.2.vc.ownBlock ≠ some b

/-- Block d holds the plain disk S; F are all blocks that it goes by. -/
structure IsDisk (h : Array Obj) (d : Nat) (S : Dk) (r : DRep) (F : Nat → Prop) : Prop where
  fits : r.ps.map Prod.fst = S.files
  own : F d
  blk : Blk h d #[.int .i64 1, .int .i64 S.plan.crash, r.k, r.f, r.u, .int .i64 S.plan.room, .int .i64 S.n, .bool S.died, .map (some r.mb)] 56
  keep : SlT 3 iv h F r.k S.plan.keep
  fail : SlT 3 iv h F r.f S.plan.fail
  full : SlT 3 iv h F r.u S.plan.full
  mown : F r.mb
  map : OwnMap h r.mb (datum r.ps)
  files : ∀ p ∈ r.ps, IsFile h F p.1 p.2
  apart : r.ps.Pairwise apartF
  lt : ∀ b, F b → b < h.size

section
variable {h h' : Array Obj} {F G : Nat → Prop}

theorem IsCh.kept {raw : Value} {c : Ch} (s : IsCh h F raw c) (hk : ∀ b, F b → Tag h b 5 → h'[b]? = h[b]?) : IsCh h' F raw c := by
  cases c with
  | write pos b =>
    obtain ⟨vb, e, s⟩ := s
    exact ⟨vb, e, s.kept hk⟩
  | cut long => exact s

theorem IsCh.mono {raw : Value} {c : Ch} (s : IsCh h F raw c) (hF : ∀ x, F x → G x) : IsCh h G raw c := by
  cases c with
  | write pos b =>
    obtain ⟨vb, e, s⟩ := s
    exact ⟨vb, e, s.mono hF⟩
  | cut long => exact s

theorem IsFile.kept {f : Fl} {q : FRep} (s : IsFile h F f q) (hk : ∀ b, F b → Tag h b 5 → h'[b]? = h[b]?) (hb : h'[q.blk]? = h[q.blk]?) (hc : ∀ b, q.vc.ownBlock = some b → h'[b]? = h[b]?) : IsFile h' F f q where
  fits := s.fits
  own := s.own
  blk := hb.trans s.blk
  safe := s.safe.kept hk
  now := s.now.kept hk
  row := s.row.kept fun b e _ _ => hc b e
  chs p hp := (s.chs p hp).kept hk

theorem IsFile.mono {f : Fl} {q : FRep} (s : IsFile h F f q) (hF : ∀ x, F x → G x) : IsFile h G f q where
  fits := s.fits
  own := hF _ s.own
  blk := s.blk
  safe := s.safe.mono hF
  now := s.now.mono hF
  row := s.row.mono fun b _ e => hF b e
  chs p hp := (s.chs p hp).mono hF

theorem IsFile.tagC {f : Fl} {q : FRep} (s : IsFile h F f q) {b : Nat} (hb : q.vc.ownBlock = some b) : F b ∧ Tag h b 107 := by
  obtain ⟨h1, cur, h2⟩ := s.row.owned hb
  exact ⟨h1, cur, _, h2⟩

theorem IsDisk.kept {d : Nat} {S : Dk} {r : DRep} (s : IsDisk h d S r F) (hk : ∀ b, F b → h'[b]? = h[b]?) : IsDisk h' d S r F where
  fits := s.fits
  own := s.own
  blk := (hk d s.own).trans s.blk
  keep := s.keep.kept fun b hb _ => hk b hb
  fail := s.fail.kept fun b hb _ => hk b hb
  full := s.full.kept fun b hb _ => hk b hb
  mown := s.mown
  map := s.map.kept (hk _ s.mown)
  files p hp := (s.files p hp).kept (fun b hb _ => hk b hb) (hk _ (s.files p hp).own) fun b hb => hk b ((s.files p hp).tagC hb).1
  apart := s.apart
  lt b hb := by
    have h1 := s.lt b hb
    have h2 := hk b hb
    rcases Nat.lt_or_ge b h'.size with h3 | h3
    · exact h3
    · rw [Array.getElem?_eq_none h3, Array.getElem?_eq_getElem h1] at h2
      cases h2

theorem IsDisk.fr {w w' : World} {d : Nat} {S : Dk} {r : DRep} (s : IsDisk w.heap d S r F) (f : Fr G w w') (hd : ∀ b, F b → G b → False) : IsDisk w'.heap d S r F :=
  s.kept fun b hb => f.block b (s.lt b hb) (hd b hb)

/-- Only the disk's own block has turned: its count, its fate. -/
theorem IsDisk.turn {d : Nat} {S : Dk} {r : DRep} (s : IsDisk h d S r F) (hk : ∀ b, b ≠ d → h'[b]? = h[b]?) (n : Nat) (died : Bool)
    (hb : Blk h' d #[.int .i64 1, .int .i64 S.plan.crash, r.k, r.f, r.u, .int .i64 S.plan.room, .int .i64 n, .bool died, .map (some r.mb)] 56) :
    IsDisk h' d { S with n := n, died := died } r F := by
  have td : Tag h d 56 := s.blk.tag
  have ne : ∀ b T, T ≠ 56 → Tag h b T → b ≠ d := fun b T hT t e => hT (by subst e; exact t.eq td)
  have hm : r.mb ≠ d := fun e => s.map.noTag (by rw [e]; exact td)
  have h5 : ∀ b, F b → Tag h b 5 → h'[b]? = h[b]? := fun b _ t => hk b (ne b 5 (by decide) t)
  have h3 : ∀ b, F b → Tag h b 3 → h'[b]? = h[b]? := fun b _ t => hk b (ne b 3 (by decide) t)
  exact {
    fits := s.fits
    own := s.own
    blk := hb
    keep := s.keep.kept h3
    fail := s.fail.kept h3
    full := s.full.kept h3
    mown := s.mown
    map := s.map.kept (hk _ hm)
    files := fun p hp => (s.files p hp).kept h5 (hk _ (ne _ 72 (by decide) (s.files p hp).blk.tag)) fun b hb => hk b (ne b 107 (by decide) ((s.files p hp).tagC hb).2)
    apart := s.apart
    lt := fun b hF => by
      by_cases e : b = d
      · subst e; exact hb.lt
      · have h1 := s.lt b hF
        have h2 := hk b e
        rcases Nat.lt_or_ge b h'.size with h3 | h3
        · exact h3
        · rw [Array.getElem?_eq_none h3, Array.getElem?_eq_getElem h1] at h2
          cases h2 }
end

/-- A step of the program's disk: only its blocks turn; those that it goes by behind it are its own or new. -/
structure Step (F F' : Nat → Prop) (w w' : World) : Prop where
  fr : Fr F w w'
  own : ∀ b, F' b → F b ∨ w.heap.size ≤ b

theorem Step.refl (F : Nat → Prop) (w : World) : Step F F w w := ⟨Fr.refl _ _, fun _ h => .inl h⟩
theorem Step.trans {F F1 F2 : Nat → Prop} {a b c : World} (h : Step F F1 a b) (k : Step F1 F2 b c) : Step F F2 a c :=
  ⟨h.fr.trans k.fr fun x hx f => (h.own x f).resolve_right (by omega), fun x f => by
    rcases k.own x f with f | f
    · exact h.own x f
    · exact .inr (Nat.le_trans h.fr.size f)⟩
theorem Step.drew {F F' : Nat → Prop} {a b : World} (h : Step F F' a b) : Step F F' a b.drew := ⟨h.fr.drew, h.own⟩
theorem Step.drewN {F F' : Nat → Prop} {a b : World} (h : Step F F' a b) (n : Nat) : Step F F' a (b.drewN n) := ⟨h.fr.drewN n, h.own⟩

/-- Plans and sizes that the walks ask. -/
structure PlOk (p : Pl) : Prop where
  keep : p.keep.length ≤ 17592186044416
  fail : p.fail.length ≤ 17592186044416
  full : p.full.length ≤ 17592186044416
  wide : ∀ x ∈ p.keep, -9223372036854775808 ≤ x ∧ x < 9223372036854775808

def ChOk : Ch → Prop
  | .write pos b => pos + b.length ≤ 268435456
  | .cut long => long ≤ 268435456

structure FlOk (K : Nat) (f : Fl) : Prop where
  name : f.name.length ≤ 32
  safe : f.safe.length ≤ 268435456
  chs : f.chs.length ≤ K
  each : ∀ c ∈ f.chs, ChOk c

structure Wf (S : Dk) (K : Nat) : Prop where
  plan : PlOk S.plan
  n : S.n ≤ K
  few : S.files.length ≤ K
  sorted : S.files.Pairwise fun f g => f.name < g.name
  each : ∀ f ∈ S.files, FlOk K f

theorem sized_length (d : Bs) (n : Nat) : (sized d n).length = n := by
  simp [sized]; omega

theorem laid_length {d : Bs} {pos : Nat} {b : Bs} (h : pos + b.length ≤ d.length) : (laid d pos b).length = d.length := by
  simp [laid]; omega

theorem applyCh_length (d : Bs) (c : Ch) : (applyCh d c).length = match c with | .write pos b => max d.length (pos + b.length) | .cut long => long := by
  cases c with
  | write pos b =>
    show (laid (sized d (max d.length (pos + b.length))) pos b).length = _
    rw [laid_length (by rw [sized_length]; omega), sized_length]
  | cut long => exact sized_length _ _

theorem applyCh_le {d : Bs} {c : Ch} (h : d.length ≤ 268435456) (hc : ChOk c) : (applyCh d c).length ≤ 268435456 := by
  rw [applyCh_length]
  cases c with
  | write pos b => simp only [ChOk] at hc; simp only []; omega
  | cut long => exact hc

theorem foldl_le {l : List Ch} {d : Bs} (h : d.length ≤ 268435456) (hc : ∀ c ∈ l, ChOk c) : (l.foldl applyCh d).length ≤ 268435456 := by
  induction l generalizing d with
  | nil => exact h
  | cons c l ih => exact ih (applyCh_le h (hc c (by simp))) fun c' h' => hc c' (by simp [h'])

theorem FlOk.data {K : Nat} {f : Fl} (h : FlOk K f) : (dataOf f).length ≤ 268435456 := foldl_le h.safe h.each

end Go.Proofs.Ytpdflncgemcniaa
namespace Go.Proofs.Ytpdflncgemcniaa
open Go.RowKit

theorem has_take {l : List Int} {x : Int} {k : Nat} (h : k < l.length) (h0 : hasB (l.take k) x = false) (h1 : l[k] ≠ x) : hasB (l.take (k + 1)) x = false := by
  unfold hasB at *
  rw [List.take_succ_eq_append_getElem h]
  simp only [List.contains_eq_mem, decide_eq_false_iff_not, List.mem_append, List.mem_singleton, not_or] at h0 ⊢
  exact ⟨h0, fun e => h1 e.symm⟩

theorem has_at {l : List Int} {x : Int} {k : Nat} (h : k < l.length) (h1 : l[k] = x) : hasB l x = true := by
  unfold hasB
  simp only [List.contains_eq_mem, decide_eq_true_eq]
  exact h1 ▸ List.getElem_mem h

theorem has_end {l : List Int} {x : Int} {k : Nat} (h : ¬ k < l.length) (h0 : hasB (l.take k) x = false) : hasB l x = false := by
  rwa [List.take_of_length_le (by omega)] at h0

theorem ret_b {a b : Bool} (h : a = b) : Ending.returned (.bool a) = .returned (.bool b) := by rw [h]
theorem ret_i {k : IntKind} {a b : Int} (h : a = b) : Ending.returned (.int k a) = .returned (.int k b) := by rw [h]

set_option maxHeartbeats 1000000 in
theorem has69 (w : World) (F : Nat → Prop) (v : Value) (l : List Int) (x : Int) (hs : SlAt iv w.heap F v l) (hl : l.length ≤ 17592186044416) :
    Calls Try.prog 69 #[v, .int .i64 x] w fun e w' => e = .returned (.bool (hasB l x)) ∧ w = w' := by
  rcases hs with ⟨rfl, rfl⟩ | ⟨b, o, c, rfl, hc, hb, hx⟩
  · go_enter Try.func69, Try.ntmps69
    go_wp2
    go_rounds 1
    go_ret
    exact ⟨rfl, rfl⟩
  · have H := Lib.hid hx
    clear hx
    go_enter Try.func69, Try.ntmps69
    go_wp2
    go_loop [9, 6] (fun i _ => ∃ k : Nat, k ≤ l.length ∧ i = .int .i64 k ∧ hasB (l.take k) x = false) (fun i _ => l.length - (intOf i).toNat)
    case atStart => exact ⟨0, Nat.zero_le _, rfl, rfl⟩
    case round =>
      obtain ⟨k, hk, rfl, hrel2⟩ := hrel
      have R := Lib.hid hrel2
      clear hrel2
      by_cases hlt : k < l.length
      · have hcell : w.cell? ⟨b, o + k, none⟩ = some (.int .i64 l[k]) := by
          rw [cell_cel]; exact H.out k l[k] (by simp [hlt])
        by_cases he : l[k] = x
        · have hd : (l[k] == x) = true := by simp [he]
          have E := Lib.hid (has_at hlt he)
          clear he
          go_wp2
          go_ret
          exact ⟨ret_b E.out.symm, rfl⟩
        · have hd : (l[k] == x) = false := by simp [he]
          have E := Lib.hid (has_take hlt R.out he)
          clear he
          go_wp2
          go_round
          case rel => exact ⟨k + 1, by omega, by go_num, E.out⟩
          case measure => simp [intOf]; omega
      · go_wp2
        go_ret
        exact ⟨ret_b (has_end hlt R.out).symm, rfl⟩

/-- Where a number stands, or -1. -/
def idxB (l : List Int) (x : Int) : Int := match l.findIdx? (· == x) with | some i => i | none => -1

theorem idx_none {l : List Int} {x : Int} (h : hasB l x = false) : idxB l x = -1 := by
  unfold idxB
  have : l.findIdx? (· == x) = none := by
    simp only [List.findIdx?_eq_none_iff]
    intro y hy
    unfold hasB at h
    simp at h
    simp
    intro e; subst e; exact h hy
  rw [this]

theorem idx_nonneg {l : List Int} {x : Int} (h : hasB l x = true) : 0 ≤ idxB l x := by
  unfold idxB
  cases hq : l.findIdx? (· == x) with
  | some i => simp
  | none =>
    simp only [List.findIdx?_eq_none_iff] at hq
    unfold hasB at h
    simp at h
    have := hq x h
    simp at this

theorem idx_at {l : List Int} {x : Int} {k : Nat} (h : k < l.length) (h0 : hasB (l.take k) x = false) (h1 : l[k] = x) : idxB l x = k := by
  unfold idxB
  have : l.findIdx? (· == x) = some k := by
    rw [List.findIdx?_eq_some_iff_getElem]
    refine ⟨h, by simp [h1], fun j hj => ?_⟩
    unfold hasB at h0
    simp only [List.contains_eq_mem, decide_eq_false_iff_not] at h0
    simp
    intro e
    exact h0 (by rw [← e, List.mem_take_iff_getElem]; exact ⟨j, by omega, rfl⟩)
  rw [this]

set_option maxHeartbeats 1000000 in
theorem index70 (w : World) (F : Nat → Prop) (v : Value) (l : List Int) (x : Int) (hs : SlAt iv w.heap F v l) (hl : l.length ≤ 17592186044416) :
    Calls Try.prog 70 #[v, .int .i64 x] w fun e w' => e = .returned (.int .i64 (idxB l x)) ∧ w = w' := by
  rcases hs with ⟨rfl, rfl⟩ | ⟨b, o, c, rfl, hc, hb, hx⟩
  · go_enter Try.func70, Try.ntmps70
    go_wp2
    go_rounds 1
    go_ret
    exact ⟨rfl, rfl⟩
  · have H := Lib.hid hx
    clear hx
    go_enter Try.func70, Try.ntmps70
    go_wp2
    go_loop [8, 5] (fun i _ => ∃ k : Nat, k ≤ l.length ∧ i = .int .i64 k ∧ hasB (l.take k) x = false) (fun i _ => l.length - (intOf i).toNat)
    case atStart => exact ⟨0, Nat.zero_le _, rfl, rfl⟩
    case round =>
      obtain ⟨k, hk, rfl, hrel2⟩ := hrel
      have R := Lib.hid hrel2
      clear hrel2
      by_cases hlt : k < l.length
      · have hcell : w.cell? ⟨b, o + k, none⟩ = some (.int .i64 l[k]) := by
          rw [cell_cel]; exact H.out k l[k] (by simp [hlt])
        by_cases he : l[k] = x
        · have hd : (x == l[k]) = true := by simp [he]
          have E := Lib.hid (idx_at hlt R.out he)
          clear he
          go_wp2
          go_ret
          exact ⟨ret_i E.out.symm, rfl⟩
        · have hd : (x == l[k]) = false := by simp; exact fun e => he e.symm
          have E := Lib.hid (has_take hlt R.out he)
          clear he
          go_wp2
          go_round
          case rel => exact ⟨k + 1, by omega, by go_num, E.out⟩
          case measure => simp [intOf]; omega
      · go_wp2
        go_ret
        exact ⟨ret_i (idx_none (has_end hlt R.out)).symm, rfl⟩

set_option maxHeartbeats 1000000 in
theorem contains65 (w : World) (F : Nat → Prop) (v : Value) (l : List Int) (x : Int) (hs : SlAt iv w.heap F v l) (hl : l.length ≤ 17592186044416) :
    Calls Try.prog 65 #[v, .int .i64 x] w fun e w' => e = .returned (.bool (hasB l x)) ∧ w = w' := by
  go_enter Try.func65, Try.ntmps65
  go_wp2_with (go_at_call 70; refine (index70 _ F _ l _ hs hl).mono ?_; rintro e w' ⟨rfl, rfl⟩)
  go_ret
  refine ⟨ret_b ?_, rfl⟩
  cases h : hasB l x with
  | true => simpa using idx_nonneg h
  | false => rw [idx_none h]; rfl


set_option maxRecDepth 100000 in
theorem is35 (w : World) (d : Nat) (c : Array Value) (hb : Blk w.heap d c 56) (h0 : c[0]? = some (.int .i64 1)) :
    Calls Try.prog 35 #[.pointer (some ⟨d, 0, none⟩)] w fun e w' => e = .returned (.bool true) ∧ w = w' := by
  obtain ⟨r1, _⟩ := hb.rules
  have h1 := (r1 0).trans h0
  clear r1 h0 hb
  go_enter Try.func35, Try.ntmps35
  go_wp2
  go_ret
  exact ⟨rfl, rfl⟩

section
variable {w : World} {d : Nat} {S : Dk} {r : DRep} {F : Nat → Prop}

theorem IsDisk.is (h : IsDisk w.heap d S r F) : Calls Try.prog 35 #[.pointer (some ⟨d, 0, none⟩)] w fun e w' => e = .returned (.bool true) ∧ w = w' := is35 w d _ h.blk rfl

/-- The program's pointer to a file of a name. -/
def ptrOf (ps : List FP) (s : Bs) : Value := match ps.find? (fun p => p.1.name == s) with
  | some p => .pointer (some ⟨p.2.blk, 0, none⟩)
  | none => .pointer none

theorem datum_at (ps : List FP) (s : Bs) : (datum ps).atKey (.string s) .nil = match ps.find? (fun p => p.1.name == s) with
    | some p => .lit (.int .i64 p.2.blk)
    | none => .nil := by
  simp only [datum, DataW.atKey, List.find?_map]
  rw [show (fun p : Lit × DataW Unit => p.1.sameKey (.string s)) ∘ (fun p : FP => (Lit.string p.1.name, (DataW.lit (.int .i64 p.2.blk) : DataW Unit))) = fun p : FP => p.1.name == s from by
    funext p; simp [Lit.sameKey]]
  cases ps.find? (fun p => p.1.name == s) <;> rfl

set_option maxRecDepth 100000 in
theorem Try.zero67 (w : World) : (zeroValue 67).run Try.prog w = .ok (.pointer none) w := by kernel_rfl

theorem key_str {s : ByteArray} (h : s.size ≤ maxLen) : keyOf Try.prog 9 (.string s) = some (.string s.data.toList) := by
  simp [keyOf, Try.underlying9, mapKey, h]

set_option maxRecDepth 100000 in
theorem look_run {mb : Nat} {ps : List FP} (h : OwnMap w.heap mb (datum ps)) (s : ByteArray) (hs : s.size ≤ maxLen) :
    (Instr.lookup 54 (.map (some mb)) (.string s) false).run Try.prog w = .ok (ptrOf ps s.data.toList) w := by
  obtain ⟨v, q, hr, hv⟩ := h.to.lookup (Maps.string_keyed Try.underlying9) Try.underlying54 (Try.zero67 w) (zd := .nil) (zp := []) rfl (key_str hs)
  rw [hr]
  congr 1
  rw [datum_at] at hv
  unfold ptrOf
  cases hf : ps.find? (fun p => p.1.name == s.data.toList) with
  | none => rw [hf] at hv; exact ptrR_none hv
  | some p => rw [hf] at hv; exact ptrR_some hv
end

end Go.Proofs.Ytpdflncgemcniaa
