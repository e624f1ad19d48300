/- PROVED HERE: predicates on blocks of memory, and what each law on append, make and copy leaves, said by them; over any program. PROVED HERE: the contracts of the small functions that copy slices. No conditions beyond the premises that each theorem names. -/
import Derived.WalkKit
import Derived.WalkSpells
import Derived.WalkLawsBesides
import Derived.Laws.CopyOwn
import Derived.Deep.Draws
import Derived.Test.YtpdflncgemcniaaRows
import Derived.Test.YtpdflncgemcniaaD01
import Derived.Lib.Hide
namespace Go.Proofs.Ytpdflncgemcniaa
open Go.RowKit

/-- The cell at a place of a block. -/
def cel (h : Array Obj) (b o : Nat) : Option Value := match h[b]? with
  | some (.cells c _ _) => c[o]?
  | _ => none

theorem cell_cel (w : World) (b o : Nat) : w.cell? ⟨b, o, none⟩ = cel w.heap b o := by
  simp only [World.cell?, cel]
  split <;> simp_all

theorem cel_eq {h h' : Array Obj} {b o : Nat} (e : h'[b]? = h[b]?) : cel h' b o = cel h b o := by simp [cel, e]

theorem cel_lt {h : Array Obj} {b o : Nat} {v : Value} (e : cel h b o = some v) : b < h.size := by
  rcases Nat.lt_or_ge b h.size with hb | hb
  · exact hb
  · simp [cel, Array.getElem?_eq_none hb] at e

/-- Only blocks of F have turned; new ones may have come. -/
structure Fr (F : Nat → Prop) (w w' : World) : Prop where
  os : w'.os = w.os
  tape : w'.tape = w.tape
  output : w'.output = w.output
  size : w.heap.size ≤ w'.heap.size
  block : ∀ b, b < w.heap.size → ¬ F b → w'.heap[b]? = w.heap[b]?

theorem Fr.refl (F : Nat → Prop) (w : World) : Fr F w w := ⟨rfl, rfl, rfl, Nat.le_refl _, fun _ _ _ => rfl⟩

theorem Fr.trans {F G : Nat → Prop} {a b c : World} (h : Fr F a b) (k : Fr G b c) (hs : ∀ x, x < a.heap.size → G x → F x) : Fr F a c :=
  ⟨k.os.trans h.os, k.tape.trans h.tape, k.output.trans h.output, Nat.le_trans h.size k.size, fun x hx hF =>
    (k.block x (Nat.lt_of_lt_of_le hx h.size) (fun g => hF (hs x hx g))).trans (h.block x hx hF)⟩

theorem Fr.trans' {F : Nat → Prop} {a b c : World} (h : Fr F a b) (k : Fr F b c) : Fr F a c := h.trans k fun _ _ g => g

theorem Fr.mono {F G : Nat → Prop} {a b : World} (h : Fr F a b) (hs : ∀ x, x < a.heap.size → F x → G x) : Fr G a b :=
  ⟨h.os, h.tape, h.output, h.size, fun x hx hG => h.block x hx (fun f => hG (hs x hx f))⟩

/-- Nothing that was there has turned. -/
abbrev Old (w w' : World) : Prop := Fr (fun _ => False) w w'

theorem Old.fr {F : Nat → Prop} {a b : World} (h : Old a b) : Fr F a b := h.mono fun _ _ f => f.elim

theorem Fr.drew {F : Nat → Prop} {a b : World} (h : Fr F a b) : Fr F a b.drew := ⟨h.os, h.tape, h.output, h.size, h.block⟩
theorem Fr.drewN {F : Nat → Prop} {a b : World} (h : Fr F a b) (n : Nat) : Fr F a (b.drewN n) := ⟨h.os, h.tape, h.output, h.size, h.block⟩

theorem heap_push {w : World} (o : Obj) {b : Nat} (hb : b < w.heap.size) : (w.alloc o).heap[b]? = w.heap[b]? := Below.heap_alloc w o b hb
theorem heap_new (w : World) (o : Obj) : (w.alloc o).heap[w.heap.size]? = some o := by show (w.heap.push o)[w.heap.size]? = _; simp
theorem heap_set {w : World} (a : Addr) (u : Value) {b : Nat} (hb : b ≠ a.block) : (w.setCell a u).heap[b]? = w.heap[b]? := Below.heap_setCell w a u b hb
theorem heap_set_at {w : World} {b o : Nat} {c : Array Value} {T : TypeId} {z : Nat × Nat} (u : Value) (hb : w.heap[b]? = some (.cells c T z)) :
    (w.setCell ⟨b, o, none⟩ u).heap[b]? = some (.cells (c.setIfInBounds o u) T z) := by
  simp [World.setCell, Array.getElem?_modify, hb]

theorem Fr.alloc {F : Nat → Prop} {a b : World} (h : Fr F a b) (o : Obj) : Fr F a (b.alloc o) :=
  h.trans' ⟨rfl, rfl, rfl, by simp, fun _ hx _ => heap_push o hx⟩

theorem Fr.setCell {F : Nat → Prop} {a b : World} (h : Fr F a b) {p : Addr} (hp : p.block < a.heap.size → F p.block) (u : Value) : Fr F a (b.setCell p u) :=
  h.trans (G := fun x => x = p.block) ⟨rfl, rfl, rfl, by simp, fun _ _ hne => heap_set p u hne⟩ fun x hx e => by subst e; exact hp hx

theorem Fr.grown {F : Nat → Prop} {a b c : World} {row : Option Nat} (h : Fr F a b) (g : b.grownBy c row) (hr : ∀ k, row = some k → k < a.heap.size → F k) : Fr F a c :=
  h.trans (G := fun x => row = some x) ⟨g.os, g.tape, g.output, g.size, fun x hx hne => g.block x hx (fun e => hne e.symm)⟩ fun x hx e => hr x e hx

theorem Fr.below {F : Nat → Prop} {a b c : World} (h : Fr F a b) (g : Below b.heap.size b c) : Fr F a c :=
  h.trans (G := fun _ => False) ⟨g.os, g.tape, g.output, g.size, fun x hx _ => g.block x hx⟩ fun _ _ e => e.elim

theorem Fr.to_below {F : Nat → Prop} {a b : World} {B : Nat} (h : Fr F a b) (hB : B ≤ a.heap.size) (hF : ∀ x, F x → B ≤ x) : Below B a b :=
  ⟨h.os, h.tape, h.output, h.size, fun x hx => h.block x (by omega) fun f => by have := hF x f; omega⟩

theorem Fr.cel {F : Nat → Prop} {a b : World} (h : Fr F a b) {x o : Nat} {v : Value} (hc : cel a.heap x o = some v) (hx : ¬ F x) : Ytpdflncgemcniaa.cel b.heap x o = some v :=
  (cel_eq (h.block x (cel_lt hc) hx)).trans hc

/-- A whole block that may be written. -/
def Blk (h : Array Obj) (b : Nat) (c : Array Value) (T : TypeId) : Prop := h[b]? = some (.cells c T (0, 0))

theorem Blk.rules {w : World} {b : Nat} {c : Array Value} {T : TypeId} (h : Blk w.heap b c T) : (∀ o, w.cell? ⟨b, o, none⟩ = c[o]?) ∧ (∀ o, w.frozen? ⟨b, o, none⟩ = false) := by
  unfold Blk at h
  constructor
  · intro o; rw [cell_cel]; simp [cel, h]
  · intro o; simp [World.frozen?, h]

theorem Blk.set {w : World} {b : Nat} {c : Array Value} {T : TypeId} (h : Blk w.heap b c T) (o : Nat) (u : Value) : Blk (w.setCell ⟨b, o, none⟩ u).heap b (c.setIfInBounds o u) T := heap_set_at u h

theorem Fr.store (w : World) (b o : Nat) (u : Value) : Fr (fun x => x = b) w (w.setCell ⟨b, o, none⟩ u) := ⟨rfl, rfl, rfl, by simp, fun _ _ hne => heap_set ⟨b, o, none⟩ u hne⟩

theorem Blk.fr {F : Nat → Prop} {w w' : World} {b : Nat} {c : Array Value} {T : TypeId} (h : Blk w.heap b c T) (f : Fr F w w') (hb : ¬ F b) : Blk w'.heap b c T :=
  (f.block b (Array.getElem?_eq_some_iff.1 h).1 hb).trans h

theorem Blk.lt {h : Array Obj} {b : Nat} {c : Array Value} {T : TypeId} (s : Blk h b c T) : b < h.size := (Array.getElem?_eq_some_iff.1 s).1

theorem blk_new (w : World) (c : Array Value) (T : TypeId) : Blk (w.alloc (.cells c T)).heap w.heap.size c T := heap_new w _
theorem blk_old {w : World} {b : Nat} {c : Array Value} {T : TypeId} (h : Blk w.heap b c T) (o : Obj) : Blk (w.alloc o).heap b c T := (heap_push o h.lt).trans h

/-- A slice of things of one cell each, somewhere in blocks of F. -/
def SlAt {α : Type} (enc : α → Value) (h : Array Obj) (F : Nat → Prop) (v : Value) (l : List α) : Prop :=
  (l = [] ∧ v = .slice none 0 0) ∨
  ∃ b o c, v = .slice (some ⟨b, o, none⟩) l.length c ∧ l.length ≤ c ∧ F b ∧ ∀ i x, l[i]? = some x → cel h b (o + i) = some (enc x)

section
variable {α : Type} {enc : α → Value} {h h' : Array Obj} {F G : Nat → Prop} {v : Value} {l : List α}

theorem SlAt.nil : SlAt enc h F (.slice none 0 0) [] := .inl ⟨rfl, rfl⟩

theorem SlAt.mono (s : SlAt enc h F v l) (hF : ∀ x, F x → G x) : SlAt enc h G v l := by
  rcases s with s | ⟨b, o, c, e, hc, hb, hx⟩
  · exact .inl s
  · exact .inr ⟨b, o, c, e, hc, hF b hb, hx⟩

theorem SlAt.kept (s : SlAt enc h F v l) (hk : ∀ b, F b → b < h.size → h'[b]? = h[b]?) : SlAt enc h' F v l := by
  rcases s with s | ⟨b, o, c, e, hc, hb, hx⟩
  · exact .inl s
  · exact .inr ⟨b, o, c, e, hc, hb, fun i x hi => by
      have := hx i x hi
      rw [cel_eq (hk b hb (cel_lt this))]; exact this⟩

theorem SlAt.fr {w w' : World} (s : SlAt enc w.heap F v l) (hf : Fr G w w') (hd : ∀ b, F b → G b → False) : SlAt enc w'.heap F v l :=
  s.kept fun b hb hl => hf.block b hl (hd b hb)

theorem SlAt.shape (s : SlAt enc h F v l) : ∃ a c, v = .slice a l.length c ∧ l.length ≤ c ∧ (a = none → l = [] ∧ c = 0) := by
  rcases s with ⟨rfl, rfl⟩ | ⟨b, o, c, e, hc, hb, hx⟩
  · exact ⟨none, 0, rfl, by simp, fun _ => ⟨rfl, rfl⟩⟩
  · exact ⟨_, c, e, hc, fun h => by cases h⟩

/-- A part of a slice. -/
theorem SlAt.part {a : Option Addr} {n c : Nat} (s : SlAt enc h F (.slice a n c) l) {lo hi : Nat} (h1 : lo ≤ hi) (h2 : hi ≤ l.length) :
    SlAt enc h F (.slice (if c = lo then a else a.map (·.add (lo * 1))) (hi - lo) (c - lo)) ((l.drop lo).take (hi - lo)) := by
  rcases s with ⟨rfl, e⟩ | ⟨b, o, c', e, hc, hb, hx⟩
  · simp only [Value.slice.injEq] at e
    obtain ⟨rfl, rfl, rfl⟩ := e
    simp at h2; subst h2
    have : lo = 0 := by omega
    subst this
    exact .inl ⟨rfl, rfl⟩
  · simp only [Value.slice.injEq] at e
    obtain ⟨rfl, rfl, rfl⟩ := e
    have hl : ((l.drop lo).take (hi - lo)).length = hi - lo := by simp; omega
    by_cases hcl : c = lo
    · refine .inr ⟨b, o, c - lo, ?_, by omega, hb, ?_⟩
      · rw [hl, if_pos hcl]
      · intro i x hi'
        have := (List.getElem?_eq_some_iff.1 hi').1
        omega
    · refine .inr ⟨b, o + lo, c - lo, ?_, by omega, hb, ?_⟩
      · rw [hl, if_neg hcl]
        simp only [Option.map_some, Addr.add, Nat.mul_one]
        by_cases h0 : lo = 0
        · subst h0; rfl
        · rw [if_neg h0]
      · intro i x hi'
        have hlt := (List.getElem?_eq_some_iff.1 hi').1
        rw [List.getElem?_take_of_lt (by omega), List.getElem?_drop] at hi'
        have := hx _ _ hi'
        rwa [← Nat.add_assoc] at this
end

/-- Cells in a row at the head of a slice, of whatever elements. -/
def RowAt (h : Array Obj) (size : Nat) (u : Value) (m : Nat) (news : List Value) : Prop :=
  news.length = m * size ∧ ((u = .slice none 0 0 ∧ m = 0) ∨ ∃ b o c, u = .slice (some ⟨b, o, none⟩) m c ∧ ∀ j x, news[j]? = some x → cel h b (o + j) = some x)

/-- A row of one's own, at the head of a block of F, that may be written and appended to. -/
def OwnRow (h : Array Obj) (F : Nat → Prop) (e : TypeId) (size : Nat) (v : Value) (n : Nat) (xs : List Value) : Prop :=
  xs.length = n * size ∧ ((v = .slice none 0 0 ∧ n = 0) ∨
    ∃ g cap cur, v = .slice (some ⟨g, 0, none⟩) n cap ∧ F g ∧ h[g]? = some (.cells cur e (0, 0)) ∧ n ≤ cap ∧ cap ≤ maxLen ∧ cur.size = cap * size ∧ cur.toList.take (n * size) = xs)

theorem SlAt.row {α : Type} {enc : α → Value} {h : Array Obj} {F : Nat → Prop} {v : Value} {l : List α} (s : SlAt enc h F v l) : RowAt h 1 v l.length (l.map enc) := by
  rcases s with ⟨rfl, rfl⟩ | ⟨b, o, c, e, hc, hb, hx⟩
  · exact ⟨rfl, .inl ⟨rfl, rfl⟩⟩
  · refine ⟨by simp, .inr ⟨b, o, c, e, fun j x hj => ?_⟩⟩
    rw [List.getElem?_map, Option.map_eq_some_iff] at hj
    obtain ⟨y, hy, rfl⟩ := hj
    exact hx j y hy

section
variable {h h' : Array Obj} {F G : Nat → Prop} {e : TypeId} {size : Nat} {v : Value} {n : Nat} {xs : List Value}

theorem OwnRow.nil : OwnRow h F e size (.slice none 0 0) 0 [] := ⟨by simp, .inl ⟨rfl, rfl⟩⟩

theorem OwnRow.mono (s : OwnRow h F e size v n xs) (hF : ∀ x, v.ownBlock = some x → F x → G x) : OwnRow h G e size v n xs := by
  refine ⟨s.1, ?_⟩
  rcases s.2 with s | ⟨g, cap, cur, rfl, hg, r⟩
  · exact .inl s
  · exact .inr ⟨g, cap, cur, rfl, hF g rfl hg, r⟩

theorem OwnRow.kept (s : OwnRow h F e size v n xs) (hk : ∀ b, v.ownBlock = some b → F b → b < h.size → h'[b]? = h[b]?) : OwnRow h' F e size v n xs := by
  refine ⟨s.1, ?_⟩
  rcases s.2 with s | ⟨g, cap, cur, rfl, hg, hgg, r⟩
  · exact .inl s
  · exact .inr ⟨g, cap, cur, rfl, hg, (hk g rfl hg (Array.getElem?_eq_some_iff.1 hgg).1).trans hgg, r⟩

theorem OwnRow.owned (s : OwnRow h F e size v n xs) {b : Nat} (hb : v.ownBlock = some b) : F b ∧ ∃ cur, h[b]? = some (.cells cur e (0, 0)) := by
  rcases s.2 with ⟨rfl, _⟩ | ⟨g, cap, cur, rfl, hg, hgg, r⟩
  · simp [Value.ownBlock] at hb
  · simp [Value.ownBlock] at hb; subst hb; exact ⟨hg, cur, hgg⟩

theorem OwnRow.cell (s : OwnRow h F e size v n xs) {b : Nat} (hb : v.ownBlock = some b) {j : Nat} {u : Value} (hu : xs[j]? = some u) : cel h b j = some u := by
  rcases s.2 with ⟨rfl, _⟩ | ⟨g, cap, cur, rfl, hg, hgg, h1, h2, h3, h4⟩
  · simp [Value.ownBlock] at hb
  · simp [Value.ownBlock] at hb; subst hb
    rw [← h4, List.getElem?_take] at hu
    split at hu
    · simpa [cel, hgg] using hu
    · cases hu

theorem OwnRow.shape (s : OwnRow h F e size v n xs) : (v = .slice none 0 0 ∧ n = 0) ∨ ∃ g cap, v = .slice (some ⟨g, 0, none⟩) n cap ∧ n ≤ cap ∧ F g ∧ v.ownBlock = some g := by
  rcases s.2 with s | ⟨g, cap, cur, rfl, hg, hgg, h1, r⟩
  · exact .inl s
  · exact .inr ⟨g, cap, rfl, h1, hg, rfl⟩

theorem OwnRow.of_owns {w : World} {base : Nat} (s : w.ownsRow base e size v n xs) (hF : ∀ g, v.ownBlock = some g → base ≤ g → F g) : OwnRow w.heap F e size v n xs := by
  refine ⟨s.1, ?_⟩
  rcases s.2 with s | ⟨g, cap, cur, rfl, hg, r⟩
  · exact .inl s
  · exact .inr ⟨g, cap, cur, rfl, hF g rfl hg, r⟩

theorem OwnRow.to_owns {w : World} (s : OwnRow w.heap F e size v n xs) : w.ownsRow 0 e size v n xs := by
  refine ⟨s.1, ?_⟩
  rcases s.2 with s | ⟨g, cap, cur, rfl, hg, r⟩
  · exact .inl s
  · exact .inr ⟨g, cap, cur, rfl, Nat.zero_le _, r⟩

theorem OwnRow.row (s : OwnRow h F e size v n xs) : RowAt h size v n xs := by
  refine ⟨s.1, ?_⟩
  rcases s.2 with s' | ⟨g, cap, cur, rfl, hg, r⟩
  · exact .inl s'
  · exact .inr ⟨g, 0, cap, rfl, fun j x hj => by rw [Nat.zero_add]; exact s.cell rfl hj⟩

/-- A row of things of one cell each reads as a slice of them. -/
theorem OwnRow.sl {α : Type} {enc : α → Value} {l : List α} (s : OwnRow h F e 1 v l.length (l.map enc)) : SlAt enc h F v l := by
  rcases s.2 with ⟨rfl, h0⟩ | ⟨g, cap, cur, rfl, hg, hgg, h1, r⟩
  · exact .inl ⟨List.eq_nil_of_length_eq_zero h0, rfl⟩
  · refine .inr ⟨g, 0, cap, rfl, h1, hg, fun i x hi => ?_⟩
    rw [Nat.zero_add]
    exact s.cell rfl (by rw [List.getElem?_map, hi]; rfl)
end

theorem RowAt.kept {h h' : Array Obj} {size : Nat} {u : Value} {m : Nat} {news : List Value} (s : RowAt h size u m news) (hk : ∀ b, u.ownBlock = some b → b < h.size → h'[b]? = h[b]?) : RowAt h' size u m news := by
  refine ⟨s.1, ?_⟩
  rcases s.2 with s | ⟨b, o, c, rfl, hx⟩
  · exact .inl s
  · exact .inr ⟨b, o, c, rfl, fun j x hj => by have := hx j x hj; rw [cel_eq (hk b rfl (cel_lt this))]; exact this⟩

/-- A block of cells of a type. -/
def Tag (h : Array Obj) (b : Nat) (T : TypeId) : Prop := ∃ c z, h[b]? = some (.cells c T z)

theorem Blk.tag {h : Array Obj} {b : Nat} {c : Array Value} {T : TypeId} (s : Blk h b c T) : Tag h b T := ⟨c, _, s⟩
theorem Tag.eq {h : Array Obj} {b : Nat} {T U : TypeId} (s : Tag h b T) (t : Tag h b U) : T = U := by
  obtain ⟨c, z, e⟩ := s
  obtain ⟨c', z', e'⟩ := t
  rw [e] at e'
  simp only [Option.some.injEq, Obj.cells.injEq] at e'
  exact e'.2.1
theorem Tag.lt {h : Array Obj} {b : Nat} {T : TypeId} (s : Tag h b T) : b < h.size := by
  obtain ⟨c, z, e⟩ := s
  exact (Array.getElem?_eq_some_iff.1 e).1
theorem Tag.kept {h h' : Array Obj} {b : Nat} {T : TypeId} (s : Tag h b T) (e : h'[b]? = h[b]?) : Tag h' b T := by
  obtain ⟨c, z, e'⟩ := s
  exact ⟨c, z, e.trans e'⟩

/-- A slice in blocks of a type. -/
def SlT {α : Type} (T : TypeId) (enc : α → Value) (h : Array Obj) (F : Nat → Prop) (v : Value) (l : List α) : Prop := SlAt enc h (fun b => F b ∧ Tag h b T) v l

section
variable {α : Type} {T : TypeId} {enc : α → Value} {h h' : Array Obj} {F G : Nat → Prop} {v : Value} {l : List α}
theorem SlT.nil : SlT T enc h F (.slice none 0 0) [] := SlAt.nil
theorem SlT.at (s : SlT T enc h F v l) : SlAt enc h F v l := SlAt.mono s fun _ h => h.1
theorem SlT.monot (s : SlT T enc h F v l) (hF : ∀ x, F x → Tag h x T → G x) : SlT T enc h G v l := SlAt.mono s fun x hx => ⟨hF x hx.1 hx.2, hx.2⟩
theorem SlT.mono (s : SlT T enc h F v l) (hF : ∀ x, F x → G x) : SlT T enc h G v l := s.monot fun x hx _ => hF x hx
theorem SlT.kept (s : SlT T enc h F v l) (hk : ∀ b, F b → Tag h b T → h'[b]? = h[b]?) : SlT T enc h' F v l :=
  SlAt.mono (SlAt.kept s fun b hb _ => hk b hb.1 hb.2) fun b hb => ⟨hb.1, hb.2.kept (hk b hb.1 hb.2)⟩
theorem SlT.frt {w w' : World} (s : SlT T enc w.heap F v l) (hf : Fr G w w') (hd : ∀ b, F b → Tag w.heap b T → G b → False) : SlT T enc w'.heap F v l :=
  s.kept fun b hb ht => hf.block b ht.lt (hd b hb ht)
theorem SlT.fr {w w' : World} (s : SlT T enc w.heap F v l) (hf : Fr G w w') (hd : ∀ b, F b → G b → False) : SlT T enc w'.heap F v l :=
  s.frt hf fun b hb _ => hd b hb
theorem SlT.shape (s : SlT T enc h F v l) : ∃ a c, v = .slice a l.length c ∧ l.length ≤ c ∧ (a = none → l = [] ∧ c = 0) := SlAt.shape s
theorem SlT.row (s : SlT T enc h F v l) : RowAt h 1 v l.length (l.map enc) := SlAt.row s
theorem SlT.part {a : Option Addr} {n c : Nat} (s : SlT T enc h F (.slice a n c) l) {lo hi : Nat} (h1 : lo ≤ hi) (h2 : hi ≤ l.length) :
    SlT T enc h F (.slice (if c = lo then a else a.map (·.add (lo * 1))) (hi - lo) (c - lo)) ((l.drop lo).take (hi - lo)) := SlAt.part s h1 h2
theorem OwnRow.slT {e : TypeId} (s : OwnRow h F e 1 v l.length (l.map enc)) : SlT e enc h F v l := by
  rcases s.2 with ⟨rfl, h0⟩ | ⟨g, cap, cur, rfl, hg, hgg, h1, r⟩
  · exact .inl ⟨List.eq_nil_of_length_eq_zero h0, rfl⟩
  · refine .inr ⟨g, 0, cap, rfl, h1, ⟨hg, cur, _, hgg⟩, fun i x hi => ?_⟩
    rw [Nat.zero_add]
    exact s.cell rfl (by rw [List.getElem?_map, hi]; rfl)
end

section
variable {P : Program} {w : World}

/-- append, whatever it is given: what came, then the news; the block is the old one or a new one. -/
theorem run_app (t ty e : TypeId) (i : TypeInfo) (z : Value) (size bytes : Nat) (ht : P.underlying t = some (.slice e)) (hi : P.info? e = some i) (hz : i.zero = some z)
    (hsize : i.size = size) (hby : i.bytes = bytes) (hzs : z.cells.size = size) (hsz : 0 < size)
    (F : Nat → Prop) (v : Value) (n : Nat) (xs : List Value) (hown : OwnRow w.heap F e size v n xs)
    (u : Value) (m : Nat) (news : List Value) (hrow : RowAt w.heap size u m news) (h1 : ∀ u ∈ news, u.oneCell' = true)
    (h63 : n + m ≤ maxLen) (hbytes : (n + m) * bytes ≤ 140737488355328) :
    ∃ v' w', (Builtin.append_ #[t, t] ty #[v, u]).run P w = .ok v' w' ∧ OwnRow w'.heap (fun b => v.ownBlock = some b ∨ w.heap.size ≤ b) e size v' (n + m) (xs ++ news) ∧
      Fr (fun b => v.ownBlock = some b) w w' ∧ (v' = .slice none 0 0 ↔ v = .slice none 0 0 ∧ m = 0) := by
  subst hsize
  subst hby
  obtain ⟨hl, hr⟩ := hrow
  rcases hr with ⟨rfl, rfl⟩ | ⟨b, o, c, rfl, hnews0⟩
  · have hn : news = [] := List.eq_nil_of_length_eq_zero (by simpa using hl)
    subst hn
    refine ⟨v, w, run_append_owned_none (P := P) w 0 t ty e i i.size ht hi v n xs hown.to_owns, ?_, Fr.refl _ _, by simp⟩
    rw [List.append_nil, Nat.add_zero]
    exact hown.mono fun x hx _ => .inl hx
  · have hnews : ∀ j v, news[j]? = some v → w.cell? ((⟨b, o, none⟩ : Addr).add j) = some v := fun j v hj => by
      rw [Addr.add_lit, cell_cel]; exact hnews0 j v hj
    have hsmall : n + m ≤ 9223372036854775807 := by simp only [maxLen] at h63; omega
    have hlen : (xs ++ news).length = (n + m) * i.size := by rw [List.length_append, hown.1, hl, Nat.add_mul]
    have grown : ∀ (old : Nat), old < n + m → ∀ (row : Nat → Prop),
        OwnRow (w.drew.alloc (.cells (xs.toArray ++ news.toArray ++ Builtin.zeroCells z.cells (grownCap w (n + m) old e - (n + m))) e)).heap (fun b => row b ∨ w.heap.size ≤ b) e i.size
          (.slice (some ⟨w.heap.size, 0, none⟩) (n + m) (grownCap w (n + m) old e)) (n + m) (xs ++ news) ∧
        Fr row w (w.drew.alloc (.cells (xs.toArray ++ news.toArray ++ Builtin.zeroCells z.cells (grownCap w (n + m) old e - (n + m))) e)) := by
      intro old ho row
      have hge := grownCap_ge w (n + m) old e
      have hcm : grownCap w (n + m) old e ≤ maxLen := grownCap_le_maxLen w (n + m) old e h63
      refine ⟨⟨hlen, .inr ⟨w.heap.size, _, _, rfl, .inr (Nat.le_refl _), heap_new w.drew _, hge, hcm, ?_, ?_⟩⟩, (Fr.refl _ _).drew.alloc _⟩
      · simp only [Array.size_append, List.size_toArray, size_zeroCells, hzs, hown.1, hl, ← Nat.add_mul]
        congr 1
        omega
      · simp only [Array.toList_append, List.append_assoc]
        rw [← List.append_assoc, ← hlen]
        exact List.take_left
    rcases hown.2 with ⟨rfl, rfl⟩ | ⟨g, cap, cur, rfl, hbg, hg, hnc, hcm, hcs, htake⟩
    · have hx : xs = [] := List.eq_nil_of_length_eq_zero (by simpa using hown.1)
      subst hx
      by_cases hm : m = 0
      · subst hm
        have hn : news = [] := List.eq_nil_of_length_eq_zero (by simpa using hl)
        subst hn
        refine ⟨.slice none 0 0, w, ?_, OwnRow.nil, Fr.refl _ _, by simp⟩
        simp [Builtin.append_, run_underlying ht, sizeOf, typeInfo, hi, Builtin.lenOf, Builtin.firstCells, loadCells, loadCellsFrom]
      · have hr := run_append_nil (P := P) w t ty e i z ht hi hz _ m c news hl hnews (by omega) (by omega) (by have hb := hbytes; simp only [Nat.zero_add] at hb; omega)
        have hgr := grown 0 (by omega) (fun b => (Value.slice none 0 0).ownBlock = some b)
        simp only [Nat.zero_add, List.nil_append, Array.empty_append] at hgr ⊢
        exact ⟨_, _, hr, hgr.1, hgr.2, by simp [hm]⟩
    · by_cases hroom : n + m ≤ cap
      · have hfit : n * i.size + news.length ≤ cur.size := by rw [hl, hcs, ← Nat.add_mul]; exact Nat.mul_le_mul_right _ hroom
        have hr := run_append_room (P := P) w t ty e i ht hi g n cap cur hg _ m c news hl hnews h1 hroom hfit
        refine ⟨_, _, hr, ⟨hlen, .inr ⟨g, cap, _, rfl, .inl rfl, setRow_heap w g cur _ e _ hg, hroom, hcm, ?_, ?_⟩⟩,
          ⟨rfl, rfl, rfl, by simp, fun k _ hk => setRow_other w g k _ (fun e => hk (by simp [Value.ownBlock, e]))⟩, by simp⟩
        · simp only [List.size_toArray, List.length_append, List.length_take, List.length_drop, Array.length_toList]
          omega
        · rw [htake, ← hlen]
          exact List.take_left
      · have holds : ∀ j u, xs[j]? = some u → w.cell? ((⟨g, 0, none⟩ : Addr).add j) = some u := fun j u hj => by
          rw [Addr.add_lit, cell_cel, Nat.zero_add]; exact hown.cell rfl hj
        have hr := run_append_grow (P := P) w t ty e i z ht hi hz ⟨g, 0, none⟩ n cap xs hown.1 holds _ m c news hl hnews (by omega) (by omega) (growslice_fits (by omega) hbytes)
        have hgr := grown cap (by omega) (fun b => (Value.slice (some ⟨g, 0, none⟩) n cap).ownBlock = some b)
        exact ⟨_, _, hr, hgr.1, hgr.2, by simp⟩

theorem wpList_app {ops : Array Oper} {rest : List Oper} {o : Oper} {a : Act} {Q : Exit → Act → World → Prop} (hgd : o.guard = none) (s x : Operand) (t : TypeId)
    (ho : o.op = .call { callee := .builtin .append, args := #[s, x], argTypes := #[t, t] })
    (e : TypeId) (z : Value) (size bytes : Nat) (ht : P.underlying t = some (.slice e)) (hi : (P.info? e).map (fun i => (i.zero, i.size, i.bytes)) = some (some z, size, bytes))
    (hzs : z.cells.size = size) (hsz : 0 < size)
    (F : Nat → Prop) (v : Value) (n : Nat) (xs : List Value) (hs : a.eval s = v) (hown : OwnRow w.heap F e size v n xs)
    (u : Value) (m : Nat) (news : List Value) (hx : a.eval x = u) (hrow : RowAt w.heap size u m news) (h1 : ∀ u ∈ news, u.oneCell' = true)
    (h63 : n + m ≤ maxLen) (hbytes : (n + m) * bytes ≤ 140737488355328)
    (h : ∀ v' w', OwnRow w'.heap (fun b => v.ownBlock = some b ∨ w.heap.size ≤ b) e size v' (n + m) (xs ++ news) → Fr (fun b => v.ownBlock = some b) w w' →
      (v' = .slice none 0 0 ↔ v = .slice none 0 0 ∧ m = 0) → wpList P ops Q rest (a.put o.dst v') w') : wpList P ops Q (o :: rest) a w := by
  obtain ⟨i, hi, hz, hsize, hby⟩ := info_parts hi
  refine wpList_plain hgd fun K hK => ?_
  obtain ⟨v', w', hr, h2, h3, h4⟩ := run_app (P := P) t o.type e i z size bytes ht hi hz hsize hby hzs hsz F v n xs hown u m news hrow h1 h63 hbytes
  unfold Oper.wp execOp
  simp only [ho, resolve, invoke, builtin, Sem.run_bind, Sem.run_pure, Result.andThen_ok, List.map_toArray, List.map_cons, List.map_nil, hs, hx, hr]
  exact hK _ _ (h v' w' h2 h3 h4)
end

end Go.Proofs.Ytpdflncgemcniaa
namespace Go.Proofs.Ytpdflncgemcniaa
open Go.RowKit

def u8 (x : UInt8) : Value := .int .u8 x.toNat
def iv (n : Int) : Value := .int .i64 n

theorem Try.info5 : (Try.prog.info? 5).map (fun i => (i.zero, i.size, i.bytes)) = some (some (.int .u8 0), 1, 1) := by kernel_rfl
theorem Try.info3 : (Try.prog.info? 3).map (fun i => (i.zero, i.size, i.bytes)) = some (some (.int .i64 0), 1, 8) := by kernel_rfl

theorem u8_one (l : List UInt8) : ∀ u ∈ l.map u8, u.oneCell' = true := by
  intro u hu
  obtain ⟨_, _, rfl⟩ := List.mem_map.1 hu
  rfl
theorem iv_one (l : List Int) : ∀ u ∈ l.map iv, u.oneCell' = true := by
  intro u hu
  obtain ⟨_, _, rfl⟩ := List.mem_map.1 hu
  rfl

/-- A new slice that holds l, and nothing that was there has turned. -/
def Made {α : Type} (T : TypeId) (enc : α → Value) (w : World) (l : List α) (e : Ending) (w' : World) : Prop :=
  ∃ v', e = .returned v' ∧ SlT T enc w'.heap (fun b => w.heap.size ≤ b) v' l ∧ Old w w'

set_option maxHeartbeats 400000 in
theorem clone37 (w : World) (F : Nat → Prop) (v : Value) (l : Bs) (hs : SlAt u8 w.heap F v l) (hl : l.length ≤ 140737488355328) :
    Calls Try.prog 37 #[v] w (Made 5 u8 w l) := by
  have hrow := hs.row
  rcases hs with ⟨rfl, rfl⟩ | ⟨b, o, c, rfl, hc, hb, hx⟩
  · have h1 := @Lib.run_eql_slice_nil Try.prog
    go_enter Try.func37, Try.ntmps37
    go_wp2
    go_ret
    exact ⟨_, rfl, SlT.nil, Fr.refl _ _⟩
  · clear hx
    have h1 := @Lib.run_eql_slice_nil Try.prog
    go_enter Try.func37, Try.ntmps37
    go_wp2_with (at_builtin; refine wpList_app rfl (.tmp 5) (.tmp 6) 33 rfl 5 (.int .u8 0) 1 1 Try.underlying33 Try.info5 rfl (by decide) (fun b => w.heap.size ≤ b) _ 0 [] rfl ⟨by simp, .inr ⟨w.heap.size, 0, #[], rfl, Nat.le_refl _, heap_new w _, Nat.le_refl _, by decide, rfl, rfl⟩⟩ _ l.length (l.map u8) rfl ?hr (u8_one l) ?h63 ?hby ?_)
    case hr => exact hrow.kept fun x hx hl => heap_push _ hl
    case h63 => unfold maxLen; omega
    case hby => omega
    intro v' w' hown hfr _
    go_wp2
    go_ret
    refine ⟨_, rfl, ?_, ?_⟩
    · exact (hown.mono (fun x _ h => by simp [Value.ownBlock] at h; rcases h with h | h <;> omega)).slT
    · exact ((Fr.refl _ w).alloc _).trans hfr fun x hx h => by simp [Value.ownBlock] at h; omega


set_option maxHeartbeats 400000 in
theorem clone54 (w : World) (F : Nat → Prop) (v : Value) (l : List Int) (hs : SlAt iv w.heap F v l) (hl : l.length ≤ 17592186044416) :
    Calls Try.prog 54 #[v] w (Made 3 iv w l) := by
  have hrow := hs.row
  rcases hs with ⟨rfl, rfl⟩ | ⟨b, o, c, rfl, hc, hb, hx⟩
  · have h1 := @Lib.run_eql_slice_nil Try.prog
    go_enter Try.func54, Try.ntmps54
    go_wp2
    go_ret
    exact ⟨_, rfl, SlT.nil, Fr.refl _ _⟩
  · clear hx
    have h1 := @Lib.run_eql_slice_nil Try.prog
    go_enter Try.func54, Try.ntmps54
    go_wp2_with (at_builtin; refine wpList_app rfl (.tmp 5) (.tmp 6) 22 rfl 3 (.int .i64 0) 1 8 Try.underlying22 Try.info3 rfl (by decide) (fun b => w.heap.size ≤ b) _ 0 [] rfl ⟨by simp, .inr ⟨w.heap.size, 0, #[], rfl, Nat.le_refl _, heap_new w _, Nat.le_refl _, by decide, rfl, rfl⟩⟩ _ l.length (l.map iv) rfl ?hr (iv_one l) ?h63 ?hby ?_)
    case hr => exact hrow.kept fun x hx hl => heap_push _ hl
    case h63 => unfold maxLen; omega
    case hby => omega
    intro v' w' hown hfr _
    go_wp2
    go_ret
    refine ⟨_, rfl, ?_, ?_⟩
    · exact (hown.mono (fun x _ h => by simp [Value.ownBlock] at h; rcases h with h | h <;> omega)).slT
    · exact ((Fr.refl _ w).alloc _).trans hfr fun x hx h => by simp [Value.ownBlock] at h; omega

set_option maxHeartbeats 400000 in
theorem twin22 (w : World) (F : Nat → Prop) (v : Value) (l : Bs) (hs : SlAt u8 w.heap F v l) (hl : l.length ≤ 140737488355328) :
    Calls Try.prog 22 #[v] w (Made 5 u8 w l) := by
  have hrow := hs.row
  clear hs
  go_enter Try.func22, Try.ntmps22
  go_wp2_with (at_builtin; refine wpList_app rfl (.const (.slice none 0 0)) (.tmp 3) 33 rfl 5 (.int .u8 0) 1 1 Try.underlying33 Try.info5 rfl (by decide) (fun b => w.heap.size ≤ b) _ 0 [] rfl OwnRow.nil _ l.length (l.map u8) rfl hrow (u8_one l) ?h63 ?hby ?_)
  case h63 => unfold maxLen; omega
  case hby => omega
  intro v' w' hown hfr _
  go_wp2
  go_ret
  refine ⟨_, rfl, ?_, ?_⟩
  · exact (hown.mono (fun x _ h => by simpa [Value.ownBlock] using h)).slT
  · exact hfr.mono fun x hx h => by simp [Value.ownBlock] at h

set_option maxHeartbeats 400000 in
theorem twin40 (w : World) (F : Nat → Prop) (v : Value) (l : Bs) (hs : SlAt u8 w.heap F v l) (hl : l.length ≤ 140737488355328) :
    Calls Try.prog 40 #[v] w (Made 5 u8 w l) := by
  have hrow := hs.row
  clear hs
  go_enter Try.func40, Try.ntmps40
  go_wp2_with (at_builtin; refine wpList_app rfl (.const (.slice none 0 0)) (.tmp 3) 33 rfl 5 (.int .u8 0) 1 1 Try.underlying33 Try.info5 rfl (by decide) (fun b => w.heap.size ≤ b) _ 0 [] rfl OwnRow.nil _ l.length (l.map u8) rfl hrow (u8_one l) ?h63 ?hby ?_)
  case h63 => unfold maxLen; omega
  case hby => omega
  intro v' w' hown hfr _
  go_wp2
  go_ret
  refine ⟨_, rfl, ?_, ?_⟩
  · exact (hown.mono (fun x _ h => by simpa [Value.ownBlock] using h)).slT
  · exact hfr.mono fun x hx h => by simp [Value.ownBlock] at h

end Go.Proofs.Ytpdflncgemcniaa
