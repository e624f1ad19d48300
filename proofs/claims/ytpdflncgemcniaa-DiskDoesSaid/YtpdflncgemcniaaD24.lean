/- PROVED HERE: the contracts of Each and of the function that it hands back. No conditions beyond the premises that each theorem names. -/
import Derived.RangeFuncNested
import Derived.RangeFuncBound
import Derived.RangeFuncCalls
import Derived.RangeFuncLeaves
import Derived.Shelf.Abstract
import Derived.Shelf.RegionOpen
import Derived.WalkKit
import Derived.OwnWalkIn
import Derived.TacticsInMore
import Derived.LoopNIn
import Derived.LoopIn
import Derived.Test.YtpdflncgemcniaaD23
namespace Go.Proofs.Ytpdflncgemcniaa
open Go.RowKit Go.Shelf
attribute [local go_sem] Oper.semAt_some

/-- Blocks of cells outside G lie as they lay. -/
structure KeepCells (G : Nat → Prop) (w w' : World) : Prop where
  size : w.heap.size ≤ w'.heap.size
  cells : ∀ b c T z, w.heap[b]? = some (.cells c T z) → ¬ G b → w'.heap[b]? = some (.cells c T z)

theorem KeepCells.refl (G : Nat → Prop) (w : World) : KeepCells G w w := ⟨Nat.le_refl _, fun _ _ _ _ h _ => h⟩
theorem KeepCells.trans {G : Nat → Prop} {a b c : World} (h : KeepCells G a b) (k : KeepCells G b c) : KeepCells G a c :=
  ⟨Nat.le_trans h.size k.size, fun x cs T z e hG => k.cells x cs T z (h.cells x cs T z e hG) hG⟩
theorem KeepCells.alloc {G : Nat → Prop} {a b : World} (h : KeepCells G a b) (o : Obj) : KeepCells G a (b.alloc o) :=
  h.trans ⟨by simp, fun x _ _ _ e _ => (heap_push o (Array.getElem?_eq_some_iff.1 e).1).trans e⟩
theorem KeepCells.setCell {G : Nat → Prop} {a b : World} (h : KeepCells G a b) {p : Addr} (hp : G p.block) (u : Value) : KeepCells G a (b.setCell p u) :=
  h.trans ⟨by simp, fun x _ _ _ e hG => (heap_set p u fun e' => hG (by rw [e']; exact hp)).trans e⟩
theorem KeepCells.putObj {G : Nat → Prop} {W : World} {l : Nat} {o : Obj} (o' : Obj) (h : W.heap[l]? = some o) (ho : o.isCells = false) : KeepCells G W (W.putObj l o') :=
  ⟨by simp [World.putObj], fun x _ _ _ e _ => by
    rw [World.putObj_heap_other (fun e' => by subst e'; rw [h] at e; cases e; cases ho)]; exact e⟩
theorem KeepCells.fr {G : Nat → Prop} {a b : World} (h : Fr G a b) : KeepCells G a b := ⟨h.size, fun x _ _ _ e hG => (h.block x (Array.getElem?_eq_some_iff.1 e).1 hG).trans e⟩

theorem IsFiles.cells {w w' : World} {F G : Nat → Prop} {v : Value} {l : List (Bs × Bs)} (s : IsFiles w.heap F v l) (h : KeepCells G w w') (hd : ∀ b, F b → ¬ G b) : IsFiles w'.heap F v l := by
  obtain ⟨rs, e, h1, h2⟩ := s
  refine ⟨rs, e, h1.kept fun b hb hF _ => ?_, fun r hr => (h2 r hr).kept fun b hb t => ?_⟩
  · obtain ⟨_, cur, e'⟩ := h1.owned hb
    rw [e', h.cells _ _ _ _ e' (hd b hF)]
  · obtain ⟨c, z, e'⟩ := t
    rw [e', h.cells _ _ _ _ e' (hd b hb)]

theorem Old.grown {w w' : World} (h : Old w w') : w.grownBy w' none := ⟨h.os, h.tape, h.output, h.size, fun k hk _ => h.block k hk fun f => f⟩

section
variable {w : World} {d : Nat} {S : Dk} {r : DRep} {F : Nat → Prop}

set_option maxRecDepth 100000 in
theorem each45 (d : Nat) (w : World) : Calls Try.prog 45 #[.pointer (some ⟨d, 0, none⟩)] w fun e w' => e = .returned (.func (.func 64) #[] #[.pointer (some ⟨w.heap.size, 0, none⟩)]) ∧ w' = w.alloc (.cells #[.pointer (some ⟨d, 0, none⟩)] 29) := by
  go_enter Try.func45, Try.ntmps45
  go_wp2
  go_ret
  exact ⟨rfl, rfl⟩

/-- What Each hands to yield. -/
abbrev ely (x : Bs × Nat) : Array Value := #[.string ⟨x.1.toArray⟩, .int .i64 x.2]

/-- The names and lengths that Each tells. -/
def eachOf (S : Dk) : List (Bs × Nat) := (liveOf S).map fun p => (p.1, p.2.length)

set_option maxRecDepth 100000 in
set_option maxHeartbeats 4000000 in
theorem each64 (h : IsDisk w.heap d S r F) {K : Nat} (wf : Wf S K) (hK : K ≤ 1000000) (n : Nat) (B : Nat) (hB : w.cell? ⟨B, 0, none⟩ = some (.pointer (some ⟨d, 0, none⟩))) (hBl : B < w.heap.size) (G : Nat → Prop) (hG : ∀ b, G b → b < w.heap.size) :
    SeqStopsK Fence.wide n Try.prog 64 #[.pointer (some ⟨B, 0, none⟩)] ely (KeepCells G) (fun xs => xs = eachOf S) (fun pre => pre <+: eachOf S) (eachOf S).length w := fun l J Jx W hW hJ hJx hY h0 => by
  have hd := h.kept (h' := W.heap) fun b hb => hW.block b (h.lt b hb)
  have hBW : W.cell? ⟨B, 0, none⟩ = some (.pointer (some ⟨d, 0, none⟩)) := (hW.cell (p := ⟨B, 0, none⟩) hBl).trans hB
  have hfl : Calls Try.prog 20 #[.pointer (some ⟨d, 0, none⟩)] W (ToldPost W (liveOf S)) := files20 hd wf hK
  have hsz := hW.size
  have HJ := Lib.hid hJ
  have HY := Lib.hid hY
  have H0 := Lib.hid h0
  have hlen : (eachOf S).length = (liveOf S).length := by simp [eachOf]
  have HLEN := Lib.hid hlen
  have hll : (liveOf S).length ≤ 1000000 := by
    have := wf.few
    unfold liveOf
    split
    · simp
    · rw [toldOf_length]; omega
  have HGG := Lib.hid hG
  clear h hW hJ hY h0 hd wf hlen hB hG
  refine callsIn_of_wp Try.func64 rfl trivial ?_ rfl
  simp only [Try.ntmps64, List.size_toArray, List.length_cons, List.length_nil, Nat.reduceAdd, Nat.reduceSub, Array.replicate_succ, Array.replicate_zero, List.push_toArray, List.append_toArray, List.nil_append, List.cons_append]
  gi_wp2_with (refine ⟨trivial, fun h => (by cases h), (callsIn_wide.2 hfl).mono ?_⟩; rintro e W1 ⟨v, rfl, hf, ho⟩
               obtain ⟨a, c, rfl, hc⟩ := hf.shape
               have hJ1 := HJ.out _ _ _ none H0.out ho.grown (fun r e => by cases e)
               have HO := Lib.hid ho
               have HF := Lib.hid hf
               have HJ1 := Lib.hid hJ1
               clear ho hf hJ1)
  have HN := Lib.hid (show ∀ b, W.heap.size ≤ b → ¬ G b from fun b hb hg => absurd (HGG.out b hg) (Nat.not_lt.2 (Nat.le_trans hsz hb)))
  gi_loopw [8] (fun i wr => ∃ k : Nat, k ≤ (liveOf S).length ∧ i = .int .i64 k ∧ J ((eachOf S).take k) wr ∧ IsFiles wr.heap (fun b => W.heap.size ≤ b) (.slice a (liveOf S).length c) (liveOf S)) (fun i _ => (liveOf S).length - (intOf i).toNat)
  case atStart => exact ⟨0, Nat.zero_le _, rfl, HJ1.out, HF.out⟩
  case round =>
    obtain ⟨k, hk, rfl, hJs, hfs⟩ := hrel
    by_cases hlt : k < (liveOf S).length
    · obtain ⟨p, hp⟩ : ∃ p, (liveOf S)[k]? = some p := ⟨_, List.getElem?_eq_getElem hlt⟩
      obtain ⟨g, a', c', rfl, x0, x1, _⟩ := hfs.at rfl hp
      have hek : (eachOf S)[k]? = some (p.1, p.2.length) := by unfold eachOf; rw [List.getElem?_map, hp]; rfl
      have hjb := HJ.out _ _ _ none hJs (World.grownBy_alloc wr (.cells #[.string ⟨p.1.toArray⟩, .slice a' p.2.length c'] 80) none) (fun r e => by cases e)
      have hkl : ((eachOf S).take k).length < (eachOf S).length := by rw [List.length_take, HLEN.out]; omega
      obtain ⟨fn, tmps, assign, body, hy, hR⟩ := HY.out _ (p.1, p.2.length) _ hjb hkl
      dsimp only [ely] at hy
      have htk : (eachOf S).take k ++ [(p.1, p.2.length)] = (eachOf S).take (k + 1) := by
        obtain ⟨h1, h2⟩ := List.getElem?_eq_some_iff.1 hek
        rw [List.take_succ_eq_append_getElem h1, h2]
      have HTK := Lib.hid htk
      have HFS := Lib.hid hfs
      clear hek hp hfs hjb htk
      gi_wp2
      refine ⟨fun h => (by cases h), hR.mono ?_⟩
      rintro e W3 (⟨rfl, hJ3, hk3⟩ | ⟨rfl, hJx3⟩)
      · rw [HTK.out] at hJ3
        have hf3 := (HFS.out.fr (w' := wr.alloc (.cells #[.string ⟨p.1.toArray⟩, .slice a' p.2.length c'] 80)) ((Fr.refl (fun _ => False) wr).alloc _) fun _ _ f => f).cells hk3 HN.out
        have H3 := Lib.hid (And.intro hJ3 hf3)
        clear hJ3 hk3 hf3
        gi_wp2
        exact ⟨⟨k + 1, by omega, by go_num, H3.out.1, H3.out.2⟩, by simp [intOf]; omega⟩
      · rw [HTK.out] at hJx3
        have H3 := Lib.hid hJx3
        clear hJx3
        gi_wp2
        refine bodyPost_ret (results_none rfl _ _ _) rfl ?_
        exact ⟨⟨_, rfl⟩, .inr ⟨_, List.take_prefix _ _, H3.out⟩⟩
    · have hk' : k = (liveOf S).length := by omega
      subst hk'
      rw [← HLEN.out, List.take_length] at hJs
      gi_wp2
      go_end0
      exact ⟨⟨_, rfl⟩, .inl ⟨_, rfl, hJs⟩⟩
end
end Go.Proofs.Ytpdflncgemcniaa
