/- PROVED HERE: a slice of bytes as a string; the contract of the document's Same. No conditions beyond the premises that each theorem names. -/
import Derived.Test.YtpdflncgemcniaaD22
import Derived.Laws.BytesArg
namespace Go.Proofs.Ytpdflncgemcniaa
open Go.RowKit

theorem Try.elem5 : Try.prog.underlying 5 = some (.int .u8) := by kernel_rfl

theorem str_of (l : Bs) : strOfNums (l.map fun x => (x.toNat : Int)) = ⟨l.toArray⟩ := by
  unfold strOfNums
  rw [List.map_map]
  congr 2
  conv => rhs; rw [← List.map_id l]
  exact List.map_congr_left fun x _ => by simp

/-- string(b). -/
theorem conv_str {w : World} {F : Nat → Prop} {v : Value} {l : Bs} (s : SlAt u8 w.heap F v l) : (convert 33 9 v).run Try.prog w = .ok (.string ⟨l.toArray⟩) w := by
  rcases s with ⟨rfl, rfl⟩ | ⟨b, o, c, rfl, hc, hF, hx⟩
  · rw [run_convert_bytes_nil w 33 5 Try.underlying33 Try.elem5 0 0 9 Try.underlying9]
    rfl
  · rw [run_convert_bytes_arg w 33 5 Try.underlying33 Try.elem5 b o l.length c (l.map fun x => (x.toNat : Int)) (by simp) (fun i hi => by
      have h1 := hx i l[i] (List.getElem?_eq_getElem hi)
      rw [cell_cel, h1]
      simp [u8, List.getD, List.getElem?_map, List.getElem?_eq_getElem hi]) 9 Try.underlying9, str_of]

theorem conv_strN {w : World} {F : Nat → Prop} {v : Value} {l : Bs} (s : SlAt u8 w.heap F v l) (q : Nat) : (convert 33 9 v).run Try.prog (w.drewN q) = .ok (.string ⟨l.toArray⟩) (w.drewN q) :=
  conv_str (w := w.drewN q) s

theorem lr_len (r : LR) : (lrCells r).length = 2 := rfl

/-- A row of a listing as the code reads it. -/
theorem IsFiles.at {w : World} {F : Nat → Prop} {v : Value} {l : List (Bs × Bs)} (s : IsFiles w.heap F v l) {a : Option Addr} {n c : Nat} (hv : v = .slice a n c) {k : Nat} {p : Bs × Bs} (hk : l[k]? = some p) :
    ∃ g a' c', a = some ⟨g, 0, none⟩ ∧ w.cell? ⟨g, k * 2, none⟩ = some (.string ⟨p.1.toArray⟩) ∧ w.cell? ⟨g, k * 2 + 1, none⟩ = some (.slice a' p.2.length c') ∧ SlT 5 u8 w.heap F (.slice a' p.2.length c') p.2 := by
  obtain ⟨rs, e, hrow, hsl⟩ := s
  rw [← e, List.getElem?_map, Option.map_eq_some_iff] at hk
  obtain ⟨r, hr, rfl⟩ := hk
  have hs := hsl r (List.mem_of_getElem? hr)
  obtain ⟨a', c', e', _, _⟩ := hs.shape
  rw [e'] at hs
  have h0 := flat_at (f := lrCells) lr_len hr (j := 0) (by omega)
  have h1 := flat_at (f := lrCells) lr_len hr (j := 1) (by omega)
  have x0 : (lrCells r)[0]? = some (encStr r.1) := rfl
  have x1 : (lrCells r)[1]? = some (.slice a' r.2.1.length c') := by rw [← e']; rfl
  rw [x0] at h0
  rw [x1] at h1
  rcases hrow.shape with ⟨e2, h3⟩ | ⟨g, cap, e2, _, hF, hown⟩
  · have : rs = [] := List.eq_nil_of_length_eq_zero (by rw [← e] at h3; simpa using h3)
    rw [this] at hr; simp at hr
  · rw [hv] at e2
    cases e2
    refine ⟨g, a', c', rfl, ?_, ?_, hs⟩
    · have := hrow.cell hown h0; rw [cell_cel]; exact this
    · have := hrow.cell hown h1; rw [cell_cel]; exact this

theorem IsFiles.shape {h : Array Obj} {F : Nat → Prop} {v : Value} {l : List (Bs × Bs)} (s : IsFiles h F v l) : ∃ a c, v = .slice a l.length c ∧ l.length ≤ c := by
  obtain ⟨rs, e, hrow, hsl⟩ := s
  obtain ⟨a, c, e', hc, _⟩ := hrow.slice
  exact ⟨a, c, e', hc⟩

theorem take_eq_snoc {α : Type} {l1 l2 : List α} {k : Nat} {x y : α} (h : l1.take k = l2.take k) (h1 : l1[k]? = some x) (h2 : l2[k]? = some y) (e : x = y) : l1.take (k + 1) = l2.take (k + 1) := by
  obtain ⟨p1, rfl⟩ := List.getElem?_eq_some_iff.1 h1
  obtain ⟨p2, rfl⟩ := List.getElem?_eq_some_iff.1 h2
  rw [List.take_succ_eq_append_getElem p1, List.take_succ_eq_append_getElem p2, h, e]

theorem ne_of_at {α : Type} {l1 l2 : List α} {k : Nat} {x y : α} (h1 : l1[k]? = some x) (h2 : l2[k]? = some y) (e : x ≠ y) : ¬ l1 = l2 := fun h => by
  rw [h, h2] at h1
  exact e (Option.some.inj h1.symm)

set_option maxHeartbeats 2000000 in
set_option maxRecDepth 100000 in
theorem same41 (w : World) (F G : Nat → Prop) (v1 v2 : Value) (l1 l2 : List (Bs × Bs)) (h1 : IsFiles w.heap F v1 l1) (h2 : IsFiles w.heap G v2 l2) (hl2 : l2.length ≤ 1000000) :
    Calls Try.prog 41 #[v1, v2] w (RoomBPost w (decide (l1 = l2))) := by
  obtain ⟨a1, c1, rfl, hc1⟩ := h1.shape
  obtain ⟨a2, c2, rfl, hc2⟩ := h2.shape
  by_cases hll : l1.length = l2.length
  · have hll' : (l1.length : Int) = l2.length := by omega
    have H1 := Lib.hid h1
    have H2 := Lib.hid h2
    have HLL := Lib.hid hll
    clear h1 h2 hll'
    rw [hll]
    rw [hll] at hc1
    have HC := Lib.hid hc1
    clear hll
    go_enter Try.func41, Try.ntmps41
    go_wp2
    go_loopw [13] (fun i wr => ∃ k q : Nat, i = .int .i64 k ∧ k ≤ l2.length ∧ wr = w.drewN q ∧ l1.take k = l2.take k) (fun i _ => l2.length - (intOf i).toNat)
    case atStart => exact ⟨0, 0, rfl, Nat.zero_le _, rfl, rfl⟩
    case round =>
      obtain ⟨k, q, rfl, hk, rfl, htk⟩ := hrel
      by_cases hlt : k < l2.length
      · obtain ⟨p1, hp1⟩ : ∃ p, l1[k]? = some p := ⟨_, List.getElem?_eq_getElem (by have := HLL.out; omega)⟩
        obtain ⟨p2, hp2⟩ : ∃ p, l2[k]? = some p := ⟨_, List.getElem?_eq_getElem hlt⟩
        obtain ⟨n1, b1⟩ := p1
        obtain ⟨n2, b2⟩ := p2
        obtain ⟨g1, a3, c3, rfl, x1, y1, hs1⟩ := H1.out.at (by rw [HLL.out]) hp1
        obtain ⟨g2, a4, c4, rfl, x2, y2, hs2⟩ := H2.out.at rfl hp2
        have hcv1 := conv_strN hs1.at
        have hcv2 := conv_strN hs2.at
        have HTK := Lib.hid htk
        have HP1 := Lib.hid hp1
        have HP2 := Lib.hid hp2
        clear htk hp1 hp2 hs1 hs2
        by_cases hn : n1 = n2
        · subst hn
          by_cases hb : b1 = b2
          · subst hb
            have HTN := Lib.hid (take_eq_snoc HTK.out HP1.out HP2.out rfl)
            go_wp2_with fail
            go_quiet (fail)
            go_wp2_with fail
            exact ⟨⟨k + 1, _, by go_num, by omega, rfl, HTN.out⟩, by simp [intOf]; omega⟩
          · have hd1 : (b1 == b2) = false := by simpa using hb
            have hd2 : (b1 != b2) = true := by simp [bne, hd1]
            have HE := Lib.hid (show decide (l1 = l2) = false from decide_eq_false (ne_of_at HP1.out HP2.out (by simpa using hb)))
            clear hb
            go_wp2_with fail
            go_quiet (fail)
            go_wp2_with fail
            go_ret
            rw [HE.out]
            exact ⟨rfl, ((Fr.refl _ w).drewN _).drewN _⟩
        · have hd1 : (n1 == n2) = false := by simpa using hn
          have hd2 : (n1 != n2) = true := by simp [bne, hd1]
          have HE := Lib.hid (show decide (l1 = l2) = false from decide_eq_false (ne_of_at HP1.out HP2.out (by intro e; exact hn (Prod.mk.inj e).1)))
          clear hn hcv1 hcv2
          go_wp2_with fail
          go_quiet (fail)
          go_wp2_with fail
          go_ret
          rw [HE.out]
          exact ⟨rfl, ((Fr.refl _ w).drewN _).drewN _⟩
      · have hk' : k = l2.length := by omega
        subst hk'
        rw [List.take_length, ← HLL.out, List.take_length] at htk
        have HT := Lib.hid (show decide (l1 = l2) = true from decide_eq_true htk)
        clear htk
        go_wp2
        go_ret
        rw [HT.out]
        exact ⟨rfl, (Fr.refl _ w).drewN _⟩
  · have HE := Lib.hid (show decide (l1 = l2) = false from decide_eq_false fun e => hll (by rw [e]))
    clear h1 h2
    go_enter Try.func41, Try.ntmps41
    go_wp2
    go_ret
    rw [HE.out]
    exact ⟨rfl, Fr.refl _ _⟩
end Go.Proofs.Ytpdflncgemcniaa
