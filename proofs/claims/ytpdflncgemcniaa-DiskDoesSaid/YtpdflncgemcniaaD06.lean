/- PROVED HERE: the contracts of looking at the program's disk: Ops, Dead, Size, Read. PROVED HERE: the contracts of names and of what a name may be. PROVED HERE: the contracts of sized data and of a write done to data. No conditions beyond the premises that each theorem names. -/
import Derived.Test.YtpdflncgemcniaaD05
import Derived.Test.YtpdflncgemcniaaD03
namespace Go.Proofs.Ytpdflncgemcniaa
open Go.RowKit

section
variable {w : World} {d : Nat} {S : Dk} {r : DRep} {F : Nat → Prop}

theorem find_map (ps : List FP) (s : Bs) : findF s (ps.map Prod.fst) = (ps.find? fun p => p.1.name == s).map Prod.fst := by
  simp only [findF, List.find?_map]
  rfl

set_option maxHeartbeats 1000000 in
set_option maxRecDepth 100000 in
theorem look_dead (h : IsDisk w.heap d S r F) (hd : S.died = true) (s : Value) :
    Calls Try.prog 36 #[.pointer (some ⟨d, 0, none⟩), s] w fun e w' => e = .returned (.tuple #[.pointer none, .int .i64 10]) ∧ w = w' := by
  have hi := Lib.hid h
  obtain ⟨r1, r2⟩ := h.blk.rules
  clear h
  have hD : w.cell? ⟨d, 7, none⟩ = some (.bool true) := by rw [r1, hd]; rfl
  clear r1 r2 hd
  go_enter Try.func36, Try.ntmps36
  go_wp2_with (go_at_call 35; refine (hi.out.is).mono ?_; rintro e w' ⟨rfl, rfl⟩)
  go_ret2
  exact ⟨rfl, rfl⟩

set_option maxHeartbeats 1000000 in
set_option maxRecDepth 100000 in
theorem look_live (h : IsDisk w.heap d S r F) (hd : S.died = false) (s : ByteArray) (hs : s.size ≤ maxLen) :
    Calls Try.prog 36 #[.pointer (some ⟨d, 0, none⟩), .string s] w fun e w' => e = .returned (match r.ps.find? (fun p => p.1.name == s.data.toList) with
      | some p => .tuple #[.pointer (some ⟨p.2.blk, 0, none⟩), .int .i64 0]
      | none => .tuple #[.pointer none, .int .i64 13]) ∧ w = w' := by
  have hi := Lib.hid h
  obtain ⟨r1, r2⟩ := h.blk.rules
  have hlk := look_run h.map s hs
  clear h
  have hD : w.cell? ⟨d, 7, none⟩ = some (.bool false) := by rw [r1, hd]; rfl
  have hM : w.cell? ⟨d, 8, none⟩ = some (.map (some r.mb)) := by rw [r1]; rfl
  clear r1 r2 hd
  unfold ptrOf at hlk
  cases hf : r.ps.find? (fun p => p.1.name == s.data.toList) with
  | none =>
    rw [hf] at hlk
    clear hf
    simp only [] at hlk
    go_enter Try.func36, Try.ntmps36
    go_wp2_with (go_at_call 35; refine (hi.out.is).mono ?_; rintro e w' ⟨rfl, rfl⟩)
    go_ret2
    exact ⟨rfl, rfl⟩
  | some p =>
    rw [hf] at hlk
    clear hf
    simp only [] at hlk
    go_enter Try.func36, Try.ntmps36
    go_wp2_with (go_at_call 35; refine (hi.out.is).mono ?_; rintro e w' ⟨rfl, rfl⟩)
    go_ret2
    exact ⟨rfl, rfl⟩

theorem IsDisk.file (h : IsDisk w.heap d S r F) {s : Bs} {p : FP} (hf : r.ps.find? (fun p => p.1.name == s) = some p) : IsFile w.heap F p.1 p.2 ∧ p.1 ∈ S.files ∧ p.1.name = s ∧ findF s S.files = some p.1 := by
  have hm := List.mem_of_find?_eq_some hf
  refine ⟨h.files p hm, ?_, by simpa using List.find?_some hf, ?_⟩
  · rw [← h.fits]; exact List.mem_map_of_mem hm
  · rw [← h.fits, find_map, hf]; rfl

theorem IsDisk.noFile (h : IsDisk w.heap d S r F) {s : Bs} (hf : r.ps.find? (fun p => p.1.name == s) = none) : findF s S.files = none := by
  rw [← h.fits, find_map, hf]; rfl

set_option maxHeartbeats 1000000 in
set_option maxRecDepth 100000 in
theorem ops11 (h : IsDisk w.heap d S r F) : Calls Try.prog 11 #[.pointer (some ⟨d, 0, none⟩)] w fun e w' => e = .returned (.int .i64 S.n) ∧ w = w' := by
  have hi := Lib.hid h
  obtain ⟨r1, r2⟩ := h.blk.rules
  clear h
  have hN : w.cell? ⟨d, 6, none⟩ = some (.int .i64 S.n) := by rw [r1]; rfl
  clear r1 r2
  go_enter Try.func11, Try.ntmps11
  go_wp2_with (go_at_call 35; refine (hi.out.is).mono ?_; rintro e w' ⟨rfl, rfl⟩)
  go_ret
  exact ⟨rfl, rfl⟩

set_option maxHeartbeats 1000000 in
set_option maxRecDepth 100000 in
theorem dead18 (h : IsDisk w.heap d S r F) : Calls Try.prog 18 #[.pointer (some ⟨d, 0, none⟩)] w fun e w' => e = .returned (.bool S.died) ∧ w = w' := by
  have hi := Lib.hid h
  obtain ⟨r1, r2⟩ := h.blk.rules
  clear h
  have hN : w.cell? ⟨d, 7, none⟩ = some (.bool S.died) := by rw [r1]; rfl
  clear r1 r2
  go_enter Try.func18, Try.ntmps18
  go_wp2_with (go_at_call 35; refine (hi.out.is).mono ?_; rintro e w' ⟨rfl, rfl⟩)
  go_ret
  exact ⟨rfl, rfl⟩

/-- Size: bytes, the error's number. -/
def sizeF (S : Dk) (s : Bs) : Int × Int := if S.died then (0, 10) else match findF s S.files with
  | none => (0, 13)
  | some f => ((dataOf f).length, 0)

set_option maxHeartbeats 1000000 in
set_option maxRecDepth 100000 in
theorem size44 (h : IsDisk w.heap d S r F) (s : ByteArray) (hs : s.size ≤ maxLen) :
    Calls Try.prog 44 #[.pointer (some ⟨d, 0, none⟩), .string s] w fun e w' => e = .returned (.tuple #[.int .i64 (sizeF S s.data.toList).1, .int .i64 (sizeF S s.data.toList).2]) ∧ w = w' := by
  have hi := Lib.hid h
  cases hd : S.died with
  | true =>
    rw [show sizeF S s.data.toList = (0, 10) by simp [sizeF, hd]]
    have hl := look_dead h hd (.string s)
    clear h
    go_enter Try.func44, Try.ntmps44
    go_wp2_with (go_at_call 36; refine hl.mono ?_; rintro e w' ⟨rfl, rfl⟩)
    go_ret2
    exact ⟨rfl, rfl⟩
  | false =>
    have hl := look_live h hd s hs
    cases hf : r.ps.find? (fun p => p.1.name == s.data.toList) with
    | none =>
      rw [hf] at hl
      rw [show sizeF S s.data.toList = (0, 13) by simp [sizeF, hd, h.noFile hf]]
      clear h hf hd
      go_enter Try.func44, Try.ntmps44
      go_wp2_with (go_at_call 36; refine hl.mono ?_; rintro e w' ⟨rfl, rfl⟩)
      go_ret2
      exact ⟨rfl, rfl⟩
    | some p =>
      rw [hf] at hl
      obtain ⟨hF, _, _, hfind⟩ := h.file hf
      rw [show sizeF S s.data.toList = (((dataOf p.1).length : Int), 0) by simp [sizeF, hd, hfind]]
      obtain ⟨r1, _⟩ := hF.blk.rules
      obtain ⟨a, c, e, _, _⟩ := hF.now.shape
      have hN : w.cell? ⟨p.2.blk, 2, none⟩ = some (.slice a (dataOf p.1).length c) := by rw [r1, e]; rfl
      clear h hf hd r1 hF e hfind
      go_enter Try.func44, Try.ntmps44
      go_wp2_with (go_at_call 36; refine hl.mono ?_; rintro e w' ⟨rfl, rfl⟩)
      go_ret2
      exact ⟨rfl, rfl⟩

/-- What a reading comes to. -/
def ReadPost (w : World) (b : Bs) (err : Int) (e : Ending) (w' : World) : Prop :=
  ∃ v, e = .returned (.tuple #[v, .int .i64 err]) ∧ SlT 5 u8 w'.heap (fun x => w.heap.size ≤ x) v b ∧ Old w w'

set_option maxHeartbeats 2000000 in
set_option maxRecDepth 100000 in
theorem read12 (h : IsDisk w.heap d S r F) {K : Nat} (wf : Wf S K) (s : ByteArray) (hs : s.size ≤ maxLen) (pos n : Int) (hp : -9223372036854775808 ≤ pos ∧ pos < 9223372036854775808) (hn : -9223372036854775808 ≤ n ∧ n < 9223372036854775808) :
    Calls Try.prog 12 #[.pointer (some ⟨d, 0, none⟩), .string s, .int .i64 pos, .int .i64 n] w (ReadPost w (readF S s.data.toList pos n).1 (readF S s.data.toList pos n).2) := by
  have hi := Lib.hid h
  cases hd : S.died with
  | true =>
    rw [show readF S s.data.toList pos n = ([], 10) by simp [readF, hd]]
    have hl := look_dead h hd (.string s)
    clear h
    go_enter Try.func12, Try.ntmps12
    go_wp2_with (go_at_call 36; refine hl.mono ?_; rintro e w' ⟨rfl, rfl⟩)
    go_ret2
    exact ⟨_, rfl, SlT.nil, Fr.refl _ _⟩
  | false =>
    have hl := look_live h hd s hs
    cases hf : r.ps.find? (fun p => p.1.name == s.data.toList) with
    | none =>
      rw [hf] at hl
      rw [show readF S s.data.toList pos n = ([], 13) by simp [readF, hd, h.noFile hf]]
      clear h hf hd
      go_enter Try.func12, Try.ntmps12
      go_wp2_with (go_at_call 36; refine hl.mono ?_; rintro e w' ⟨rfl, rfl⟩)
      go_ret2
      exact ⟨_, rfl, SlT.nil, Fr.refl _ _⟩
    | some p =>
      rw [hf] at hl
      obtain ⟨hF, hmem, _, hfind⟩ := h.file hf
      have hlen := (wf.each _ hmem).data
      obtain ⟨r1, _⟩ := hF.blk.rules
      obtain ⟨a, c, e, hlc, _⟩ := hF.now.shape
      have hN : w.cell? ⟨p.2.blk, 2, none⟩ = some (.slice a (dataOf p.1).length c) := by rw [r1, e]; rfl
      have hnow := hF.now
      rw [e] at hnow
      have HN := Lib.hid hnow
      clear h hf r1 hF e hnow
      by_cases hbad : pos < 0 ∨ n < 0 ∨ ((dataOf p.1).length : Int) < pos ∨ ((dataOf p.1).length : Int) - pos < n
      · rw [show readF S s.data.toList pos n = ([], 1) by simp only [readF, hd, hfind, if_pos hbad]; simp]
        clear hd hfind
        by_cases c1 : pos < 0
        · go_enter Try.func12, Try.ntmps12
          go_wp2_with (go_at_call 36; refine hl.mono ?_; rintro e w' ⟨rfl, rfl⟩)
          go_ret2
          exact ⟨_, rfl, SlT.nil, Fr.refl _ _⟩
        · by_cases c2 : n < 0
          · go_enter Try.func12, Try.ntmps12
            go_wp2_with (go_at_call 36; refine hl.mono ?_; rintro e w' ⟨rfl, rfl⟩)
            go_ret2
            exact ⟨_, rfl, SlT.nil, Fr.refl _ _⟩
          · by_cases c3 : ((dataOf p.1).length : Int) < pos
            · go_enter Try.func12, Try.ntmps12
              go_wp2_with (go_at_call 36; refine hl.mono ?_; rintro e w' ⟨rfl, rfl⟩)
              go_ret2
              exact ⟨_, rfl, SlT.nil, Fr.refl _ _⟩
            · have c4 : ((dataOf p.1).length : Int) - pos < n := by omega
              clear hbad
              go_enter Try.func12, Try.ntmps12
              go_wp2_with (go_at_call 36; refine hl.mono ?_; rintro e w' ⟨rfl, rfl⟩)
              go_ret2
              exact ⟨_, rfl, SlT.nil, Fr.refl _ _⟩
      · rw [show readF S s.data.toList pos n = (((dataOf p.1).drop pos.toNat).take n.toNat, 0) by simp only [readF, hd, hfind, if_neg hbad]; simp]
        clear hd hfind
        obtain ⟨pn, rfl⟩ := Int.eq_ofNat_of_zero_le (show 0 ≤ pos by omega)
        obtain ⟨nn, rfl⟩ := Int.eq_ofNat_of_zero_le (show 0 ≤ n by omega)
        have b1 : pn + nn ≤ (dataOf p.1).length := by omega
        have b2 : ¬ (((dataOf p.1).length : Int) < pn) := by omega
        have b3 : ¬ (((dataOf p.1).length : Int) - pn < nn) := by omega
        clear hbad hp hn
        have hpart := HN.out.part (lo := pn) (hi := pn + nn) (by omega) b1
        simp only [Nat.mul_one, Nat.add_sub_cancel_left] at hpart
        simp only [Int.toNat_natCast]
        by_cases hcp : c = pn
        · rw [if_pos hcp, hcp, Nat.sub_self] at hpart
          have HP := Lib.hid hpart
          clear hpart
          go_enter Try.func12, Try.ntmps12
          go_wp2_with (go_at_call 36; refine hl.mono ?_; rintro e w' ⟨rfl, rfl⟩)
          refine (clone37 _ F _ _ HP.out.at (by simp only [List.length_take, List.length_drop]; omega)).mono ?_
          rintro e w1 ⟨v, rfl, q1, q2⟩
          have Q1 := Lib.hid q1
          have Q2 := Lib.hid q2
          clear q1 q2
          go_wp2
          go_ret2
          exact ⟨_, rfl, Q1.out, Q2.out⟩
        · rw [if_neg hcp] at hpart
          have HP := Lib.hid hpart
          clear hpart
          go_enter Try.func12, Try.ntmps12
          go_wp2_with (go_at_call 36; refine hl.mono ?_; rintro e w' ⟨rfl, rfl⟩)
          refine (clone37 _ F _ _ HP.out.at (by simp only [List.length_take, List.length_drop]; omega)).mono ?_
          rintro e w1 ⟨v, rfl, q1, q2⟩
          have Q1 := Lib.hid q1
          have Q2 := Lib.hid q2
          clear q1 q2
          go_wp2
          go_ret2
          exact ⟨_, rfl, Q1.out, Q2.out⟩
end

end Go.Proofs.Ytpdflncgemcniaa
namespace Go.Proofs.Ytpdflncgemcniaa
open Go.RowKit

theorem sorted_names {ss ns : List Bs} (hp : ss.Perm ns) (hs : ns.Pairwise fun a b => a < b) : ss.mergeSort (fun x y => decide (x ≤ y)) = ns := by
  have e : ss.mergeSort leB = ns.mergeSort leB := mergeSort_of_perm hp
  show ss.mergeSort leB = ns
  rw [e]
  refine List.mergeSort_of_pairwise (hs.imp fun {a b} h => ?_)
  simp only [leB, decide_eq_true_eq]
  exact List.le_of_lt h

theorem strKeys_datum (ps : List FP) : strKeys (datum ps) = ps.map fun p => p.1.name := by
  simp [strKeys, datum, strOf]

/-- The names of a disk's files, in order. -/
def namesOf (S : Dk) : List Bs := S.files.map Fl.name

def Names (w : World) (l : List Bs) (e : Ending) (w' : World) : Prop := ∃ v, e = .returned v ∧ SlT 9 encStr w'.heap (fun b => w.heap.size ≤ b) v l ∧ Old w w'

section
variable {w : World} {d : Nat} {S : Dk} {r : DRep} {F : Nat → Prop}

set_option maxHeartbeats 1000000 in
set_option maxRecDepth 100000 in
theorem names68 (h : IsDisk w.heap d S r F) {K : Nat} (wf : Wf S K) (hK : K ≤ 1000000) : Calls Try.prog 68 #[.pointer (some ⟨d, 0, none⟩)] w (Names w (namesOf S)) := by
  have hkeys : (r.ps.map fun p => p.1.name) = namesOf S := by
    unfold namesOf
    rw [← h.fits, List.map_map]
    rfl
  have hsz : Maps.size (datum r.ps) = S.files.length := by
    rw [← h.fits]; simp [Maps.size, datum]
  have hown := h.map.to
  have hfew := wf.few
  have hsort : (namesOf S).Pairwise fun a b => a < b := by
    unfold namesOf
    exact List.pairwise_map.2 wf.sorted
  obtain ⟨r1, _⟩ := h.blk.rules
  have hM : w.cell? ⟨d, 8, none⟩ = some (.map (some r.mb)) := by rw [r1]; rfl
  have k1 := callsIn_wide.1 (Try.maps_Keys_72 (some r.mb) w)
  have k2 := callsIn_wide.1 (Try.slices_Sorted_keys_71_72 r.mb _ (datum r.ps) ptrR w hown (by rw [hsz]; unfold maxLen; omega) (by rw [hsz]; omega))
  clear r1 h hown
  go_enter Try.func68, Try.ntmps68
  go_wp2_with (first | (go_at_call 72; refine k1.mono ?_; rintro e w' ⟨rfl, rfl⟩) | (go_at_call 71; refine k2.mono ?_; rintro e w' ⟨v, ss, rfl, hS, hrow, hnil, hb⟩))
  go_ret
  rw [strKeys_datum, hkeys] at hS
  rw [sorted_names hS hsort, hS.length_eq] at hrow
  exact ⟨v, rfl, (OwnRow.of_owns hrow (F := fun b => w.heap.size ≤ b) fun g _ h => by simp at h; omega).slT, ((Fr.refl _ w).alloc _).below hb⟩
end

theorem okName_false_at {s : Bs} {k : Nat} (h : k < s.length) (hb : s[k].toNat < 33 ∨ 126 < s[k].toNat ∨ s[k].toNat = 47) : okName s = false := by
  unfold okName
  have : (s.all fun c => decide (33 ≤ c.toNat) && decide (c.toNat ≤ 126) && !(c.toNat == 47)) = false := by
    rw [List.all_eq_false]
    refine ⟨s[k], List.getElem_mem h, ?_⟩
    simp
    omega
  rw [this, Bool.and_false]

def okTo (s : Bs) (k : Nat) : Prop := ∀ j (h : j < s.length), j < k → 33 ≤ s[j].toNat ∧ s[j].toNat ≤ 126 ∧ s[j].toNat ≠ 47

theorem okName_end {s : Bs} (h : okTo s s.length) : okName s = (decide (1 ≤ s.length) && decide (s.length ≤ 32)) := by
  unfold okName
  have : (s.all fun c => decide (33 ≤ c.toNat) && decide (c.toNat ≤ 126) && !(c.toNat == 47)) = true := by
    rw [List.all_eq_true]
    intro c hc
    obtain ⟨j, hj, rfl⟩ := List.getElem_of_mem hc
    have := h j hj hj
    simp
    omega
  rw [this, Bool.and_true]

theorem okTo_step {s : Bs} {k : Nat} (h0 : okTo s k) (h : k < s.length) (h1 : 33 ≤ s[k].toNat) (h2 : s[k].toNat ≤ 126) (h3 : s[k].toNat ≠ 47) : okTo s (k + 1) := fun j hj hk => by
  by_cases e : j = k
  · subst e; exact ⟨h1, h2, h3⟩
  · exact h0 j hj (by omega)

set_option maxHeartbeats 2000000 in
set_option maxRecDepth 100000 in
theorem named47 (w : World) (s : ByteArray) (hs : s.size ≤ maxLen) :
    Calls Try.prog 47 #[.string s] w fun e w' => e = .returned (.bool (okName s.data.toList)) ∧ w = w' := by
  unfold maxLen at hs
  have hsz : s.data.toList.length = s.size := by simp
  go_enter Try.func47, Try.ntmps47
  go_wp2
  go_loop [6, 3] (fun i _ => ∃ k : Nat, k ≤ s.size ∧ i = .int .i64 k ∧ okTo s.data.toList k) (fun i _ => s.size - (intOf i).toNat)
  case atStart => exact ⟨0, Nat.zero_le _, rfl, fun j _ h => absurd h (by omega)⟩
  case round =>
    obtain ⟨k, hk, rfl, hok⟩ := hrel
    have R := Lib.hid hok
    clear hok
    by_cases hlt : k < s.size
    · have hl' : k < s.data.toList.length := by omega
      have he : s.data.toList[k] = s[k] := by simp [ByteArray.getElem_eq_getElem_data]
      have A := Lib.hid (okName_false_at hl')
      have B := Lib.hid (okTo_step R.out hl')
      rw [he] at A B
      clear he
      by_cases c1 : (s[k].toNat : Int) < 33
      · have F := Lib.hid (A.out (.inl (by omega)))
        go_wp2
        go_ret
        exact ⟨ret_b F.out.symm, rfl⟩
      · by_cases c2 : (126 : Int) < s[k].toNat
        · have F := Lib.hid (A.out (.inr (.inl (by omega))))
          go_wp2
          go_ret
          exact ⟨ret_b F.out.symm, rfl⟩
        · by_cases c3 : (s[k].toNat : Int) = 47
          · have F := Lib.hid (A.out (.inr (.inr (by omega))))
            have c4 : ((s[k].toNat : Int) == 47) = true := by simpa using c3
            clear c3
            go_wp2
            go_ret
            exact ⟨ret_b F.out.symm, rfl⟩
          · have F := Lib.hid (B.out (by omega) (by omega) (by omega))
            have c4 : ((s[k].toNat : Int) == 47) = false := by simpa using c3
            clear c3
            go_wp2
            go_round
            case rel => exact ⟨k + 1, by omega, by go_num, F.out⟩
            case measure => simp [intOf]; omega
    · have he : s.data.toList.length = k := by omega
      have F := Lib.hid (okName_end (he ▸ R.out : okTo s.data.toList s.data.toList.length))
      rw [hsz] at F
      clear he hsz
      by_cases c1 : (s.size : Int) < 1
      · go_wp2
        go_ret
        refine ⟨ret_b ?_, rfl⟩
        rw [F.out, decide_eq_false (show ¬ 1 ≤ s.size by omega)]
        rfl
      · go_wp2
        go_ret
        refine ⟨ret_b ?_, rfl⟩
        rw [F.out, decide_eq_true (show 1 ≤ s.size by omega), Bool.true_and]
        exact decide_eq_decide.2 (by omega)

set_option maxHeartbeats 2000000 in
set_option maxRecDepth 100000 in
theorem may56 (w : World) (s : ByteArray) (hs : s.size ≤ maxLen) :
    Calls Try.prog 56 #[.string s] w fun e w' => e = .returned (.bool (okName s.data.toList)) ∧ w = w' := by
  unfold maxLen at hs
  have hsz : s.data.toList.length = s.size := by simp
  by_cases d1 : (s.size : Int) < 1
  · have F := Lib.hid (show okName s.data.toList = false by simp only [okName, hsz, decide_eq_false (show ¬ 1 ≤ s.size by omega), Bool.false_and])
    clear hsz
    go_enter Try.func56, Try.ntmps56
    go_wp2
    go_ret
    exact ⟨ret_b F.out.symm, rfl⟩
  · by_cases d2 : (32 : Int) < s.size
    · have F := Lib.hid (show okName s.data.toList = false by simp only [okName, hsz, decide_eq_false (show ¬ s.size ≤ 32 by omega), Bool.and_false, Bool.false_and])
      clear hsz
      go_enter Try.func56, Try.ntmps56
      go_wp2
      go_ret
      exact ⟨ret_b F.out.symm, rfl⟩
    · go_enter Try.func56, Try.ntmps56
      go_wp2
      go_loop [3] (fun i => ∃ k : Nat, k ≤ s.size ∧ i = .int .i64 k ∧ okTo s.data.toList k) (fun i => s.size - (intOf i).toNat)
      case atStart => exact ⟨0, Nat.zero_le _, rfl, fun j _ h => absurd h (by omega)⟩
      case round =>
        obtain ⟨k, hk, rfl, hok⟩ := hrel
        have R := Lib.hid hok
        clear hok
        by_cases hlt : k < s.size
        · have hl' : k < s.data.toList.length := by omega
          have he : s.data.toList[k] = s[k] := by simp [ByteArray.getElem_eq_getElem_data]
          have A := Lib.hid (okName_false_at hl')
          have B := Lib.hid (okTo_step R.out hl')
          rw [he] at A B
          clear he
          by_cases c1 : (s[k].toNat : Int) < 33
          · have F := Lib.hid (A.out (.inl (by omega)))
            go_wp2
            go_ret
            exact ⟨ret_b F.out.symm, rfl⟩
          · by_cases c2 : (126 : Int) < s[k].toNat
            · have F := Lib.hid (A.out (.inr (.inl (by omega))))
              go_wp2
              go_ret
              exact ⟨ret_b F.out.symm, rfl⟩
            · by_cases c3 : (s[k].toNat : Int) = 47
              · have F := Lib.hid (A.out (.inr (.inr (by omega))))
                have c4 : ((s[k].toNat : Int) == 47) = true := by simpa using c3
                clear c3
                go_wp2
                go_ret
                exact ⟨ret_b F.out.symm, rfl⟩
              · have F := Lib.hid (B.out (by omega) (by omega) (by omega))
                have c4 : ((s[k].toNat : Int) == 47) = false := by simpa using c3
                clear c3
                go_wp2
                go_round
                case rel => exact ⟨k + 1, by omega, by go_num, F.out⟩
                case measure => simp [intOf]; omega
        · have he : s.data.toList.length = k := by omega
          have F := Lib.hid (okName_end (he ▸ R.out : okTo s.data.toList s.data.toList.length))
          rw [hsz] at F
          clear he hsz
          go_wp2
          go_ret
          refine ⟨ret_b ?_, rfl⟩
          rw [F.out, decide_eq_true (show 1 ≤ s.size by omega), decide_eq_true (show s.size ≤ 32 by omega)]
          rfl

end Go.Proofs.Ytpdflncgemcniaa
namespace Go.Proofs.Ytpdflncgemcniaa
open Go.RowKit

theorem Blk.slT {h : Array Obj} {F : Nat → Prop} {g : Nat} {l : Bs} {T : TypeId} (s : Blk h g (l.map u8).toArray T) (hF : F g) : SlT T u8 h F (.slice (some ⟨g, 0, none⟩) l.length l.length) l := by
  refine .inr ⟨g, 0, l.length, rfl, Nat.le_refl _, ⟨hF, s.tag⟩, fun i x hi => ?_⟩
  unfold Blk at s
  simp [cel, s, hi]

/-- New data in a block of their own. -/
def Fresh (w : World) (b : Bs) (e : Ending) (w' : World) : Prop := ∃ g, e = .returned (.slice (some ⟨g, 0, none⟩) b.length b.length) ∧ w.heap.size ≤ g ∧ Blk w'.heap g (b.map u8).toArray 5 ∧ Old w w'

theorem made_replicate (n : Nat) : (madeCells #[.int .u8 0] n).toList = List.replicate n (.int .u8 0) := by
  apply List.ext_getElem
  · simp [madeCells]
  · intro i h1 h2
    simp [madeCells, Nat.mod_one]

theorem splice_zero (d : Bs) (n : Nat) : splice (List.replicate n (Value.int .u8 0)) 0 ((d.map u8).take n) = (sized d n).map u8 := by
  simp only [splice, sized, List.take_zero, List.nil_append, List.map_append, List.map_replicate, List.drop_replicate, List.map_take, List.length_map, List.length_take, Nat.zero_add]
  congr 2
  omega

set_option maxHeartbeats 1000000 in
set_option maxRecDepth 100000 in
theorem sized115 (w : World) (F : Nat → Prop) (v : Value) (l : Bs) (n : Nat) (hs : SlAt u8 w.heap F v l) (hn : n ≤ 268435456) :
    Calls Try.prog 115 #[v, .int .i64 n] w (Fresh w (sized l n)) := by
  obtain ⟨i0, hi, hz0, hz1, hz2⟩ := info_parts Try.info5
  obtain ⟨a, c, e, hc, _⟩ := hs.shape
  have hrow := hs.row
  subst e
  have HR := Lib.hid hrow
  clear hs hrow
  have hinfo : (Try.prog.info? 5).map (·.size) = some 1 := by rw [hi]; simp [hz1]
  go_enter Try.func115, Try.ntmps115
  go_wp2_with (at_make; refine wpList_make_full _ rfl (.tmp 6) (.tmp 6) 33 rfl 0 5 i0 (.int .u8 0) 1 Try.underlying33 hi hz0 hz1 .i64 .i64 n n n rfl rfl rfl rfl (by rw [hz2]; omega) (by unfold maxLen; omega) (Nat.zero_le _) ?_)
  intro w1 hown hgr
  obtain ⟨_, ⟨h, _⟩ | ⟨g, cap, cur, hv, _, hg, _, _, hcs, htake⟩⟩ := hown
  · cases h
  simp only [Value.slice.injEq, Option.some.injEq, Addr.mk.injEq, and_true] at hv
  obtain ⟨hgg, _, hcap⟩ := hv
  subst hcap hgg
  have hcur : cur.toList = List.replicate n (.int .u8 0) := by
    rw [← made_replicate, ← htake, Nat.mul_one, List.take_of_length_le (by rw [Array.length_toList, hcs]; omega)]
  have ho1 : Old w w1 := (Fr.refl _ w).grown hgr fun k e => by cases e
  have hg1 : w1.heap[w.heap.size]? = some (.cells (List.replicate n (Value.int .u8 0)).toArray 5 (0, 0)) := by rw [hg, ← hcur]
  have hb1 : Below w.heap.size w w1 := ho1.to_below (Nat.le_refl _) fun _ f => f.elim
  have hr1 := Lib.hid (HR.out.kept (h' := w1.heap) fun b _ hb => ho1.block b hb fun f => f)
  have hgs := hgr.size
  clear hgr hg htake hcs hcur HR ho1
  go_wp2_with (refine wpList_copy_splice rfl (.tmp 8) (.tmp 9) 33 33 rfl 5 Try.underlying33 hinfo (some ⟨w.heap.size, 0, none⟩) a n n l.length c rfl rfl w.heap.size 0 (List.replicate n (Value.int .u8 0)) 5 hg1 ((l.map u8).take n) ?hlen ?hpos ?hfit (fun u hu => u8_one l u (List.mem_of_mem_take hu)) w.heap.size w hb1 (Nat.le_refl _) ?_)
  case hlen => simp only [List.length_map, List.length_take]; exact Nat.min_comm _ _
  case hpos =>
    intro h0
    have h0' : 0 < min n l.length := by simpa using h0
    rcases hr1.out.2 with ⟨e, h1⟩ | ⟨b, o, c', e, hx⟩
    · omega
    · simp only [Value.slice.injEq] at e
      obtain ⟨rfl, _, _⟩ := e
      refine ⟨_, rfl, fun j x hj => ?_⟩
      rw [Addr.add_lit, cell_cel]
      refine hx j x ?_
      rw [List.getElem?_take] at hj
      split at hj
      · exact hj
      · cases hj
  case hfit => simp only [List.length_map, List.length_take, List.length_replicate]; omega
  intro w2 hg2 hb2
  go_wp2
  go_ret
  refine ⟨w.heap.size, ?_, Nat.le_refl _, ?_, (Fr.refl _ w).below hb2⟩
  · rw [sized_length]; rfl
  · have := hg2.out
    rw [splice_zero] at this
    exact this

theorem run_copy_splice {P : Program} (w : World) (dT sT ty elem : TypeId) (hu : P.underlying dT = some (.slice elem)) (hsz : (P.info? elem).map (·.size) = some 1)
    (dp sp : Option Addr) (dLen dCap sLen sCap : Nat) (g off : Nat) (cur : List Value) (t : TypeId) (hg : Blk w.heap g cur.toArray t) (cs : List Value) (hn : cs.length = Nat.min sLen dLen)
    (hpos : 0 < cs.length → dp = some ⟨g, off, none⟩ ∧ ∃ ad, sp = some ad ∧ ∀ j v, cs[j]? = some v → w.cell? (ad.add j) = some v)
    (hfit : off + cs.length ≤ cur.length) (h1 : ∀ v ∈ cs, v.oneCell' = true) :
    ∃ w', (Builtin.copy_ #[dT, sT] ty #[.slice dp dLen dCap, .slice sp sLen sCap]).run P w = .ok (goInt cs.length) w' ∧ Blk w'.heap g (splice cur off cs).toArray t ∧ Fr (fun x => x = g) w w' := by
  by_cases h0 : cs.length = 0
  · obtain rfl : cs = [] := List.eq_nil_of_length_eq_zero h0
    refine ⟨w, run_copy_none (P := P) w dT sT ty elem dp sp dLen dCap sLen sCap hu hsz (by simpa using hn.symm), ?_, Fr.refl _ _⟩
    simpa [splice] using hg
  · obtain ⟨rfl, ad, rfl, hsrc⟩ := hpos (by omega)
    refine ⟨_, run_copy_row (P := P) w dT sT ty elem g off dLen dCap ad sLen sCap cur.toArray t cs hu hsz hg hn hsrc (by simpa using hfit) h1, ?_, ⟨rfl, rfl, rfl, by simp [World.setRow], fun k _ hk => setRow_other w g k _ hk⟩⟩
    have := setRow_heap w g _ (cur.take off ++ (cs ++ cur.drop (off + cs.length))).toArray t _ hg
    simpa [splice, Blk] using this

theorem splice_laid (d : Bs) (pos : Nat) (b : Bs) : splice (d.map u8) pos (b.map u8) = (laid d pos b).map u8 := by
  simp [splice, laid]

set_option maxHeartbeats 2000000 in
set_option maxRecDepth 100000 in
theorem wapply113 (w : World) (F : Nat → Prop) (v vb : Value) (l b : Bs) (pos : Nat) (hs : SlAt u8 w.heap F v l) (hb : SlAt u8 w.heap F vb b) (hl : l.length ≤ 268435456) (hp : pos + b.length ≤ 268435456) (hF : ∀ x, F x → x < w.heap.size) :
    Calls Try.prog 113 #[.agg #[.int .i64 pos, vb], v] w (Fresh w (applyCh l (.write pos b))) := by
  obtain ⟨i0, hi, hz0, hz1, hz2⟩ := info_parts Try.info5
  have hinfo : (Try.prog.info? 5).map (·.size) = some 1 := by rw [hi]; simp [hz1]
  obtain ⟨a, c, e, hc, _⟩ := hs.shape
  obtain ⟨ab, cb, eb, hcb, _⟩ := hb.shape
  subst e eb
  have o0 : Old w (w.alloc (.cells #[.int .i64 pos, .slice ab b.length cb] 91)) := (Fr.refl _ _).alloc _
  have hk : ((max l.length (pos + b.length) : Nat) : Int) = max (l.length : Int) (pos + b.length) := by omega
  have hsz := sized115 _ F _ l (max l.length (pos + b.length)) (hs.fr o0 fun _ _ f => f) (by omega)
  have B0 := blk_new w #[.int .i64 pos, .slice ab b.length cb] 91
  have HB := Lib.hid hb
  rw [hk] at hsz
  clear hs hb hk hi hz0 hz1 hz2
  go_enter Try.func113, Try.ntmps113
  go_wp2_with (go_at_call 115; refine hsz.mono ?_; rintro e w1 ⟨g, rfl, hg1, hg2, ho⟩)
  rw [World.size_alloc] at hg1
  have ho1 := o0.trans' ho
  have hB1 := B0.fr ho fun f => f
  have HV := Lib.hid (HB.out.fr ho1 fun _ _ f => f)
  generalize hD : sized l (max l.length (pos + b.length)) = D at *
  have hDl : D.length = max l.length (pos + b.length) := by rw [← hD, sized_length]
  have hfin : applyCh l (.write pos b) = laid D pos b := by rw [← hD]; rfl
  have hDp : pos + b.length ≤ D.length := by omega
  have hD2 : D.length ≤ 268435456 := by omega
  have hll : (laid D pos b).length = D.length := laid_length hDp
  have HFIN := Lib.hid hfin
  have HLL := Lib.hid hll
  clear o0 hsz B0 HB ho hfin hDl hl hp hll hD
  refine wp_region_lits (by kernel_rfl) (by kernel_rfl) (fun L val W1 => Old w W1 ∧ Blk W1.heap w.heap.size #[.int .i64 pos, .slice ab b.length cb] 91 ∧
      (L 6 = false → Blk W1.heap g (D.map u8).toArray 5) ∧ (L 6 = true → Blk W1.heap g ((laid D pos b).map u8).toArray 5) ∧ SlAt u8 W1.heap F (.slice ab b.length cb) b ∧
      (L 0 = true → val 0 = .slice (some ⟨g, 0, none⟩) D.length D.length) ∧ (L 1 = true → val 1 = .pointer (some ⟨w.heap.size, 0, none⟩)) ∧ (L 2 = true → val 2 = .int .i64 pos) ∧
      (L 3 = true → val 3 = .slice (if D.length = pos then some ⟨g, 0, none⟩ else some ⟨g, pos, none⟩) (D.length - pos) (D.length - pos)) ∧
      (L 4 = true → val 4 = .pointer (some ⟨w.heap.size, 1, none⟩)) ∧ (L 5 = true → val 5 = .slice ab b.length cb)) ?h0 ?hs ?he
  case h0 => exact ⟨ho1.drew, hB1, fun _ => hg2, by simp, HV.out, by simp⟩
  case hs =>
    refine ⟨?_, ?_, ?_, ?_, ?_, ?_, ?_, trivial⟩
    all_goals
      intro L val W1 a ha hB hLi hd
      simp [putL, Act.put] at ha
      subst ha
      simp [Region.binds] at hd
      obtain ⟨hold, hb1, hg0, hg1', hv, p0, p1, p2, p3, p4, p5⟩ := hB
      obtain ⟨r1, r2⟩ := hb1.rules
    case refine_1 =>
      go_simp
      simp only [StepOk, upd, valPut, ↓reduceIte, Nat.reduceEqDiff]
      and_intros
      all_goals first | assumption | (intro h; cases h; done) | (intro _; assumption) | (simp_all; done)
    case refine_2 =>
      go_simp
      simp only [StepOk, upd, valPut, ↓reduceIte, Nat.reduceEqDiff]
      and_intros
      all_goals first | assumption | (intro h; cases h; done) | (intro _; assumption) | (simp_all; done)
    case refine_3 =>
      simp [hd] at p1
      go_simp
      simp only [StepOk, upd, valPut, ↓reduceIte, Nat.reduceEqDiff]
      and_intros
      all_goals first | assumption | (intro h; cases h; done) | (intro _; assumption) | (simp_all; done)
    case refine_4 =>
      have q0 := p0 (by simp [hd])
      have q2 := p2 (by simp [hd])
      have hle : pos ≤ D.length := by omega
      by_cases hc : D.length = pos
      · go_simp
        simp only [StepOk, upd, valPut, ↓reduceIte, Nat.reduceEqDiff]
        and_intros
        all_goals first | assumption | (intro h; cases h; done) | (intro _; assumption) | (simp_all; done)
      · go_simp
        simp only [StepOk, upd, valPut, ↓reduceIte, Nat.reduceEqDiff]
        and_intros
        all_goals first | assumption | (intro h; cases h; done) | (intro _; assumption) | (simp_all; done)
    case refine_5 =>
      go_simp
      simp only [StepOk, upd, valPut, ↓reduceIte, Nat.reduceEqDiff]
      and_intros
      all_goals first | assumption | (intro h; cases h; done) | (intro _; assumption) | (simp_all; done)
    case refine_6 =>
      simp [hd] at p4
      go_simp
      simp only [StepOk, upd, valPut, ↓reduceIte, Nat.reduceEqDiff]
      and_intros
      all_goals first | assumption | (intro h; cases h; done) | (intro _; assumption) | (simp_all; done)
    case refine_7 =>
      have q3 := p3 (by simp [hd])
      have q5 := p5 (by simp [hd])
      have hlen : (b.map u8).length = Nat.min b.length (D.length - pos) := by rw [List.length_map]; exact (Nat.min_eq_left (by omega)).symm
      obtain ⟨W2, hrun, hB2, hF2⟩ := run_copy_splice (P := Try.prog) W1 33 33 3 5 Try.underlying33 hinfo (if D.length = pos then some ⟨g, 0, none⟩ else some ⟨g, pos, none⟩) ab (D.length - pos) (D.length - pos) b.length cb g pos (D.map u8) 5 (hg0 hLi) (b.map u8) hlen (by
          intro h0
          rw [List.length_map] at h0
          rw [if_neg (show ¬ D.length = pos by omega)]
          refine ⟨rfl, ?_⟩
          rcases hv.row.2 with ⟨e, h1⟩ | ⟨b', o, c', e, hx⟩
          · omega
          · simp only [Value.slice.injEq] at e
            obtain ⟨rfl, _, _⟩ := e
            exact ⟨_, rfl, fun j x hj => by rw [Addr.add_lit, cell_cel]; exact hx j x hj⟩) (by rw [List.length_map, List.length_map]; omega) (u8_one b)
      rw [splice_laid] at hB2
      have hb1' := hb1.fr hF2 (by omega)
      have hold' := hold.trans hF2 fun x hx h => by omega
      have hv' := hv.fr hF2 fun x h1 h2 => by have := hF x h1; omega
      clear hb1 hold hv hg0 hg1' hF2 r1 r2
      go_simp
      simp only [StepOk, upd, valPut, ↓reduceIte, Nat.reduceEqDiff]
      and_intros
      all_goals first | assumption | (intro h; cases h; done) | (intro _; assumption) | (simp_all; done)
  case he =>
    intro L val W1 a ha hL hB
    simp [putL, Act.put] at ha
    subst ha
    obtain ⟨hold, hb1, hg0, hg1', hv, p0, p1, p2, p3, p4, p5⟩ := hB
    have G := Lib.hid (hg1' (hL 6 (by decide)))
    have O := Lib.hid hold
    clear hold hb1 hg0 hg1' hv p0 p1 p2 p3 p4 p5 hL ho1 hB1 hg2
    go_wp2
    go_ret
    rw [HFIN.out]
    exact ⟨g, by rw [HLL.out]; rfl, by omega, G.out, O.out⟩

end Go.Proofs.Ytpdflncgemcniaa
