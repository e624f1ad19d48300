/- PROVED HERE: the contracts of the document's room and New. PROVED HERE: the contract of the document's change. No conditions beyond the premises that each theorem names. -/
import Derived.Test.YtpdflncgemcniaaD15
import Derived.Test.YtpdflncgemcniaaD04
namespace Go.Proofs.Ytpdflncgemcniaa
open Go.RowKit

/-- Whether there is room, as the document says it. -/
def roomB (S : Dk) (more : Int) : Bool := !hasB S.plan.full S.n && (decide (S.plan.room ≤ 0) || decide (more ≤ 0) || decide ((sumData S.files : Int) + more ≤ S.plan.room))

theorem roomB_err (S : Dk) (had has : Nat) : roomB S ((has : Int) - had) = (roomErr S had has == 0) := by
  unfold roomB roomErr
  cases hasB S.plan.full S.n with
  | true => simp
  | false =>
    simp only [Bool.not_false, Bool.true_and, Bool.false_eq_true, if_false]
    by_cases h1 : S.plan.room ≤ 0 ∨ has ≤ had
    · rw [if_pos h1]
      rcases h1 with h1 | h1
      · simp [h1]
      · have : (has : Int) - had ≤ 0 := by omega
        simp [this]
    · rw [if_neg h1]
      have h2 : ¬ S.plan.room ≤ 0 := fun h => h1 (.inl h)
      have h3 : ¬ (has : Int) - had ≤ 0 := by omega
      simp only [h2, h3, decide_false, Bool.false_or]
      by_cases h4 : (has : Int) - had + sumData S.files > S.plan.room
      · rw [if_pos h4]
        have : ¬ (sumData S.files : Int) + (has - had) ≤ S.plan.room := by omega
        simp [this]
      · rw [if_neg h4]
        have : (sumData S.files : Int) + (has - had) ≤ S.plan.room := by omega
        simp [this]

theorem sumData_take {l : List Fl} {k : Nat} {f : Fl} (h : l[k]? = some f) : sumData (l.take (k + 1)) = sumData (l.take k) + (dataOf f).length := by
  obtain ⟨hk, rfl⟩ := List.getElem?_eq_some_iff.1 h
  rw [List.take_succ_eq_append_getElem hk]
  simp only [sumData, List.map_append, List.map_cons, List.map_nil, List.sum_append, List.sum_cons, List.sum_nil, Nat.add_zero]

theorem sumData_le {l : List Fl} (h : ∀ f ∈ l, (dataOf f).length ≤ 268435456) : sumData l ≤ l.length * 268435456 := by
  induction l with
  | nil => simp [sumData]
  | cons f l ih =>
    have h1 := ih fun g hg => h g (by simp [hg])
    have h2 := h f (by simp)
    simp only [sumData, List.map_cons, List.sum_cons, List.length_cons, Nat.add_mul] at *
    omega

section
variable {w : World} {m : Nat} {S : Dk} {r : MDRep} {F : Nat → Prop}

def RoomBPost (w : World) (b : Bool) (e : Ending) (w' : World) : Prop := e = .returned (.bool b) ∧ Old w w'

set_option maxHeartbeats 4000000 in
set_option maxRecDepth 100000 in
theorem mroom57 (h : IsModel w.heap m S r F) {K : Nat} (wf : Wf S K) (hK : K ≤ 1000000) (more : Int) (hm : -268435456 ≤ more ∧ more ≤ 268435456) :
    Calls Try.prog 57 #[.pointer (some ⟨m, 0, none⟩), .int .i64 more] w (RoomBPost w (roomB S more)) := by
  have hi := Lib.hid h
  have hct := has69q w _ _ S.plan.full S.n h.full.at wf.plan.full
  obtain ⟨a, c, e, _, _⟩ := h.full.shape
  obtain ⟨r1, _⟩ := h.blk.rules
  obtain ⟨av, cv, hvf, hcv⟩ := h.shapeF
  have hU : w.cell? ⟨m, 3, none⟩ = some (.slice a S.plan.full.length c) := by rw [r1, ← e]; rfl
  have hR : w.cell? ⟨m, 4, none⟩ = some (.int .i64 S.plan.room) := by rw [r1]; rfl
  have hV : w.cell? ⟨m, 5, none⟩ = some (.slice av S.files.length cv) := by rw [r1, ← hvf]; rfl
  have hN : w.cell? ⟨m, 6, none⟩ = some (.int .i64 S.n) := by rw [r1]; rfl
  rw [e] at hct
  have HVF := Lib.hid hvf
  have HWF := Lib.hid wf
  have hfew := wf.few
  have hsum : sumData S.files ≤ 268435456000000 := by have := sumData_le fun f hf => (wf.each f hf).data; omega
  clear r1 e h hvf wf
  cases hb : hasB S.plan.full S.n with
  | true =>
    have hct := hct true hb
    have hres := Lib.hid (show roomB S more = false by simp [roomB, hb])
    clear hR hb
    go_enter Try.func57, Try.ntmps57
    go_wp2_with fail
    go_quiet (refine hct _)
    go_wp2
    go_ret
    rw [hres.out]
    exact ⟨rfl, (Fr.refl _ w).drewN _⟩
  | false =>
    have hct := hct false hb
    have hres := Lib.hid (show roomB S more = (decide (S.plan.room ≤ 0) || decide (more ≤ 0) || decide ((sumData S.files : Int) + more ≤ S.plan.room)) by simp [roomB, hb])
    clear hb
    go_enter Try.func57, Try.ntmps57
    go_wp2_with fail
    go_quiet (refine hct _)
    go_wp2_with fail
    go_loopw [23, 5] (fun i s wr => ∃ k : Nat, i = .int .i64 k ∧ s = .int .i64 (sumData (S.files.take k)) ∧ k ≤ S.files.length ∧ Old w wr) (fun i _ _ => S.files.length - (intOf i).toNat)
    case atStart => exact ⟨0, rfl, rfl, Nat.zero_le _, (Fr.refl _ w).drewN _⟩
    case round =>
      obtain ⟨k, rfl, rfl, hk, ho⟩ := hrel
      by_cases hlt : k < S.files.length
      · have hmod := hi.out.fr ho fun _ _ f => f
        obtain ⟨f, q, hp, hf, hF⟩ := hmod.at_fl hlt
        obtain ⟨g, rfl, hFg, tg, _, hcells⟩ := hmod.at_file HVF.out hp
        have hfl := HWF.out.each f (List.mem_of_getElem? hf)
        obtain ⟨a1, c1, hvs, _, _⟩ := hF.safe.shape
        obtain ⟨a2, c2, hvc, _⟩ := hF.shapeC
        have x0 : wr.cell? ⟨g, k * 3, none⟩ = some (.string ⟨f.name.toArray⟩) := by rw [cell_cel]; exact hcells 0 (by omega)
        have x1 : wr.cell? ⟨g, k * 3 + 1, none⟩ = some (.slice a1 f.safe.length c1) := by rw [cell_cel, ← hvs]; exact hcells 1 (by omega)
        have x2 : wr.cell? ⟨g, k * 3 + 2, none⟩ = some (.slice a2 f.chs.length c2) := by rw [cell_cel, ← hvc]; exact hcells 2 (by omega)
        have oB : Old wr (wr.alloc (.cells #[.string ⟨f.name.toArray⟩, .slice a1 f.safe.length c1, .slice a2 f.chs.length c2] 75)) := (Fr.refl _ _).alloc _
        have hlt' := hmod.lt
        have hdat := data39 (wr.alloc (.cells #[.string ⟨f.name.toArray⟩, .slice a1 f.safe.length c1, .slice a2 f.chs.length c2] 75)) F f q ((hF.kept (fun b hb _ => oB.block b (hlt' b hb) fun f => f) fun b hb => oB.block b (hlt' b (hF.tagC hb).1) fun f => f)) hfl hK (fun x hx => Nat.lt_of_lt_of_le (hlt' x hx) oB.size)
        rw [hvs, hvc] at hdat
        have hst := sumData_take hf
        have hle : sumData (S.files.take k) ≤ 268435456000000 := by
          have := sumData_le (l := S.files.take k) fun f hf => (HWF.out.each f (List.mem_of_mem_take hf)).data
          rw [List.length_take] at this
          have h2 : min k S.files.length ≤ 1000000 := by omega
          have h3 := Nat.mul_le_mul_right 268435456 h2
          omega
        have hdl := hfl.data
        have HO := Lib.hid (ho.trans' oB)
        have HST := Lib.hid hst
        clear hcells hp hf hF hmod hfl hvs hvc oB ho hst hlt'
        go_wp2_with (go_at_call 39; refine hdat.mono ?_; rintro e w4 ⟨v4, rfl, hrow4, ho4⟩
                     obtain ⟨a4, c4, rfl, _, _⟩ := hrow4.slice
                     have H4 := Lib.hid ho4
                     clear hrow4 ho4)
        exact ⟨⟨k + 1, by go_num, by rw [HST.out]; go_num, by omega, HO.out.trans' H4.out⟩, by simp [intOf]; omega⟩
      · have hk' : k = S.files.length := by omega
        subst hk'
        rw [List.take_length]
        have hR' : wr.cell? ⟨m, 4, none⟩ = some (.int .i64 S.plan.room) := by rw [cell_cel] at hR ⊢; exact ho.cel hR fun f => f
        have HO := Lib.hid ho
        clear ho
        by_cases d1 : S.plan.room ≤ 0
        · go_wp2
          go_ret
          rw [hres.out]
          refine ⟨ret_b ?_, HO.out⟩
          rw [decide_eq_true d1]; rfl
        · by_cases d2 : more ≤ 0
          · go_wp2
            go_ret
            rw [hres.out]
            refine ⟨ret_b ?_, HO.out⟩
            rw [decide_eq_true d2, Bool.or_true]; rfl
          · by_cases d3 : (sumData S.files : Int) + more ≤ S.plan.room
            · go_wp2
              go_ret
              rw [hres.out]
              refine ⟨ret_b ?_, HO.out⟩
              rw [decide_eq_true d3, Bool.or_true]
            · go_wp2
              go_ret
              rw [hres.out]
              refine ⟨ret_b ?_, HO.out⟩
              rw [decide_eq_false (by omega : ¬ S.plan.room ≤ 0), decide_eq_false (by omega : ¬ more ≤ 0), decide_eq_false (by omega : ¬ (sumData S.files : Int) + more ≤ S.plan.room)]; rfl

/-- A new disk of the document's. -/
def MNewPost (w : World) (p : Pl) (e : Ending) (w' : World) : Prop :=
  ∃ m r F, e = .returned (.pointer (some ⟨m, 0, none⟩)) ∧ IsModel w'.heap m (newDk p) r F ∧ (∀ b, F b → w.heap.size ≤ b) ∧ Old w w'
end

set_option maxHeartbeats 2000000 in
set_option maxRecDepth 100000 in
theorem mnew8 (w : World) (p : Pl) (okp : PlOk p) (G : Nat → Prop) (k f u : Value) (hp : IsPlanR w.heap G k f u p) (hGs : ∀ b, G b → b < w.heap.size) :
    Calls Try.prog 8 #[.agg #[.int .i64 p.crash, k, f, u, .int .i64 p.room]] w (MNewPost w p) := by
  have o0 : Old w (w.alloc (.cells #[.int .i64 p.crash, k, f, u, .int .i64 p.room] 24)) := (Fr.refl _ _).alloc _
  have hp0 := hp.fr o0 fun _ _ f => f
  obtain ⟨ak, ck, rfl, _, _⟩ := hp.keep.shape
  obtain ⟨af, cf, rfl, _, _⟩ := hp.fail.shape
  obtain ⟨au, cu, rfl, _, _⟩ := hp.full.shape
  have htw := twin6R _ G p.crash p.room _ _ _ p.keep p.fail p.full hp0.keep hp0.fail hp0.full okp.keep okp.fail okp.full (fun b hb => Nat.lt_of_lt_of_le (hGs b hb) o0.size)
  have HO := Lib.hid o0
  clear hp hp0 o0
  go_enter Try.func8, Try.ntmps8
  go_wp2_with fail
  refine htw.mono ?_
  rintro e w3 ⟨k', f', u', rfl, t1, t2, t3, ho⟩
  obtain ⟨ak', ck', rfl, _, _⟩ := t1.shape
  obtain ⟨af', cf', rfl, _, _⟩ := t2.shape
  obtain ⟨au', cu', rfl, _, _⟩ := t3.shape
  have hz : w.heap.size + 1 ≤ w3.heap.size := by have := ho.size; simpa using this
  have T := Lib.hid (And.intro t1 (And.intro t2 (And.intro t3 (HO.out.trans' ho))))
  clear t1 t2 t3 ho
  go_wp2
  go_ret
  have ho3 := T.out.2.2.2
  have hb1 := blk_new w3 #[.int .i64 p.crash, .slice ak' p.keep.length ck', .slice af' p.fail.length cf', .slice au' p.full.length cu', .int .i64 p.room, .slice none 0 0, .int .i64 0, .bool false] 41
  have o4 : Old w3 (w3.alloc (.cells #[.int .i64 p.crash, .slice ak' p.keep.length ck', .slice af' p.fail.length cf', .slice au' p.full.length cu', .int .i64 p.room, .slice none 0 0, .int .i64 0, .bool false] 41)) := (Fr.refl _ _).alloc _
  have own : ∀ {v : Value} {l : List Int}, SlT 3 iv w3.heap (fun b => (w.alloc (.cells #[.int .i64 p.crash, .slice ak p.keep.length ck, .slice af p.fail.length cf, .slice au p.full.length cu, .int .i64 p.room] 24)).heap.size ≤ b) v l →
      SlT 3 iv (w3.alloc (.cells #[.int .i64 p.crash, .slice ak' p.keep.length ck', .slice af' p.fail.length cf', .slice au' p.full.length cu', .int .i64 p.room, .slice none 0 0, .int .i64 0, .bool false] 41)).heap (fun b => w.heap.size ≤ b ∧ b < w3.heap.size + 1) v l := fun h =>
    (h.monot fun b h1 t => ⟨by rw [World.size_alloc] at h1; omega, by have := t.lt; omega⟩).fr o4 fun _ _ f => f
  refine ⟨w3.heap.size, ⟨.slice ak' p.keep.length ck', .slice af' p.fail.length cf', .slice au' p.full.length cu', .slice none 0 0, []⟩, fun b => w.heap.size ≤ b ∧ b < w3.heap.size + 1, by simp, ?_, fun b h => h.1, ho3.trans' o4⟩
  exact {
    fits := rfl
    own := ⟨by omega, by omega⟩
    blk := hb1
    keep := own T.out.1
    fail := own T.out.2.1
    full := own T.out.2.2.1
    row := OwnRow.nil
    files := fun q hq => by cases hq
    apart := List.Pairwise.nil
    lt := fun b h => by simp; omega }
end Go.Proofs.Ytpdflncgemcniaa
namespace Go.Proofs.Ytpdflncgemcniaa
open Go.RowKit

/-- append as a step of a region. -/
theorem step_app {P : Program} {w : World} {o : Oper} {ρ : Operand → Value} {B : Value → World → Prop} (s x : Operand) (t : TypeId)
    (ho : o.op = .call { callee := .builtin .append, args := #[s, x], argTypes := #[t, t] })
    (e : TypeId) (z : Value) (size bytes : Nat) (ht : P.underlying t = some (.slice e)) (hi : (P.info? e).map (fun i => (i.zero, i.size, i.bytes)) = some (some z, size, bytes))
    (hzs : z.cells.size = size) (hsz : 0 < size)
    (F : Nat → Prop) (v : Value) (n : Nat) (xs : List Value) (hs : ρ s = v) (hown : OwnRow w.heap F e size v n xs)
    (u : Value) (m : Nat) (news : List Value) (hx : ρ x = u) (hrow : RowAt w.heap size u m news) (h1 : ∀ u ∈ news, u.oneCell' = true)
    (h63 : n + m ≤ maxLen) (hbytes : (n + m) * bytes ≤ 140737488355328)
    (h : ∀ v' w', OwnRow w'.heap (fun b => v.ownBlock = some b ∨ w.heap.size ≤ b) e size v' (n + m) (xs ++ news) → Fr (fun b => v.ownBlock = some b) w w' → B v' w') : StepOk P B ((execOp ρ o).run P w) := by
  obtain ⟨i, hi, hz, hsize, hby⟩ := info_parts hi
  obtain ⟨v', w', hr, h2, h3, _⟩ := run_app (P := P) t o.type e i z size bytes ht hi hz hsize hby hzs hsz F v n xs hown u m news hrow h1 h63 hbytes
  unfold execOp
  simp only [ho, resolve, invoke, builtin, Sem.run_bind, Sem.run_pure, Result.andThen_ok, List.map_toArray, List.map_cons, List.map_nil, hs, hx, hr]
  exact h v' w' h2 h3

theorem Try.info101 : (Try.prog.info? 101).map (fun i => (i.zero, i.size, i.bytes)) = some (some (.agg #[.bool false, .int .i64 0, .int .i64 0, .slice none 0 0]), 4, 48) := by kernel_rfl
theorem Try.info75 : (Try.prog.info? 75).map (fun i => (i.zero, i.size, i.bytes)) = some (some (.agg #[.string ⟨#[]⟩, .slice none 0 0, .slice none 0 0]), 3, 64) := by kernel_rfl

theorem four_of {h : Array Obj} {F : Nat → Prop} {cells : List Value} {c : Ch} (s : IsDc h F cells c) : four (c, cells) = cells := by
  cases c with
  | write pos b => obtain ⟨vb, rfl, _⟩ := s; rfl
  | cut long => obtain rfl : cells = _ := s; rfl

theorem row_many {w : World} {size : Nat} (xs : List Value) (T : Nat) (hn : xs.length = size) : RowAt (w.alloc (.cells xs.toArray T)).heap size (.slice (some ⟨w.heap.size, 0, none⟩) 1 1) 1 xs := by
  refine ⟨by omega, .inr ⟨w.heap.size, 0, 1, rfl, fun j u hj => ?_⟩⟩
  rw [Nat.zero_add, cel_new]
  simpa using hj

section
variable {w : World} {m : Nat} {S : Dk} {r : MDRep} {F : Nat → Prop}

/-- A FILE HAS TURNED: the document's disk as the plain law says it. -/
theorem IsModel.reset {w w' : World} {m : Nat} {S : Dk} {r : MDRep} {F : Nat → Prop} (s : IsModel w.heap m S r F) {K : Nat} (wf : Wf S K) {k : Nat} {f f' : Fl} {q q' : MRep} (hp : r.ps[k]? = some (f, q))
    (hn : f'.name = f.name) (hsz : w.heap.size ≤ w'.heap.size) (hk : ∀ b, F b → r.vf.ownBlock ≠ some b → q.vc.ownBlock ≠ some b → w'.heap[b]? = w.heap[b]?)
    (hrow : OwnRow w'.heap (fun b => F b ∨ w.heap.size ≤ b) 75 3 r.vf r.ps.length ((r.ps.set k (f', q')).flatMap mfCells))
    (hf : IsMF w'.heap (fun b => F b ∨ w.heap.size ≤ b) f' q') (hc : ∀ b, q'.vc.ownBlock = some b → q.vc.ownBlock = some b ∨ w.heap.size ≤ b) :
    ∃ r' F', IsModel w'.heap m { S with files := setF f' S.files } r' F' ∧ ∀ b, F' b → F b ∨ w.heap.size ≤ b := by
  obtain ⟨l1, l2, hr, hl⟩ := split_at hp
  have hfit := s.fits
  have hset : setF f' S.files = l1.map Prod.fst ++ f' :: l2.map Prod.fst := by
    rw [← hfit, hr, List.map_append, List.map_cons]
    refine setF_mid hn ?_
    have := wf.names
    rw [← hfit, hr, List.map_append, List.map_cons] at this
    exact this
  have hs : r.ps.set k (f', q') = l1 ++ (f', q') :: l2 := by rw [hr, ← hl, set_mid]
  rw [hs] at hrow
  have hd := s.redo hr hsz hk hrow hf hc
  rw [← hset] at hd
  exact ⟨_, _, hd, fun b h => h.imp id fun h => h.1⟩

set_option maxHeartbeats 8000000 in
set_option maxRecDepth 100000 in
theorem mchange59 (h : IsModel w.heap m S r F) {K : Nat} (wf : Wf S K) (hK : K ≤ 1000000) {k : Nat} {f : Fl} {q : MRep} (hp : r.ps[k]? = some (f, q)) (c : Ch) (cells : List Value) (hc : IsDc w.heap F cells c) (has : Nat) (hh : has ≤ 268435456) :
    Calls Try.prog 59 #[.pointer (some ⟨m, 0, none⟩), .int .i64 k, .agg cells.toArray, .int .i64 has] w (MOpPost w m F (change S f c has)) := by
  obtain ⟨x0, x1, x2, xa, xn, xc, hx⟩ := hc.form
  have o0 : Old w (w.alloc (.cells #[.bool x0, .int .i64 x1, .int .i64 x2, .slice xa xn xc] 101)) := (Fr.refl _ _).alloc _
  have B0 := blk_new w #[.bool x0, .int .i64 x1, .int .i64 x2, .slice xa xn xc] 101
  have h0 := h.fr o0 fun _ _ f => f
  have hlen := h.len
  have hkl : k < S.files.length := by rw [← hlen]; exact (List.getElem?_eq_some_iff.1 hp).1
  have hf : S.files[k]? = some f := by rw [← h.fits, List.getElem?_map, hp]; rfl
  have hfl := wf.each f (List.mem_of_getElem? hf)
  have hF := h0.files _ (List.mem_of_getElem? hp)
  obtain ⟨av, cv, hvf, hcv⟩ := h.shapeF
  obtain ⟨g, rfl, hFg, tg, hgo, hcells⟩ := h0.at_file hvf hp
  obtain ⟨a1, c1, hvs, _, _⟩ := hF.safe.shape
  obtain ⟨a2, c2, hvc, _⟩ := hF.shapeC
  have hdat := data39 _ F f q hF hfl hK h0.lt
  rw [hvs, hvc] at hdat
  have y0 : (w.alloc (.cells #[.bool x0, .int .i64 x1, .int .i64 x2, .slice xa xn xc] 101)).cell? ⟨g, k * 3, none⟩ = some (.string ⟨f.name.toArray⟩) := by rw [cell_cel]; exact hcells 0 (by omega)
  have y1 : (w.alloc (.cells #[.bool x0, .int .i64 x1, .int .i64 x2, .slice xa xn xc] 101)).cell? ⟨g, k * 3 + 1, none⟩ = some (.slice a1 f.safe.length c1) := by rw [cell_cel, ← hvs]; exact hcells 1 (by omega)
  have y2 : (w.alloc (.cells #[.bool x0, .int .i64 x1, .int .i64 x2, .slice xa xn xc] 101)).cell? ⟨g, k * 3 + 2, none⟩ = some (.slice a2 f.chs.length c2) := by rw [cell_cel, ← hvc]; exact hcells 2 (by omega)
  have hM0 : (w.alloc (.cells #[.bool x0, .int .i64 x1, .int .i64 x2, .slice xa xn xc] 101)).cell? ⟨m, 5, none⟩ = some (.slice (some ⟨g, 0, none⟩) S.files.length cv) := by rw [h0.blk.rules.1, ← hvf]; rfl
  have hdl := hfl.data
  have hcs : q.cs.length = f.chs.length := by rw [← hF.fits, List.length_map]
  have hchs := hfl.chs
  have H := Lib.hid h
  have HO := Lib.hid o0
  have HC := Lib.hid hc
  have HB0 := Lib.hid B0
  have HVC := Lib.hid hvc
  have HGO := Lib.hid hgo
  have HVF := Lib.hid hvf
  have HX := Lib.hid hx
  have HH0 := Lib.hid h0
  have HCELLS := Lib.hid hcells
  rw [hx]
  have hroomS : ∀ W, Old w W → Calls Try.prog 57 #[.pointer (some ⟨m, 0, none⟩), .int .i64 ((has : Int) - (dataOf f).length)] W (RoomBPost W (roomErr S (dataOf f).length has == 0)) := fun W o => by
    rw [← roomB_err]
    exact mroom57 (h.fr o fun _ _ f => f) wf hK _ (by omega)
  have HROOM := Lib.hid hroomS
  clear h h0 hF hvs hvc hcells hc o0 B0 hroomS hvf hgo hx
  go_enter Try.func59, Try.ntmps59
  go_wp2_with (first
    | (go_at_call 39; refine hdat.mono ?_; rintro e w4 ⟨v4, rfl, hrow4, ho4⟩
       obtain ⟨a4, c4, rfl, _, _⟩ := hrow4.slice
       have HO4 := Lib.hid (HO.out.trans' ho4)
       have HOB := Lib.hid ho4
       have hrm := HROOM.out w4 HO4.out
       clear hrow4 ho4)
    | fail)
  refine hrm.mono ?_
  rintro e w5 ⟨rfl, ho5⟩
  cases hy : roomErr S (dataOf f).length has == 0 with
  | false =>
    have hne : roomErr S (dataOf f).length has ≠ 0 := by simpa using hy
    have h12 : roomErr S (dataOf f).length has = 12 := by
      unfold roomErr at hne ⊢
      split
      · rfl
      · rename_i hb
        rw [if_neg hb] at hne
        split
        · rename_i h1; rw [if_pos h1] at hne; exact absurd rfl hne
        · rename_i h1
          rw [if_neg h1] at hne
          split
          · rfl
          · rename_i h2; rw [if_neg h2] at hne; exact absurd rfl hne
    have HR := Lib.hid (show change S f c has = (12, S) by unfold change; simp only [h12]; exact if_pos (by decide))
    have HO5 := Lib.hid (HO4.out.trans' ho5)
    clear ho5 hy hne h12
    go_wp2
    go_ret
    rw [HR.out]
    exact ⟨rfl, r, F, H.out.fr HO5.out fun _ _ f => f, ⟨Old.fr HO5.out, fun _ h => .inl h⟩⟩
  | true =>
    have hz0 : roomErr S (dataOf f).length has = 0 := by simpa using hy
    have HR := Lib.hid (show change S f c has = (0, { S with files := setF { f with chs := f.chs ++ [c] } S.files }) by unfold change; rw [hz0]; exact if_neg (by decide))
    have oW := HO4.out.trans' ho5
    have oB := HOB.out.trans' ho5
    have hd5 := H.out.fr oW fun _ _ f => f
    have hM5 : w5.cell? ⟨m, 5, none⟩ = some (.slice (some ⟨g, 0, none⟩) S.files.length cv) := by rw [cell_cel] at hM0 ⊢; exact oB.cel hM0 fun f => f
    have hB5 := HB0.out.fr oB fun f => f
    have hv5 : w5.cell? ⟨g, k * 3 + 2, none⟩ = some (.slice a2 f.chs.length c2) := by rw [cell_cel] at y2 ⊢; exact oB.cel y2 fun f => f
    have hF5 := hd5.files _ (List.mem_of_getElem? hp)
    have hrow5 : OwnRow w5.heap F 101 4 (.slice a2 f.chs.length c2) f.chs.length (q.cs.flatMap four) := by
      have := hF5.row
      rw [show q.vc = _ from HVC.out, show (f, q).2.cs.length = f.chs.length from hcs] at this
      exact this
    have hdc5 : IsDc w5.heap F cells c := HC.out.kept fun b _ t => oW.block b t.lt fun f => f
    have tM : Tag w5.heap m 41 := hd5.blk.tag
    have tB : Tag w5.heap w.heap.size 101 := hB5.tag
    have hown : ∀ b, (Value.slice a2 f.chs.length c2).ownBlock = some b → F b ∧ Tag w5.heap b 101 := fun b hb => by
      obtain ⟨h1, cur, h2⟩ := hrow5.owned hb
      exact ⟨h1, cur, _, h2⟩
    have tg5 : Tag w5.heap g 75 := (hd5.tagF HGO.out).2
    have hltF := H.out.lt
    have HD5 := Lib.hid hd5
    have HDC5 := Lib.hid hdc5
    have HF5 := Lib.hid hF5
    have HROW5 := Lib.hid hrow5
    have HOW := Lib.hid oW
    have HB5 := Lib.hid hB5.rules.1
    have hxl : (four (c, cells)) = [.bool x0, .int .i64 x1, .int .i64 x2, .slice xa xn xc] := by rw [four_of HC.out, HX.out]
    have HXL := Lib.hid hxl
    clear hd5 hdc5 hF5 hrow5 oW oB hB5 ho5 hy hz0 hxl
    go_wp2_with fail
    refine wp_region_lits (by kernel_rfl) (by kernel_rfl) (fun L val W1 => W1.cell? ⟨m, 5, none⟩ = some (.slice (some ⟨g, 0, none⟩) S.files.length cv) ∧ (∀ o, W1.cell? ⟨w.heap.size, o, none⟩ = [Value.bool x0, .int .i64 x1, .int .i64 x2, .slice xa xn xc][o]?) ∧
      (L 18 = false → W1.cell? ⟨g, k * 3 + 2, none⟩ = some (.slice a2 f.chs.length c2)) ∧
      (L 15 = false → Old w5 W1) ∧ (L 15 = false → L 14 = true → RowAt W1.heap 4 (val 14) 1 [.bool x0, .int .i64 x1, .int .i64 x2, .slice xa xn xc]) ∧
      (L 15 = true → L 18 = false → Fr (fun b => (Value.slice a2 f.chs.length c2).ownBlock = some b) w5 W1) ∧
      (L 15 = true → L 18 = false → OwnRow W1.heap (fun b => (Value.slice a2 f.chs.length c2).ownBlock = some b ∨ w5.heap.size ≤ b) 101 4 (val 15) (f.chs.length + 1) (q.cs.flatMap four ++ [.bool x0, .int .i64 x1, .int .i64 x2, .slice xa xn xc])) ∧
      (L 18 = true → ∃ W2, Fr (fun b => (Value.slice a2 f.chs.length c2).ownBlock = some b) w5 W2 ∧ OwnRow W2.heap (fun b => (Value.slice a2 f.chs.length c2).ownBlock = some b ∨ w5.heap.size ≤ b) 101 4 (val 15) (f.chs.length + 1) (q.cs.flatMap four ++ [.bool x0, .int .i64 x1, .int .i64 x2, .slice xa xn xc]) ∧ W1 = W2.setCell ⟨g, k * 3 + 2, none⟩ (val 15)) ∧
      (L 18 = true → L 15 = true ∧ L 12 = true) ∧ (L 15 = true → L 14 = true ∧ L 12 = true ∧ ∃ a n c, val 15 = .slice a n c) ∧
      (L 0 = true → val 0 = .pointer (some ⟨m, 0, none⟩)) ∧
      (L 1 = true → val 1 = .pointer (some ⟨m, 0, none⟩)) ∧
      (L 2 = true → val 2 = .pointer (some ⟨m, 5, none⟩)) ∧
      (L 3 = true → val 3 = .slice (some ⟨g, 0, none⟩) S.files.length cv) ∧
      (L 4 = true → val 4 = .int .i64 k) ∧
      (L 5 = true → val 5 = .pointer (some ⟨m, 0, none⟩)) ∧
      (L 6 = true → val 6 = .pointer (some ⟨m, 0, none⟩)) ∧
      (L 7 = true → val 7 = .pointer (some ⟨m, 5, none⟩)) ∧
      (L 8 = true → val 8 = .slice (some ⟨g, 0, none⟩) S.files.length cv) ∧
      (L 9 = true → val 9 = .int .i64 k) ∧
      (L 10 = true → val 10 = .pointer (some ⟨g, k * 3, none⟩)) ∧
      (L 11 = true → val 11 = .pointer (some ⟨g, k * 3 + 2, none⟩)) ∧
      (L 12 = true → val 12 = .slice a2 f.chs.length c2) ∧
      (L 13 = true → val 13 = .agg #[.bool x0, .int .i64 x1, .int .i64 x2, .slice xa xn xc]) ∧
      (L 14 = true → ∃ nb, val 14 = .slice (some ⟨nb, 0, none⟩) 1 1) ∧
      (L 16 = true → val 16 = .pointer (some ⟨g, k * 3, none⟩)) ∧
      (L 17 = true → val 17 = .pointer (some ⟨g, k * 3 + 2, none⟩))) ?h0 ?hs ?he
    case h0 => exact ⟨hM5, fun o => by have := HB5.out o; simpa using this, fun _ => hv5, fun _ => (Fr.refl _ _).drew, by simp⟩
    case hs =>
      refine ⟨?_, ?_, ?_, ?_, ?_, ?_, ?_, ?_, ?_, ?_, ?_, ?_, ?_, ?_, ?_, ?_, ?_, ?_, ?_, trivial⟩
      all_goals
        intro L val W1 a ha hB hLi hd
        simp [putL, Act.put] at ha
        subst ha
        simp [Region.binds] at hd
        obtain ⟨hM, hbx, hg2, ha0, ha1, hb0, hb1, hc0, c18, c15, p0, p1, p2, p3, p4, p5, p6, p7, p8, p9, p10, p11, p12, p13, p14, p16, p17⟩ := hB
      case refine_1 =>
        go_simp
        simp only [StepOk, upd, valPut, ↓reduceIte, Nat.reduceEqDiff]
        and_intros
        all_goals first | assumption | (intro h; cases h; done) | (intro _; assumption) | (simp_all; done)
      case refine_2 =>
        have q0 := p0 (by simp [hd])
        go_simp
        simp only [StepOk, upd, valPut, ↓reduceIte, Nat.reduceEqDiff]
        and_intros
        all_goals first | assumption | (intro h; cases h; done) | (intro _; assumption) | (simp_all; done)
      case refine_3 =>
        have q1 := p1 (by simp [hd])
        go_simp
        simp only [StepOk, upd, valPut, ↓reduceIte, Nat.reduceEqDiff]
        and_intros
        all_goals first | assumption | (intro h; cases h; done) | (intro _; assumption) | (simp_all; done)
      case refine_4 =>
        have q2 := p2 (by simp [hd])
        go_simp
        simp only [StepOk, upd, valPut, ↓reduceIte, Nat.reduceEqDiff]
        and_intros
        all_goals first | assumption | (intro h; cases h; done) | (intro _; assumption) | (simp_all; done)
      case refine_5 =>
        go_simp
        simp only [StepOk, upd, valPut, ↓reduceIte, Nat.reduceEqDiff]
        and_intros
        all_goals first | assumption | (intro h; cases h; done) | (intro _; assumption) | (simp_all; done)
      case refine_6 =>
        go_simp
        simp only [StepOk, upd, valPut, ↓reduceIte, Nat.reduceEqDiff]
        and_intros
        all_goals first | assumption | (intro h; cases h; done) | (intro _; assumption) | (simp_all; done)
      case refine_7 =>
        have q5 := p5 (by simp [hd])
        go_simp
        simp only [StepOk, upd, valPut, ↓reduceIte, Nat.reduceEqDiff]
        and_intros
        all_goals first | assumption | (intro h; cases h; done) | (intro _; assumption) | (simp_all; done)
      case refine_8 =>
        have q6 := p6 (by simp [hd])
        go_simp
        simp only [StepOk, upd, valPut, ↓reduceIte, Nat.reduceEqDiff]
        and_intros
        all_goals first | assumption | (intro h; cases h; done) | (intro _; assumption) | (simp_all; done)
      case refine_9 =>
        have q7 := p7 (by simp [hd])
        go_simp
        simp only [StepOk, upd, valPut, ↓reduceIte, Nat.reduceEqDiff]
        and_intros
        all_goals first | assumption | (intro h; cases h; done) | (intro _; assumption) | (simp_all; done)
      case refine_10 =>
        go_simp
        simp only [StepOk, upd, valPut, ↓reduceIte, Nat.reduceEqDiff]
        and_intros
        all_goals first | assumption | (intro h; cases h; done) | (intro _; assumption) | (simp_all; done)
      case refine_11 =>
        have q8 := p8 (by simp [hd])
        have q9 := p9 (by simp [hd])
        go_simp
        simp only [StepOk, upd, valPut, ↓reduceIte, Nat.reduceEqDiff]
        and_intros
        all_goals first | assumption | (intro h; cases h; done) | (intro _; assumption) | (simp_all; done)
      case refine_12 =>
        have q10 := p10 (by simp [hd])
        go_simp
        simp only [StepOk, upd, valPut, ↓reduceIte, Nat.reduceEqDiff]
        and_intros
        all_goals first | assumption | (intro h; cases h; done) | (intro _; assumption) | (simp_all; done)
      case refine_13 =>
        have q11 := p11 (by simp [hd])
        have h18 : L 18 = false := by cases hL : L 18 with | false => rfl | true => have := (c18 hL).2; rw [this] at hLi; cases hLi
        have hcv2 := hg2 h18
        go_simp
        simp only [StepOk, upd, valPut, ↓reduceIte, Nat.reduceEqDiff]
        and_intros
        all_goals first | assumption | (intro h; cases h; done) | (intro _; assumption) | (simp_all; done)
      case refine_14 =>
        have z0 : W1.cell? ⟨w.heap.size, 0, none⟩ = some (.bool x0) := hbx 0
        have z1 : W1.cell? ⟨w.heap.size, 1, none⟩ = some (.int .i64 x1) := hbx 1
        have z2 : W1.cell? ⟨w.heap.size, 2, none⟩ = some (.int .i64 x2) := hbx 2
        have z3 : W1.cell? ⟨w.heap.size, 3, none⟩ = some (.slice xa xn xc) := hbx 3
        go_simp
        simp only [StepOk, upd, valPut, ↓reduceIte, Nat.reduceEqDiff]
        and_intros
        all_goals first | assumption | (intro h; cases h; done) | (intro _; assumption) | (simp_all; done)
      case refine_15 =>
        have q13 := p13 (by simp [hd])
        have h15 : L 15 = false := by cases hL : L 15 with | false => rfl | true => have := (c15 hL).1; rw [this] at hLi; cases hLi
        have h18 : L 18 = false := by cases hL : L 18 with | false => rfl | true => have := (c18 hL).1; rw [this] at h15; cases h15
        have ho := ha0 h15
        have oN : Old W1 (W1.alloc (.cells #[.bool x0, .int .i64 x1, .int .i64 x2, .slice xa xn xc] 101)) := (Fr.refl _ _).alloc _
        have hM' : (W1.alloc (.cells #[.bool x0, .int .i64 x1, .int .i64 x2, .slice xa xn xc] 101)).cell? ⟨m, 5, none⟩ = some (.slice (some ⟨g, 0, none⟩) S.files.length cv) := by rw [cell_cel] at hM ⊢; exact oN.cel hM fun f => f
        have hg2' : (W1.alloc (.cells #[.bool x0, .int .i64 x1, .int .i64 x2, .slice xa xn xc] 101)).cell? ⟨g, k * 3 + 2, none⟩ = some (.slice a2 f.chs.length c2) := by have := hg2 h18; rw [cell_cel] at this ⊢; exact oN.cel this fun f => f
        have hbx' : ∀ o, (W1.alloc (.cells #[.bool x0, .int .i64 x1, .int .i64 x2, .slice xa xn xc] 101)).cell? ⟨w.heap.size, o, none⟩ = [Value.bool x0, .int .i64 x1, .int .i64 x2, .slice xa xn xc][o]? := fun o => by
          rw [← hbx o, cell_cel, cell_cel]
          exact cel_eq (oN.block _ (Nat.lt_of_lt_of_le tB.lt ho.size) fun f => f)
        have ho' := ho.trans' oN
        have hrw := row_many (w := W1) [.bool x0, .int .i64 x1, .int .i64 x2, .slice xa xn xc] 101 rfl
        go_simp
        simp only [StepOk, upd, valPut, ↓reduceIte, Nat.reduceEqDiff]
        exact ⟨hM', hbx', fun _ => hg2', fun _ => ho', fun _ _ => hrw, fun h => absurd h (by simp [h15]), fun h => absurd h (by simp [h15]), fun h => absurd h (by simp [h18]), fun h => absurd h (by simp [h18]), fun h => absurd h (by simp [h15]), p0, p1, p2, p3, p4, p5, p6, p7, p8, p9, p10, p11, p12, p13, fun _ => ⟨_, rfl⟩, p16, p17⟩
      case refine_16 =>
        have q12 := p12 (by simp [hd])
        have hL14 : L 14 = true := by simp [hd]
        have hL12 : L 12 = true := by simp [hd]
        obtain ⟨nb, q14⟩ := p14 hL14
        have h18 : L 18 = false := by cases hL : L 18 with | false => rfl | true => have := (c18 hL).1; rw [this] at hLi; cases hLi
        have ho := ha0 hLi
        have hra := ha1 hLi hL14
        have hrow1 := HROW5.out.kept (h' := W1.heap) fun b _ _ hl => ho.block b hl fun f => f
        refine step_app (.tmp 35) (.tmp 37) 73 rfl 101 (.agg #[.bool false, .int .i64 0, .int .i64 0, .slice none 0 0]) 4 48 Try.underlying73 Try.info101 rfl (by decide) F (.slice a2 f.chs.length c2) f.chs.length (q.cs.flatMap four) (by simp only [Act.eval, go_sem]; exact q12) hrow1 (val 14) 1 [.bool x0, .int .i64 x1, .int .i64 x2, .slice xa xn xc] rfl hra (by intro u hu; simp at hu; rcases hu with rfl | rfl | rfl | rfl <;> rfl) (by unfold maxLen; omega) (by omega) ?_
        intro v3 W3 hown3 hfr3
        obtain ⟨a3, c3, e3, _, _⟩ := hown3.slice
        have hfr' : Fr (fun b => (Value.slice a2 f.chs.length c2).ownBlock = some b) w5 W3 := (Old.fr ho).trans' hfr3
        have hne : ∀ b T, Tag W1.heap b T → T ≠ 101 → ∀ o, W3.cell? ⟨b, o, none⟩ = W1.cell? ⟨b, o, none⟩ := fun b T t hT o => by
          rw [cell_cel, cell_cel]
          refine cel_eq (hfr3.block b t.lt fun e => hT ?_)
          have t1 := (hown b e).2
          exact t.eq (t1.kept (ho.block b t1.lt fun f => f))
        have hM' : W3.cell? ⟨m, 5, none⟩ = some (.slice (some ⟨g, 0, none⟩) S.files.length cv) := by rw [hne m 41 (tM.kept (ho.block m tM.lt fun f => f)) (by decide)]; exact hM
        have hg2' : W3.cell? ⟨g, k * 3 + 2, none⟩ = some (.slice a2 f.chs.length c2) := by rw [hne g 75 (tg5.kept (ho.block g tg5.lt fun f => f)) (by decide)]; exact hg2 h18
        have hbx' : ∀ o, W3.cell? ⟨w.heap.size, o, none⟩ = [Value.bool x0, .int .i64 x1, .int .i64 x2, .slice xa xn xc][o]? := fun o => by
          rw [← hbx o, cell_cel, cell_cel]
          exact cel_eq (hfr3.block _ (Nat.lt_of_lt_of_le tB.lt ho.size) fun e => by have := hltF _ (hown _ e).1; omega)
        have hown' : OwnRow W3.heap (fun b => (Value.slice a2 f.chs.length c2).ownBlock = some b ∨ w5.heap.size ≤ b) 101 4 v3 (f.chs.length + 1) (q.cs.flatMap four ++ [.bool x0, .int .i64 x1, .int .i64 x2, .slice xa xn xc]) := hown3.mono fun b _ h => h.imp id fun h => Nat.le_trans ho.size h
        simp only [upd, valPut, ↓reduceIte, Nat.reduceEqDiff]
        exact ⟨hM', hbx', fun _ => hg2', fun h => by simp at h, fun h => by simp at h, fun _ _ => hfr', fun _ _ => hown', fun h => absurd h (by simp [h18]), fun h => absurd h (by simp [h18]), fun _ => ⟨hL14, hL12, _, _, _, e3⟩, p0, p1, p2, p3, p4, p5, p6, p7, p8, p9, p10, p11, p12, p13, p14, p16, p17⟩
      case refine_17 =>
        have q3 := p3 (by simp [hd])
        have q4 := p4 (by simp [hd])
        go_simp
        simp only [StepOk, upd, valPut, ↓reduceIte, Nat.reduceEqDiff]
        and_intros
        all_goals first | assumption | (intro h; cases h; done) | (intro _; assumption) | (simp_all; done)
      case refine_18 =>
        have q16 := p16 (by simp [hd])
        go_simp
        simp only [StepOk, upd, valPut, ↓reduceIte, Nat.reduceEqDiff]
        and_intros
        all_goals first | assumption | (intro h; cases h; done) | (intro _; assumption) | (simp_all; done)
      case refine_19 =>
        have q17 := p17 (by simp [hd])
        have hL15 : L 15 = true := by simp [hd]
        obtain ⟨hL14, hL12, a5, n5, c5, e5⟩ := c15 hL15
        have hfr := hb0 hL15 hLi
        have hrw := hb1 hL15 hLi
        have hcell := hg2 hLi
        have hfz : W1.frozen? ⟨g, k * 3 + 2, none⟩ = false := by
          have hk5 := HD5.out.row.kept (h' := W1.heap) fun b e _ hl => hfr.block b hl fun e' => by
            have t1 := (HD5.out.tagF e).2
            exact absurd (t1.eq (hown b e').2) (by decide)
          exact (hk5.rules HGO.out).2 _
        have hmg : m ≠ g := fun e => by rw [e] at tM; exact absurd (tM.eq tg5) (by decide)
        have hbg : w.heap.size ≠ g := fun e => by rw [e] at tB; exact absurd (tB.eq tg5) (by decide)
        have hM' : (W1.setCell ⟨g, k * 3 + 2, none⟩ (.slice a5 n5 c5)).cell? ⟨m, 5, none⟩ = some (.slice (some ⟨g, 0, none⟩) S.files.length cv) := by rw [cell_cel, cel_eq (heap_set ⟨g, k * 3 + 2, none⟩ _ hmg), ← cell_cel]; exact hM
        have hbx' : ∀ o, (W1.setCell ⟨g, k * 3 + 2, none⟩ (.slice a5 n5 c5)).cell? ⟨w.heap.size, o, none⟩ = [Value.bool x0, .int .i64 x1, .int .i64 x2, .slice xa xn xc][o]? := fun o => by rw [cell_cel, cel_eq (heap_set ⟨g, k * 3 + 2, none⟩ _ hbg), ← cell_cel]; exact hbx o
        go_simp
        simp only [StepOk, upd, valPut, ↓reduceIte, Nat.reduceEqDiff]
        exact ⟨hM', hbx', fun h => by simp at h, fun h => absurd h (by simp [hL15]), fun h => absurd h (by simp [hL15]), fun _ h => by simp at h, fun _ h => by simp at h, fun _ => ⟨W1, hfr, hrw, by rw [e5]⟩, fun _ => ⟨hL15, hL12⟩, c15, p0, p1, p2, p3, p4, p5, p6, p7, p8, p9, p10, p11, p12, p13, p14, p16, p17⟩
    case he =>
      intro L val W1 a ha hL hB
      simp [putL, Act.put] at ha
      subst ha
      obtain ⟨hM, hbx, hg2, ha0, ha1, hb0, hb1, hc0, c18, c15, _⟩ := hB
      obtain ⟨W2, hfr, hrw, rfl⟩ := hc0 (hL 18 (by decide))
      have hfin : MOpPost w m F (0, { S with files := setF { f with chs := f.chs ++ [c] } S.files }) (.returned (.int .i64 0)) (W2.setCell ⟨g, k * 3 + 2, none⟩ (val 15)) := by
        generalize val 15 = V at *
        have hst := Fr.store W2 g (k * 3 + 2) V
        have hgW : ∀ b, r.vf.ownBlock = some b → b = g := fun b e => by have := HGO.out; rw [this] at e; cases e; rfl
        have keep : ∀ b T, Tag w5.heap b T → T ≠ 101 → T ≠ 75 → (W2.setCell ⟨g, k * 3 + 2, none⟩ V).heap[b]? = w5.heap[b]? := fun b T t h1 h2 => by
          rw [heap_set ⟨g, k * 3 + 2, none⟩ V (fun e => h2 (by have e : b = g := e; subst e; exact t.eq tg5))]
          exact hfr.block b t.lt fun e => h1 (t.eq (hown b e).2)
        have hrow1 := HD5.out.row.kept (h' := W2.heap) fun b e _ hl => hfr.block b hl fun e' => absurd ((HD5.out.tagF e).2.eq (hown b e').2) (by decide)
        have hrow2 := hrow1.set HGO.out (j := k * 3 + 2) V
        rw [flat_set (f := mfCells) mf_len (b := (({ f with chs := f.chs ++ [c] } : Fl), (⟨q.vs, V, q.cs ++ [(c, cells)]⟩ : MRep))) hp (by omega) rfl] at hrow2
        obtain ⟨r', F', h1, h2⟩ := HD5.out.reset wf (w' := W2.setCell ⟨g, k * 3 + 2, none⟩ V) (f' := { f with chs := f.chs ++ [c] }) (q' := ⟨q.vs, V, q.cs ++ [(c, cells)]⟩) hp rfl (by rw [World.size_setCell]; exact hfr.size)
          (fun b hb e1 e2 => by
            rw [heap_set ⟨g, k * 3 + 2, none⟩ V (fun e => e1 (by have e : b = g := e; rw [e]; exact HGO.out))]
            exact hfr.block b (HD5.out.lt b hb) fun e => e2 (by rw [HVC.out]; exact e))
          (hrow2.mono fun b _ h => .inl h)
          (by
            have hfit := HF5.out.fits
            exact {
              fits := by rw [List.map_append, hfit]; rfl
              safe := (HF5.out.safe.kept fun b _ t => keep b 5 t (by decide) (by decide)).mono fun b h => .inl h
              row := by
                have h1 := hrw.kept (h' := (W2.setCell ⟨g, k * 3 + 2, none⟩ V).heap) fun b e _ hl => heap_set ⟨g, k * 3 + 2, none⟩ V (fun eg => by
                  obtain ⟨_, cur, e'⟩ := hrw.owned e
                  have t1 : Tag W2.heap b 101 := ⟨cur, _, e'⟩
                  have t2 : Tag W2.heap g 75 := tg5.kept (hfr.block g tg5.lt fun e' => absurd (tg5.eq (hown g e').2) (by decide))
                  have eg : b = g := eg
                  rw [eg] at t1
                  exact absurd (t1.eq t2) (by decide))
                have h2 := h1.mono (G := fun b => F b ∨ w5.heap.size ≤ b) fun b _ h => h.imp (fun e => (hown b e).1) id
                rw [List.flatMap_append, List.length_append, hcs]
                have h3 : [(c, cells)].flatMap four = [.bool x0, .int .i64 x1, .int .i64 x2, .slice xa xn xc] := by rw [List.flatMap_cons, List.flatMap_nil, List.append_nil, HXL.out]
                rw [h3]
                exact h2
              chs := fun p hp' => by
                rcases List.mem_append.1 hp' with hp' | hp'
                · exact ((HF5.out.chs p hp').kept fun b _ t => keep b 5 t (by decide) (by decide)).mono fun b h _ => .inl h
                · simp at hp'; subst hp'
                  rw [four_of HC.out]
                  exact (HDC5.out.kept fun b _ t => keep b 5 t (by decide) (by decide)).mono fun b h _ => .inl h })
          (fun b e => by
            have := (hrw.owned e).1
            rw [HVC.out]
            exact this)
        refine ⟨rfl, r', F', h1, ⟨?_, fun b hb => (h2 b hb).imp id fun h => Nat.le_trans HOW.out.size h⟩⟩
        refine (Old.fr HOW.out).trans' ((hfr.mono (G := F) fun b _ e => (hown b e).1).setCell (p := ⟨g, k * 3 + 2, none⟩) (fun _ => hFg) V)
      have HFIN := Lib.hid hfin
      clear hfin hM hbx hg2 ha0 ha1 hb0 hb1 hc0 c18 c15 hL hfr hrw
      go_wp2
      go_ret
      rw [HR.out]
      exact HFIN.out
end
end Go.Proofs.Ytpdflncgemcniaa
