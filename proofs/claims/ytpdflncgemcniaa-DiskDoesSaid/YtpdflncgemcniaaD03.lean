/- PROVED HERE: a region that draws its order, by one condition on what has been done so far: each operation is looked at once, in whatever order they come. PROVED HERE: the rule of Region for a region with guards, where each guard lets its operations by. -/
import Derived.Test.YtpdflncgemcniaaD02
import Derived.RegionTactic
namespace Go.Proofs.Ytpdflncgemcniaa
open Go.RowKit

/-- The act behind operations, each with its value. -/
def putL : List Oper → Nat → (Nat → Value) → Act → Act
  | [], _, _, a => a
  | o :: l, i, val, a => putL l (i + 1) val (a.put o.dst (val i))

def upd (L : Nat → Bool) (i : Nat) : Nat → Bool := fun j => if j = i then true else L j
def valPut (val : Nat → Value) (i : Nat) (v : Value) : Nat → Value := fun j => if j = i then v else val j

/-- What an operation's run must come to. -/
def StepOk (P : Program) (K : Value → World → Prop) : Result Next → Prop
  | .ok (.value v) w => K v w
  | .ok .skip w => K undef w
  | .ok (.enter f args) w => Calls P f args w fun e w' => ∃ v, e = .returned v ∧ K v w'
  | _ => False

/-- The operands of an operation are either its grounds' values or no operation's of the region; its grounds stand ahead of it; no guard; no two write one slot. -/
def opOk (ops : Array Oper) (i : Nat) (o : Oper) : Bool :=
  o.guard.isNone && (match o.op with | .select .. => false | _ => true) &&
  (o.after.all fun e => !Region.binds .any e || decide (e.on < i)) &&
  ((List.range ops.size).all fun j => (match (ops[j]?).bind (·.dst) with
    | some d => (o.op.operands.toList.all fun x => match x with
        | .tmp t => t != d || o.after.any (fun e => Region.binds .any e && e.on == j)
        | _ => true) && (j == i || o.dst != some d)
    | none => true))

def regOk (ops : Array Oper) : Bool := (List.range ops.size).all fun i => match ops[i]? with | some o => opOk ops i o | none => true

/-- a is a0 with the values of what is listed. -/
structure Agree (ops : Array Oper) (L : Nat → Bool) (val : Nat → Value) (a0 a : Act) : Prop where
  defers : a.defers = a0.defers
  size : a.tmps.size = a0.tmps.size
  done : ∀ i o d, ops[i]? = some o → o.dst = some d → L i = true → d < a0.tmps.size → a.tmps[d]? = some (val i)
  rest : ∀ t, (∀ i o, ops[i]? = some o → L i = true → o.dst ≠ some t) → a.tmps[t]? = a0.tmps[t]?

section
variable {P : Program} {ops : Array Oper} {Q : Exit → Act → World → Prop}

theorem putL_facts : ∀ (l : List Oper) (k : Nat) (val : Nat → Value) (a : Act), (putL l k val a).defers = a.defers ∧ (putL l k val a).tmps.size = a.tmps.size ∧
    (∀ t, (∀ (j : Nat) (o : Oper), l[j]? = some o → o.dst ≠ some t) → (putL l k val a).tmps[t]? = a.tmps[t]?) ∧
    (∀ (j : Nat) (o : Oper) (d : Tmp), l[j]? = some o → o.dst = some d → (∀ (j' : Nat) (o' : Oper), l[j']? = some o' → j' ≠ j → o'.dst ≠ some d) → d < a.tmps.size → (putL l k val a).tmps[d]? = some (val (k + j)))
  | [], k, val, a => ⟨rfl, rfl, fun _ _ => rfl, fun j o d h => by simp at h⟩
  | o :: l, k, val, a => by
    obtain ⟨h1, h2, h3, h4⟩ := putL_facts l (k + 1) val (a.put o.dst (val k))
    have hd : (a.put o.dst (val k)).defers = a.defers := by cases o.dst <;> rfl
    have hs : (a.put o.dst (val k)).tmps.size = a.tmps.size := by cases o.dst <;> simp [Act.put]
    refine ⟨h1.trans hd, h2.trans hs, fun t ht => ?_, fun j oj d hj hdst huniq hlt => ?_⟩
    · rw [putL, h3 t fun j o hj => ht (j + 1) o hj]
      have := ht 0 o rfl
      cases hdst : o.dst with
      | none => rfl
      | some d =>
        have hne : d ≠ t := fun e => this (by rw [hdst, e])
        simp [Act.put, Array.getElem?_setIfInBounds_ne hne]
    · cases j with
      | zero =>
        simp at hj; subst hj
        rw [putL, h3 d fun j' o' hj' => huniq (j' + 1) o' hj' (by omega), hdst]
        simp [Act.put, hlt]
      | succ j =>
        have := h4 j oj d hj hdst (fun j' o' hj' hne => huniq (j' + 1) o' hj' (by omega)) (by rw [hs]; exact hlt)
        rw [putL, this]
        congr 2
        omega

theorem regOk_at (h : regOk ops = true) {i : Nat} {o : Oper} (hi : ops[i]? = some o) : opOk ops i o = true := by
  have hlt := (Array.getElem?_eq_some_iff.1 hi).1
  have := List.all_eq_true.1 h i (List.mem_range.2 hlt)
  rw [hi] at this
  exact this

theorem opOk_distinct {i : Nat} {o : Oper} (h : opOk ops i o = true) {j : Nat} {oj : Oper} (hj : ops[j]? = some oj) (hne : j ≠ i) {d : Tmp} (hd : oj.dst = some d) : o.dst ≠ some d := by
  have hlt := (Array.getElem?_eq_some_iff.1 hj).1
  simp only [opOk, Bool.and_eq_true] at h
  have := List.all_eq_true.1 h.2 j (List.mem_range.2 hlt)
  simp only [hj, Option.bind_some, hd, Bool.and_eq_true, Bool.or_eq_true, beq_iff_eq, bne_iff_ne, ne_eq, hne, false_or] at this
  exact this.2

theorem opOk_operand {i : Nat} {o : Oper} (h : opOk ops i o = true) {j : Nat} {oj : Oper} (hj : ops[j]? = some oj) {d : Tmp} (hd : oj.dst = some d) (hx : Operand.tmp d ∈ o.op.operands) :
    ∃ e ∈ o.after, Region.binds .any e = true ∧ e.on = j := by
  have hlt := (Array.getElem?_eq_some_iff.1 hj).1
  simp only [opOk, Bool.and_eq_true] at h
  have := List.all_eq_true.1 h.2 j (List.mem_range.2 hlt)
  simp only [hj, Option.bind_some, hd, Bool.and_eq_true] at this
  have := List.all_eq_true.1 this.1 (.tmp d) (by simpa using hx)
  simp only [bne_self_eq_false, Bool.false_or] at this
  obtain ⟨e, he, hb⟩ := Array.any_eq_true'.1 this
  simp only [Bool.and_eq_true, beq_iff_eq] at hb
  exact ⟨e, he, hb.1, hb.2⟩

theorem Agree.eval {L : Nat → Bool} {val : Nat → Value} {a0 a : Act} (hok : regOk ops = true) (ag : Agree ops L val a0 a) {i : Nat} {o : Oper} (hi : ops[i]? = some o)
    (hdeps : ∀ e ∈ o.after, Region.binds .any e = true → L e.on = true) : ∀ x ∈ o.op.operands, a.eval x = (putL ops.toList 0 val a0).eval x := by
  intro x hx
  cases x with
  | tmp t =>
    obtain ⟨_, hsz, p3, p4⟩ := putL_facts ops.toList 0 val a0
    simp only [Act.eval]
    suffices a.tmps[t]? = (putL ops.toList 0 val a0).tmps[t]? by rw [Array.getD_eq_getD_getElem?, Array.getD_eq_getD_getElem?, this]
    by_cases hex : ∃ (j : Nat) (oj : Oper), ops[j]? = some oj ∧ oj.dst = some t
    · obtain ⟨j, oj, hj, hd⟩ := hex
      obtain ⟨e, he, hb, rfl⟩ := opOk_operand (regOk_at hok hi) hj hd hx
      by_cases hlt : t < a0.tmps.size
      · rw [ag.done _ _ _ hj hd (hdeps e he hb) hlt, p4 e.on oj t (by simpa using hj) hd (fun j' o' hj' hne h' => opOk_distinct (regOk_at hok hj) (show ops[j']? = some o' by simpa using hj') hne h' hd) hlt]
        simp
      · rw [Array.getElem?_eq_none (by rw [ag.size]; exact Nat.not_lt.1 hlt), Array.getElem?_eq_none (by rw [hsz]; exact Nat.not_lt.1 hlt)]
    · rw [ag.rest t fun j oj hj _ hd => hex ⟨j, oj, hj, hd⟩, p3 t fun j oj hj hd => hex ⟨j, oj, by simpa using hj, hd⟩]
  | _ => rfl

theorem Agree.all {L : Nat → Bool} {val : Nat → Value} {a0 a : Act} (hok : regOk ops = true) (ag : Agree ops L val a0 a) (hL : ∀ i, i < ops.size → L i = true) : a = putL ops.toList 0 val a0 := by
  obtain ⟨p1, p2, p3, p4⟩ := putL_facts ops.toList 0 val a0
  have ht : a.tmps = (putL ops.toList 0 val a0).tmps := by
    apply Array.ext_getElem?
    intro t
    by_cases hex : ∃ (j : Nat) (oj : Oper), ops[j]? = some oj ∧ oj.dst = some t
    · obtain ⟨j, oj, hj, hd⟩ := hex
      by_cases hlt : t < a0.tmps.size
      · rw [ag.done _ _ _ hj hd (hL j (Array.getElem?_eq_some_iff.1 hj).1) hlt, p4 j oj t (by simpa using hj) hd (fun j' o' hj' hne h' => opOk_distinct (regOk_at hok hj) (show ops[j']? = some o' by simpa using hj') hne h' hd) hlt]
        simp
      · rw [Array.getElem?_eq_none (by rw [ag.size]; omega), Array.getElem?_eq_none (by rw [p2]; omega)]
    · rw [ag.rest t fun j oj hj _ hd => hex ⟨j, oj, hj, hd⟩, p3 t fun j oj hj hd => hex ⟨j, oj, by simpa using hj, hd⟩]
  have hd := ag.defers.trans p1.symm
  cases a with
  | mk tm df =>
    generalize putL ops.toList 0 val a0 = b at ht hd ⊢
    cases b with
    | mk tm' df' => simp only at ht hd; subst ht; subst hd; rfl

theorem Agree.put {L : Nat → Bool} {val : Nat → Value} {a0 a : Act} (hok : regOk ops = true) (ag : Agree ops L val a0 a) {i : Nat} {o : Oper} (hi : ops[i]? = some o) (v : Value) :
    Agree ops (upd L i) (valPut val i v) a0 (a.put o.dst v) := by
  refine ⟨?_, ?_, fun j oj d hj hd hL hlt => ?_, fun t ht => ?_⟩
  · rw [← ag.defers]; cases o.dst <;> rfl
  · rw [← ag.size]; cases o.dst <;> simp [Act.put]
  · by_cases hji : j = i
    · subst hji
      rw [hi] at hj; cases hj
      simp only [hd, Act.put, valPut, if_true]
      simp [ag.size, hlt]
    · have h0 := ag.done j oj d hj hd (by simpa [upd, hji] using hL) hlt
      simp only [valPut, hji, if_false]
      cases hdst : o.dst with
      | none => exact h0
      | some d' =>
        have hne : d' ≠ d := fun e => opOk_distinct (regOk_at hok hi) hj hji hd (by rw [hdst, e])
        simpa [Act.put, Array.getElem?_setIfInBounds_ne hne] using h0
  · have h0 := ag.rest t fun j oj hj hL => ht j oj hj (by simp [upd, hL])
    rw [← h0]
    have := ht i o hi (by simp [upd])
    cases hdst : o.dst with
    | none => rfl
    | some d' =>
      have hne : d' ≠ t := fun e => this (by rw [hdst, e])
      simp [Act.put, Array.getElem?_setIfInBounds_ne hne]

theorem execOp_agree {i : Nat} {o : Oper} (h : opOk ops i o = true) {ρ ρ' : Operand → Value} (he : ∀ x ∈ o.op.operands, ρ x = ρ' x) : execOp ρ o = execOp ρ' o :=
  execOp_congr o (fun cs b hs => by simp [opOk, hs] at h) he

theorem wpAny_base (hok : regOk ops = true) (a0 : Act) (B : (Nat → Bool) → (Nat → Value) → World → Prop)
    (hs : ∀ i o, ops[i]? = some o → ∀ L val w, B L val w → L i = false → (∀ e ∈ o.after, Region.binds .any e = true → L e.on = true) →
      StepOk P (fun v w' => B (upd L i) (valPut val i v) w') ((execOp (putL ops.toList 0 val a0).eval o).run P w))
    (he : ∀ L val w, (∀ i, i < ops.size → L i = true) → B L val w → Q .normal (putL ops.toList 0 val a0) w) :
    ∀ (fuel : Nat) (listed : Array Bool) (a : Act) (w : World) (val : Nat → Value), listed.size = ops.size →
      ((List.range ops.size).filter fun i => !listed.getD i false).length ≤ fuel → Agree ops (fun i => listed.getD i false) val a0 a → B (fun i => listed.getD i false) val w →
      wpAny P .any ops Q fuel listed a w := by
  intro fuel
  have hend : ∀ (listed : Array Bool) (a : Act) (w : World) (val : Nat → Value), listed.size = ops.size → Agree ops (fun i => listed.getD i false) val a0 a → B (fun i => listed.getD i false) val w →
      Region.ready .any ops listed = [] → Q .normal a w := by
    intro listed a w val hsz ag hB hr
    have hall : ∀ i, i < ops.size → listed.getD i false = true := by
      intro i
      induction i using Nat.strongRecOn with
      | _ i ih =>
        intro hi
        cases hl : listed.getD i false with
        | true => rfl
        | false =>
          exfalso
          obtain ⟨o, ho⟩ : ∃ o, ops[i]? = some o := ⟨_, Array.getElem?_eq_getElem hi⟩
          have hmem : i ∈ Region.ready .any ops listed := mem_ready.2 ⟨by
            have : i < listed.size := by omega
            simp [Array.getD_eq_getD_getElem?, this] at hl ⊢
            exact hl, o, ho, fun e hee hb => by
              have hopk := regOk_at hok ho
              simp only [opOk, Bool.and_eq_true] at hopk
              have := Array.all_eq_true_iff_forall_mem.1 hopk.1.2 e hee
              simp only [hb, Bool.not_true, Bool.false_or, decide_eq_true_eq] at this
              exact ih e.on this (by omega)⟩
          rw [hr] at hmem
          cases hmem
    rw [ag.all hok hall]
    exact he _ _ _ hall hB
  induction fuel with
  | zero =>
    intro listed a w val hsz hc ag hB
    have hr : Region.ready .any ops listed = [] := by
      rw [List.eq_nil_iff_forall_not_mem]
      intro i hi
      obtain ⟨h0, o, ho, _⟩ := mem_ready.1 hi
      have hlt := (Array.getElem?_eq_some_iff.1 ho).1
      have hnil : ((List.range ops.size).filter fun i => !listed.getD i false) = [] := List.eq_nil_of_length_eq_zero (by omega)
      have := List.filter_eq_nil_iff.1 hnil i (List.mem_range.2 hlt)
      have hl : i < listed.size := by omega
      simp [Array.getD_eq_getD_getElem?, hl] at this h0
      rw [this] at h0; cases h0
    exact ⟨hr, hend listed a w val hsz ag hB hr⟩
  | succ fuel ih =>
    intro listed a w val hsz hc ag hB
    refine ⟨fun hr => hend listed a w val hsz ag hB hr, fun i hi => ?_⟩
    obtain ⟨h0, o, ho, hdeps⟩ := mem_ready.1 hi
    have hlt := (Array.getElem?_eq_some_iff.1 ho).1
    have hl : i < listed.size := by omega
    have hli : listed.getD i false = false := by simpa [Array.getD_eq_getD_getElem?, hl] using h0
    have hst := hs i o ho _ val w hB hli hdeps
    have hLu : (fun j => (listed.setIfInBounds i true).getD j false) = upd (fun j => listed.getD j false) i := by
      funext j
      simp only [upd]
      split
      · rename_i h; subst h; simp [Array.getD_eq_getD_getElem?, hl]
      · rename_i h; simp [Array.getD_eq_getD_getElem?, Array.getElem?_setIfInBounds_ne (Ne.symm h)]
    have hcount : ((List.range ops.size).filter fun j => !(listed.setIfInBounds i true).getD j false).length ≤ fuel := by
      have hsub : ((List.range ops.size).filter fun j => !(listed.setIfInBounds i true).getD j false) = (((List.range ops.size).filter fun j => !listed.getD j false).filter fun j => j != i) := by
        rw [List.filter_filter]
        apply List.filter_congr
        intro j hj
        have := congrFun hLu j
        rw [show (listed.setIfInBounds i true).getD j false = upd (fun j => listed.getD j false) i j from this]
        simp only [upd]
        by_cases hji : j = i <;> simp [hji]
      rw [hsub]
      have hm : i ∈ (List.range ops.size).filter fun j => !listed.getD j false := List.mem_filter.2 ⟨List.mem_range.2 hlt, by simp only [hli, Bool.not_false]⟩
      have := List.length_filter_lt_length_iff_exists (p := fun j => j != i).2 ⟨i, hm, by simp⟩
      omega
    have hexec := execOp_agree (regOk_at hok ho) (ag.eval hok ho hdeps)
    have hnext : ∀ v w', B (upd (fun j => listed.getD j false) i) (valPut val i v) w' → wpAny P .any ops Q fuel (listed.setIfInBounds i true) (a.put o.dst v) w' := fun v w' hB' =>
      ih _ _ _ (valPut val i v) (by simpa using hsz) hcount (by rw [hLu]; exact ag.put hok ho v) (by rw [hLu]; exact hB')
    have hg : o.guard = none := by
      have := regOk_at hok ho
      simp only [opOk, Bool.and_eq_true, Option.isNone_iff_eq_none] at this
      exact this.1.1.1
    simp only [wpOp, ho, Region.wanted, hg, if_true]
    refine .inl ?_
    unfold Oper.wp
    rw [hexec]
    cases hrun : (execOp (putL ops.toList 0 val a0).eval o).run P w with
    | halt h w' => rw [hrun] at hst; exact hst.elim
    | ok nx w' =>
      rw [hrun] at hst
      cases nx with
      | value v => exact hnext v w' hst
      | skip => exact hnext undef w' hst
      | enter f args =>
        rw [Oper.upon_enter]
        refine Calls.mono hst fun e w'' => ?_
        rintro ⟨v, rfl, hB'⟩
        exact hnext v w'' hB'
      | _ => exact hst.elim

/-- THE RULE. -/
theorem wp_region_base {id : Nat} {a0 : Act} {w : World} (hm : P.follows .mixedOrders = true) (hok : regOk ops = true) (B : (Nat → Bool) → (Nat → Value) → World → Prop)
    (h0 : B (fun _ => false) (fun _ => undef) w.drew)
    (hs : ∀ i o, ops[i]? = some o → ∀ L val w, B L val w → L i = false → (∀ e ∈ o.after, Region.binds .any e = true → L e.on = true) →
      StepOk P (fun v w' => B (upd L i) (valPut val i v) w') ((execOp (putL ops.toList 0 val a0).eval o).run P w))
    (he : ∀ L val w, (∀ i, i < ops.size → L i = true) → B L val w → Q .normal (putL ops.toList 0 val a0) w) : (Code.region id ops true).wp P Q a0 w := by
  refine wp_region_any hm ?_
  have hf : (fun i => (Array.replicate ops.size false).getD i false) = fun _ => false := by
    funext i
    simp only [Array.getD_eq_getD_getElem?, Array.getElem?_replicate]
    split <;> rfl
  refine wpAny_base hok a0 B hs he ops.size _ _ _ (fun _ => undef) (by simp) ?_ ?_ ?_
  · exact Nat.le_trans (List.length_filter_le _ _) (by simp)
  · rw [hf]
    exact ⟨rfl, rfl, fun _ _ _ _ _ h => (by cases h), fun _ _ => rfl⟩
  · rw [hf]; exact h0
end

/-- Of each operation of a list, with its number. -/
def AllFrom (C : Nat → Oper → Prop) : Nat → List Oper → Prop
  | _, [] => True
  | i, o :: l => C i o ∧ AllFrom C (i + 1) l

theorem AllFrom.at' {C : Nat → Oper → Prop} : ∀ (l : List Oper) (k : Nat), AllFrom C k l → ∀ i o, l[i]? = some o → C (k + i) o
  | [], _, _, i, o, h => by simp at h
  | x :: l, k, ⟨h0, hr⟩, 0, o, h => by simp at h; subst h; exact h0
  | x :: l, k, ⟨h0, hr⟩, i + 1, o, h => by
    have := AllFrom.at' l (k + 1) hr i o (by simpa using h)
    rwa [show k + 1 + i = k + (i + 1) by omega] at this

/-- The rule at a list written out: l's operations one by one. -/
theorem wp_region_lits {P : Program} {l : List Oper} {Q : Exit → Act → World → Prop} {id : Nat} {a0 : Act} {w : World} (hm : P.follows .mixedOrders = true) (hok : regOk l.toArray = true)
    (B : (Nat → Bool) → (Nat → Value) → World → Prop)
    (h0 : B (fun _ => false) (fun _ => undef) w.drew)
    (hs : AllFrom (fun i o => ∀ L val w a, a = putL l 0 val a0 → B L val w → L i = false → (∀ e ∈ o.after, Region.binds .any e = true → L e.on = true) →
      StepOk P (fun v w' => B (upd L i) (valPut val i v) w') ((execOp a.eval o).run P w)) 0 l)
    (he : ∀ L val w a, a = putL l 0 val a0 → (∀ i, i < l.length → L i = true) → B L val w → Q .normal a w) : (Code.region id l.toArray true).wp P Q a0 w := by
  refine wp_region_base hm hok B h0 (fun i o ho L val w => ?_) (fun L val w hL hB => ?_)
  · have := AllFrom.at' l 0 hs i o (by simpa using ho)
    rw [Nat.zero_add] at this
    exact this L val w _ rfl
  · exact he L val w _ rfl (by simpa using hL) hB

end Go.Proofs.Ytpdflncgemcniaa
namespace Go.Proofs.Ytpdflncgemcniaa
open Go.RowKit

/-- The operands of an operation are either its grounds' values or no operation's of the region; its grounds stand ahead of it; no guard; no two write one slot. -/
def opOkG (ops : Array Oper) (i : Nat) (o : Oper) : Bool :=
  (match o.guard with | none => true | some (j, _) => (o.after.any fun e => Region.binds .any e && e.on == j) && ((ops[j]?).bind (·.dst)).isSome) && (match o.op with | .select .. => false | _ => true) &&
  (o.after.all fun e => !Region.binds .any e || decide (e.on < i)) &&
  ((List.range ops.size).all fun j => (match (ops[j]?).bind (·.dst) with
    | some d => (o.op.operands.toList.all fun x => match x with
        | .tmp t => t != d || o.after.any (fun e => Region.binds .any e && e.on == j)
        | _ => true) && (j == i || o.dst != some d)
    | none => true))

def regOkG (ops : Array Oper) : Bool := (List.range ops.size).all fun i => match ops[i]? with | some o => opOkG ops i o | none => true

section
variable {P : Program} {ops : Array Oper} {Q : Exit → Act → World → Prop}

theorem regOkG_at (h : regOkG ops = true) {i : Nat} {o : Oper} (hi : ops[i]? = some o) : opOkG ops i o = true := by
  have hlt := (Array.getElem?_eq_some_iff.1 hi).1
  have := List.all_eq_true.1 h i (List.mem_range.2 hlt)
  rw [hi] at this
  exact this

theorem opOkG_distinct {i : Nat} {o : Oper} (h : opOkG ops i o = true) {j : Nat} {oj : Oper} (hj : ops[j]? = some oj) (hne : j ≠ i) {d : Tmp} (hd : oj.dst = some d) : o.dst ≠ some d := by
  have hlt := (Array.getElem?_eq_some_iff.1 hj).1
  simp only [opOkG, Bool.and_eq_true] at h
  have := List.all_eq_true.1 h.2 j (List.mem_range.2 hlt)
  simp only [hj, Option.bind_some, hd, Bool.and_eq_true, Bool.or_eq_true, beq_iff_eq, bne_iff_ne, ne_eq, hne, false_or] at this
  exact this.2

theorem opOkG_operand {i : Nat} {o : Oper} (h : opOkG ops i o = true) {j : Nat} {oj : Oper} (hj : ops[j]? = some oj) {d : Tmp} (hd : oj.dst = some d) (hx : Operand.tmp d ∈ o.op.operands) :
    ∃ e ∈ o.after, Region.binds .any e = true ∧ e.on = j := by
  have hlt := (Array.getElem?_eq_some_iff.1 hj).1
  simp only [opOkG, Bool.and_eq_true] at h
  have := List.all_eq_true.1 h.2 j (List.mem_range.2 hlt)
  simp only [hj, Option.bind_some, hd, Bool.and_eq_true] at this
  have := List.all_eq_true.1 this.1 (.tmp d) (by simpa using hx)
  simp only [bne_self_eq_false, Bool.false_or] at this
  obtain ⟨e, he, hb⟩ := Array.any_eq_true'.1 this
  simp only [Bool.and_eq_true, beq_iff_eq] at hb
  exact ⟨e, he, hb.1, hb.2⟩

theorem Agree.evalG {L : Nat → Bool} {val : Nat → Value} {a0 a : Act} (hok : regOkG ops = true) (ag : Agree ops L val a0 a) {i : Nat} {o : Oper} (hi : ops[i]? = some o)
    (hdeps : ∀ e ∈ o.after, Region.binds .any e = true → L e.on = true) : ∀ x ∈ o.op.operands, a.eval x = (putL ops.toList 0 val a0).eval x := by
  intro x hx
  cases x with
  | tmp t =>
    obtain ⟨_, hsz, p3, p4⟩ := putL_facts ops.toList 0 val a0
    simp only [Act.eval]
    suffices a.tmps[t]? = (putL ops.toList 0 val a0).tmps[t]? by rw [Array.getD_eq_getD_getElem?, Array.getD_eq_getD_getElem?, this]
    by_cases hex : ∃ (j : Nat) (oj : Oper), ops[j]? = some oj ∧ oj.dst = some t
    · obtain ⟨j, oj, hj, hd⟩ := hex
      obtain ⟨e, he, hb, rfl⟩ := opOkG_operand (regOkG_at hok hi) hj hd hx
      by_cases hlt : t < a0.tmps.size
      · rw [ag.done _ _ _ hj hd (hdeps e he hb) hlt, p4 e.on oj t (by simpa using hj) hd (fun j' o' hj' hne h' => opOkG_distinct (regOkG_at hok hj) (show ops[j']? = some o' by simpa using hj') hne h' hd) hlt]
        simp
      · rw [Array.getElem?_eq_none (by rw [ag.size]; exact Nat.not_lt.1 hlt), Array.getElem?_eq_none (by rw [hsz]; exact Nat.not_lt.1 hlt)]
    · rw [ag.rest t fun j oj hj _ hd => hex ⟨j, oj, hj, hd⟩, p3 t fun j oj hj hd => hex ⟨j, oj, by simpa using hj, hd⟩]
  | _ => rfl

theorem Agree.allG {L : Nat → Bool} {val : Nat → Value} {a0 a : Act} (hok : regOkG ops = true) (ag : Agree ops L val a0 a) (hL : ∀ i, i < ops.size → L i = true) : a = putL ops.toList 0 val a0 := by
  obtain ⟨p1, p2, p3, p4⟩ := putL_facts ops.toList 0 val a0
  have ht : a.tmps = (putL ops.toList 0 val a0).tmps := by
    apply Array.ext_getElem?
    intro t
    by_cases hex : ∃ (j : Nat) (oj : Oper), ops[j]? = some oj ∧ oj.dst = some t
    · obtain ⟨j, oj, hj, hd⟩ := hex
      by_cases hlt : t < a0.tmps.size
      · rw [ag.done _ _ _ hj hd (hL j (Array.getElem?_eq_some_iff.1 hj).1) hlt, p4 j oj t (by simpa using hj) hd (fun j' o' hj' hne h' => opOkG_distinct (regOkG_at hok hj) (show ops[j']? = some o' by simpa using hj') hne h' hd) hlt]
        simp
      · rw [Array.getElem?_eq_none (by rw [ag.size]; omega), Array.getElem?_eq_none (by rw [p2]; omega)]
    · rw [ag.rest t fun j oj hj _ hd => hex ⟨j, oj, hj, hd⟩, p3 t fun j oj hj hd => hex ⟨j, oj, by simpa using hj, hd⟩]
  have hd := ag.defers.trans p1.symm
  cases a with
  | mk tm df =>
    generalize putL ops.toList 0 val a0 = b at ht hd ⊢
    cases b with
    | mk tm' df' => simp only at ht hd; subst ht; subst hd; rfl

theorem Agree.putG {L : Nat → Bool} {val : Nat → Value} {a0 a : Act} (hok : regOkG ops = true) (ag : Agree ops L val a0 a) {i : Nat} {o : Oper} (hi : ops[i]? = some o) (v : Value) :
    Agree ops (upd L i) (valPut val i v) a0 (a.put o.dst v) := by
  refine ⟨?_, ?_, fun j oj d hj hd hL hlt => ?_, fun t ht => ?_⟩
  · rw [← ag.defers]; cases o.dst <;> rfl
  · rw [← ag.size]; cases o.dst <;> simp [Act.put]
  · by_cases hji : j = i
    · subst hji
      rw [hi] at hj; cases hj
      simp only [hd, Act.put, valPut, if_true]
      simp [ag.size, hlt]
    · have h0 := ag.done j oj d hj hd (by simpa [upd, hji] using hL) hlt
      simp only [valPut, hji, if_false]
      cases hdst : o.dst with
      | none => exact h0
      | some d' =>
        have hne : d' ≠ d := fun e => opOkG_distinct (regOkG_at hok hi) hj hji hd (by rw [hdst, e])
        simpa [Act.put, Array.getElem?_setIfInBounds_ne hne] using h0
  · have h0 := ag.rest t fun j oj hj hL => ht j oj hj (by simp [upd, hL])
    rw [← h0]
    have := ht i o hi (by simp [upd])
    cases hdst : o.dst with
    | none => rfl
    | some d' =>
      have hne : d' ≠ t := fun e => this (by rw [hdst, e])
      simp [Act.put, Array.getElem?_setIfInBounds_ne hne]

theorem execOp_agreeG {i : Nat} {o : Oper} (h : opOkG ops i o = true) {ρ ρ' : Operand → Value} (he : ∀ x ∈ o.op.operands, ρ x = ρ' x) : execOp ρ o = execOp ρ' o :=
  execOp_congr o (fun cs b hs => by simp [opOkG, hs] at h) he

theorem wpAny_baseG (hok : regOkG ops = true) (a0 : Act) (hsz0 : ∀ (j : Nat) (o : Oper) (d : Tmp), ops[j]? = some o → o.dst = some d → d < a0.tmps.size) (B : (Nat → Bool) → (Nat → Value) → World → Prop)
    (hs : ∀ i o, ops[i]? = some o → ∀ L val w, B L val w → L i = false → (∀ e ∈ o.after, Region.binds .any e = true → L e.on = true) →
      (∀ j b, o.guard = some (j, b) → val j = .bool b) ∧ StepOk P (fun v w' => B (upd L i) (valPut val i v) w') ((execOp (putL ops.toList 0 val a0).eval o).run P w))
    (he : ∀ L val w, (∀ i, i < ops.size → L i = true) → B L val w → Q .normal (putL ops.toList 0 val a0) w) :
    ∀ (fuel : Nat) (listed : Array Bool) (a : Act) (w : World) (val : Nat → Value), listed.size = ops.size →
      ((List.range ops.size).filter fun i => !listed.getD i false).length ≤ fuel → Agree ops (fun i => listed.getD i false) val a0 a → B (fun i => listed.getD i false) val w →
      wpAny P .any ops Q fuel listed a w := by
  intro fuel
  have hend : ∀ (listed : Array Bool) (a : Act) (w : World) (val : Nat → Value), listed.size = ops.size → Agree ops (fun i => listed.getD i false) val a0 a → B (fun i => listed.getD i false) val w →
      Region.ready .any ops listed = [] → Q .normal a w := by
    intro listed a w val hsz ag hB hr
    have hall : ∀ i, i < ops.size → listed.getD i false = true := by
      intro i
      induction i using Nat.strongRecOn with
      | _ i ih =>
        intro hi
        cases hl : listed.getD i false with
        | true => rfl
        | false =>
          exfalso
          obtain ⟨o, ho⟩ : ∃ o, ops[i]? = some o := ⟨_, Array.getElem?_eq_getElem hi⟩
          have hmem : i ∈ Region.ready .any ops listed := mem_ready.2 ⟨by
            have : i < listed.size := by omega
            simp [Array.getD_eq_getD_getElem?, this] at hl ⊢
            exact hl, o, ho, fun e hee hb => by
              have hopk := regOkG_at hok ho
              simp only [opOkG, Bool.and_eq_true] at hopk
              have := Array.all_eq_true_iff_forall_mem.1 hopk.1.2 e hee
              simp only [hb, Bool.not_true, Bool.false_or, decide_eq_true_eq] at this
              exact ih e.on this (by omega)⟩
          rw [hr] at hmem
          cases hmem
    rw [ag.allG hok hall]
    exact he _ _ _ hall hB
  induction fuel with
  | zero =>
    intro listed a w val hsz hc ag hB
    have hr : Region.ready .any ops listed = [] := by
      rw [List.eq_nil_iff_forall_not_mem]
      intro i hi
      obtain ⟨h0, o, ho, _⟩ := mem_ready.1 hi
      have hlt := (Array.getElem?_eq_some_iff.1 ho).1
      have hnil : ((List.range ops.size).filter fun i => !listed.getD i false) = [] := List.eq_nil_of_length_eq_zero (by omega)
      have := List.filter_eq_nil_iff.1 hnil i (List.mem_range.2 hlt)
      have hl : i < listed.size := by omega
      simp [Array.getD_eq_getD_getElem?, hl] at this h0
      rw [this] at h0; cases h0
    exact ⟨hr, hend listed a w val hsz ag hB hr⟩
  | succ fuel ih =>
    intro listed a w val hsz hc ag hB
    refine ⟨fun hr => hend listed a w val hsz ag hB hr, fun i hi => ?_⟩
    obtain ⟨h0, o, ho, hdeps⟩ := mem_ready.1 hi
    have hlt := (Array.getElem?_eq_some_iff.1 ho).1
    have hl : i < listed.size := by omega
    have hli : listed.getD i false = false := by simpa [Array.getD_eq_getD_getElem?, hl] using h0
    have hst := hs i o ho _ val w hB hli hdeps
    have hLu : (fun j => (listed.setIfInBounds i true).getD j false) = upd (fun j => listed.getD j false) i := by
      funext j
      simp only [upd]
      split
      · rename_i h; subst h; simp [Array.getD_eq_getD_getElem?, hl]
      · rename_i h; simp [Array.getD_eq_getD_getElem?, Array.getElem?_setIfInBounds_ne (Ne.symm h)]
    have hcount : ((List.range ops.size).filter fun j => !(listed.setIfInBounds i true).getD j false).length ≤ fuel := by
      have hsub : ((List.range ops.size).filter fun j => !(listed.setIfInBounds i true).getD j false) = (((List.range ops.size).filter fun j => !listed.getD j false).filter fun j => j != i) := by
        rw [List.filter_filter]
        apply List.filter_congr
        intro j hj
        have := congrFun hLu j
        rw [show (listed.setIfInBounds i true).getD j false = upd (fun j => listed.getD j false) i j from this]
        simp only [upd]
        by_cases hji : j = i <;> simp [hji]
      rw [hsub]
      have hm : i ∈ (List.range ops.size).filter fun j => !listed.getD j false := List.mem_filter.2 ⟨List.mem_range.2 hlt, by simp only [hli, Bool.not_false]⟩
      have := List.length_filter_lt_length_iff_exists (p := fun j => j != i).2 ⟨i, hm, by simp⟩
      omega
    have hexec := execOp_agreeG (regOkG_at hok ho) (ag.evalG hok ho hdeps)
    have hnext : ∀ v w', B (upd (fun j => listed.getD j false) i) (valPut val i v) w' → wpAny P .any ops Q fuel (listed.setIfInBounds i true) (a.put o.dst v) w' := fun v w' hB' =>
      ih _ _ _ (valPut val i v) (by simpa using hsz) hcount (by rw [hLu]; exact ag.putG hok ho v) (by rw [hLu]; exact hB')
    have hwant : Region.wanted o (yielded ops a.tmps) = true := by
      cases hgd : o.guard with
      | none => simp [Region.wanted, hgd]
      | some jb =>
        obtain ⟨j, b⟩ := jb
        have hv := hst.1 j b hgd
        have hopk := regOkG_at hok ho
        simp only [opOkG, Bool.and_eq_true, hgd] at hopk
        obtain ⟨e, he1, he2⟩ := Array.any_eq_true'.1 hopk.1.1.1.1
        simp only [Bool.and_eq_true, beq_iff_eq] at he2
        have hLj := hdeps e he1 he2.1
        rw [he2.2] at hLj
        obtain ⟨d, hd⟩ := Option.isSome_iff_exists.1 hopk.1.1.1.2
        obtain ⟨oj, hoj, hdj⟩ := Option.bind_eq_some_iff.1 hd
        have hdone := ag.done j oj d hoj hdj hLj (hsz0 j oj d hoj hdj)
        simp [Region.wanted, hgd, yielded, hoj, hdj, hdone, hv]
    simp only [wpOp, ho, hwant, if_true]
    refine .inl ?_
    unfold Oper.wp
    rw [hexec]
    cases hrun : (execOp (putL ops.toList 0 val a0).eval o).run P w with
    | halt h w' => rw [hrun] at hst; exact hst.2.elim
    | ok nx w' =>
      rw [hrun] at hst
      replace hst := hst.2
      cases nx with
      | value v => exact hnext v w' hst
      | skip => exact hnext undef w' hst
      | enter f args =>
        rw [Oper.upon_enter]
        refine Calls.mono hst fun e w'' => ?_
        rintro ⟨v, rfl, hB'⟩
        exact hnext v w'' hB'
      | _ => exact hst.elim

/-- THE RULE. -/
theorem wp_region_baseG {id : Nat} {a0 : Act} {w : World} (hm : P.follows .mixedOrders = true) (hok : regOkG ops = true) (hsz0 : ∀ (j : Nat) (o : Oper) (d : Tmp), ops[j]? = some o → o.dst = some d → d < a0.tmps.size) (B : (Nat → Bool) → (Nat → Value) → World → Prop)
    (h0 : B (fun _ => false) (fun _ => undef) w.drew)
    (hs : ∀ i o, ops[i]? = some o → ∀ L val w, B L val w → L i = false → (∀ e ∈ o.after, Region.binds .any e = true → L e.on = true) →
      (∀ j b, o.guard = some (j, b) → val j = .bool b) ∧ StepOk P (fun v w' => B (upd L i) (valPut val i v) w') ((execOp (putL ops.toList 0 val a0).eval o).run P w))
    (he : ∀ L val w, (∀ i, i < ops.size → L i = true) → B L val w → Q .normal (putL ops.toList 0 val a0) w) : (Code.region id ops true).wp P Q a0 w := by
  refine wp_region_any hm ?_
  have hf : (fun i => (Array.replicate ops.size false).getD i false) = fun _ => false := by
    funext i
    simp only [Array.getD_eq_getD_getElem?, Array.getElem?_replicate]
    split <;> rfl
  refine wpAny_baseG hok a0 hsz0 B hs he ops.size _ _ _ (fun _ => undef) (by simp) ?_ ?_ ?_
  · exact Nat.le_trans (List.length_filter_le _ _) (by simp)
  · rw [hf]
    exact ⟨rfl, rfl, fun _ _ _ _ _ h => (by cases h), fun _ _ => rfl⟩
  · rw [hf]; exact h0
end

/-- The rule at a list written out: l's operations one by one. -/
theorem wp_region_litsG {P : Program} {l : List Oper} {Q : Exit → Act → World → Prop} {id : Nat} {a0 : Act} {w : World} (hm : P.follows .mixedOrders = true) (hok : regOkG l.toArray = true) (hsz0 : ∀ o ∈ l, ∀ d, o.dst = some d → d < a0.tmps.size)
    (B : (Nat → Bool) → (Nat → Value) → World → Prop)
    (h0 : B (fun _ => false) (fun _ => undef) w.drew)
    (hs : AllFrom (fun i o => ∀ L val w a, a = putL l 0 val a0 → B L val w → L i = false → (∀ e ∈ o.after, Region.binds .any e = true → L e.on = true) →
      (∀ j b, o.guard = some (j, b) → val j = .bool b) ∧ StepOk P (fun v w' => B (upd L i) (valPut val i v) w') ((execOp a.eval o).run P w)) 0 l)
    (he : ∀ L val w a, a = putL l 0 val a0 → (∀ i, i < l.length → L i = true) → B L val w → Q .normal a w) : (Code.region id l.toArray true).wp P Q a0 w := by
  refine wp_region_baseG hm hok (fun j o d hj hd => hsz0 o (List.mem_of_getElem? (by simpa using hj)) d hd) B h0 (fun i o ho L val w => ?_) (fun L val w hL hB => ?_)
  · have := AllFrom.at' l 0 hs i o (by simpa using ho)
    rw [Nat.zero_add] at this
    exact this L val w _ rfl
  · exact he L val w _ rfl (by simpa using hL) hB

end Go.Proofs.Ytpdflncgemcniaa
