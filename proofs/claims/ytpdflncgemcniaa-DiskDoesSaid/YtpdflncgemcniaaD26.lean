/- PROVED HERE: the contract of Model. PROVED HERE: operations in memory; the contract of few. No conditions beyond the premises that each theorem names. -/
import Derived.Test.YtpdflncgemcniaaD25
namespace Go.Proofs.Ytpdflncgemcniaa
open Go.RowKit

section
variable {w : World} {m : Nat} {S : Dk} {r : MDRep} {F : Nat → Prop}

set_option maxHeartbeats 4000000 in
set_option maxRecDepth 100000 in
theorem model10k0 (h : IsModel w.heap m S r F) {K : Nat} (wf : Wf S K) (hK : K < 1000000) (o : Opn) (ok : OpOk o) (hk : o.kind = 0) (G : Nat → Prop) (vd k f u : Value) (hop : IsOp w.heap G vd k f u o) (hG : ∀ x, G x → F x → False) (hGs : ∀ x, G x → x < w.heap.size) :
    Calls Try.prog 10 #[.pointer (some ⟨m, 0, none⟩), opVal vd k f u o] w (MOpPost w m F (stepOp S o)) := by
  have hres : stepOp S o = create S o.name.data.toList := by unfold stepOp; simp only [hk]; rfl
  obtain ⟨a, c, rfl, _, _⟩ := hop.data.shape
  obtain ⟨ak, ck, rfl, _, _⟩ := hop.plan.keep.shape
  obtain ⟨af, cf, rfl, _, _⟩ := hop.plan.fail.shape
  obtain ⟨au, cu, rfl, _, _⟩ := hop.plan.full.shape
  obtain ⟨W0, hW0⟩ : ∃ W0, w.alloc (.cells #[.int .i64 (0 : Int), .string o.name, .string o.target, .int .i64 o.pos, .int .i64 o.long, .slice a o.data.length c, .int .i64 o.plan.crash, .slice ak o.plan.keep.length ck, .slice af o.plan.fail.length cf, .slice au o.plan.full.length cu, .int .i64 o.plan.room] 35) = W0 := ⟨_, rfl⟩
  have o0 : Old w W0 := by rw [← hW0]; exact (Fr.refl _ _).alloc _
  have bA : Blk W0.heap w.heap.size #[.int .i64 (0 : Int), .string o.name, .string o.target, .int .i64 o.pos, .int .i64 o.long, .slice a o.data.length c, .int .i64 o.plan.crash, .slice ak o.plan.keep.length ck, .slice af o.plan.fail.length cf, .slice au o.plan.full.length cu, .int .i64 o.plan.room] 35 := by rw [← hW0]; exact blk_new w _ 35
  have H1 := Lib.hid (h.fr o0 fun _ _ f => f)
  have HO0 := Lib.hid o0
  have HGG := Lib.hid (And.intro hG hGs)
  have HDA := Lib.hid (hop.data.fr o0 fun _ _ f => f)
  have HPL := Lib.hid (hop.plan.fr o0 fun _ _ f => f)
  have hdl := ok.data
  have HRES := Lib.hid hres
  obtain ⟨a1, _⟩ := bA.rules
  have hcall := mcreate27 H1.out wf hK o.name ok.name
  clear h o0 bA hG hGs hop hres
  show Calls Try.prog 10 #[.pointer (some ⟨m, 0, none⟩), .agg #[.int .i64 o.kind, .string o.name, .string o.target, .int .i64 o.pos, .int .i64 o.long, .slice a o.data.length c, .int .i64 o.plan.crash, .slice ak o.plan.keep.length ck, .slice af o.plan.fail.length cf, .slice au o.plan.full.length cu, .int .i64 o.plan.room]] w _
  rw [hk]
  clear hk
  go_enter Try.func10, Try.ntmps10
  go_wp2_with (go_at_call 27; refine hcall.mono ?_; rintro e w2 ⟨rfl, r', F', hd2, hs2⟩
               have H2 := Lib.hid hd2
               have HS2 := Lib.hid hs2
               clear hd2 hs2)
  go_ret
  rw [HRES.out]
  exact ⟨rfl, _, _, H2.out, (⟨Old.fr HO0.out, fun _ h => .inl h⟩ : Step F F w W0).trans HS2.out⟩

set_option maxHeartbeats 4000000 in
set_option maxRecDepth 100000 in
theorem model10k1 (h : IsModel w.heap m S r F) {K : Nat} (wf : Wf S K) (hK : K < 1000000) (o : Opn) (ok : OpOk o) (hk : o.kind = 1) (G : Nat → Prop) (vd k f u : Value) (hop : IsOp w.heap G vd k f u o) (hG : ∀ x, G x → F x → False) (hGs : ∀ x, G x → x < w.heap.size) :
    Calls Try.prog 10 #[.pointer (some ⟨m, 0, none⟩), opVal vd k f u o] w (MOpPost w m F (stepOp S o)) := by
  have hres : stepOp S o = onFile S o.name.data.toList (appendK o.data) := by unfold stepOp; simp only [hk]; rfl
  obtain ⟨a, c, rfl, _, _⟩ := hop.data.shape
  obtain ⟨ak, ck, rfl, _, _⟩ := hop.plan.keep.shape
  obtain ⟨af, cf, rfl, _, _⟩ := hop.plan.fail.shape
  obtain ⟨au, cu, rfl, _, _⟩ := hop.plan.full.shape
  obtain ⟨W0, hW0⟩ : ∃ W0, w.alloc (.cells #[.int .i64 (1 : Int), .string o.name, .string o.target, .int .i64 o.pos, .int .i64 o.long, .slice a o.data.length c, .int .i64 o.plan.crash, .slice ak o.plan.keep.length ck, .slice af o.plan.fail.length cf, .slice au o.plan.full.length cu, .int .i64 o.plan.room] 35) = W0 := ⟨_, rfl⟩
  have o0 : Old w W0 := by rw [← hW0]; exact (Fr.refl _ _).alloc _
  have bA : Blk W0.heap w.heap.size #[.int .i64 (1 : Int), .string o.name, .string o.target, .int .i64 o.pos, .int .i64 o.long, .slice a o.data.length c, .int .i64 o.plan.crash, .slice ak o.plan.keep.length ck, .slice af o.plan.fail.length cf, .slice au o.plan.full.length cu, .int .i64 o.plan.room] 35 := by rw [← hW0]; exact blk_new w _ 35
  have H1 := Lib.hid (h.fr o0 fun _ _ f => f)
  have HO0 := Lib.hid o0
  have HGG := Lib.hid (And.intro hG hGs)
  have HDA := Lib.hid (hop.data.fr o0 fun _ _ f => f)
  have HPL := Lib.hid (hop.plan.fr o0 fun _ _ f => f)
  have hdl := ok.data
  have HRES := Lib.hid hres
  obtain ⟨a1, _⟩ := bA.rules
  have hcall := mappend28 H1.out wf hK o.name G _ o.data HDA.out HGG.out.1 (by have := ok.data; unfold maxLen; omega)
  clear h o0 bA hG hGs hop hres
  show Calls Try.prog 10 #[.pointer (some ⟨m, 0, none⟩), .agg #[.int .i64 o.kind, .string o.name, .string o.target, .int .i64 o.pos, .int .i64 o.long, .slice a o.data.length c, .int .i64 o.plan.crash, .slice ak o.plan.keep.length ck, .slice af o.plan.fail.length cf, .slice au o.plan.full.length cu, .int .i64 o.plan.room]] w _
  rw [hk]
  clear hk
  go_enter Try.func10, Try.ntmps10
  go_wp2_with (go_at_call 28; refine hcall.mono ?_; rintro e w2 ⟨rfl, r', F', hd2, hs2⟩
               have H2 := Lib.hid hd2
               have HS2 := Lib.hid hs2
               clear hd2 hs2)
  go_ret
  rw [HRES.out]
  exact ⟨rfl, _, _, H2.out, (⟨Old.fr HO0.out, fun _ h => .inl h⟩ : Step F F w W0).trans HS2.out⟩

set_option maxHeartbeats 4000000 in
set_option maxRecDepth 100000 in
theorem model10k2 (h : IsModel w.heap m S r F) {K : Nat} (wf : Wf S K) (hK : K < 1000000) (o : Opn) (ok : OpOk o) (hk : o.kind = 2) (G : Nat → Prop) (vd k f u : Value) (hop : IsOp w.heap G vd k f u o) (hG : ∀ x, G x → F x → False) (hGs : ∀ x, G x → x < w.heap.size) :
    Calls Try.prog 10 #[.pointer (some ⟨m, 0, none⟩), opVal vd k f u o] w (MOpPost w m F (stepOp S o)) := by
  have hres : stepOp S o = onFile S o.name.data.toList (writeK o.pos o.data) := by unfold stepOp; simp only [hk]; rfl
  obtain ⟨a, c, rfl, _, _⟩ := hop.data.shape
  obtain ⟨ak, ck, rfl, _, _⟩ := hop.plan.keep.shape
  obtain ⟨af, cf, rfl, _, _⟩ := hop.plan.fail.shape
  obtain ⟨au, cu, rfl, _, _⟩ := hop.plan.full.shape
  obtain ⟨W0, hW0⟩ : ∃ W0, w.alloc (.cells #[.int .i64 (2 : Int), .string o.name, .string o.target, .int .i64 o.pos, .int .i64 o.long, .slice a o.data.length c, .int .i64 o.plan.crash, .slice ak o.plan.keep.length ck, .slice af o.plan.fail.length cf, .slice au o.plan.full.length cu, .int .i64 o.plan.room] 35) = W0 := ⟨_, rfl⟩
  have o0 : Old w W0 := by rw [← hW0]; exact (Fr.refl _ _).alloc _
  have bA : Blk W0.heap w.heap.size #[.int .i64 (2 : Int), .string o.name, .string o.target, .int .i64 o.pos, .int .i64 o.long, .slice a o.data.length c, .int .i64 o.plan.crash, .slice ak o.plan.keep.length ck, .slice af o.plan.fail.length cf, .slice au o.plan.full.length cu, .int .i64 o.plan.room] 35 := by rw [← hW0]; exact blk_new w _ 35
  have H1 := Lib.hid (h.fr o0 fun _ _ f => f)
  have HO0 := Lib.hid o0
  have HGG := Lib.hid (And.intro hG hGs)
  have HDA := Lib.hid (hop.data.fr o0 fun _ _ f => f)
  have HPL := Lib.hid (hop.plan.fr o0 fun _ _ f => f)
  have hdl := ok.data
  have HRES := Lib.hid hres
  obtain ⟨a1, _⟩ := bA.rules
  have hcall := mwriteAt29 H1.out wf hK o.name o.pos ok.pos G _ o.data HDA.out HGG.out.1 (by have := ok.data; unfold maxLen; omega)
  clear h o0 bA hG hGs hop hres
  show Calls Try.prog 10 #[.pointer (some ⟨m, 0, none⟩), .agg #[.int .i64 o.kind, .string o.name, .string o.target, .int .i64 o.pos, .int .i64 o.long, .slice a o.data.length c, .int .i64 o.plan.crash, .slice ak o.plan.keep.length ck, .slice af o.plan.fail.length cf, .slice au o.plan.full.length cu, .int .i64 o.plan.room]] w _
  rw [hk]
  clear hk
  go_enter Try.func10, Try.ntmps10
  go_wp2_with (go_at_call 29; refine hcall.mono ?_; rintro e w2 ⟨rfl, r', F', hd2, hs2⟩
               have H2 := Lib.hid hd2
               have HS2 := Lib.hid hs2
               clear hd2 hs2)
  go_ret
  rw [HRES.out]
  exact ⟨rfl, _, _, H2.out, (⟨Old.fr HO0.out, fun _ h => .inl h⟩ : Step F F w W0).trans HS2.out⟩

set_option maxHeartbeats 4000000 in
set_option maxRecDepth 100000 in
theorem model10k3 (h : IsModel w.heap m S r F) {K : Nat} (wf : Wf S K) (hK : K < 1000000) (o : Opn) (ok : OpOk o) (hk : o.kind = 3) (G : Nat → Prop) (vd k f u : Value) (hop : IsOp w.heap G vd k f u o) (hG : ∀ x, G x → F x → False) (hGs : ∀ x, G x → x < w.heap.size) :
    Calls Try.prog 10 #[.pointer (some ⟨m, 0, none⟩), opVal vd k f u o] w (MOpPost w m F (stepOp S o)) := by
  have hres : stepOp S o = onFile S o.name.data.toList (truncK o.long) := by unfold stepOp; simp only [hk]; rfl
  obtain ⟨a, c, rfl, _, _⟩ := hop.data.shape
  obtain ⟨ak, ck, rfl, _, _⟩ := hop.plan.keep.shape
  obtain ⟨af, cf, rfl, _, _⟩ := hop.plan.fail.shape
  obtain ⟨au, cu, rfl, _, _⟩ := hop.plan.full.shape
  obtain ⟨W0, hW0⟩ : ∃ W0, w.alloc (.cells #[.int .i64 (3 : Int), .string o.name, .string o.target, .int .i64 o.pos, .int .i64 o.long, .slice a o.data.length c, .int .i64 o.plan.crash, .slice ak o.plan.keep.length ck, .slice af o.plan.fail.length cf, .slice au o.plan.full.length cu, .int .i64 o.plan.room] 35) = W0 := ⟨_, rfl⟩
  have o0 : Old w W0 := by rw [← hW0]; exact (Fr.refl _ _).alloc _
  have bA : Blk W0.heap w.heap.size #[.int .i64 (3 : Int), .string o.name, .string o.target, .int .i64 o.pos, .int .i64 o.long, .slice a o.data.length c, .int .i64 o.plan.crash, .slice ak o.plan.keep.length ck, .slice af o.plan.fail.length cf, .slice au o.plan.full.length cu, .int .i64 o.plan.room] 35 := by rw [← hW0]; exact blk_new w _ 35
  have H1 := Lib.hid (h.fr o0 fun _ _ f => f)
  have HO0 := Lib.hid o0
  have HGG := Lib.hid (And.intro hG hGs)
  have HDA := Lib.hid (hop.data.fr o0 fun _ _ f => f)
  have HPL := Lib.hid (hop.plan.fr o0 fun _ _ f => f)
  have hdl := ok.data
  have HRES := Lib.hid hres
  obtain ⟨a1, _⟩ := bA.rules
  have hcall := mtruncate30 H1.out wf hK o.name o.long
  clear h o0 bA hG hGs hop hres
  show Calls Try.prog 10 #[.pointer (some ⟨m, 0, none⟩), .agg #[.int .i64 o.kind, .string o.name, .string o.target, .int .i64 o.pos, .int .i64 o.long, .slice a o.data.length c, .int .i64 o.plan.crash, .slice ak o.plan.keep.length ck, .slice af o.plan.fail.length cf, .slice au o.plan.full.length cu, .int .i64 o.plan.room]] w _
  rw [hk]
  clear hk
  go_enter Try.func10, Try.ntmps10
  go_wp2_with (go_at_call 30; refine hcall.mono ?_; rintro e w2 ⟨rfl, r', F', hd2, hs2⟩
               have H2 := Lib.hid hd2
               have HS2 := Lib.hid hs2
               clear hd2 hs2)
  go_ret
  rw [HRES.out]
  exact ⟨rfl, _, _, H2.out, (⟨Old.fr HO0.out, fun _ h => .inl h⟩ : Step F F w W0).trans HS2.out⟩

set_option maxHeartbeats 4000000 in
set_option maxRecDepth 100000 in
theorem model10k4 (h : IsModel w.heap m S r F) {K : Nat} (wf : Wf S K) (hK : K < 1000000) (o : Opn) (ok : OpOk o) (hk : o.kind = 4) (G : Nat → Prop) (vd k f u : Value) (hop : IsOp w.heap G vd k f u o) (hG : ∀ x, G x → F x → False) (hGs : ∀ x, G x → x < w.heap.size) :
    Calls Try.prog 10 #[.pointer (some ⟨m, 0, none⟩), opVal vd k f u o] w (MOpPost w m F (stepOp S o)) := by
  have hres : stepOp S o = onFile S o.name.data.toList syncK := by unfold stepOp; simp only [hk]; rfl
  obtain ⟨a, c, rfl, _, _⟩ := hop.data.shape
  obtain ⟨ak, ck, rfl, _, _⟩ := hop.plan.keep.shape
  obtain ⟨af, cf, rfl, _, _⟩ := hop.plan.fail.shape
  obtain ⟨au, cu, rfl, _, _⟩ := hop.plan.full.shape
  obtain ⟨W0, hW0⟩ : ∃ W0, w.alloc (.cells #[.int .i64 (4 : Int), .string o.name, .string o.target, .int .i64 o.pos, .int .i64 o.long, .slice a o.data.length c, .int .i64 o.plan.crash, .slice ak o.plan.keep.length ck, .slice af o.plan.fail.length cf, .slice au o.plan.full.length cu, .int .i64 o.plan.room] 35) = W0 := ⟨_, rfl⟩
  have o0 : Old w W0 := by rw [← hW0]; exact (Fr.refl _ _).alloc _
  have bA : Blk W0.heap w.heap.size #[.int .i64 (4 : Int), .string o.name, .string o.target, .int .i64 o.pos, .int .i64 o.long, .slice a o.data.length c, .int .i64 o.plan.crash, .slice ak o.plan.keep.length ck, .slice af o.plan.fail.length cf, .slice au o.plan.full.length cu, .int .i64 o.plan.room] 35 := by rw [← hW0]; exact blk_new w _ 35
  have H1 := Lib.hid (h.fr o0 fun _ _ f => f)
  have HO0 := Lib.hid o0
  have HGG := Lib.hid (And.intro hG hGs)
  have HDA := Lib.hid (hop.data.fr o0 fun _ _ f => f)
  have HPL := Lib.hid (hop.plan.fr o0 fun _ _ f => f)
  have hdl := ok.data
  have HRES := Lib.hid hres
  obtain ⟨a1, _⟩ := bA.rules
  have hcall := msync31 H1.out wf hK o.name
  clear h o0 bA hG hGs hop hres
  show Calls Try.prog 10 #[.pointer (some ⟨m, 0, none⟩), .agg #[.int .i64 o.kind, .string o.name, .string o.target, .int .i64 o.pos, .int .i64 o.long, .slice a o.data.length c, .int .i64 o.plan.crash, .slice ak o.plan.keep.length ck, .slice af o.plan.fail.length cf, .slice au o.plan.full.length cu, .int .i64 o.plan.room]] w _
  rw [hk]
  clear hk
  go_enter Try.func10, Try.ntmps10
  go_wp2_with (go_at_call 31; refine hcall.mono ?_; rintro e w2 ⟨rfl, r', F', hd2, hs2⟩
               have H2 := Lib.hid hd2
               have HS2 := Lib.hid hs2
               clear hd2 hs2)
  go_ret
  rw [HRES.out]
  exact ⟨rfl, _, _, H2.out, (⟨Old.fr HO0.out, fun _ h => .inl h⟩ : Step F F w W0).trans HS2.out⟩

set_option maxHeartbeats 4000000 in
set_option maxRecDepth 100000 in
theorem model10k5 (h : IsModel w.heap m S r F) {K : Nat} (wf : Wf S K) (hK : K < 1000000) (o : Opn) (ok : OpOk o) (hk : o.kind = 5) (G : Nat → Prop) (vd k f u : Value) (hop : IsOp w.heap G vd k f u o) (hG : ∀ x, G x → F x → False) (hGs : ∀ x, G x → x < w.heap.size) :
    Calls Try.prog 10 #[.pointer (some ⟨m, 0, none⟩), opVal vd k f u o] w (MOpPost w m F (stepOp S o)) := by
  have hres : stepOp S o = onFile S o.name.data.toList (renameK o.target.data.toList) := by unfold stepOp; simp only [hk]; rfl
  obtain ⟨a, c, rfl, _, _⟩ := hop.data.shape
  obtain ⟨ak, ck, rfl, _, _⟩ := hop.plan.keep.shape
  obtain ⟨af, cf, rfl, _, _⟩ := hop.plan.fail.shape
  obtain ⟨au, cu, rfl, _, _⟩ := hop.plan.full.shape
  obtain ⟨W0, hW0⟩ : ∃ W0, w.alloc (.cells #[.int .i64 (5 : Int), .string o.name, .string o.target, .int .i64 o.pos, .int .i64 o.long, .slice a o.data.length c, .int .i64 o.plan.crash, .slice ak o.plan.keep.length ck, .slice af o.plan.fail.length cf, .slice au o.plan.full.length cu, .int .i64 o.plan.room] 35) = W0 := ⟨_, rfl⟩
  have o0 : Old w W0 := by rw [← hW0]; exact (Fr.refl _ _).alloc _
  have bA : Blk W0.heap w.heap.size #[.int .i64 (5 : Int), .string o.name, .string o.target, .int .i64 o.pos, .int .i64 o.long, .slice a o.data.length c, .int .i64 o.plan.crash, .slice ak o.plan.keep.length ck, .slice af o.plan.fail.length cf, .slice au o.plan.full.length cu, .int .i64 o.plan.room] 35 := by rw [← hW0]; exact blk_new w _ 35
  have H1 := Lib.hid (h.fr o0 fun _ _ f => f)
  have HO0 := Lib.hid o0
  have HGG := Lib.hid (And.intro hG hGs)
  have HDA := Lib.hid (hop.data.fr o0 fun _ _ f => f)
  have HPL := Lib.hid (hop.plan.fr o0 fun _ _ f => f)
  have hdl := ok.data
  have HRES := Lib.hid hres
  obtain ⟨a1, _⟩ := bA.rules
  have hcall := mrename32 H1.out wf hK o.name o.target ok.target
  clear h o0 bA hG hGs hop hres
  show Calls Try.prog 10 #[.pointer (some ⟨m, 0, none⟩), .agg #[.int .i64 o.kind, .string o.name, .string o.target, .int .i64 o.pos, .int .i64 o.long, .slice a o.data.length c, .int .i64 o.plan.crash, .slice ak o.plan.keep.length ck, .slice af o.plan.fail.length cf, .slice au o.plan.full.length cu, .int .i64 o.plan.room]] w _
  rw [hk]
  clear hk
  go_enter Try.func10, Try.ntmps10
  go_wp2_with (go_at_call 32; refine hcall.mono ?_; rintro e w2 ⟨rfl, r', F', hd2, hs2⟩
               have H2 := Lib.hid hd2
               have HS2 := Lib.hid hs2
               clear hd2 hs2)
  go_ret
  rw [HRES.out]
  exact ⟨rfl, _, _, H2.out, (⟨Old.fr HO0.out, fun _ h => .inl h⟩ : Step F F w W0).trans HS2.out⟩

set_option maxHeartbeats 4000000 in
set_option maxRecDepth 100000 in
theorem model10k6 (h : IsModel w.heap m S r F) {K : Nat} (wf : Wf S K) (hK : K < 1000000) (o : Opn) (ok : OpOk o) (hk : o.kind = 6) (G : Nat → Prop) (vd k f u : Value) (hop : IsOp w.heap G vd k f u o) (hG : ∀ x, G x → F x → False) (hGs : ∀ x, G x → x < w.heap.size) :
    Calls Try.prog 10 #[.pointer (some ⟨m, 0, none⟩), opVal vd k f u o] w (MOpPost w m F (stepOp S o)) := by
  have hres : stepOp S o = onFile S o.name.data.toList removeK := by unfold stepOp; simp only [hk]; rfl
  obtain ⟨a, c, rfl, _, _⟩ := hop.data.shape
  obtain ⟨ak, ck, rfl, _, _⟩ := hop.plan.keep.shape
  obtain ⟨af, cf, rfl, _, _⟩ := hop.plan.fail.shape
  obtain ⟨au, cu, rfl, _, _⟩ := hop.plan.full.shape
  obtain ⟨W0, hW0⟩ : ∃ W0, w.alloc (.cells #[.int .i64 (6 : Int), .string o.name, .string o.target, .int .i64 o.pos, .int .i64 o.long, .slice a o.data.length c, .int .i64 o.plan.crash, .slice ak o.plan.keep.length ck, .slice af o.plan.fail.length cf, .slice au o.plan.full.length cu, .int .i64 o.plan.room] 35) = W0 := ⟨_, rfl⟩
  have o0 : Old w W0 := by rw [← hW0]; exact (Fr.refl _ _).alloc _
  have bA : Blk W0.heap w.heap.size #[.int .i64 (6 : Int), .string o.name, .string o.target, .int .i64 o.pos, .int .i64 o.long, .slice a o.data.length c, .int .i64 o.plan.crash, .slice ak o.plan.keep.length ck, .slice af o.plan.fail.length cf, .slice au o.plan.full.length cu, .int .i64 o.plan.room] 35 := by rw [← hW0]; exact blk_new w _ 35
  have H1 := Lib.hid (h.fr o0 fun _ _ f => f)
  have HO0 := Lib.hid o0
  have HGG := Lib.hid (And.intro hG hGs)
  have HDA := Lib.hid (hop.data.fr o0 fun _ _ f => f)
  have HPL := Lib.hid (hop.plan.fr o0 fun _ _ f => f)
  have hdl := ok.data
  have HRES := Lib.hid hres
  obtain ⟨a1, _⟩ := bA.rules
  have hcall := mremove33 H1.out wf hK o.name
  clear h o0 bA hG hGs hop hres
  show Calls Try.prog 10 #[.pointer (some ⟨m, 0, none⟩), .agg #[.int .i64 o.kind, .string o.name, .string o.target, .int .i64 o.pos, .int .i64 o.long, .slice a o.data.length c, .int .i64 o.plan.crash, .slice ak o.plan.keep.length ck, .slice af o.plan.fail.length cf, .slice au o.plan.full.length cu, .int .i64 o.plan.room]] w _
  rw [hk]
  clear hk
  go_enter Try.func10, Try.ntmps10
  go_wp2_with (go_at_call 33; refine hcall.mono ?_; rintro e w2 ⟨rfl, r', F', hd2, hs2⟩
               have H2 := Lib.hid hd2
               have HS2 := Lib.hid hs2
               clear hd2 hs2)
  go_ret
  rw [HRES.out]
  exact ⟨rfl, _, _, H2.out, (⟨Old.fr HO0.out, fun _ h => .inl h⟩ : Step F F w W0).trans HS2.out⟩

set_option maxHeartbeats 4000000 in
set_option maxRecDepth 100000 in
theorem model10k7 (h : IsModel w.heap m S r F) {K : Nat} (wf : Wf S K) (hK : K < 1000000) (o : Opn) (ok : OpOk o) (hk : o.kind = 7) (G : Nat → Prop) (vd k f u : Value) (hop : IsOp w.heap G vd k f u o) (hG : ∀ x, G x → F x → False) (hGs : ∀ x, G x → x < w.heap.size) :
    Calls Try.prog 10 #[.pointer (some ⟨m, 0, none⟩), opVal vd k f u o] w (MOpPost w m F (stepOp S o)) := by
  have hres : stepOp S o = (0, start S o.plan) := by unfold stepOp; simp only [hk]; rfl
  obtain ⟨a, c, rfl, _, _⟩ := hop.data.shape
  obtain ⟨ak, ck, rfl, _, _⟩ := hop.plan.keep.shape
  obtain ⟨af, cf, rfl, _, _⟩ := hop.plan.fail.shape
  obtain ⟨au, cu, rfl, _, _⟩ := hop.plan.full.shape
  obtain ⟨W0, hW0⟩ : ∃ W0, w.alloc (.cells #[.int .i64 (7 : Int), .string o.name, .string o.target, .int .i64 o.pos, .int .i64 o.long, .slice a o.data.length c, .int .i64 o.plan.crash, .slice ak o.plan.keep.length ck, .slice af o.plan.fail.length cf, .slice au o.plan.full.length cu, .int .i64 o.plan.room] 35) = W0 := ⟨_, rfl⟩
  have o0 : Old w W0 := by rw [← hW0]; exact (Fr.refl _ _).alloc _
  have bA : Blk W0.heap w.heap.size #[.int .i64 (7 : Int), .string o.name, .string o.target, .int .i64 o.pos, .int .i64 o.long, .slice a o.data.length c, .int .i64 o.plan.crash, .slice ak o.plan.keep.length ck, .slice af o.plan.fail.length cf, .slice au o.plan.full.length cu, .int .i64 o.plan.room] 35 := by rw [← hW0]; exact blk_new w _ 35
  have H1 := Lib.hid (h.fr o0 fun _ _ f => f)
  have HO0 := Lib.hid o0
  have HGG := Lib.hid (And.intro hG hGs)
  have HDA := Lib.hid (hop.data.fr o0 fun _ _ f => f)
  have HPL := Lib.hid (hop.plan.fr o0 fun _ _ f => f)
  have hdl := ok.data
  have HRES := Lib.hid hres
  obtain ⟨a1, _⟩ := bA.rules
  have hcall := mstart34 H1.out wf hK o.plan ok.plan G _ _ _ HPL.out HGG.out.1 (fun b hb => Nat.lt_of_lt_of_le (HGG.out.2 b hb) HO0.out.size)
  clear h o0 bA hG hGs hop hres
  show Calls Try.prog 10 #[.pointer (some ⟨m, 0, none⟩), .agg #[.int .i64 o.kind, .string o.name, .string o.target, .int .i64 o.pos, .int .i64 o.long, .slice a o.data.length c, .int .i64 o.plan.crash, .slice ak o.plan.keep.length ck, .slice af o.plan.fail.length cf, .slice au o.plan.full.length cu, .int .i64 o.plan.room]] w _
  rw [hk]
  clear hk
  go_enter Try.func10, Try.ntmps10
  go_wp2_with (go_at_call 34; refine hcall.mono ?_; rintro e w2 ⟨rfl, r', F', hd2, hs2⟩
               have H2 := Lib.hid hd2
               have HS2 := Lib.hid hs2
               clear hd2 hs2)
  go_ret
  rw [HRES.out]
  exact ⟨rfl, _, _, H2.out, (⟨Old.fr HO0.out, fun _ h => .inl h⟩ : Step F F w W0).trans HS2.out⟩

set_option maxHeartbeats 4000000 in
set_option maxRecDepth 100000 in
theorem model10k8 (h : IsModel w.heap m S r F) {K : Nat} (wf : Wf S K) (hK : K < 1000000) (o : Opn) (ok : OpOk o) (hk : ∀ i : Int, 0 ≤ i → i ≤ 7 → o.kind ≠ i) (G : Nat → Prop) (vd k f u : Value) (hop : IsOp w.heap G vd k f u o) (hG : ∀ x, G x → F x → False) (hGs : ∀ x, G x → x < w.heap.size) :
    Calls Try.prog 10 #[.pointer (some ⟨m, 0, none⟩), opVal vd k f u o] w (MOpPost w m F (stepOp S o)) := by
  have hres : stepOp S o = ((readF S o.name.data.toList o.pos o.long).2, S) := by unfold stepOp; rw [if_neg (hk 0 (by omega) (by omega)), if_neg (hk 1 (by omega) (by omega)), if_neg (hk 2 (by omega) (by omega)), if_neg (hk 3 (by omega) (by omega)), if_neg (hk 4 (by omega) (by omega)), if_neg (hk 5 (by omega) (by omega)), if_neg (hk 6 (by omega) (by omega)), if_neg (hk 7 (by omega) (by omega))]
  obtain ⟨a, c, rfl, _, _⟩ := hop.data.shape
  obtain ⟨ak, ck, rfl, _, _⟩ := hop.plan.keep.shape
  obtain ⟨af, cf, rfl, _, _⟩ := hop.plan.fail.shape
  obtain ⟨au, cu, rfl, _, _⟩ := hop.plan.full.shape
  obtain ⟨W0, hW0⟩ : ∃ W0, w.alloc (.cells #[.int .i64 o.kind, .string o.name, .string o.target, .int .i64 o.pos, .int .i64 o.long, .slice a o.data.length c, .int .i64 o.plan.crash, .slice ak o.plan.keep.length ck, .slice af o.plan.fail.length cf, .slice au o.plan.full.length cu, .int .i64 o.plan.room] 35) = W0 := ⟨_, rfl⟩
  have o0 : Old w W0 := by rw [← hW0]; exact (Fr.refl _ _).alloc _
  have bA : Blk W0.heap w.heap.size #[.int .i64 o.kind, .string o.name, .string o.target, .int .i64 o.pos, .int .i64 o.long, .slice a o.data.length c, .int .i64 o.plan.crash, .slice ak o.plan.keep.length ck, .slice af o.plan.fail.length cf, .slice au o.plan.full.length cu, .int .i64 o.plan.room] 35 := by rw [← hW0]; exact blk_new w _ 35
  have H1 := Lib.hid (h.fr o0 fun _ _ f => f)
  have HO0 := Lib.hid o0
  have HGG := Lib.hid (And.intro hG hGs)
  have HDA := Lib.hid (hop.data.fr o0 fun _ _ f => f)
  have HPL := Lib.hid (hop.plan.fr o0 fun _ _ f => f)
  have hdl := ok.data
  have HRES := Lib.hid hres
  obtain ⟨a1, _⟩ := bA.rules
  have q0 : (o.kind == 0) = false := by simpa using hk 0 (by omega) (by omega)
  have q1 : (o.kind == 1) = false := by simpa using hk 1 (by omega) (by omega)
  have q2 : (o.kind == 2) = false := by simpa using hk 2 (by omega) (by omega)
  have q3 : (o.kind == 3) = false := by simpa using hk 3 (by omega) (by omega)
  have q4 : (o.kind == 4) = false := by simpa using hk 4 (by omega) (by omega)
  have q5 : (o.kind == 5) = false := by simpa using hk 5 (by omega) (by omega)
  have q6 : (o.kind == 6) = false := by simpa using hk 6 (by omega) (by omega)
  have q7 : (o.kind == 7) = false := by simpa using hk 7 (by omega) (by omega)
  clear hk
  have hcall := mread13 H1.out wf (by omega) o.name o.pos o.long ok.pos ok.long
  clear h o0 bA hG hGs hop hres
  show Calls Try.prog 10 #[.pointer (some ⟨m, 0, none⟩), .agg #[.int .i64 o.kind, .string o.name, .string o.target, .int .i64 o.pos, .int .i64 o.long, .slice a o.data.length c, .int .i64 o.plan.crash, .slice ak o.plan.keep.length ck, .slice af o.plan.fail.length cf, .slice au o.plan.full.length cu, .int .i64 o.plan.room]] w _
  go_enter Try.func10, Try.ntmps10
  go_wp2_with (go_at_call 13; refine hcall.mono ?_; rintro e w2 ⟨v2, rfl, _, ho2⟩
               have H2 := Lib.hid (H1.out.fr ho2 fun _ _ f => f)
               have HS2 := Lib.hid (⟨Old.fr ho2, fun _ h => .inl h⟩ : Step F F W0 w2)
               clear ho2)
  go_ret
  rw [HRES.out]
  exact ⟨rfl, _, _, H2.out, (⟨Old.fr HO0.out, fun _ h => .inl h⟩ : Step F F w W0).trans HS2.out⟩

/-- MODEL: an operation of the document's disk. -/
theorem model10 (h : IsModel w.heap m S r F) {K : Nat} (wf : Wf S K) (hK : K < 1000000) (o : Opn) (ok : OpOk o) (G : Nat → Prop) (vd k f u : Value) (hop : IsOp w.heap G vd k f u o) (hG : ∀ x, G x → F x → False) (hGs : ∀ x, G x → x < w.heap.size) :
    Calls Try.prog 10 #[.pointer (some ⟨m, 0, none⟩), opVal vd k f u o] w (MOpPost w m F (stepOp S o)) := by
  by_cases k0 : o.kind = 0
  · exact model10k0 h wf hK o ok k0 G vd k f u hop hG hGs
  by_cases k1 : o.kind = 1
  · exact model10k1 h wf hK o ok k1 G vd k f u hop hG hGs
  by_cases k2 : o.kind = 2
  · exact model10k2 h wf hK o ok k2 G vd k f u hop hG hGs
  by_cases k3 : o.kind = 3
  · exact model10k3 h wf hK o ok k3 G vd k f u hop hG hGs
  by_cases k4 : o.kind = 4
  · exact model10k4 h wf hK o ok k4 G vd k f u hop hG hGs
  by_cases k5 : o.kind = 5
  · exact model10k5 h wf hK o ok k5 G vd k f u hop hG hGs
  by_cases k6 : o.kind = 6
  · exact model10k6 h wf hK o ok k6 G vd k f u hop hG hGs
  by_cases k7 : o.kind = 7
  · exact model10k7 h wf hK o ok k7 G vd k f u hop hG hGs
  exact model10k8 h wf hK o ok (fun i h1 h2 e => by rcases (by omega : i = 0 ∨ i = 1 ∨ i = 2 ∨ i = 3 ∨ i = 4 ∨ i = 5 ∨ i = 6 ∨ i = 7) with rfl | rfl | rfl | rfl | rfl | rfl | rfl | rfl <;> contradiction) G vd k f u hop hG hGs
end
end Go.Proofs.Ytpdflncgemcniaa
namespace Go.Proofs.Ytpdflncgemcniaa
open Go.RowKit

/-- An operation and the values that lead to its lists. -/
structure OP where
  o : Opn
  vd : Value
  k : Value
  f : Value
  u : Value

def opl (p : OP) : List Value := [.int .i64 p.o.kind, .string p.o.name, .string p.o.target, .int .i64 p.o.pos, .int .i64 p.o.long, p.vd, .int .i64 p.o.plan.crash, p.k, p.f, p.u, .int .i64 p.o.plan.room]

/-- Operations as they lie: a slice of them. -/
structure IsOps (h : Array Obj) (G : Nat → Prop) (v : Value) (ps : List OP) : Prop where
  row : ((∃ a c, v = .slice a 0 c) ∧ ps = []) ∨ ∃ b o c, v = .slice (some ⟨b, o, none⟩) ps.length c ∧ ps.length ≤ c ∧ G b ∧ ∀ i p, ps[i]? = some p → ∀ j, j < 11 → cel h b (o + i * 11 + j) = (opl p)[j]?
  each : ∀ p ∈ ps, IsOp h G p.vd p.k p.f p.u p.o

theorem IsOp.fr {w w' : World} {F G : Nat → Prop} {vd k f u : Value} {o : Opn} (s : IsOp w.heap G vd k f u o) (hf : Fr F w w') (hG : ∀ x, G x → F x → False) : IsOp w'.heap G vd k f u o := ⟨s.data.fr hf hG, s.plan.fr hf hG⟩

theorem IsOps.fr {w w' : World} {F G : Nat → Prop} {v : Value} {ps : List OP} (s : IsOps w.heap G v ps) (hf : Fr F w w') (hG : ∀ x, G x → F x → False) : IsOps w'.heap G v ps := by
  refine ⟨?_, fun p hp => (s.each p hp).fr hf hG⟩
  rcases s.row with h | ⟨b, o, c, e, hc, hb, hx⟩
  · exact .inl h
  · refine .inr ⟨b, o, c, e, hc, hb, fun i p hi j hj => ?_⟩
    have h1 := hx i p hi j hj
    obtain ⟨y, hy⟩ : ∃ y, (opl p)[j]? = some y := ⟨_, List.getElem?_eq_getElem (by simp [opl]; exact hj)⟩
    rw [hy] at h1 ⊢
    exact (cel_eq (hf.block b (cel_lt h1) (fun f => hG b hb f))).trans h1

theorem IsOps.shape {h : Array Obj} {G : Nat → Prop} {v : Value} {ps : List OP} (s : IsOps h G v ps) : ∃ a c, v = .slice a ps.length c ∧ ps.length ≤ c := by
  rcases s.row with ⟨⟨a, c, rfl⟩, rfl⟩ | ⟨b, o, c, rfl, hc, _⟩
  · exact ⟨a, c, rfl, Nat.zero_le _⟩
  · exact ⟨_, c, rfl, hc⟩

/-- The k-th operation's eleven cells. -/
theorem IsOps.at {w : World} {G : Nat → Prop} {v : Value} {ps : List OP} (s : IsOps w.heap G v ps) {a : Option Addr} {n c : Nat} (hv : v = .slice a n c) {k : Nat} {p : OP} (hk : ps[k]? = some p) :
    ∃ b o, a = some ⟨b, o, none⟩ ∧ G b ∧ (w.cell? ⟨b, o + k * 11, none⟩ = some (.int .i64 p.o.kind) ∧ w.cell? ⟨b, o + k * 11 + 1, none⟩ = some (.string p.o.name) ∧ w.cell? ⟨b, o + k * 11 + 2, none⟩ = some (.string p.o.target) ∧
      w.cell? ⟨b, o + k * 11 + 3, none⟩ = some (.int .i64 p.o.pos) ∧ w.cell? ⟨b, o + k * 11 + 4, none⟩ = some (.int .i64 p.o.long) ∧ w.cell? ⟨b, o + k * 11 + 5, none⟩ = some p.vd ∧ w.cell? ⟨b, o + k * 11 + 6, none⟩ = some (.int .i64 p.o.plan.crash) ∧
      w.cell? ⟨b, o + k * 11 + 7, none⟩ = some p.k ∧ w.cell? ⟨b, o + k * 11 + 8, none⟩ = some p.f ∧ w.cell? ⟨b, o + k * 11 + 9, none⟩ = some p.u ∧ w.cell? ⟨b, o + k * 11 + 10, none⟩ = some (.int .i64 p.o.plan.room)) := by
  rcases s.row with ⟨_, rfl⟩ | ⟨b, o, c', e, hc, hb, hx⟩
  · simp at hk
  · rw [hv] at e
    cases e
    have h := fun j hj => hx k p hk j hj
    exact ⟨b, o, rfl, hb, by rw [cell_cel]; exact h 0 (by omega), by rw [cell_cel]; exact h 1 (by omega), by rw [cell_cel]; exact h 2 (by omega), by rw [cell_cel]; exact h 3 (by omega), by rw [cell_cel]; exact h 4 (by omega), by rw [cell_cel]; exact h 5 (by omega),
      by rw [cell_cel]; exact h 6 (by omega), by rw [cell_cel]; exact h 7 (by omega), by rw [cell_cel]; exact h 8 (by omega), by rw [cell_cel]; exact h 9 (by omega), by rw [cell_cel]; exact h 10 (by omega)⟩

/-- What few lets in. -/
def small (o : Opn) : Prop := o.data.length ≤ 20000 ∧ o.plan.keep.length ≤ 20000 ∧ o.plan.fail.length ≤ 20000 ∧ o.plan.full.length ≤ 20000

def FewPost (w : World) (ps : List OP) (e : Ending) (w' : World) : Prop := ∃ b, e = .returned (.bool b) ∧ (b = true → ps.length ≤ 60 ∧ ∀ p ∈ ps, small p.o) ∧ Old w w'

theorem FewPost.no {w w' : World} {ps : List OP} (o : Old w w') : FewPost w ps (.returned (.bool false)) w' := ⟨false, rfl, by simp, o⟩

theorem small_snoc {ps : List OP} {k : Nat} {p : OP} (h : ∀ p ∈ ps.take k, small p.o) (hk : ps[k]? = some p) (hp : small p.o) : ∀ p ∈ ps.take (k + 1), small p.o := by
  obtain ⟨h1, rfl⟩ := List.getElem?_eq_some_iff.1 hk
  rw [List.take_succ_eq_append_getElem h1]
  intro q hq
  rcases List.mem_append.1 hq with hq | hq
  · exact h q hq
  · simp at hq; subst hq; exact hp

set_option maxHeartbeats 4000000 in
set_option maxRecDepth 100000 in
theorem few5 (w : World) (G : Nat → Prop) (v : Value) (ps : List OP) (h : IsOps w.heap G v ps) (hl : ps.length ≤ 1000000000000) (hd : ∀ p ∈ ps, p.o.data.length ≤ 140737488355328 ∧ p.o.plan.keep.length ≤ 140737488355328 ∧ p.o.plan.fail.length ≤ 140737488355328 ∧ p.o.plan.full.length ≤ 140737488355328)
    (hi : ∀ p ∈ ps, -9223372036854775808 ≤ p.o.pos ∧ p.o.pos < 9223372036854775808 ∧ -9223372036854775808 ≤ p.o.long ∧ p.o.long < 9223372036854775808) :
    Calls Try.prog 5 #[v] w (FewPost w ps) := by
  obtain ⟨a, c, rfl, hc⟩ := h.shape
  have H := Lib.hid h
  have HD := Lib.hid hd
  have HI := Lib.hid hi
  clear h hd hi
  go_enter Try.func5, Try.ntmps5
  go_wp2
  go_loopw [8, 3] (fun i n wr => ∃ (k : Nat) (z : Int), i = .int .i64 k ∧ k ≤ ps.length ∧ n = .int .i64 z ∧ 0 ≤ z ∧ z ≤ 20000 ∧ (∀ p ∈ ps.take k, small p.o) ∧ Old w wr) (fun i _ _ => ps.length - (intOf i).toNat)
  case atStart => exact ⟨0, 0, rfl, Nat.zero_le _, rfl, by omega, by omega, by simp, Fr.refl _ _⟩
  case round =>
    obtain ⟨k, z, rfl, hk, rfl, hz1, hz2, hsm, ho⟩ := hrel
    by_cases hlt : k < ps.length
    · obtain ⟨p, hp⟩ : ∃ p, ps[k]? = some p := ⟨_, List.getElem?_eq_getElem hlt⟩
      have hmem := List.mem_of_getElem? hp
      obtain ⟨b, o, rfl, hb, c0, c1, c2, c3, c4, c5, c6, c7, c8, c9, c10⟩ := (H.out.fr ho fun _ _ f => f).at rfl hp
      have hop := H.out.each p hmem
      obtain ⟨d1, d2, d3, d4⟩ := HD.out p hmem
      obtain ⟨i1, i2, i3, i4⟩ := HI.out p hmem
      obtain ⟨xa, xc, ed, _, _⟩ := hop.data.shape
      obtain ⟨xk, xkc, ek, _, _⟩ := hop.plan.keep.shape
      obtain ⟨xf, xfc, ef, _, _⟩ := hop.plan.fail.shape
      obtain ⟨xu, xuc, eu, _, _⟩ := hop.plan.full.shape
      rw [ed] at c5
      rw [ek] at c7
      rw [ef] at c8
      rw [eu] at c9
      have HSM := Lib.hid (fun h => small_snoc hsm hp h)
      have HO := Lib.hid ho
      clear hsm hp ho hop ed ek ef eu
      go_wp2
      all_goals first
        | (go_ret; exact FewPost.no (HO.out.alloc _))
        | exact ⟨⟨k + 1, _, by go_num, by omega, rfl, by omega, by omega, HSM.out ⟨by omega, by omega, by omega, by omega⟩, HO.out.alloc _⟩, by simp [intOf]; omega⟩
    · have hk' : k = ps.length := by omega
      subst hk'
      rw [List.take_length] at hsm
      have HSM := Lib.hid hsm
      have HO := Lib.hid ho
      clear hsm ho hk
      by_cases h60 : ps.length ≤ 60
      · go_wp2
        go_ret
        exact ⟨_, rfl, fun _ => ⟨h60, HSM.out⟩, HO.out⟩
      · go_wp2
        go_ret
        refine ⟨_, rfl, fun h => absurd h ?_, HO.out⟩
        simp
        omega
end Go.Proofs.Ytpdflncgemcniaa
