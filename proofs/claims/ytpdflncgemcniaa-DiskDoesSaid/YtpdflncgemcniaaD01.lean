/- PROVED HERE: the plain disk that both the program's and the document's are held against: lists alone, no program, no memory. PROVED HERE: the contract of slices.Sorted over maps.Keys, laid at this dump out of the kit's shelf (written by the kit's lay-iter and lay-plain). No conditions beyond the premises that each theorem names. -/
import Derived.Shelf.SlIter.Nil
import Derived.Shelf.SortM.Plain
import Derived.Shelf.SortM.SortNone
import Derived.Shelf.SlGeneric
import Derived.Ground.GgzProg
import Derived.Ground.SlgmProg
import Derived.Test.YtpdflncgemcniaaProg
namespace Go.Proofs.Ytpdflncgemcniaa

abbrev Bs := List UInt8

/-- A change of a file: bytes at a place, or a length. -/
inductive Ch where
  | write (pos : Nat) (b : Bs)
  | cut (long : Nat)

/-- A file: its name, what is safe, its changes since. -/
structure Fl where
  name : Bs
  safe : Bs
  chs : List Ch

/-- A plan. -/
structure Pl where
  crash : Int
  keep : List Int
  fail : List Int
  full : List Int
  room : Int

/-- A disk: its files in the order of their names. -/
structure Dk where
  plan : Pl
  n : Nat
  died : Bool
  files : List Fl

/-- Data made as long as that. -/
def sized (d : Bs) (n : Nat) : Bs := d.take n ++ List.replicate (n - d.length) 0

/-- Bytes laid over data from a place on. -/
def laid (d : Bs) (pos : Nat) (b : Bs) : Bs := d.take pos ++ (b ++ d.drop (pos + b.length))

def applyCh (d : Bs) : Ch → Bs
  | .write pos b => laid (sized d (max d.length (pos + b.length))) pos b
  | .cut long => sized d long

def dataOf (f : Fl) : Bs := f.chs.foldl applyCh f.safe

/-- What of a change survives a number of Keep. -/
def survivor (k : Int) : Ch → Option Ch
  | .write pos b => if k < 0 then some (.write pos b) else if k.toNat % (b.length + 1) = 0 then none else some (.write pos (b.take (k.toNat % (b.length + 1))))
  | .cut long => if k < 0 ∨ k % 2 = 1 then some (.cut long) else none

/-- The i-th number of Keep, gone round. -/
def keepAt (keep : List Int) (i : Nat) : Int := keep.getD (i % keep.length) 0

/-- How far the taking of numbers has gone behind n changes. -/
def keepOn (keep : List Int) (i n : Nat) : Nat := if keep.length = 0 then i else i + n

/-- Changes that a death meets, from the i-th number on: what is safe behind it. -/
def dieChs (keep : List Int) : Nat → List Ch → Bs → Bs
  | _, [], b => b
  | i, c :: l, b => dieChs keep (keepOn keep i 1) l (match survivor (keepAt keep i) c with | some s => applyCh b s | none => b)

def dieFiles (keep : List Int) : Nat → List Fl → List Fl
  | _, [] => []
  | i, f :: l => { name := f.name, safe := dieChs keep i f.chs f.safe, chs := [] } :: dieFiles keep (keepOn keep i f.chs.length) l

/-- Whether a number is among numbers. -/
def hasB (l : List Int) (x : Int) : Bool := l.contains x

def die (D : Dk) : Dk := { D with files := dieFiles D.plan.keep 0 D.files, died := true }

/-- What an operation answers ahead of what it names. -/
def begin (D : Dk) : Int × Dk :=
  if D.died then (10, D)
  else
    let E := { D with n := D.n + 1 }
    if (E.n : Int) = E.plan.crash then (10, die E)
    else if hasB E.plan.fail E.n then (11, E) else (0, E)

def sumData (l : List Fl) : Nat := (l.map fun f => (dataOf f).length).sum

/-- ErrFull, or nothing. -/
def roomErr (D : Dk) (had has : Nat) : Int :=
  if hasB D.plan.full D.n then 12
  else if D.plan.room ≤ 0 ∨ has ≤ had then 0
  else if ((has : Int) - had + sumData D.files) > D.plan.room then 12 else 0

def okName (s : Bs) : Bool := decide (1 ≤ s.length) && decide (s.length ≤ 32) && s.all fun c => decide (33 ≤ c.toNat) && decide (c.toNat ≤ 126) && !(c.toNat == 47)

/-- A thing in its place, behind those of lesser names. -/
def putBy {α : Type} (name : α → Bs) (f : α) : List α → List α
  | [] => [f]
  | g :: l => if name f < name g then f :: g :: l else g :: putBy name f l

theorem map_putBy {α β : Type} {na : α → Bs} {nb : β → Bs} (m : α → β) (hn : ∀ a, nb (m a) = na a) (x : α) : ∀ l : List α, (putBy na x l).map m = putBy nb (m x) (l.map m)
  | [] => rfl
  | g :: l => by
    simp only [putBy, List.map_cons, hn]
    split
    · rfl
    · rw [List.map_cons, map_putBy m hn x l]

/-- A file in its place. -/
abbrev putF (f : Fl) (l : List Fl) : List Fl := putBy Fl.name f l

/-- The file of a name. -/
def findF (s : Bs) (l : List Fl) : Option Fl := l.find? fun f => f.name == s

/-- Files with one in the place of that of its name. -/
def setF (g : Fl) (l : List Fl) : List Fl := l.map fun f => if f.name == g.name then g else f

/-- Files without one of a name. -/
def dropF (s : Bs) (l : List Fl) : List Fl := l.filter fun f => f.name != s

def create (D0 : Dk) (s : Bs) : Int × Dk :=
  let (e, D) := begin D0
  if e ≠ 0 then (e, D)
  else if ¬ okName s then (15, D)
  else if (findF s D.files).isSome then (14, D)
  else if 4096 ≤ D.files.length then (2, D)
  else
    let r := roomErr D 0 0
    if r ≠ 0 then (r, D) else (0, { D with files := putF ⟨s, [], []⟩ D.files })

/-- A change of a file, whose data become so long. -/
def change (D : Dk) (f : Fl) (c : Ch) (has : Nat) : Int × Dk :=
  let r := roomErr D (dataOf f).length has
  if r ≠ 0 then (r, D) else (0, { D with files := setF { f with chs := f.chs ++ [c] } D.files })

/-- What is done with a file of that name, if there is one. -/
def onFile (D0 : Dk) (s : Bs) (k : Dk → Fl → Int × Dk) : Int × Dk :=
  let (e, D) := begin D0
  if e ≠ 0 then (e, D)
  else match findF s D.files with
    | none => (13, D)
    | some f => k D f

def appendK (b : Bs) (D : Dk) (f : Fl) : Int × Dk :=
  if 268435456 < (dataOf f).length + b.length then (2, D) else change D f (.write (dataOf f).length b) ((dataOf f).length + b.length)

def writeK (pos : Int) (b : Bs) (D : Dk) (f : Fl) : Int × Dk :=
  if pos < 0 then (1, D) else if 268435456 < pos.toNat + b.length then (2, D) else change D f (.write pos.toNat b) (max (dataOf f).length (pos.toNat + b.length))

def truncK (long : Int) (D : Dk) (f : Fl) : Int × Dk :=
  if long < 0 then (1, D) else if 268435456 < long then (2, D) else change D f (.cut long.toNat) long.toNat

def syncK (D : Dk) (f : Fl) : Int × Dk := (0, { D with files := setF { f with safe := dataOf f, chs := [] } D.files })

def removeK (D : Dk) (f : Fl) : Int × Dk := (0, { D with files := dropF f.name D.files })

def renameK (t : Bs) (D : Dk) (f : Fl) : Int × Dk :=
  if ¬ okName t then (15, D) else (0, { D with files := putF { f with name := t } (dropF t (dropF f.name D.files)) })

def start (D : Dk) (p : Pl) : Dk :=
  { plan := p, n := 0, died := false, files := (if D.died then D else die D).files }

/-- Read: bytes, the error's number. -/
def readF (D : Dk) (s : Bs) (pos n : Int) : Bs × Int :=
  if D.died then ([], 10)
  else match findF s D.files with
    | none => ([], 13)
    | some f => if pos < 0 ∨ n < 0 ∨ ((dataOf f).length : Int) < pos ∨ ((dataOf f).length : Int) - pos < n then ([], 1) else (((dataOf f).drop pos.toNat).take n.toNat, 0)

end Go.Proofs.Ytpdflncgemcniaa
namespace Go.Proofs
open Go.RowKit Go.Maps Go.Sort Go.Shelf
def Try.keys72_ren : Go.Shelf.Ren := ⟨fun | 7 => 72 | 10 => 75 | n => n, fun | 23 => 54 | 26 => 9 | 3 => 67 | 28 => 116 | 0 => 0 | 27 => 115 | 33 => 87 | 4 => 4 | n => n, fun | n => n⟩
theorem Try.keys72 : Go.Proofs.SlLaysZ.n7 Try.prog Try.keys72_ren := {
  mixed := by kernel_rfl
  f7 := ⟨Try.f72.name, by decide, Try.func72.trans (congrArg some (by kernel_rfl))⟩
  f10 := ⟨Try.f75.name, by decide, Try.func75.trans (congrArg some (by kernel_rfl))⟩
  t0 := Try.underlying0
  a0 := Try.isAgg0
  z0 := Try.sizeOf0
  v0 := Try.zeroValue0
  t4 := Try.underlying4
  a4 := Try.isAgg4
  z4 := Try.sizeOf4
  v4 := Try.zeroValue4
  t23 := Try.underlying54
  a23 := Try.isAgg54
  z23 := Try.sizeOf54
  v23 := Try.zeroValue54
  t26 := Try.underlying9
  a26 := Try.isAgg9
  z26 := Try.sizeOf9
  v26 := Try.zeroValue9
  t27 := Try.underlying115
  a27 := Try.isAgg115
  z27 := Try.sizeOf115
  v27 := Try.zeroValue115
  t28 := Try.underlying116
  a28 := Try.isAgg116
  z28 := Try.sizeOf116
  v28 := Try.zeroValue116
  t33 := Try.underlying87
  a33 := Try.isAgg87
  z33 := Try.sizeOf87
  v33 := Try.zeroValue87 }
def Try.sorted71_ren : Go.Shelf.Ren := ⟨fun | 6 => 71 | 8 => 73 | 9 => 74 | 11 => 76 | 13 => 78 | 12 => 77 | 23 => 88 | 24 => 89 | 14 => 79 | 15 => 80 | 16 => 81 | 17 => 82 | 18 => 83 | 19 => 84 | 20 => 85 | 21 => 86 | 22 => 87 | 25 => 90 | 26 => 91 | 27 => 92 | 28 => 93 | 29 => 94 | 30 => 95 | 31 => 96 | n => n, fun | 26 => 9 | 28 => 116 | 24 => 109 | 0 => 0 | 3 => 3 | 37 => 122 | 48 => 133 | 50 => 135 | 4 => 4 | 40 => 125 | 39 => 124 | 45 => 130 | 5 => 5 | 9 => 9 | 51 => 136 | 55 => 140 | 57 => 142 | 58 => 143 | 33 => 87 | n => n, fun | n => n⟩
theorem Try.sorted71 : Go.Proofs.SlLaysZ.n6 Try.prog Try.sorted71_ren := {
  mixed := by kernel_rfl
  f6 := ⟨Try.f71.name, by decide, Try.func71.trans (congrArg some (by kernel_rfl))⟩
  f8 := ⟨Try.f73.name, by decide, Try.func73.trans (congrArg some (by kernel_rfl))⟩
  f11 := ⟨Try.f76.name, by decide, Try.func76.trans (congrArg some (by kernel_rfl))⟩
  t0 := Try.underlying0
  a0 := Try.isAgg0
  z0 := Try.sizeOf0
  v0 := Try.zeroValue0
  t24 := Try.underlying109
  a24 := Try.isAgg109
  z24 := Try.sizeOf109
  v24 := Try.zeroValue109
  t26 := Try.underlying9
  a26 := Try.isAgg9
  z26 := Try.sizeOf9
  v26 := Try.zeroValue9
  t28 := Try.underlying116
  a28 := Try.isAgg116
  z28 := Try.sizeOf116
  v28 := Try.zeroValue116
  i26 := by kernel_rfl }
def Try.sort74_ren : Go.Shelf.Ren := ⟨fun | 6 => 74 | 8 => 78 | 9 => 77 | 19 => 88 | 20 => 89 | 21 => 79 | 22 => 80 | 23 => 81 | 24 => 82 | 25 => 83 | 26 => 84 | 27 => 85 | 28 => 86 | 29 => 87 | 36 => 90 | 31 => 91 | 32 => 92 | 37 => 93 | 38 => 94 | 39 => 95 | 41 => 96 | n => n, fun | 27 => 109 | 29 => 9 | 3 => 3 | 32 => 122 | 26 => 109 | 0 => 0 | 44 => 133 | 46 => 135 | 4 => 4 | 36 => 125 | 35 => 124 | 41 => 130 | 5 => 5 | 9 => 9 | 53 => 136 | 57 => 140 | 63 => 142 | 64 => 143 | n => n, fun | n => n⟩
theorem Try.sort74 : Go.Proofs.SlLaysM.n6 Try.prog Try.sort74_ren := {
  mixed := by kernel_rfl
  f6 := ⟨Try.f74.name, by decide, Try.func74.trans (congrArg some (by kernel_rfl))⟩
  f8 := Try.func78.trans (congrArg some (by kernel_rfl))
  f9 := ⟨Try.f77.name, by decide, Try.func77.trans (congrArg some (by kernel_rfl))⟩
  f19 := Try.func88.trans (congrArg some (by kernel_rfl))
  f20 := Try.func89.trans (congrArg some (by kernel_rfl))
  f21 := ⟨Try.f79.name, by decide, Try.func79.trans (congrArg some (by kernel_rfl))⟩
  f22 := ⟨Try.f80.name, by decide, Try.func80.trans (congrArg some (by kernel_rfl))⟩
  f23 := ⟨Try.f81.name, by decide, Try.func81.trans (congrArg some (by kernel_rfl))⟩
  f24 := ⟨Try.f82.name, by decide, Try.func82.trans (congrArg some (by kernel_rfl))⟩
  f25 := ⟨Try.f83.name, by decide, Try.func83.trans (congrArg some (by kernel_rfl))⟩
  f26 := ⟨Try.f84.name, by decide, Try.func84.trans (congrArg some (by kernel_rfl))⟩
  f27 := ⟨Try.f85.name, by decide, Try.func85.trans (congrArg some (by kernel_rfl))⟩
  f28 := ⟨Try.f86.name, by decide, Try.func86.trans (congrArg some (by kernel_rfl))⟩
  f29 := ⟨Try.f87.name, by decide, Try.func87.trans (congrArg some (by kernel_rfl))⟩
  f31 := Try.func91.trans (congrArg some (by kernel_rfl))
  f32 := Try.func92.trans (congrArg some (by kernel_rfl))
  f36 := ⟨Try.f90.name, by decide, Try.func90.trans (congrArg some (by kernel_rfl))⟩
  f37 := ⟨Try.f93.name, by decide, Try.func93.trans (congrArg some (by kernel_rfl))⟩
  f38 := ⟨Try.f94.name, by decide, Try.func94.trans (congrArg some (by kernel_rfl))⟩
  f39 := ⟨Try.f95.name, by decide, Try.func95.trans (congrArg some (by kernel_rfl))⟩
  f41 := ⟨Try.f96.name, by decide, Try.func96.trans (congrArg some (by kernel_rfl))⟩
  t0 := Try.underlying0
  a0 := Try.isAgg0
  z0 := Try.sizeOf0
  v0 := Try.zeroValue0
  t3 := Try.underlying3
  a3 := Try.isAgg3
  z3 := Try.sizeOf3
  v3 := Try.zeroValue3
  t4 := Try.underlying4
  a4 := Try.isAgg4
  z4 := Try.sizeOf4
  v4 := Try.zeroValue4
  t5 := Try.underlying5
  a5 := Try.isAgg5
  z5 := Try.sizeOf5
  v5 := Try.zeroValue5
  t9 := Try.underlying9
  a9 := Try.isAgg9
  z9 := Try.sizeOf9
  v9 := Try.zeroValue9
  t26 := Try.underlying109
  a26 := Try.isAgg109
  z26 := Try.sizeOf109
  v26 := Try.zeroValue109
  t27 := Try.underlying109
  a27 := Try.isAgg109
  z27 := Try.sizeOf109
  v27 := Try.zeroValue109
  t29 := Try.underlying9
  a29 := Try.isAgg9
  z29 := Try.sizeOf9
  v29 := Try.zeroValue9
  t32 := Try.underlying122
  a32 := Try.isAgg122
  z32 := Try.sizeOf122
  v32 := Try.zeroValue122
  t35 := Try.underlying124
  a35 := Try.isAgg124
  z35 := Try.sizeOf124
  v35 := Try.zeroValue124
  t36 := Try.underlying125
  a36 := Try.isAgg125
  z36 := Try.sizeOf125
  v36 := Try.zeroValue125
  t41 := Try.underlying130
  a41 := Try.isAgg130
  z41 := Try.sizeOf130
  v41 := Try.zeroValue130
  t44 := Try.underlying133
  a44 := Try.isAgg133
  z44 := Try.sizeOf133
  v44 := Try.zeroValue133
  t46 := Try.underlying135
  a46 := Try.isAgg135
  z46 := Try.sizeOf135
  v46 := Try.zeroValue135
  t53 := Try.underlying136
  a53 := Try.isAgg136
  z53 := Try.sizeOf136
  v53 := Try.zeroValue136
  t57 := Try.underlying140
  a57 := Try.isAgg140
  z57 := Try.sizeOf140
  v57 := Try.zeroValue140
  t63 := Try.underlying142
  a63 := Try.isAgg142
  z63 := Try.sizeOf142
  v63 := Try.zeroValue142
  t64 := Try.underlying143
  a64 := Try.isAgg143
  z64 := Try.sizeOf143
  v64 := Try.zeroValue143 }
/-- slices.Sort's two contracts at this dump, at the fence that asks nothing. -/
theorem Try.sorts71 (m : Nat) : AnyZ.SortsIn Try.prog Try.sorted71_ren Fence.wide m :=
  ⟨fun blk off cap ss W hH hblk hsz => callsIn_wide.2 (AnyM.slices_Sort_string Try.sort74 blk off cap ss W hH hblk hsz),
   fun p cap W => callsIn_wide.2 (AnyM.slices_Sort_string_none Try.sort74 p cap W)⟩

/-- **maps.Keys[map[string]*cairn/disk.file,string,*cairn/disk.file], at whatever map, the nil one too:** a function value over ONE NEW BLOCK, which holds the map. -/
theorem Try.maps_Keys_72 (mb : Option Nat) (W : World) : CallsIn Fence.wide 5 Try.prog 72 #[.map mb] W fun e w' => e = .returned (.func (.func 75) #[] #[.pointer (some ⟨W.heap.size, 0, none⟩)]) ∧ w' = W.alloc (.cells #[.map mb] 54) :=
  AnyZ.keys_in Try.keys72 Fence.wide 5 trivial rfl mb W

set_option maxHeartbeats 1000000 in
/-- **slices.Sorted[string] AT WHAT maps.Keys[map[string]*cairn/disk.file,string,*cairn/disk.file] HANDED BACK FOR A MAP THAT IS NOT nil** ('w': the world AHEAD of maps.Keys' call): A NEW SLICE THAT HOLDS THE MAP's KEYS, SORTED; nil just where it has none; nothing that lay before has turned. -/
theorem Try.slices_Sorted_keys_71_72 {H : Type} (b nn : Nat) (D0 : DataW H) (R : Value → Option (DataW H × List MemPlace)) (w : World) (hown : w.ownsMap Try.prog 9 R b nn D0) (hmax : Maps.size D0 ≤ maxLen) (hbytes : Maps.size D0 * 16 ≤ 140737488355328) :
    CallsIn Fence.wide 5 Try.prog 71 #[.func (.func 75) #[] #[.pointer (some ⟨w.heap.size, 0, none⟩)]] (w.alloc (.cells #[.map (some b)] 54)) fun e w' => ∃ (v : Value) (ss : List (List UInt8)), e = .returned v ∧ ss.Perm (strKeys D0) ∧
      w'.ownsRow (w.alloc (.cells #[.map (some b)] 54)).heap.size 9 1 v ss.length ((ss.mergeSort (fun x y => decide (x ≤ y))).map encStr) ∧ (v = .slice none 0 0 ↔ ss = []) ∧ Below (w.alloc (.cells #[.map (some b)] 54)).heap.size (w.alloc (.cells #[.map (some b)] 54)) w' := by
  have hbl := hown.lt
  have hseq : SeqGives Fence.wide 2 Try.prog 75 #[.pointer (some ⟨w.heap.size, 0, none⟩)] encStr (fun ss => ss.Perm (strKeys D0)) (Maps.size D0) (w.alloc (.cells #[.map (some b)] 54)) :=
    AnyZ.keys_gives (ρ := Try.keys72_ren) { Try.keys72 with } Fence.wide _ trivial rfl (by omega) w.heap.size b nn D0 _ (by simp) (by simp) (by
      obtain ⟨es, clock, hb, Ft, hs, hD⟩ := hown
      exact ⟨es, clock, (Below.heap_alloc _ _ b hbl).trans hb, Ft, hs, hD⟩)
  exact AnyZ.sorted_in Try.sorted71 Fence.wide 5 trivial trivial trivial trivial rfl (by omega) (Try.sorts71 _) (enters_of Try.func74 (by kernel_rfl) rfl) 75 #[.pointer (some ⟨w.heap.size, 0, none⟩)] trivial (enters_of Try.func75 (by kernel_rfl) rfl) _ _ hmax hbytes _ hseq

set_option maxHeartbeats 1000000 in
/-- **.. AND FOR THE nil MAP: nil.** -/
theorem Try.slices_Sorted_keys_nil_71_72 (w : World) :
    CallsIn Fence.wide 5 Try.prog 71 #[.func (.func 75) #[] #[.pointer (some ⟨w.heap.size, 0, none⟩)]] (w.alloc (.cells #[.map none] 54)) fun e w' => ∃ (v : Value) (ss : List (List UInt8)), e = .returned v ∧ ss = [] ∧
      w'.ownsRow (w.alloc (.cells #[.map none] 54)).heap.size 9 1 v ss.length ((ss.mergeSort (fun x y => decide (x ≤ y))).map encStr) ∧ (v = .slice none 0 0 ↔ ss = []) ∧ Below (w.alloc (.cells #[.map none] 54)).heap.size (w.alloc (.cells #[.map none] 54)) w' := by
  have hseq : SeqGives Fence.wide 2 Try.prog 75 #[.pointer (some ⟨w.heap.size, 0, none⟩)] encStr (fun ss : List (List UInt8) => ss = []) 0 (w.alloc (.cells #[.map none] 54)) :=
    AnyZ.keys_gives_nil (ρ := Try.keys72_ren) { Try.keys72 with } Fence.wide _ trivial rfl w.heap.size _ (by simp) (by simp)
  exact AnyZ.sorted_in Try.sorted71 Fence.wide 5 trivial trivial trivial trivial rfl (by omega) (Try.sorts71 _) (enters_of Try.func74 (by kernel_rfl) rfl) 75 #[.pointer (some ⟨w.heap.size, 0, none⟩)] trivial (enters_of Try.func75 (by kernel_rfl) rfl) _ 0 (Nat.zero_le _) (by omega) _ hseq


end Go.Proofs
