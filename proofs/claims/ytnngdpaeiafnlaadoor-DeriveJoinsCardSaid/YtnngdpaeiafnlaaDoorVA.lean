/- The engine's ground: kinds of pure data, abstract values, what they stand for in a world, and how that lasts. -/
import Derived.Calls
import Derived.Orders
import Derived.LoopN
import Derived.Below
import Derived.KernelRfl
import Derived.Laws.Entries
namespace Vam
open Go
set_option linter.unusedVariables false
set_option linter.unusedSimpArgs false

/-! ### Kinds of pure data -/
inductive K where
  | int (k : IntKind)
  | bool
  | str
  | sl (e : K)
  | arr (n : Nat) (e : K)
  | pair (a b : K)
  | unit
  deriving DecidableEq

def K.T : K → Type
  | .int _ => Int
  | .bool => Bool
  | .str => ByteArray
  | .sl e => List e.T
  | .arr _ e => List e.T
  | .pair a b => a.T × b.T
  | .unit => Unit

def K.dflt : (k : K) → k.T
  | .int _ => (0 : Int)
  | .bool => false
  | .str => (⟨#[]⟩ : ByteArray)
  | .sl _ => []
  | .arr n e => List.replicate n e.dflt
  | .pair a b => (a.dflt, b.dflt)
  | .unit => ()

def K.sz : K → Nat
  | .int _ => 1
  | .bool => 1
  | .str => 1
  | .sl _ => 1
  | .arr n e => n * e.sz
  | .pair a b => a.sz + b.sz
  | .unit => 0

def K.wide : K → Bool
  | .arr .. => true
  | .pair .. => true
  | .unit => true
  | _ => false

/-- The i-th of a list of data. -/
def gd (e : K) (l : List e.T) (i : Nat) : e.T := l.getD i e.dflt

theorem gd_lt {e : K} {l : List e.T} {i : Nat} (h : i < l.length) : gd e l i = l[i] := by
  unfold gd; simp [List.getD_eq_getElem?_getD, List.getElem?_eq_getElem h]

/-! ### What data are in a world: cells that nobody writes (S: the blocks that may be written) -/
def RepD (S : Nat → Prop) (w : World) : (k : K) → k.T → List Value → Prop
  | .int kk, x, cs => cs = [.int kk x]
  | .bool, x, cs => cs = [.bool x]
  | .str, x, cs => cs = [.string x]
  | .sl e, x, cs => ∃ a cap, cs = [.slice a (List.length x) cap] ∧ List.length x ≤ cap ∧
      (x ≠ [] → ∃ c off, a = some ⟨c, off, none⟩ ∧ ¬ S c ∧ c < w.heap.size ∧
        ∀ i, i < List.length x → ∃ vs, RepD S w e (gd e x i) vs ∧ vs.length = e.sz ∧
          ∀ j v, vs[j]? = some v → w.cell? ⟨c, off + (i * e.sz + j), none⟩ = some v)
  | .arr n e, x, cs => List.length x = n ∧ cs.length = n * e.sz ∧
      ∀ i, i < n → RepD S w e (gd e x i) ((cs.drop (i * e.sz)).take e.sz)
  | .pair a b, x, cs => ∃ c1 c2, cs = c1 ++ c2 ∧ RepD S w a x.1 c1 ∧ RepD S w b x.2 c2
  | .unit, _, cs => cs = []

theorem RepD.length {S : Nat → Prop} {w : World} : ∀ {k : K} {x : k.T} {cs : List Value}, RepD S w k x cs → cs.length = k.sz := by
  intro k
  induction k with
  | int kk => intro x cs h; simp only [RepD] at h; subst h; rfl
  | bool => intro x cs h; simp only [RepD] at h; subst h; rfl
  | str => intro x cs h; simp only [RepD] at h; subst h; rfl
  | sl e ih => intro x cs h; obtain ⟨a, cap, rfl, _⟩ := h; rfl
  | arr n e ih => intro x cs h; exact h.2.1
  | pair a b iha ihb => intro x cs h; obtain ⟨c1, c2, rfl, h1, h2⟩ := h; simp [K.sz, iha h1, ihb h2]
  | unit => intro x cs h; simp only [RepD] at h; subst h; rfl

/-! ### Abstract values -/
inductive Lf where
  | v (x : Value)                      -- this very value
  | dat (k : K) (x : k.T)              -- pure data
  | ptr (b o i s r : Nat)              -- into own block b: cell o + i * s + r
  | own (b o i n s : Nat)              -- a slice into own block b: from cell o + i * s on, n elements of s cells
  | fp (k : K) (x : k.T) (o : Nat)     -- a pointer to pure data: cell o of x

inductive AV where
  | one (x : Lf)
  | agg (l : List Lf)

inductive SV where
  | av (x : AV)
  | tup (l : List AV)
  | un
  | any

inductive Blk where
  | cells (ty : TypeId) (l : List Lf)
  | row (ty : TypeId) (e : K) (l : List e.T)
  | dead

def Blk.live : Blk → Bool
  | .dead => false
  | _ => true

/-- The local heap: blocks by their names. -/
abbrev Hp := List (Nat × Blk)

def hg : Hp → Nat → Option Blk
  | [], _ => none
  | (i, B) :: r, b => match Nat.beq i b with
    | true => some B
    | false => hg r b

def one1 : Value → Bool
  | .agg _ => false
  | .tuple _ => false
  | _ => true

def Lf.wide : Lf → Bool
  | .dat k _ => k.wide
  | _ => false

def Lf.w : Lf → Nat
  | .dat k _ => k.sz
  | _ => 1

/-! ### What they stand for -/
abbrev Mp := Nat → Option (Nat × Nat)

def RepL (S : Nat → Prop) (m : Mp) (w : World) : Lf → List Value → Prop
  | .v x, cs => cs = [x] ∧ one1 x = true
  | .dat k x, cs => RepD S w k x cs
  | .ptr b o i s r, cs => ∃ c base, m b = some (c, base) ∧ cs = [.pointer (some ⟨c, base + (o + i * s + r), none⟩)]
  | .own b o i n s, cs => ∃ a cap, cs = [.slice a n cap] ∧ n ≤ cap ∧
      (cap = 0 ∨ ∃ c base ty sz, m b = some (c, base) ∧ a = some ⟨c, base + (o + i * s), none⟩ ∧ w.shape? c = some (ty, sz) ∧ base + (o + (i + cap) * s) ≤ sz)
  | .fp k x o, cs => ∃ c off vs, cs = [.pointer (some ⟨c, off + o, none⟩)] ∧ ¬ S c ∧ c < w.heap.size ∧ RepD S w k x vs ∧
      ∀ j v, vs[j]? = some v → w.cell? ⟨c, off + j, none⟩ = some v

def RepLs (S : Nat → Prop) (m : Mp) (w : World) : List Lf → List Value → Prop
  | [], cs => cs = []
  | x :: l, cs => ∃ c1 c2, cs = c1 ++ c2 ∧ RepL S m w x c1 ∧ RepLs S m w l c2

def RepA (S : Nat → Prop) (m : Mp) (w : World) : AV → Value → Prop
  | .one x, v => if x.wide = true then ∃ cs, v = .agg cs ∧ RepL S m w x cs.toList else RepL S m w x [v]
  | .agg l, v => ∃ cs, v = .agg cs ∧ RepLs S m w l cs.toList

def RepAs (S : Nat → Prop) (m : Mp) (w : World) : List AV → List Value → Prop
  | [], vs => vs = []
  | x :: l, vs => ∃ v vs', vs = v :: vs' ∧ RepA S m w x v ∧ RepAs S m w l vs'

def RepS (S : Nat → Prop) (m : Mp) (w : World) : SV → Value → Prop
  | .av x, v => RepA S m w x v
  | .tup l, v => ∃ vs, v = .tuple vs ∧ RepAs S m w l vs.toList
  | .un, v => v = undef
  | .any, _ => True

/-- The frozen range of a block lies behind its cells. -/
def FrOk (fr : Nat × Nat) (n : Nat) : Prop := ∀ j, j < n → (decide (fr.1 ≤ j) && decide (j < fr.2)) = false

def SimB (S : Nat → Prop) (m : Mp) (w : World) : Blk → Option (Nat × Nat) → Prop
  | .cells ty l, p => ∃ c cs fr, p = some (c, 0) ∧ w.heap[c]? = some (.cells cs ty fr) ∧ FrOk fr cs.size ∧ S c ∧ RepLs S m w l cs.toList
  | .row ty e l, p => (p = none ∧ l = []) ∨
      ∃ c base cs fr, p = some (c, base) ∧ w.heap[c]? = some (.cells cs ty fr) ∧ FrOk fr cs.size ∧ S c ∧ base + l.length * e.sz ≤ cs.size ∧
        ∀ i, i < l.length → RepD S w e (gd e l i) ((cs.toList.drop (base + i * e.sz)).take e.sz)
  | .dead, _ => True

structure SimH (S : Nat → Prop) (m : Mp) (w : World) (H : Hp) : Prop where
  blk : ∀ b B, hg H b = some B → SimB S m w B (m b)
  inj : ∀ b b' B B' p p', hg H b = some B → hg H b' = some B' → B.live = true → B'.live = true → m b = some p → m b' = some p' → p.1 = p'.1 → b = b'

/-! ### How it lasts: what isn't own stays, what is own keeps its shape -/
/-- What no operation here changes. -/
structure Same (w w' : World) : Prop where
  os : w'.os = w.os
  tape : w'.tape = w.tape
  output : w'.output = w.output
theorem Same.refl (w : World) : Same w w := ⟨rfl, rfl, rfl⟩
theorem Same.trans {w w' w'' : World} (h : Same w w') (k : Same w' w'') : Same w w'' := ⟨k.os.trans h.os, k.tape.trans h.tape, k.output.trans h.output⟩

structure Mv (S : Nat → Prop) (m : Mp) (w : World) (S' : Nat → Prop) (m' : Mp) (w' : World) : Prop where
  size : w.heap.size ≤ w'.heap.size
  fro : ∀ c, c < w.heap.size → ¬ S c → ¬ S' c ∧ w'.heap[c]? = w.heap[c]?
  shp : ∀ c p, w.shape? c = some p → w'.shape? c = some p
  map : ∀ b p, m b = some p → m' b = some p
  sm : Same w w'

theorem Mv.refl (S : Nat → Prop) (m : Mp) (w : World) : Mv S m w S m w := ⟨Nat.le_refl _, fun _ _ h => ⟨h, rfl⟩, fun _ _ h => h, fun _ _ h => h, Same.refl w⟩

theorem Mv.trans {S S' S'' : Nat → Prop} {m m' m'' : Mp} {w w' w'' : World} (h : Mv S m w S' m' w') (k : Mv S' m' w' S'' m'' w'') : Mv S m w S'' m'' w'' :=
  ⟨Nat.le_trans h.size k.size, fun c hc hS => by
    obtain ⟨h1, h2⟩ := h.fro c hc hS
    obtain ⟨k1, k2⟩ := k.fro c (Nat.lt_of_lt_of_le hc h.size) h1
    exact ⟨k1, k2.trans h2⟩, fun c p hp => k.shp c p (h.shp c p hp), fun b p hp => k.map b p (h.map b p hp), h.sm.trans k.sm⟩

theorem cell?_of_heap {w w' : World} {c : Nat} (h : w'.heap[c]? = w.heap[c]?) (off : Nat) : w'.cell? ⟨c, off, none⟩ = w.cell? ⟨c, off, none⟩ := by
  simp only [World.cell?, h]

theorem RepD.mv {S S' : Nat → Prop} {m m' : Mp} {w w' : World} (h : Mv S m w S' m' w') : ∀ {k : K} {x : k.T} {cs : List Value}, RepD S w k x cs → RepD S' w' k x cs := by
  intro k
  induction k with
  | int kk => intro x cs h; exact h
  | bool => intro x cs h; exact h
  | str => intro x cs h; exact h
  | sl e ih =>
    intro x cs hh
    obtain ⟨a, cap, e1, e2, e3⟩ := hh
    refine ⟨a, cap, e1, e2, fun hx => ?_⟩
    obtain ⟨c, off, e4, e5, e6, e7⟩ := e3 hx
    obtain ⟨f1, f2⟩ := h.fro c e6 e5
    refine ⟨c, off, e4, f1, Nat.lt_of_lt_of_le e6 h.size, fun i hi => ?_⟩
    obtain ⟨vs, g1, g2, g3⟩ := e7 i hi
    exact ⟨vs, ih g1, g2, fun j v hv => by rw [cell?_of_heap f2]; exact g3 j v hv⟩
  | arr n e ih => intro x cs hh; exact ⟨hh.1, hh.2.1, fun i hi => ih (hh.2.2 i hi)⟩
  | pair a b iha ihb => intro x cs hh; obtain ⟨c1, c2, e1, h1, h2⟩ := hh; exact ⟨c1, c2, e1, iha h1, ihb h2⟩
  | unit => intro x cs h; exact h

theorem RepL.mv {S S' : Nat → Prop} {m m' : Mp} {w w' : World} (h : Mv S m w S' m' w') : ∀ {x : Lf} {cs : List Value}, RepL S m w x cs → RepL S' m' w' x cs := by
  intro x cs hh
  cases x with
  | v x => exact hh
  | dat k x => exact RepD.mv h hh
  | ptr b o i s r => obtain ⟨c, base, h1, h2⟩ := hh; exact ⟨c, base, h.map _ _ h1, h2⟩
  | own b o i n s =>
    obtain ⟨a, cap, h1, h2, h3⟩ := hh
    refine ⟨a, cap, h1, h2, h3.imp id ?_⟩
    rintro ⟨c, base, ty, sz, g1, g2, g3, g4⟩
    exact ⟨c, base, ty, sz, h.map _ _ g1, g2, h.shp _ _ g3, g4⟩
  | fp k x o =>
    obtain ⟨c, off, vs, g1, g2, g3, g4, g5⟩ := hh
    obtain ⟨f1, f2⟩ := h.fro c g3 g2
    exact ⟨c, off, vs, g1, f1, Nat.lt_of_lt_of_le g3 h.size, RepD.mv h g4, fun j v hv => by rw [cell?_of_heap f2]; exact g5 j v hv⟩

theorem RepLs.mv {S S' : Nat → Prop} {m m' : Mp} {w w' : World} (h : Mv S m w S' m' w') : ∀ {l : List Lf} {cs : List Value}, RepLs S m w l cs → RepLs S' m' w' l cs := by
  intro l
  induction l with
  | nil => intro cs hh; exact hh
  | cons x l ih => intro cs hh; obtain ⟨c1, c2, e, h1, h2⟩ := hh; exact ⟨c1, c2, e, RepL.mv h h1, ih h2⟩

theorem RepA.mv {S S' : Nat → Prop} {m m' : Mp} {w w' : World} (h : Mv S m w S' m' w') {x : AV} {v : Value} (hh : RepA S m w x v) : RepA S' m' w' x v := by
  cases x with
  | one x =>
    simp only [RepA] at hh ⊢
    split at hh
    · rename_i hw; rw [if_pos hw]; obtain ⟨cs, e, h1⟩ := hh; exact ⟨cs, e, RepL.mv h h1⟩
    · rename_i hw; rw [if_neg hw]; exact RepL.mv h hh
  | agg l => obtain ⟨cs, e, h1⟩ := hh; exact ⟨cs, e, RepLs.mv h h1⟩

theorem RepAs.mv {S S' : Nat → Prop} {m m' : Mp} {w w' : World} (h : Mv S m w S' m' w') : ∀ {l : List AV} {vs : List Value}, RepAs S m w l vs → RepAs S' m' w' l vs := by
  intro l
  induction l with
  | nil => intro vs hh; exact hh
  | cons x l ih => intro vs hh; obtain ⟨v, vs', e, h1, h2⟩ := hh; exact ⟨v, vs', e, RepA.mv h h1, ih h2⟩

theorem RepS.mv {S S' : Nat → Prop} {m m' : Mp} {w w' : World} (h : Mv S m w S' m' w') {x : SV} {v : Value} (hh : RepS S m w x v) : RepS S' m' w' x v := by
  cases x with
  | av x => exact RepA.mv h hh
  | tup l => obtain ⟨vs, e, h1⟩ := hh; exact ⟨vs, e, RepAs.mv h h1⟩
  | un => exact hh
  | any => trivial

theorem SimB.mv {S S' : Nat → Prop} {m m' : Mp} {w w' : World} (h : Mv S m w S' m' w') {B : Blk} {p : Option (Nat × Nat)} (hh : SimB S m w B p)
    (hp : ∀ c base, p = some (c, base) → w'.heap[c]? = w.heap[c]? ∧ S' c) : SimB S' m' w' B p := by
  cases B with
  | cells ty l =>
    obtain ⟨c, cs, fr, e1, e2, e3, e4, e5⟩ := hh
    obtain ⟨f1, f2⟩ := hp _ _ e1
    exact ⟨c, cs, fr, e1, f1.trans e2, e3, f2, RepLs.mv h e5⟩
  | row ty e l =>
    rcases hh with hh | ⟨c, base, cs, fr, e1, e2, e3, e4, e5, e6⟩
    · exact .inl hh
    · obtain ⟨f1, f2⟩ := hp _ _ e1
      exact .inr ⟨c, base, cs, fr, e1, f1.trans e2, e3, f2, e5, fun i hi => RepD.mv h (e6 i hi)⟩
  | dead => trivial

/-! ### Leaves: a datum's parts of one name each -/
def leafs : (k : K) → k.T → List Lf
  | .int kk, x => [.v (.int kk x)]
  | .bool, x => [.v (.bool x)]
  | .str, x => [.v (.string x)]
  | .sl e, x => [.dat (.sl e) x]
  | .arr n e, x => [.dat (.arr n e) x]
  | .pair a b, x => leafs a x.1 ++ leafs b x.2
  | .unit, _ => []

theorem RepLs.append {S : Nat → Prop} {m : Mp} {w : World} : ∀ {l1 l2 : List Lf} {cs : List Value}, RepLs S m w (l1 ++ l2) cs ↔ ∃ c1 c2, cs = c1 ++ c2 ∧ RepLs S m w l1 c1 ∧ RepLs S m w l2 c2 := by
  intro l1
  induction l1 with
  | nil =>
    intro l2 cs
    constructor
    · intro h; exact ⟨[], cs, rfl, rfl, h⟩
    · rintro ⟨c1, c2, rfl, h1, h2⟩; simp only [RepLs] at h1; subst h1; exact h2
  | cons x l ih =>
    intro l2 cs
    constructor
    · rintro ⟨c1, c2, rfl, h1, h2⟩
      obtain ⟨d1, d2, rfl, g1, g2⟩ := ih.1 h2
      exact ⟨c1 ++ d1, d2, by simp, ⟨c1, d1, rfl, h1, g1⟩, g2⟩
    · rintro ⟨c1, c2, rfl, ⟨d1, d2, rfl, g1, g2⟩, h2⟩
      exact ⟨d1, d2 ++ c2, by simp, g1, ih.2 ⟨d2, c2, rfl, g2, h2⟩⟩

theorem RepLs.single {S : Nat → Prop} {m : Mp} {w : World} {x : Lf} {cs : List Value} : RepLs S m w [x] cs ↔ RepL S m w x cs := by
  constructor
  · rintro ⟨c1, c2, rfl, h1, h2⟩; simp only [RepLs] at h2; subst h2; simpa using h1
  · intro h; exact ⟨cs, [], by simp, h, rfl⟩

theorem leafs_rep {S : Nat → Prop} {m : Mp} {w : World} : ∀ {k : K} {x : k.T} {cs : List Value}, RepLs S m w (leafs k x) cs ↔ RepD S w k x cs := by
  intro k
  induction k with
  | int kk => intro x cs; simp only [leafs, RepLs.single, RepL, RepD]; exact ⟨fun h => h.1, fun h => ⟨h, rfl⟩⟩
  | bool => intro x cs; simp only [leafs, RepLs.single, RepL, RepD]; exact ⟨fun h => h.1, fun h => ⟨h, rfl⟩⟩
  | str => intro x cs; simp only [leafs, RepLs.single, RepL, RepD]; exact ⟨fun h => h.1, fun h => ⟨h, rfl⟩⟩
  | sl e ih => intro x cs; simp only [leafs, RepLs.single, RepL]
  | arr n e ih => intro x cs; simp only [leafs, RepLs.single, RepL]
  | pair a b iha ihb =>
    intro x cs
    simp only [leafs, RepLs.append, RepD]
    constructor
    · rintro ⟨c1, c2, e, h1, h2⟩; exact ⟨c1, c2, e, iha.1 h1, ihb.1 h2⟩
    · rintro ⟨c1, c2, e, h1, h2⟩; exact ⟨c1, c2, e, iha.2 h1, ihb.2 h2⟩
  | unit => intro x cs; simp only [leafs, RepLs, RepD]

/-- The datum that leaves are; and the leaves behind it. -/
def popI (kk : IntKind) : List Lf → Option (Int × List Lf)
  | .v (.int k' x) :: r => if k' = kk then some (x, r) else none
  | _ => none
def popB : List Lf → Option (Bool × List Lf)
  | .v (.bool x) :: r => some (x, r)
  | _ => none
def popS : List Lf → Option (ByteArray × List Lf)
  | .v (.string x) :: r => some (x, r)
  | _ => none
def popD (k : K) : List Lf → Option (k.T × List Lf)
  | .dat k' x :: r => if h : k' = k then some (h ▸ x, r) else none
  | _ => none
def popL (e : K) : List Lf → Option (List e.T × List Lf)
  | .dat (.sl e') x :: r => if h : e' = e then some (h ▸ x, r) else none
  | .v (.slice none 0 0) :: r => some ([], r)
  | _ => none

def decp : (k : K) → List Lf → Option (k.T × List Lf)
  | .int kk, l => popI kk l
  | .bool, l => popB l
  | .str, l => popS l
  | .sl e, l => popL e l
  | .arr n e, l => popD (.arr n e) l
  | .pair a b, l => (decp a l).bind fun p => (decp b p.2).bind fun q => some ((p.1, q.1), q.2)
  | .unit, l => some ((), l)

theorem popD_rep {S : Nat → Prop} {m : Mp} {w : World} {k : K} {l : List Lf} {x : k.T} {r : List Lf} {cs : List Value} (h : popD k l = some (x, r)) (hr : RepLs S m w l cs) :
    ∃ c1 c2, cs = c1 ++ c2 ∧ RepD S w k x c1 ∧ RepLs S m w r c2 := by
  unfold popD at h
  split at h
  · rename_i k' x' r'
    split at h
    · rename_i e
      subst e
      simp only [Option.some.injEq, Prod.mk.injEq] at h
      obtain ⟨rfl, rfl⟩ := h
      obtain ⟨c1, c2, e, g1, g2⟩ := hr
      exact ⟨c1, c2, e, g1, g2⟩
    · cases h
  · cases h

theorem decp_rep {S : Nat → Prop} {m : Mp} {w : World} : ∀ {k : K} {l : List Lf} {x : k.T} {r : List Lf} {cs : List Value}, decp k l = some (x, r) → RepLs S m w l cs →
    ∃ c1 c2, cs = c1 ++ c2 ∧ RepD S w k x c1 ∧ RepLs S m w r c2 := by
  intro k
  induction k with
  | int kk =>
    intro l x r cs h hr
    simp only [decp] at h
    unfold popI at h
    split at h
    · split at h
      · rename_i e
        subst e
        obtain ⟨h1, rfl⟩ := Prod.mk.inj (Option.some.inj h)
        obtain ⟨c1, c2, e, g1, g2⟩ := hr
        refine ⟨c1, c2, e, ?_, g2⟩
        show c1 = [Value.int _ _]
        rw [g1.1]
        exact congrArg (fun z : Int => [Value.int _ z]) h1
      · cases h
    · cases h
  | bool =>
    intro l x r cs h hr
    simp only [decp] at h
    unfold popB at h
    split at h
    · obtain ⟨h1, rfl⟩ := Prod.mk.inj (Option.some.inj h)
      obtain ⟨c1, c2, e, g1, g2⟩ := hr
      refine ⟨c1, c2, e, ?_, g2⟩
      show c1 = [Value.bool _]
      rw [g1.1]
      exact congrArg (fun z : Bool => [Value.bool z]) h1
    · cases h
  | str =>
    intro l x r cs h hr
    simp only [decp] at h
    unfold popS at h
    split at h
    · obtain ⟨h1, rfl⟩ := Prod.mk.inj (Option.some.inj h)
      obtain ⟨c1, c2, e, g1, g2⟩ := hr
      refine ⟨c1, c2, e, ?_, g2⟩
      show c1 = [Value.string _]
      rw [g1.1]
      exact congrArg (fun z : ByteArray => [Value.string z]) h1
    · cases h
  | sl e ih =>
    intro l x r cs h hr
    simp only [decp] at h
    unfold popL at h
    split at h
    · split at h
      · rename_i e
        subst e
        simp only [Option.some.injEq, Prod.mk.injEq] at h
        obtain ⟨rfl, rfl⟩ := h
        obtain ⟨c1, c2, e, g1, g2⟩ := hr
        exact ⟨c1, c2, e, g1, g2⟩
      · cases h
    · obtain ⟨h1, rfl⟩ := Prod.mk.inj (Option.some.inj h)
      obtain ⟨c1, c2, e, g1, g2⟩ := hr
      subst h1
      exact ⟨c1, c2, e, ⟨none, 0, g1.1, Nat.le_refl _, fun h => absurd rfl h⟩, g2⟩
    · cases h
  | arr n e ih => intro l x r cs h hr; exact popD_rep h hr
  | pair a b iha ihb =>
    intro l x r cs h hr
    simp only [decp] at h
    cases h1 : decp a l with
    | none => rw [h1] at h; cases h
    | some p =>
      rw [h1] at h
      simp only [Option.bind_some] at h
      cases h2 : decp b p.2 with
      | none => rw [h2] at h; cases h
      | some q =>
        rw [h2] at h
        simp only [Option.bind_some, Option.some.injEq, Prod.mk.injEq] at h
        obtain ⟨rfl, rfl⟩ := h
        obtain ⟨c1, c2, e1, g1, g2⟩ := iha (x := p.1) (r := p.2) h1 hr
        obtain ⟨d1, d2, e2, f1, f2⟩ := ihb (x := q.1) (r := q.2) h2 g2
        exact ⟨c1 ++ d1, d2, by rw [e1, e2]; simp, ⟨c1, d1, rfl, g1, f1⟩, f2⟩
  | unit =>
    intro l x r cs h hr
    simp only [decp, Option.some.injEq, Prod.mk.injEq] at h
    obtain ⟨-, rfl⟩ := h
    exact ⟨[], cs, rfl, rfl, hr⟩

/-- Just the datum. -/
def dec (k : K) (l : List Lf) : Option k.T :=
  match decp k l with
  | some (x, []) => some x
  | _ => none

theorem dec_rep {S : Nat → Prop} {m : Mp} {w : World} {k : K} {l : List Lf} {x : k.T} {cs : List Value} (h : dec k l = some x) (hr : RepLs S m w l cs) : RepD S w k x cs := by
  unfold dec at h
  split at h
  · rename_i y hy
    simp only [Option.some.injEq] at h
    subst h
    obtain ⟨c1, c2, e, g1, g2⟩ := decp_rep hy hr
    simp only [RepLs] at g2
    subst g2
    rw [e]; simpa using g1
  · cases h

/-! ### Lists of leaves by their cells -/
/-- The leaves from cell o on. -/
def segAt : List Lf → Nat → Option (List Lf)
  | l, 0 => some l
  | [], _ + 1 => none
  | x :: l, o + 1 => if x.w ≤ o + 1 then segAt l (o + 1 - x.w) else none

/-- The leaves of just n cells. -/
def segTake : List Lf → Nat → Option (List Lf)
  | _, 0 => some []
  | [], _ + 1 => none
  | x :: l, n + 1 => if x.w ≤ n + 1 then (segTake l (n + 1 - x.w)).map (x :: ·) else none

theorem RepL.length {S : Nat → Prop} {m : Mp} {w : World} {x : Lf} {cs : List Value} (h : RepL S m w x cs) : cs.length = x.w := by
  cases x with
  | v x => rw [h.1]; rfl
  | dat k x => exact RepD.length h
  | ptr b o i s r => obtain ⟨c, base, _, rfl⟩ := h; rfl
  | own b o i n s => obtain ⟨a, cap, rfl, _⟩ := h; rfl
  | fp k x o => obtain ⟨c, off, vs, rfl, _⟩ := h; rfl

theorem segAt_rep {S : Nat → Prop} {m : Mp} {w : World} : ∀ {l : List Lf} {o : Nat} {r : List Lf} {cs : List Value}, segAt l o = some r → RepLs S m w l cs →
    o ≤ cs.length ∧ RepLs S m w r (cs.drop o) := by
  intro l
  induction l with
  | nil =>
    intro o r cs h hr
    cases o with
    | zero => simp only [segAt, Option.some.injEq] at h; subst h; exact ⟨Nat.zero_le _, by simpa using hr⟩
    | succ o => simp [segAt] at h
  | cons x l ih =>
    intro o r cs h hr
    cases o with
    | zero => simp only [segAt, Option.some.injEq] at h; subst h; exact ⟨Nat.zero_le _, by simpa using hr⟩
    | succ o =>
      simp only [segAt] at h
      split at h
      · rename_i hw
        obtain ⟨c1, c2, rfl, h1, h2⟩ := hr
        have hl := h1.length
        obtain ⟨g1, g2⟩ := ih h h2
        refine ⟨by simp; omega, ?_⟩
        rw [List.drop_append, List.drop_of_length_le (by omega), List.nil_append, hl]
        exact g2
      · cases h

theorem segTake_rep {S : Nat → Prop} {m : Mp} {w : World} : ∀ {l : List Lf} {n : Nat} {r : List Lf} {cs : List Value}, segTake l n = some r → RepLs S m w l cs →
    n ≤ cs.length ∧ RepLs S m w r (cs.take n) := by
  intro l
  induction l with
  | nil =>
    intro o r cs h hr
    cases o with
    | zero => simp only [segTake, Option.some.injEq] at h; subst h; exact ⟨Nat.zero_le _, by simp [RepLs]⟩
    | succ o => simp [segTake] at h
  | cons x l ih =>
    intro o r cs h hr
    cases o with
    | zero => simp only [segTake, Option.some.injEq] at h; subst h; exact ⟨Nat.zero_le _, by simp [RepLs]⟩
    | succ o =>
      simp only [segTake] at h
      split at h
      · rename_i hw
        obtain ⟨c1, c2, rfl, h1, h2⟩ := hr
        have hl := h1.length
        cases h3 : segTake l (o + 1 - x.w) with
        | none => rw [h3] at h; cases h
        | some r' =>
          rw [h3] at h
          simp only [Option.map_some, Option.some.injEq] at h
          subst h
          obtain ⟨g1, g2⟩ := ih h3 h2
          refine ⟨by simp; omega, ?_⟩
          refine ⟨c1, c2.take (o + 1 - x.w), ?_, h1, g2⟩
          rw [List.take_append, List.take_of_length_le (by omega), hl]
      · cases h
end Vam
