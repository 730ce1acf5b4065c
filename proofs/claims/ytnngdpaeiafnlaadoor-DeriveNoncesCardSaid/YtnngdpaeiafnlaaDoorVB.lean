/- The engine's programs of tests, calls and loops; the quiet operations on abstract values. -/
import Derived.Test.YtnngdpaeiafnlaaDoorVA
import Derived.Laws.Slices
import Derived.Laws.Strings
namespace Vam
open Go
set_option linter.unusedVariables false
set_option linter.unusedSimpArgs false

/-! ### States, exits, programs -/
abbrev Tm := List (Nat × SV)
structure St where
  tm : Tm
  hp : Hp

inductive Ex where
  | normal
  | ret
  | exit (id : Nat)
  deriving DecidableEq

/-- What is to be done: tests, calls, loops on the way. -/
inductive Pg (α : Type) where
  | ret (a : α)
  | fail
  | ask (c : Bool) (k : Bool → Pg α)
  | call (f : FuncId) (as : List AV) (L : Hp) (k : SV → Hp → Pg α)
  | loop (body : Code) (st : St) (k : Ex → St → Pg α)
  /-- either of two ways will do -/
  | pick (k : Bool → Pg α)

namespace Pg
def bind {α β : Type} : Pg α → (α → Pg β) → Pg β
  | .ret a, f => f a
  | .fail, _ => .fail
  | .ask c k, f => .ask c fun d => (k d).bind f
  | .call g as L k, f => .call g as L fun r L' => (k r L').bind f
  | .loop b st k, f => .loop b st fun e st' => (k e st').bind f
  | .pick k, f => .pick fun d => (k d).bind f

/-- The test must be true. -/
def need (c : Bool) : Pg Unit := .ask c fun d => match d with | true => .ret () | false => .fail
/-- What is known without asking must be true. -/
def sure (c : Bool) : Pg Unit := match c with | true => .ret () | false => .fail
def opt {α : Type} : Option α → Pg α
  | some a => .ret a
  | none => .fail

/-- What it yields, if tests go as they do and calls and loops as told. -/
def Yd {α : Type} (C : FuncId → List AV → Hp → SV → Hp → Prop) (L : Code → St → Ex → St → Prop) : Pg α → α → Prop
  | .ret a, b => a = b
  | .fail, _ => False
  | .ask c k, b => Yd C L (k c) b
  | .call f as H k, b => ∃ r H', C f as H r H' ∧ Yd C L (k r H') b
  | .loop c st k, b => ∃ e st', L c st e st' ∧ Yd C L (k e st') b
  | .pick k, b => ∃ d, Yd C L (k d) b

section
variable {α β : Type} {C : FuncId → List AV → Hp → SV → Hp → Prop} {L : Code → St → Ex → St → Prop}

theorem yd_bind {x : Pg α} {f : α → Pg β} {b : β} : Yd C L (x.bind f) b ↔ ∃ a, Yd C L x a ∧ Yd C L (f a) b := by
  induction x with
  | ret a => simp [bind, Yd]
  | fail => simp [bind, Yd]
  | ask c k ih => simp only [bind, Yd]; exact ih c
  | call g as H k ih =>
    simp only [bind, Yd]
    constructor
    · rintro ⟨r, H', h1, h2⟩; obtain ⟨a, h3, h4⟩ := (ih r H').1 h2; exact ⟨a, ⟨r, H', h1, h3⟩, h4⟩
    · rintro ⟨a, ⟨r, H', h1, h3⟩, h4⟩; exact ⟨r, H', h1, (ih r H').2 ⟨a, h3, h4⟩⟩
  | loop c st k ih =>
    simp only [bind, Yd]
    constructor
    · rintro ⟨r, H', h1, h2⟩; obtain ⟨a, h3, h4⟩ := (ih r H').1 h2; exact ⟨a, ⟨r, H', h1, h3⟩, h4⟩
    · rintro ⟨a, ⟨r, H', h1, h3⟩, h4⟩; exact ⟨r, H', h1, (ih r H').2 ⟨a, h3, h4⟩⟩
  | pick k ih =>
    simp only [bind, Yd]
    constructor
    · rintro ⟨d, h2⟩; obtain ⟨a, h3, h4⟩ := (ih d).1 h2; exact ⟨a, ⟨d, h3⟩, h4⟩
    · rintro ⟨a, ⟨d, h3⟩, h4⟩; exact ⟨d, (ih d).2 ⟨a, h3, h4⟩⟩

theorem yd_need {c : Bool} {u : Unit} : Yd C L (need c) u ↔ c = true := by
  cases c <;> simp [need, Yd]
theorem yd_sure {c : Bool} {u : Unit} : Yd C L (sure c) u ↔ c = true := by
  cases c <;> simp [sure, Yd]
theorem yd_opt {o : Option α} {a : α} : Yd C L (opt o) a ↔ o = some a := by
  cases o <;> simp [opt, Yd]
theorem yd_ret {a b : α} : Yd C L (.ret a) b ↔ a = b := Iff.rfl
theorem yd_fail {b : α} : Yd C L (.fail) b ↔ False := Iff.rfl
theorem yd_pick {k : Bool → Pg α} {b : α} : Yd C L (.pick k) b ↔ Yd C L (k true) b ∨ Yd C L (k false) b := by
  constructor
  · rintro ⟨d, h⟩; cases d
    · exact .inr h
    · exact .inl h
  · rintro (h | h)
    · exact ⟨true, h⟩
    · exact ⟨false, h⟩
end
end Pg
open Pg

/-! ### Words for numbers and bytes -/
def ile (a b : Int) : Bool := decide (a ≤ b)
def ilt (a b : Int) : Bool := decide (a < b)
def ieq (a b : Int) : Bool := a == b
def nle (a b : Nat) : Bool := decide (a ≤ b)
def nlt (a b : Nat) : Bool := decide (a < b)
def nEq (a b : Nat) : Bool := decide (a = b)
def iadd (k : IntKind) (a b : Int) : Int := k.wrap (a + b)
def isub (k : IntKind) (a b : Int) : Int := k.wrap (a - b)
def imul (k : IntKind) (a b : Int) : Int := k.wrap (a * b)
def iquo (k : IntKind) (a b : Int) : Int := k.wrap (a.tdiv b)
def irem (a b : Int) : Int := a.tmod b
def iand (k : IntKind) (a b : Int) : Int := bits .and k a b
def ior (k : IntKind) (a b : Int) : Int := bits .or k a b
def ixor (k : IntKind) (a b : Int) : Int := bits .xor k a b
def iandn (k : IntKind) (a b : Int) : Int := bits .andNot k a b
def icv (k : IntKind) (a : Int) : Int := k.wrap a
def icom (k : IntKind) (a : Int) : Int := bits .xor k (if k.signed then -1 else k.max) a
def ssz (s : ByteArray) : Int := (s.size : Int)
def llen {α : Type} (l : List α) : Int := (l.length : Int)
def sapp (a b : ByteArray) : ByteArray := a ++ b
def seq (a b : ByteArray) : Bool := a.toList == b.toList
def slt (a b : ByteArray) : Bool := Op.bytesLess a.toList b.toList
def scut (s : ByteArray) (l h : Nat) : ByteArray := s.extract l h
def bxn (a b : Bool) : Bool := a == b
def bno (a : Bool) : Bool := !a
def shl (k : IntKind) (x y : Int) : Int := k.wrap (x * 2 ^ min y.toNat k.bits)
def shr (k : IntKind) (x y : Int) : Int := x / 2 ^ min y.toNat k.bits
def bt (s : ByteArray) (i : Int) : Int := if h : i.toNat < s.size then ((s[i.toNat]'h).toNat : Int) else 0

theorem RepA_one {S : Nat → Prop} {m : Mp} {w : World} {x : Lf} {y : Value} (h : x.wide = false) : RepA S m w (.one x) y ↔ RepL S m w x [y] := by
  simp [RepA, h]
theorem RepA_v {S : Nat → Prop} {m : Mp} {w : World} {x y : Value} : RepA S m w (.one (.v x)) y ↔ y = x ∧ one1 x = true := by
  rw [RepA_one rfl]; simp [RepL]

/-! ### Operands -/
def tmGet : Tm → Nat → Option SV
  | [], _ => none
  | (t, x) :: r, k => match Nat.beq t k with | true => some x | false => tmGet r k

def opd (G : Nat → Option AV) (tm : Tm) : Operand → Option SV
  | .tmp t => tmGet tm t
  | .const v => match one1 v with | true => some (.av (.one (.v v))) | false => none
  | .global g => (G g).map .av
  | .func f => some (.av (.one (.v (.func (.func f) #[] #[]))))

def RepT (S : Nat → Prop) (m : Mp) (w : World) (tm : Tm) (a : Array Value) : Prop :=
  ∀ t x, tmGet tm t = some x → ∃ v, a[t]? = some v ∧ RepS S m w x v

def RepG (S : Nat → Prop) (m : Mp) (w : World) (G : Nat → Option AV) : Prop :=
  ∀ g x, G g = some x → RepA S (fun _ => none) w x (.pointer (some ⟨g, 0, none⟩))

theorem RepT.mv {S S' : Nat → Prop} {m m' : Mp} {w w' : World} (h : Mv S m w S' m' w') {tm : Tm} {a : Array Value} (hh : RepT S m w tm a) : RepT S' m' w' tm a :=
  fun t x hx => let ⟨v, h1, h2⟩ := hh t x hx; ⟨v, h1, h2.mv h⟩
theorem Mv.bare {S S' : Nat → Prop} {m m' : Mp} {w w' : World} (h : Mv S m w S' m' w') (m'' : Mp) : Mv S (fun _ => none) w S' m'' w' :=
  ⟨h.size, h.fro, h.shp, fun _ _ h => (by cases h), h.sm⟩
theorem RepG.mv {S S' : Nat → Prop} {m m' : Mp} {w w' : World} (h : Mv S m w S' m' w') {G : Nat → Option AV} (hh : RepG S m w G) : RepG S' m' w' G :=
  fun g x hx => (hh g x hx).mv (h.bare _)

theorem opd_rep {S : Nat → Prop} {m : Mp} {w : World} {G : Nat → Option AV} {tm : Tm} {a : Act} {o : Operand} {x : SV} (hG : RepG S m w G) (hT : RepT S m w tm a.tmps)
    (h : opd G tm o = some x) : RepS S m w x (a.eval o) := by
  cases o with
  | tmp t =>
    obtain ⟨v, h1, h2⟩ := hT t x h
    simp only [Act.eval, Array.getD_eq_getD_getElem?, h1, Option.getD_some]
    exact h2
  | const v =>
    simp only [opd] at h
    split at h
    · rename_i e
      simp only [Option.some.injEq] at h
      subst h
      exact (RepA_v (S := S) (m := m) (w := w)).2 ⟨rfl, e⟩
    · cases h
  | global g =>
    simp only [opd, Option.map_eq_some_iff] at h
    obtain ⟨av, h1, rfl⟩ := h
    exact RepA.mv ((Mv.refl S m w).bare m) (hG g av h1)
  | func f =>
    simp only [opd, Option.some.injEq] at h
    subst h
    exact (RepA_v (S := S) (m := m) (w := w)).2 ⟨rfl, rfl⟩

/-! ### What a value is at a look -/
def asI : SV → Option (IntKind × Int)
  | .av (.one (.v (.int k n))) => some (k, n)
  | _ => none
def asBl : SV → Option Bool
  | .av (.one (.v (.bool b))) => some b
  | _ => none
def asSt : SV → Option ByteArray
  | .av (.one (.v (.string s))) => some s
  | _ => none

section
variable {S : Nat → Prop} {m : Mp} {w : World}
theorem asI_rep {x : SV} {k : IntKind} {n : Int} {v : Value} (h : asI x = some (k, n)) (hr : RepS S m w x v) : v = .int k n := by
  unfold asI at h
  split at h
  · simp only [Option.some.injEq, Prod.mk.injEq] at h
    obtain ⟨rfl, rfl⟩ := h
    exact ((RepA_v (S := S) (m := m) (w := w)).1 hr).1
  · cases h
theorem asBl_rep {x : SV} {b : Bool} {v : Value} (h : asBl x = some b) (hr : RepS S m w x v) : v = .bool b := by
  unfold asBl at h
  split at h
  · simp only [Option.some.injEq] at h
    subst h
    exact ((RepA_v (S := S) (m := m) (w := w)).1 hr).1
  · cases h
theorem asSt_rep {x : SV} {b : ByteArray} {v : Value} (h : asSt x = some b) (hr : RepS S m w x v) : v = .string b := by
  unfold asSt at h
  split at h
  · simp only [Option.some.injEq] at h
    subst h
    exact ((RepA_v (S := S) (m := m) (w := w)).1 hr).1
  · cases h
theorem rep_v {x : Value} (h : one1 x = true) : RepS S m w (.av (.one (.v x))) x := (RepA_v (S := S) (m := m) (w := w)).2 ⟨rfl, h⟩
end

/-- A value of one cell that has no address. -/
def vv (x : Value) : SV := .av (.one (.v x))

/-! ### Numbers -/
def qInt (op : BinOp) (k : IntKind) (a : Int) (k' : IntKind) (b : Int) : Pg SV :=
  match op with
  | .shl => (need (ile 0 b)).bind fun _ => .ret (vv (.int k (shl k a b)))
  | .shr => (need (ile 0 b)).bind fun _ => .ret (vv (.int k (shr k a b)))
  | op => (sure (decide (k = k'))).bind fun _ =>
    match op with
    | .add => .ret (vv (.int k (iadd k a b)))
    | .sub => .ret (vv (.int k (isub k a b)))
    | .mul => .ret (vv (.int k (imul k a b)))
    | .quo => (need (bno (ieq b 0))).bind fun _ => .ret (vv (.int k (iquo k a b)))
    | .rem => (need (bno (ieq b 0))).bind fun _ => .ret (vv (.int k (irem a b)))
    | .and => .ret (vv (.int k (iand k a b)))
    | .or => .ret (vv (.int k (ior k a b)))
    | .xor => .ret (vv (.int k (ixor k a b)))
    | .andNot => .ret (vv (.int k (iandn k a b)))
    | .eql => .ret (vv (.bool (ieq a b)))
    | .neq => .ret (vv (.bool (bno (ieq a b))))
    | .lss => .ret (vv (.bool (ilt a b)))
    | .leq => .ret (vv (.bool (ile a b)))
    | .gtr => .ret (vv (.bool (ilt b a)))
    | .geq => .ret (vv (.bool (ile b a)))
    | _ => .fail

section
variable {S : Nat → Prop} {m : Mp} {w : World} {P : Program} {C : FuncId → List AV → Hp → SV → Hp → Prop} {L : Code → St → Ex → St → Prop}

theorem qInt_run {op : BinOp} {k k' : IntKind} {a b : Int} {r : SV} {t : TypeId} (h : Yd C L (qInt op k a k' b) r) :
    ∃ v, (binOp op t (.int k a) (.int k' b)).run P w = .ok v w ∧ RepS S m w r v := by
  unfold qInt at h
  split at h
  · obtain ⟨_, h1, h2⟩ := yd_bind.1 h
    have h1 := of_decide_eq_true (yd_need.1 h1)
    have h2 := yd_ret.1 h2; subst h2
    refine ⟨_, ?_, rep_v rfl⟩
    simp only [binOp, Op.shift, shl]
    rw [if_neg (by omega)]
    rfl
  · obtain ⟨_, h1, h2⟩ := yd_bind.1 h
    have h1 := of_decide_eq_true (yd_need.1 h1)
    have h2 := yd_ret.1 h2; subst h2
    refine ⟨_, ?_, rep_v rfl⟩
    simp only [binOp, Op.shift, shr]
    rw [if_neg (by omega)]
    simp only [Sem.run_pure]
    rw [Int.fdiv_eq_ediv_of_nonneg _ (Int.pow_nonneg (by decide))]
  · obtain ⟨_, h1, h2⟩ := yd_bind.1 h
    have h1 := of_decide_eq_true (yd_sure.1 h1)
    subst h1
    split at h2
    all_goals first
      | (have h2 := yd_ret.1 h2; subst h2; exact ⟨_, by simp [binOp, Op.intArith, Op.intCmp, Op.intBits, bits, iadd, isub, imul, iand, ior, ixor, iandn, ieq, bno, ilt, ile, bne], rep_v rfl⟩)
      | (obtain ⟨_, h3, h4⟩ := yd_bind.1 h2
         have h3 := yd_need.1 h3
         have h3 : b ≠ 0 := by simpa [bno, ieq] using h3
         have h4 := yd_ret.1 h4; subst h4
         exact ⟨_, by simp [binOp, Op.intDiv, h3, iquo, irem], rep_v rfl⟩)
      | exact absurd h2 (by simp [Yd])
end
end Vam
