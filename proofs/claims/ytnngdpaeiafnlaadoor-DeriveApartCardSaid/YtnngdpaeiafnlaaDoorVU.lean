/- A function's contract out of its body's run; what is frozen; paths. -/
import Derived.Test.YtnngdpaeiafnlaaDoorVT
namespace Vam
open Go Pg
set_option linter.unusedVariables false
set_option linter.unusedSimpArgs false

def argTm : List AV → Nat → Tm
  | [], _ => []
  | x :: r, i => (i, .av x) :: argTm r (i + 1)

def isEnd : Ex → Bool
  | .normal => true
  | .ret => true
  | _ => false

section
variable {P : Program} {S : Nat → Prop} {m : Mp} {w : World}

theorem argTm_rep : ∀ {as : List AV} {vs : List Value} {i : Nat} {a : Array Value}, RepAs S m w as vs → (∀ j v, vs[j]? = some v → a[i + j]? = some v) → RepT S m w (argTm as i) a := by
  intro as
  induction as with
  | nil => intro vs i a _ _ t x h; cases h
  | cons y as ih =>
    intro vs i a hr ha t x h
    obtain ⟨v, vs', rfl, h1, h2⟩ := hr
    simp only [argTm] at h
    by_cases e : i = t
    · subst e
      rw [tmGet_cons_eq] at h
      simp only [Option.some.injEq] at h; subst h
      exact ⟨v, ha 0 v rfl, h1⟩
    · rw [tmGet_cons_ne e] at h
      refine ih h2 (fun j u hj => ?_) t x h
      have := ha (j + 1) u (by simpa using hj)
      rwa [show i + (j + 1) = i + 1 + j from by omega] at this

theorem repAs_length : ∀ {as : List AV} {vs : List Value}, RepAs S m w as vs → as.length = vs.length := by
  intro as
  induction as with
  | nil => intro vs h; have h : vs = [] := h; subst h; rfl
  | cons x as ih => intro vs h; obtain ⟨v, vs', rfl, h1, h2⟩ := h; simp [ih h2]

/-- How the machine reads a result. -/
def resRead (a : Array Value) (r : ResultVar) : Sem Value :=
  match r with
  | .tmp t => pure (a.getD t undef)
  | .cell c t => do loadVar t (← asAddr (a.getD c undef))

theorem resList_run {C : FuncId → List AV → Hp → SV → Hp → Prop} {L : Code → St → Ex → St → Prop} {σ : St} {a : Array Value} (h1 : SimH S m w σ.hp) (h3 : RepT S m w σ.tm a) : ∀ {rs : List ResultVar} {l : List AV}, Yd C L (resList P σ rs) l →
    ∃ vs, (rs.mapM (resRead a)).run P w = Result.ok vs w ∧ RepAs S m w l vs := by
  intro rs
  induction rs with
  | nil => intro l h; have h := yd_ret.1 h; subst h; exact ⟨[], rfl, rfl⟩
  | cons r rs ih =>
    intro l h
    obtain ⟨x, h2, h⟩ := yd_bind.1 h
    obtain ⟨v, g1, g2⟩ := resOne_run (P := P) h1 h3 h2
    have g1 : (resRead a r).run P w = Result.ok v w := g1
    cases x with
    | av x =>
      obtain ⟨l', h4, h⟩ := yd_bind.1 h
      have h := yd_ret.1 h; subst h
      obtain ⟨vs, g3, g4⟩ := ih h4
      refine ⟨v :: vs, ?_, v, vs, rfl, g2, g4⟩
      rw [List.mapM_cons]
      simp only [Sem.run_bind, g1, g3, Result.andThen_ok, Sem.run_pure]
    | tup => exact fail_absurd h
    | un => exact fail_absurd h
    | any => exact fail_absurd h

theorem resSV_run {C : FuncId → List AV → Hp → SV → Hp → Prop} {L : Code → St → Ex → St → Prop} {σ : St} {a : Array Value} {fn : Func} {x : SV} (h1 : SimH S m w σ.hp) (h3 : RepT S m w σ.tm a) (h : Yd C L (resSV P σ fn.results.toList) x) :
    ∃ v, (results fn a).run P w = .ok v w ∧ RepS S m w x v := by
  obtain ⟨l, h2, h⟩ := yd_bind.1 h
  obtain ⟨vs, g1, g2⟩ := resList_run h1 h3 h2
  have hl := repAs_length g2
  have hrun : (results fn a).run P w = .ok (if h : vs.toArray.size = 1 then vs.toArray[0] else .tuple vs.toArray) w := by
    have e : results fn a = (do let vs ← fn.results.mapM (resRead a); pure (if h : vs.size = 1 then vs[0] else .tuple vs)) := rfl
    rw [e, Array.mapM_eq_mapM_toList]
    simp only [Sem.run_bind, map_eq_pure_bind]
    rw [g1]
    simp only [Result.andThen_ok, Sem.run_pure]
  rw [hrun]
  cases l with
  | nil =>
    have h := yd_ret.1 h; subst h
    have : vs = [] := List.length_eq_zero_iff.1 hl.symm
    subst this
    exact ⟨_, rfl, #[], by simp, g2⟩
  | cons y l =>
    cases l with
    | nil =>
      have h := yd_ret.1 h; subst h
      obtain ⟨v, vs', rfl, k1, k2⟩ := g2
      have k2 : vs' = [] := k2
      subst k2
      exact ⟨_, rfl, k1⟩
    | cons z l =>
      have h := yd_ret.1 h; subst h
      refine ⟨_, rfl, vs.toArray, ?_, g2⟩
      rw [dif_neg (by simp at hl ⊢; omega)]

end

/-! ### Words for printed proofs -/
def bodyOf (fn : Func) : Code := fn.body.getD .skip
/-- The loop whose first region is that one. -/
def loopAt : Code → Nat → Option Code
  | .seq x y, n => match loopAt x n with
    | some c => some c
    | none => loopAt y n
  | .cond _ x y, n => match loopAt x n with
    | some c => some c
    | none => loopAt y n
  | .block _ c, n => loopAt c n
  | .loop c, n => match Nat.beq (firstReg c) (n + 1) with
    | true => some c
    | false => loopAt c n
  | _, _ => none
def loopOf (fn : Func) (n : Nat) : Code := (loopAt (bodyOf fn) n).getD .skip

def sel {α : Sort _} (c : Bool) (a b : α) : α := match c with
  | true => a
  | false => b
theorem sel_t {α : Sort _} {c : Bool} {a b : α} (h : c = true) : sel c a b = a := by subst h; rfl
theorem sel_f {α : Sort _} {c : Bool} {a b : α} (h : c = false) : sel c a b = b := by subst h; rfl

/-! ### A function's run -/
/-- A result and a heap may be taken as others. -/
def WkS (K0 : List Nat) (p q : SV × Hp) : Prop := ∀ (X : Cx) (S : Nat → Prop) (m : Mp) (w : World) (v : Value), X.Ok → X.K0 = K0 → SimH S m w p.2 → Dom m p.2 → Tr X.S0 X.m0 X.w0 X.H0 S m w p.2 → RepS S m w p.1 v →
  ∃ m', SimH S m' w q.2 ∧ Dom m' q.2 ∧ Tr X.S0 X.m0 X.w0 X.H0 S m' w q.2 ∧ RepS S m' w q.1 v
/-- A function's run, whole: its arguments, its heap; its result (its rows frozen, where the hint says so), its heap then. -/
def runR (P : Program) (G : Nat → Option AV) (fn : Func) (hn : Hn) (as : List AV) (L : Hp) : Pg (SV × Hp) :=
  (exec P G fn.ntmps hn (bodyOf fn) ⟨argTm as 0, L⟩).bind fun p => (sure (isEnd p.1)).bind fun _ => (resSV P p.2 fn.results.toList).bind fun x =>
  (frzAll hn.fe ⟨[(0, x)], p.2.hp⟩).bind fun τ => .ret ((tmGet τ.tm 0).getD .any, τ.hp)

theorem snd_run {P : Program} {G : Nat → Option AV} {f : FuncId} {fn : Func} {as : List AV} {L : Hp} {p q : SV × Hp} {hn : Hn} (d : Nat) (hm : P.follows .mixedOrders = true) (hf : P.funcs[f]? = some fn) (hname : (fn.name == "runtime.NumGoroutine") = false) (hb : fn.body.isSome = true)
    (hN : Nat.ble as.length fn.ntmps = true) (hok : codeOk P hn (bodyOf fn) = true) (h : Yd (Snd P G) (Lp P G fn.ntmps (keys L) hn d) (runR P G fn hn as L) p) (hw : WkS (keys L) p q) : Snd P G f as L q.1 q.2 := by
  obtain ⟨c, hc⟩ := Option.isSome_iff_exists.1 hb
  have e : bodyOf fn = c := by simp [bodyOf, hc]
  unfold runR at h
  rw [e] at hok h
  intro S m w vs hG hA hS hD
  have hlen := repAs_length hA
  have hN := Nat.le_of_ble_eq_true hN
  refine .inl ⟨by simp [callFunc, hf, (show fn.name ≠ "runtime.NumGoroutine" by simpa using hname), hc], ?_⟩
  let X : Cx := ⟨fn.ntmps, G, keys L, S, m, w, L⟩
  have hX : X.Ok := ⟨hD, fun b B hb => mem_keys (hg_mem hb)⟩
  obtain ⟨⟨e, σ⟩, h1, h2⟩ := yd_bind.1 h
  obtain ⟨_, h3, h4⟩ := yd_bind.1 h2
  have h3 := yd_sure.1 h3
  obtain ⟨x, h5, h6⟩ := yd_bind.1 h4
  obtain ⟨τ, hz, h8⟩ := yd_bind.1 h6
  have h8 := yd_ret.1 h8
  subst h8
  have hg0 : Good X ⟨argTm as 0, L⟩ { tmps := vs.toArray ++ Array.replicate (fn.ntmps - vs.toArray.size) undef, defers := [] } w := by
    refine ⟨S, m, hS, hD, argTm_rep hA (fun j v hj => ?_), ?_, rfl, hG, Tr.refl ..⟩
    · have hlt := (List.getElem?_eq_some_iff.1 hj).1
      rw [Nat.zero_add, Array.getElem?_append_left (by simpa using hlt)]
      simpa using hj
    · show (vs.toArray ++ Array.replicate (fn.ntmps - vs.toArray.size) undef).size = fn.ntmps
      simp; omega
  refine calls_of_wp hf hc (wp_mono (exec_sound hm (fun c σ e σ' a w k1 k2 k3 => loop_sound hm hX d c σ e σ' a w k1 k2 k3) c _ e σ _ w hok h1 hg0) ?_)
  rintro _ a1 w1 ⟨rfl, S1, m1, g1, g2, g3, g4, g5, g6, g7⟩
  obtain ⟨v, k1, k2⟩ := resSV_run (P := P) g1 g3 h5
  let X1 : Cx := ⟨1, G, keys L, S, m, w, L⟩
  have hgd : Good X1 ⟨[(0, x)], σ.hp⟩ { tmps := #[v], defers := [] } w1 := by
    refine ⟨S1, m1, g1, g2, fun t y hy => ?_, rfl, rfl, g6, g7⟩
    by_cases e : 0 = t
    · subst e
      rw [tmGet_cons_eq] at hy
      simp only [Option.some.injEq] at hy; subst hy
      exact ⟨v, rfl, k2⟩
    · rw [tmGet_cons_ne e] at hy; cases hy
  obtain ⟨S2, m2, q1, q2, q3, q4, q5, q6, q7⟩ := frzAll_sound hz hgd
  have hres : RepS S2 m2 w1 ((tmGet τ.tm 0).getD .any) v := by
    cases h9 : tmGet τ.tm 0 with
    | none => trivial
    | some y =>
      obtain ⟨v', r1, r2⟩ := q3 0 y h9
      simp only [List.getElem?_toArray, List.getElem?_cons_zero, Option.some.injEq] at r1
      subst r1
      exact r2
  obtain ⟨m3, r1, r2, r3, r4⟩ := hw X S2 m2 w1 v hX rfl q1 q2 q7 hres
  have fin : a1.defers = [] ∧ ∃ v, (results fn a1.tmps).run P w1 = .ok v w1 ∧ ∃ S' m', Tr S m w L S' m' w1 q.2 ∧ SimH S' m' w1 q.2 ∧ Dom m' q.2 ∧ RepS S' m' w1 q.1 v :=
    ⟨g5, v, k1, S2, m3, r3, r1, r2, r4⟩
  cases e with
  | normal => exact fin
  | ret => exact fin
  | exit i => cases h3

instance instNumK (k : IntKind) (n : Nat) : OfNat (K.int k).T n := ⟨(Int.ofNat n : Int)⟩
instance instNegK (k : IntKind) : Neg (K.int k).T := ⟨fun (x : Int) => Int.neg x⟩
/-- An integer, a bool, a string as an argument or a result. -/
abbrev vi (k : IntKind) (x : Int) : AV := .one (.v (.int k x))
abbrev vb (x : Bool) : AV := .one (.v (.bool x))
abbrev vs (x : ByteArray) : AV := .one (.v (.string x))
abbrev vd (k : K) (x : k.T) : AV := .one (.dat k x)
end Vam
