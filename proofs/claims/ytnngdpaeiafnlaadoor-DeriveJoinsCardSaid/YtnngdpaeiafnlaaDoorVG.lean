/- The quiet step: all quiet operations under one name. -/
import Derived.Test.YtnngdpaeiafnlaaDoorVF
namespace Vam
open Go Pg
set_option linter.unusedVariables false
set_option linter.unusedSimpArgs false

def mx (a b : Int) : Int := if a < b then b else a
def mn (a b : Int) : Int := if b < a then b else a

section
variable {S : Nat → Prop} {m : Mp} {w : World} {P : Program} {C : FuncId → List AV → Hp → SV → Hp → Prop} {L : Code → St → Ex → St → Prop}

/-! ### Strings, and values of several cells -/
def qStr (op : BinOp) (a b : ByteArray) : Pg SV :=
  match op with
  | .add => (need (nle (a.size + b.size) 9223372036854775807)).bind fun _ => .ret (vv (.string (sapp a b)))
  | .eql => .ret (vv (.bool (seq a b)))
  | .neq => .ret (vv (.bool (bno (seq a b))))
  | .lss => .ret (vv (.bool (slt a b)))
  | .geq => .ret (vv (.bool (bno (slt a b))))
  | _ => .fail

def leavesOf : SV → Option (List Lf)
  | .av (.agg l) => some l
  | .av (.one (.dat (.arr n k) x)) => some [.dat (.arr n k) x]
  | .av (.one (.dat (.pair a b) x)) => some (leafs (.pair a b) x)
  | _ => none

/-- Is it a pointer that is nil (true), is none (false). -/
def nilPtr : SV → Option Bool
  | .av (.one (.v (.pointer none))) => some true
  | .av (.one (.ptr ..)) => some false
  | .av (.one (.fp ..)) => some false
  | _ => none

def flip' (op : BinOp) (b : Bool) : Pg SV :=
  match op with
  | .eql => .ret (vv (.bool b))
  | .neq => .ret (vv (.bool (bno b)))
  | _ => .fail

def qBin (P : Program) (op : BinOp) (t : TypeId) (x y : SV) : Pg SV :=
  match asI x, asI y with
  | some (k, a), some (k', b) => qInt op k a k' b
  | _, _ =>
  match asSt x, asSt y with
  | some a, some b => qStr op a b
  | _, _ =>
  match asBl x, asBl y with
  | some a, some b => match P.underlying t with
    | some .bool => flip' op (bxn a b)
    | _ => .fail
  | _, _ =>
  match nilPtr x, nilPtr y with
  | some a, some b => match P.underlying t with
    | some (.pointer _) => match a, b with
      | false, false => .fail
      | true, true => flip' op true
      | _, _ => flip' op false
    | _ => .fail
  | _, _ =>
  match leavesOf x, leavesOf y, aggOf P t with
  | some a, some b, some true => (sure (!(P.eqGuardType P.depth t))).bind fun _ => (opt (eqT P 20 t a b)).bind fun r => flip' op r
  | _, _, _ => .fail

theorem equal_at {t : TypeId} {v u : Value} {b : Bool} (h : ∀ D, 30 ≤ D → (Op.equalIn D t v u).run P w = Result.ok b w) : (Op.equal t v u).run P w = Result.ok b w := by
  unfold Op.equal Op.maxDepth
  exact h _ (by decide)

theorem equalIn_nil {t e : TypeId} {p q : Option Addr} {D : Nat} (hD : 30 ≤ D) (hu : P.underlying t = some (.pointer e)) (ho : p.isNone || q.isNone) :
    (Op.equalIn D t (.pointer p) (.pointer q)).run P w = Result.ok (p.isNone && q.isNone) w := by
  obtain ⟨D, rfl⟩ : ∃ d, D = d + 1 := ⟨D - 1, by omega⟩
  cases p with
  | none => simp [Op.equalIn, run_underlying hu]
  | some p =>
    cases q with
    | none => simp [Op.equalIn, run_underlying hu]
    | some q => simp at ho

theorem leavesOf_rep {x : SV} {l : List Lf} {v : Value} (h : leavesOf x = some l) (hr : RepS S m w x v) : ∃ cs, v = .agg cs ∧ RepLs S m w l cs.toList := by
  unfold leavesOf at h
  split at h
  · simp only [Option.some.injEq] at h; subst h; exact hr
  · simp only [Option.some.injEq] at h; subst h
    simp only [RepS, RepA, Lf.wide, K.wide, if_true] at hr
    obtain ⟨cs, e, h1⟩ := hr
    exact ⟨cs, e, RepLs.single.2 h1⟩
  · simp only [Option.some.injEq] at h; subst h
    simp only [RepS, RepA, Lf.wide, K.wide, if_true] at hr
    obtain ⟨cs, e, h1⟩ := hr
    exact ⟨cs, e, leafs_rep.2 h1⟩
  · cases h

theorem nilPtr_rep {x : SV} {b : Bool} {v : Value} (h : nilPtr x = some b) (hr : RepS S m w x v) : ∃ a, v = .pointer a ∧ a.isNone = b := by
  unfold nilPtr at h
  split at h
  · simp only [Option.some.injEq] at h; subst h
    exact ⟨none, (repS_v.1 hr).1, rfl⟩
  · simp only [Option.some.injEq] at h; subst h
    obtain ⟨c, base, _, e⟩ := (repS_one rfl).1 hr
    simp only [List.cons.injEq, and_true] at e
    exact ⟨_, e, rfl⟩
  · simp only [Option.some.injEq] at h; subst h
    obtain ⟨c, off, vs, e, _⟩ := (repS_one rfl).1 hr
    simp only [List.cons.injEq, and_true] at e
    exact ⟨_, e, rfl⟩
  · cases h

theorem flip_run {op : BinOp} {b : Bool} {r : SV} {t : TypeId} {v u : Value} (h : Yd C L (flip' op b) r) (he : (Op.equal t v u).run P w = Result.ok b w)
    (h1 : ∀ k n, v ≠ .int k n) (h2 : ∀ k n, v ≠ .float k n) (h3 : ∀ k n q, v ≠ .complex k n q) (h4 : ∀ s, v ≠ .string s) :
    ∃ z, (binOp op t v u).run P w = Result.ok z w ∧ RepS S m w r z := by
  unfold flip' at h
  split at h
  · have h := yd_ret.1 h; subst h
    refine ⟨.bool b, ?_, rep_v rfl⟩
    cases v <;> simp_all [binOp]
  · have h := yd_ret.1 h; subst h
    refine ⟨.bool (!b), ?_, rep_v rfl⟩
    cases v <;> simp_all [binOp]
  · exact fail_absurd h

theorem qStr_run {op : BinOp} {a b : ByteArray} {r : SV} (h : Yd C L (qStr op a b) r) : ∃ z, (Op.stringOp op a b).run P w = Result.ok z w ∧ RepS S m w r z := by
  unfold qStr at h
  split at h
  · obtain ⟨_, h1, h⟩ := yd_bind.1 h
    have h1 := of_decide_eq_true (yd_need.1 h1)
    have h := yd_ret.1 h; subst h
    refine ⟨_, ?_, rep_v rfl⟩
    simp only [Op.stringOp, IntKind.max_i64]
    rw [if_neg (by omega)]
    rfl
  all_goals first
    | (have h := yd_ret.1 h; subst h; exact ⟨_, by simp [Op.stringOp, seq, slt, bno], rep_v rfl⟩)
    | exact fail_absurd h

theorem qBin_run {op : BinOp} {t : TypeId} {x y r : SV} {v u : Value} {xo yo : Operand} (h : Yd C L (qBin P op t x y) r) (hx : RepS S m w x v) (hy : RepS S m w y u) :
    ∃ z, (do eqGuard op t xo yo v u; binOp op t v u).run P w = Result.ok z w ∧ RepS S m w r z := by
  unfold qBin at h
  split at h
  · rename_i k a k' b ha hb
    obtain rfl := asI_rep ha hx
    obtain rfl := asI_rep hb hy
    obtain ⟨z, h1, h2⟩ := qInt_run (P := P) (t := t) (S := S) (m := m) (w := w) h
    exact ⟨z, by simp only [eqGuard_at_int, Sem.run_bind, Sem.run_pure, Result.andThen_ok]; exact h1, h2⟩
  · split at h
    · rename_i a b ha hb
      obtain rfl := asSt_rep ha hx
      obtain rfl := asSt_rep hb hy
      obtain ⟨z, h1, h2⟩ := qStr_run (P := P) (S := S) (m := m) (w := w) h
      refine ⟨z, ?_, h2⟩
      simp only [eqGuard_at_string, Sem.run_bind, Sem.run_pure, Result.andThen_ok]
      cases op <;> simpa [binOp] using h1
    · split at h
      · rename_i a b ha hb
        obtain rfl := asBl_rep ha hx
        obtain rfl := asBl_rep hb hy
        split at h
        · rename_i hu
          obtain ⟨z, h1, h2⟩ := flip_run (P := P) (S := S) (m := m) (w := w) (t := t) (v := .bool a) (u := .bool b) h
            (equal_at fun D hD => by obtain ⟨D, rfl⟩ : ∃ d, D = d + 1 := ⟨D - 1, by omega⟩; exact run_equalIn_bool' w D t a b hu) (by simp) (by simp) (by simp) (by simp)
          exact ⟨z, by simp only [eqGuard_at_bool, Sem.run_bind, Sem.run_pure, Result.andThen_ok]; exact h1, h2⟩
        · exact fail_absurd h
      · split at h
        · rename_i a b ha hb
          obtain ⟨p, rfl, hp⟩ := nilPtr_rep ha hx
          obtain ⟨q, rfl, hq⟩ := nilPtr_rep hb hy
          split at h
          · rename_i e hu
            have key : ∀ c : Bool, (a && b) = c → (a || b) = true → (Op.equal t (.pointer p) (.pointer q)).run P w = Result.ok c w := by
              intro c hc hor
              subst hp hq
              rw [← hc]
              exact equal_at fun D hD => equalIn_nil hD hu hor
            have fin : ∀ c : Bool, Yd C L (flip' op c) r → (a && b) = c → (a || b) = true → ∃ z, (do eqGuard op t xo yo (.pointer p) (.pointer q); binOp op t (.pointer p) (.pointer q)).run P w = Result.ok z w ∧ RepS S m w r z := by
              intro c hc h1 h2
              obtain ⟨z, g1, g2⟩ := flip_run (P := P) (S := S) (m := m) (w := w) (t := t) (v := .pointer p) (u := .pointer q) hc (key c h1 h2) (by simp) (by simp) (by simp) (by simp)
              exact ⟨z, by simp only [eqGuard_at_pointer, Sem.run_bind, Sem.run_pure, Result.andThen_ok]; exact g1, g2⟩
            split at h
            · exact fail_absurd h
            · exact fin _ h rfl rfl
            · rename_i n1 n2
              cases a <;> cases b
              · exact absurd rfl (n1 rfl)
              · exact fin _ h rfl rfl
              · exact fin _ h rfl rfl
              · exact absurd rfl (n2 rfl)
          · exact fail_absurd h
        · split at h
          · rename_i a b ha hb hag
            obtain ⟨_, h0, h⟩ := yd_bind.1 h
            have h0 : P.eqGuardType P.depth t = false := by simpa using yd_sure.1 h0
            obtain ⟨c, h1, h⟩ := yd_bind.1 h
            have h1 := yd_opt.1 h1
            obtain ⟨cs, rfl, hcs⟩ := leavesOf_rep ha hx
            obtain ⟨ds, rfl, hds⟩ := leavesOf_rep hb hy
            obtain ⟨z, g1, g2⟩ := flip_run (P := P) (S := S) (m := m) (w := w) (t := t) (v := .agg cs) (u := .agg ds) h
              (equal_at fun D hD => eqT_run h1 (by simp only [RepT1, hag]; exact ⟨cs, rfl, hcs⟩) (by simp only [RepT1, hag]; exact ⟨ds, rfl, hds⟩) (by omega)) (by simp) (by simp) (by simp) (by simp)
            exact ⟨z, by simp only [Sem.run_bind, run_eqGuard_agg w op t xo yo cs ds h0, Result.andThen_ok]; exact g1, g2⟩
          · exact fail_absurd h
end
end Vam
