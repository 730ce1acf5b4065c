/- Regions that draw their order: whatever comes first, the end is one. -/
import Derived.Test.YtnngdpaeiafnlaaDoorVQ
namespace Vam
open Go Pg
set_option linter.unusedVariables false
set_option linter.unusedSimpArgs false

def sid (P : Program) (hn : Hn) (id i : Nat) (o : Oper) : List Nat :=
  match quiet P o.op with
  | true => []
  | false => o.dst.toList ++ ((lkR hn.rn (id * 1000 + i)).map (·.2) ++ lkL hn.xt (id * 1000 + i))

def bfOf (ops : Array Oper) : List Nat := (Region.before ops).toList
def nthN : List Nat → Nat → Nat
  | [], _ => 0
  | x :: _, 0 => x
  | _ :: r, i + 1 => nthN r i
/-- Is j (before i in the text) ordered before i? -/
def ordd (bf : List Nat) (j i : Nat) : Bool := Nat.testBit (nthN bf i) j

/-- Is one of the two before the other one (or are they one)? -/
def ordAny (bf : List Nat) (i j : Nat) : Bool := Nat.beq i j || (match Nat.ble j i with | true => ordd bf j i | false => ordd bf i j)

/-- What operations that may come before or after the i-th one touch. -/
def maskOf (P : Program) (hn : Hn) (id : Nat) (bf : List Nat) (i : Nat) : List Oper → Nat → List Nat
  | [], _ => []
  | o :: r, j => match sid P hn id j o with
    | [] => maskOf P hn id bf i r (j + 1)
    | l => match ordAny bf i j with
      | true => maskOf P hn id bf i r (j + 1)
      | false => l ++ maskOf P hn id bf i r (j + 1)

/-- Is it before or behind each other one? -/
def allOrd (bf : List Nat) (i : Nat) : Nat → Bool
  | 0 => true
  | n + 1 => ordAny bf i n && allOrd bf i n
theorem allOrd_get {bf : List Nat} {i j : Nat} : ∀ {n : Nat}, allOrd bf i n = true → j < n → ordAny bf i j = true := by
  intro n
  induction n with
  | zero => intro _ h; omega
  | succ n ih =>
    intro h hj
    simp only [allOrd, Bool.and_eq_true] at h
    rcases Nat.lt_or_eq_of_le (Nat.le_of_lt_succ hj) with h1 | h1
    · exact ih h.2 h1
    · subst h1; exact h.1

def subB : List Nat → List Nat → Bool
  | [], _ => true
  | x :: r, l => mem x l && subB r l
def disB : List Nat → List Nat → Bool
  | [], _ => true
  | x :: r, l => !(mem x l) && disB r l

def opsRunD (P : Program) (G : Nat → Option AV) (N : Nat) (hn : Hn) (id : Nat) (all : List Oper) (bf : List Nat) : List Oper → Nat → St → Pg St
  | [], _, σ => .ret σ
  | o :: r, i, σ => (gstep P G N all (lkR hn.rn (id * 1000 + i)) (maskH (maskOf P hn id bf i all 0) σ.hp) σ o).bind fun p =>
    (sure (subB p.2 (sid P hn id i o) || allOrd bf i all.length)).bind fun _ => opsRunD P G N hn id all bf r (i + 1) p.1

/-- What is checked of a region once. -/
def pairOk (P : Program) (hn : Hn) (id : Nat) (ops : Array Oper) (bf : List Nat) (i : Nat) (oi : Oper) : List Oper → Nat → Bool
  | [], _ => true
  | oj :: r, j => match Nat.ble i j with
    | true => true
    | false => (match ordd bf j i with
      | true => oi.after.toList.any fun e => Region.binds .any e && (Nat.beq e.on j || (ordd bf j e.on && Nat.ble (j + 1) e.on))
      | false => Oper.apart ops oj oi && disB (sid P hn id j oj) (sid P hn id i oi)) && pairOk P hn id ops bf i oi r (j + 1)
def statOk (P : Program) (hn : Hn) (id : Nat) (ops : Array Oper) (bf : List Nat) : List Oper → Nat → Bool
  | [], _ => true
  | o :: r, i => (o.after.toList.all fun e => !(Region.binds .any e) || Nat.ble (e.on + 1) i) && (pairOk P hn id ops bf i o ops.toList 0 && statOk P hn id ops bf r (i + 1))
def regOk (P : Program) (hn : Hn) (id : Nat) (ops : Array Oper) : Bool := statOk P hn id ops (bfOf ops) ops.toList 0

theorem subB_iff : ∀ {a b : List Nat}, subB a b = true ↔ ∀ x, x ∈ a → x ∈ b := by
  intro a
  induction a with
  | nil => intro b; simp [subB]
  | cons x a ih => intro b; simp [subB, mem_iff, ih]
theorem disB_iff : ∀ {a b : List Nat}, disB a b = true ↔ ∀ x, x ∈ a → x ∉ b := by
  intro a
  induction a with
  | nil => intro b; simp [disB]
  | cons x a ih =>
    intro b
    simp only [disB, Bool.and_eq_true, Bool.not_eq_true', ih, List.mem_cons, forall_eq_or_imp]
    have : mem x b = false ↔ x ∉ b := by
      rw [← mem_iff]; simp
    rw [this]

section
variable {P : Program} {G : Nat → Option AV} {C : FuncId → List AV → Hp → SV → Hp → Prop} {L : Code → St → Ex → St → Prop}

/-! ### An operation sees but its operands -/
theorem opds_congr {tm tm' : Tm} : ∀ {os : List Operand}, (∀ x, x ∈ os → opd G tm x = opd G tm' x) → opds G tm os = opds G tm' os := by
  intro os
  induction os with
  | nil => intro _; rfl
  | cons o os ih => intro h; simp only [opds, h o (List.mem_cons_self ..), ih fun x hx => h x (List.mem_cons_of_mem _ hx)]
theorem opdP_congr {tm tm' : Tm} : ∀ {os : List (Nat × Operand)}, (∀ x, x ∈ os.map (·.2) → opd G tm x = opd G tm' x) → opdP G tm os = opdP G tm' os := by
  intro os
  induction os with
  | nil => intro _; rfl
  | cons o os ih => obtain ⟨i, o⟩ := o; intro h; simp only [opdP, h o (by simp), ih fun x hx => h x (by simp only [List.map_cons]; exact List.mem_cons_of_mem _ hx)]

theorem qstep_congr {tm tm' : Tm} {H : Hp} {op : Op} (h : ∀ x, x ∈ op.operands → opd G tm x = opd G tm' x) : qstep P G H tm op = qstep P G H tm' op := by
  cases op <;> simp only [Op.operands] at h <;> unfold qstep <;> try rfl
  case move x => simp only; rw [h x (by simp)]
  case assign x => simp only; rw [h x (by simp)]
  case pick c a b => simp only; rw [h c (by simp), h a (by simp), h b (by simp)]
  case load t a => simp only; rw [h a (by simp)]
  case nilCheck x => simp only; rw [h x (by simp)]
  case binOp op t x y t2 => simp only; rw [h x (by simp), h y (by simp)]
  case unOp op t x => simp only; rw [h x (by simp)]
  case convert s d x => simp only; rw [h x (by simp)]
  case slice t x lo hi mx =>
    cases mx with
    | some _ => rfl
    | none =>
      simp only
      rw [h x (by simp)]
      have e1 : opdO G tm lo = opdO G tm' lo := by cases lo with | none => rfl | some y => simp only [opdO]; rw [h y (by simp)]
      have e2 : opdO G tm hi = opdO G tm' hi := by cases hi with | none => rfl | some y => simp only [opdO]; rw [h y (by simp)]
      rw [e1, e2]
  case fieldAddr t x f => simp only; rw [h x (by simp)]
  case field t x f => simp only; rw [h x (by simp)]
  case indexAddr t x i => simp only; rw [h x (by simp), h i (by simp)]
  case index t x i => simp only; rw [h x (by simp), h i (by simp)]
  case extract x i => simp only; rw [h x (by simp)]
  case build t parts => simp only; rw [opdP_congr fun x hx => h x (by simpa using hx)]
  case call c => simp only; rw [opds_congr fun x hx => h x (by simp [Call.operands]; exact .inr (by simpa using hx))]

theorem estep_congr {tm tm' : Tm} {H : Hp} {dst : Option Nat} {op : Op} (h : ∀ x, x ∈ op.operands → opd G tm x = opd G tm' x) : estep P G H tm dst op = estep P G H tm' dst op := by
  cases op <;> simp only [Op.operands] at h <;> unfold estep <;> (try rfl) <;> (try (cases dst <;> rfl))
  case box t x => cases dst <;> simp only; rw [h x (by simp)]
  case buildSlice t n ps => cases dst <;> simp only; rw [opdP_congr fun x hx => h x (by simpa using hx)]
  case makeSlice t l c => cases dst <;> simp only; rw [h l (by simp), h c (by simp)]
  case convert s t x => cases dst <;> simp only; rw [h x (by simp)]
  case store t p x => simp only; rw [h p (by simp), h x (by simp)]
  case call c =>
    simp only
    have ha : ∀ x, x ∈ c.args.toList → opd G tm x = opd G tm' x := fun x hx => h x (by simp [Call.operands]; exact .inr (by simpa using hx))
    split
    · rename_i x y t tx d hc e1 e2
      rw [ha x (by rw [e1]; simp), ha y (by rw [e1]; simp)]
    · rename_i x y t tx hc e1 e2
      rw [ha x (by rw [e1]; simp), ha y (by rw [e1]; simp)]
    · rfl

theorem grun_congr {ops : Array Oper} {R : Rn} {tm tm' : Tm} {H : Hp} {o : Oper} (h : ∀ t, t ∈ o.looksAt ops → tmGet tm t = tmGet tm' t) : grun P G ops.toList R tm H o = grun P G ops.toList R tm' H o := by
  have hop : ∀ x, x ∈ o.op.operands → opd G tm x = opd G tm' x := by
    intro x hx
    cases x with
    | tmp t => exact h t (List.mem_append_left _ (List.mem_filterMap.2 ⟨.tmp t, by simpa using hx, rfl⟩))
    | const v => rfl
    | global g => rfl
    | func f => rfl
  have hg : guardOk ops.toList tm o.guard = guardOk ops.toList tm' o.guard := by
    unfold guardOk
    cases hgd : o.guard with
    | none => rfl
    | some p =>
      obtain ⟨j, want⟩ := p
      dsimp only
      cases hj : ops.toList[j]? with
      | none => rfl
      | some o' =>
        dsimp only
        cases hd : o'.dst with
        | none => rfl
        | some t =>
          dsimp only
          rw [h t (List.mem_append_right _ (by rw [hgd]; have hj' : ops[j]? = some o' := by simpa using hj
                                               simp [hj', hd]))]
  have ho : orun P G R tm H o = orun P G R tm' H o := by
    unfold orun
    rw [qstep_congr hop, estep_congr hop]
    split
    · rfl
    · split
      · rename_i c hc
        split
        · rw [opds_congr fun x hx => hop x (by rw [hc]; simp [Op.operands, Call.operands]; exact .inr (by simpa using hx))]
        · rfl
      · rfl
  unfold grun
  rw [hg, ho]

/-! ### Two operations that aren't ordered -/
theorem hg_upd_ne {b : Nat} : ∀ {V H : Hp}, b ∉ keys V → hg (upd H V) b = hg H b := by
  intro V
  induction V with
  | nil => intro H _; rfl
  | cons p V ih =>
    obtain ⟨c, A⟩ := p
    intro H h
    simp only [keys, List.map_cons, List.mem_cons, not_or] at h
    simp only [upd]
    rw [ih h.2, hg_hput, if_neg (fun e => h.1 e.symm)]

theorem freshAll_congr {Hm H H' : Hp} : ∀ {U : Hp}, (∀ b, b ∈ keys U → hg H b = hg H' b) → freshAll Hm H U = freshAll Hm H' U := by
  intro U
  induction U with
  | nil => intro _; rfl
  | cons p U ih =>
    obtain ⟨c, A⟩ := p
    intro h
    simp only [freshAll]
    rw [h c (by simp [keys]), ih fun b hb => h b (by simp only [keys, List.map_cons, List.mem_cons]; exact .inr hb)]
theorem freshR_congr {Hm H H' : Hp} : ∀ {R : Rn}, (∀ b, b ∈ R.map (·.2) → hg H b = hg H' b) → freshR Hm H R = freshR Hm H' R := by
  intro R
  induction R with
  | nil => intro _; rfl
  | cons p R ih =>
    obtain ⟨c, A⟩ := p
    intro h
    simp only [freshR]
    rw [h A (by simp), ih fun b hb => h b (by simp only [List.map_cons, List.mem_cons]; exact .inr hb)]

theorem okPut_congr {N : Nat} {hn : Hn} {id i : Nat} {Hm H H' U : Hp} {o : Oper} (hU : ∀ b, b ∈ keys U → b ∈ sid P hn id i o) (h : ∀ b, b ∈ sid P hn id i o → hg H b = hg H' b) :
    okPut P N (lkR hn.rn (id * 1000 + i)) Hm H o U = okPut P N (lkR hn.rn (id * 1000 + i)) Hm H' o U := by
  unfold okPut
  cases hq : quiet P o.op with
  | true => simp
  | false =>
    have hs : sid P hn id i o = o.dst.toList ++ ((lkR hn.rn (id * 1000 + i)).map (·.2) ++ lkL hn.xt (id * 1000 + i)) := by simp only [sid, hq]
    have e1 : freshD H o.dst = freshD H' o.dst := by
      cases hd : o.dst with
      | none => rfl
      | some d => simp only [freshD]; rw [h d (by rw [hs, hd]; simp)]
    have e2 : freshAll Hm H U = freshAll Hm H' U := freshAll_congr fun b hb => h b (hU b hb)
    have e3 : freshR Hm H (lkR hn.rn (id * 1000 + i)) = freshR Hm H' (lkR hn.rn (id * 1000 + i)) := freshR_congr fun b hb => h b (by rw [hs]; exact List.mem_append_right _ (List.mem_append_left _ hb))
    rw [e1, e2, e3]

/-- One operation of a region that draws. -/
def Stp (P : Program) (G : Nat → Option AV) (C : FuncId → List AV → Hp → SV → Hp → Prop) (L : Code → St → Ex → St → Prop) (N : Nat) (hn : Hn) (id : Nat) (ops : Array Oper) (i : Nat) (σ σ' : St) : Prop :=
  ∃ o u, ops[i]? = some o ∧ Yd C L (gstep P G N ops.toList (lkR hn.rn (id * 1000 + i)) (maskH (maskOf P hn id (bfOf ops) i ops.toList 0) σ.hp) σ o) (σ', u) ∧ ((∀ b, b ∈ u → b ∈ sid P hn id i o) ∨ allOrd (bfOf ops) i ops.size = true)

theorem Stp.open {N : Nat} {hn : Hn} {id : Nat} {ops : Array Oper} {i : Nat} {σ σ' : St} (h : Stp P G C L N hn id ops i σ σ') :
    ∃ o p, ops[i]? = some o ∧ Yd C L (grun P G ops.toList (lkR hn.rn (id * 1000 + i)) σ.tm (maskH (maskOf P hn id (bfOf ops) i ops.toList 0) σ.hp) o) p ∧ ∃ r U, σ' = oput σ o.dst r U ∧ ((∀ b, b ∈ keys U → b ∈ sid P hn id i o) ∨ allOrd (bfOf ops) i ops.size = true) ∧
      ((p = some (r, U) ∧ okPut P N (lkR hn.rn (id * 1000 + i)) (maskH (maskOf P hn id (bfOf ops) i ops.toList 0) σ.hp) σ.hp o U = true) ∨ (p = none ∧ r = .un ∧ U = [] ∧ dstOk N o.dst = true)) := by
  obtain ⟨o, u, ho, h1, hu⟩ := h
  unfold gstep at h1
  obtain ⟨p, h2, h3⟩ := yd_bind.1 h1
  refine ⟨o, p, ho, h2, ?_⟩
  cases p with
  | some q =>
    obtain ⟨r, U⟩ := q
    obtain ⟨_, h4, h5⟩ := yd_bind.1 h3
    obtain ⟨rfl, rfl⟩ := Prod.mk.inj (yd_ret.1 h5)
    exact ⟨r, U, rfl, hu, .inl ⟨rfl, yd_sure.1 h4⟩⟩
  | none =>
    obtain ⟨_, h4, h5⟩ := yd_bind.1 h3
    obtain ⟨rfl, rfl⟩ := Prod.mk.inj (yd_ret.1 h5)
    exact ⟨.un, [], rfl, hu, .inr ⟨rfl, rfl, rfl, yd_sure.1 h4⟩⟩

theorem Stp.shut {N : Nat} {hn : Hn} {id : Nat} {ops : Array Oper} {i : Nat} {σ : St} {o : Oper} {p : Option (SV × Hp)} {r : SV} {U : Hp} (ho : ops[i]? = some o)
    (h1 : Yd C L (grun P G ops.toList (lkR hn.rn (id * 1000 + i)) σ.tm (maskH (maskOf P hn id (bfOf ops) i ops.toList 0) σ.hp) o) p) (hU : (∀ b, b ∈ keys U → b ∈ sid P hn id i o) ∨ allOrd (bfOf ops) i ops.size = true)
    (h : (p = some (r, U) ∧ okPut P N (lkR hn.rn (id * 1000 + i)) (maskH (maskOf P hn id (bfOf ops) i ops.toList 0) σ.hp) σ.hp o U = true) ∨ (p = none ∧ r = .un ∧ U = [] ∧ dstOk N o.dst = true)) :
    Stp P G C L N hn id ops i σ (oput σ o.dst r U) := by
  refine ⟨o, keys U, ho, ?_, hU⟩
  unfold gstep
  refine yd_bind.2 ⟨p, h1, ?_⟩
  rcases h with ⟨rfl, h2⟩ | ⟨rfl, rfl, rfl, h2⟩
  · exact yd_bind.2 ⟨(), yd_sure.2 h2, yd_ret.2 rfl⟩
  · exact yd_bind.2 ⟨(), yd_sure.2 h2, yd_ret.2 rfl⟩

structure Ind (P : Program) (hn : Hn) (id : Nat) (ops : Array Oper) (i j : Nat) : Prop where
  li : i < ops.size
  lj : j < ops.size
  ni : ordAny (bfOf ops) i j = false
  nj : ordAny (bfOf ops) j i = false
  ap : ∀ oi oj, ops[i]? = some oi → ops[j]? = some oj → oi.apart ops oj = true ∧ (∀ b, b ∈ sid P hn id i oi → b ∉ sid P hn id j oj) ∧
    (∀ b, b ∈ sid P hn id i oi → b ∈ maskOf P hn id (bfOf ops) j ops.toList 0) ∧ (∀ b, b ∈ sid P hn id j oj → b ∈ maskOf P hn id (bfOf ops) i ops.toList 0)

theorem tmGet_set_ne {tm : Tm} {dst : Option Nat} {x : SV} {t : Nat} (h : ∀ d, dst = some d → d ≠ t) : tmGet (tmSet tm dst x) t = tmGet tm t := by
  cases dst with
  | none => rfl
  | some d => simp only [tmSet, tmGet_put, if_neg (h d rfl)]

theorem diamond {N : Nat} {hn : Hn} {id : Nat} {ops : Array Oper} {i j : Nat} {σ σ1 σ2 : St} (hI : Ind P hn id ops i j) (h1 : Stp P G C L N hn id ops i σ σ1) (h2 : Stp P G C L N hn id ops j σ1 σ2) :
    ∃ τ, Stp P G C L N hn id ops j σ τ ∧ Stp P G C L N hn id ops i τ σ2 := by
  obtain ⟨oi, pi, hoi, hri, ri, Ui, rfl, hUi, hki⟩ := h1.open
  obtain ⟨oj, pj, hoj, hrj, rj, Uj, rfl, hUj, hkj⟩ := h2.open
  obtain ⟨ha, hdis, hm1, hm2⟩ := hI.ap oi oj hoi hoj
  have hUi0 := hUi
  have hUj0 := hUj
  have hUi : ∀ b, b ∈ keys Ui → b ∈ sid P hn id i oi := hUi.resolve_right fun h => by
    have := allOrd_get h hI.lj
    rw [hI.ni] at this; cases this
  have hUj : ∀ b, b ∈ keys Uj → b ∈ sid P hn id j oj := hUj.resolve_right fun h => by
    have := allOrd_get h hI.li
    rw [hI.nj] at this; cases this
  obtain ⟨a1, a2, a3⟩ := Oper.apart_spec ha
  have m1 : maskH (maskOf P hn id (bfOf ops) j ops.toList 0) (oput σ oi.dst ri Ui).hp = maskH (maskOf P hn id (bfOf ops) j ops.toList 0) σ.hp := maskH_upd fun b hb => hm1 b (hUi b hb)
  have t1 : ∀ t, t ∈ oj.looksAt ops → tmGet (oput σ oi.dst ri Ui).tm t = tmGet σ.tm t := fun t ht => tmGet_set_ne fun d hd e => a1 d hd (e ▸ ht)
  rw [m1, grun_congr t1] at hrj
  rw [m1] at hkj
  have f1 : okPut P N (lkR hn.rn (id * 1000 + j)) (maskH (maskOf P hn id (bfOf ops) j ops.toList 0) σ.hp) (oput σ oi.dst ri Ui).hp oj Uj = okPut P N (lkR hn.rn (id * 1000 + j)) (maskH (maskOf P hn id (bfOf ops) j ops.toList 0) σ.hp) σ.hp oj Uj :=
    okPut_congr hUj fun b hb => hg_upd_ne fun hc => hdis b (hUi b hc) hb
  rw [f1] at hkj
  refine ⟨oput σ oj.dst rj Uj, Stp.shut hoj hrj hUj0 hkj, ?_⟩
  have m2 : maskH (maskOf P hn id (bfOf ops) i ops.toList 0) (oput σ oj.dst rj Uj).hp = maskH (maskOf P hn id (bfOf ops) i ops.toList 0) σ.hp := maskH_upd fun b hb => hm2 b (hUj b hb)
  have t2 : ∀ t, t ∈ oi.looksAt ops → tmGet (oput σ oj.dst rj Uj).tm t = tmGet σ.tm t := fun t ht => tmGet_set_ne fun d hd e => a3 d hd (e ▸ ht)
  have f2 : okPut P N (lkR hn.rn (id * 1000 + i)) (maskH (maskOf P hn id (bfOf ops) i ops.toList 0) σ.hp) (oput σ oj.dst rj Uj).hp oi Ui = okPut P N (lkR hn.rn (id * 1000 + i)) (maskH (maskOf P hn id (bfOf ops) i ops.toList 0) σ.hp) σ.hp oi Ui :=
    okPut_congr hUi fun b hb => hg_upd_ne fun hc => hdis b hb (hUj b hc)
  have key : oput (oput σ oj.dst rj Uj) oi.dst ri Ui = oput (oput σ oi.dst ri Ui) oj.dst rj Uj := by
    have e1 : upd (upd σ.hp Uj) Ui = upd (upd σ.hp Ui) Uj := upd_comm fun b hb hc => hdis b (hUi b hc) (hUj b hb)
    have e2 : tmSet (tmSet σ.tm oj.dst rj) oi.dst ri = tmSet (tmSet σ.tm oi.dst ri) oj.dst rj := by
      cases hdi : oi.dst with
      | none => rfl
      | some d =>
        cases hdj : oj.dst with
        | none => rfl
        | some e => exact tmPut_comm fun h => a2 d hdi (by rw [hdj, h])
    simp only [oput, e1, e2]
  rw [← key]
  refine Stp.shut (p := pi) hoi ?_ hUi0 ?_
  · rw [m2, grun_congr t2]; exact hri
  · rw [m2, f2]; exact hki

/-! ### All orders -/
inductive Runs (P : Program) (G : Nat → Option AV) (C : FuncId → List AV → Hp → SV → Hp → Prop) (L : Code → St → Ex → St → Prop) (N : Nat) (hn : Hn) (id : Nat) (ops : Array Oper) : List Nat → St → St → Prop
  | nil (σ : St) : Runs P G C L N hn id ops [] σ σ
  | cons {i : Nat} {xs : List Nat} {σ τ σ' : St} (h : Stp P G C L N hn id ops i σ τ) (r : Runs P G C L N hn id ops xs τ σ') : Runs P G C L N hn id ops (i :: xs) σ σ'

theorem Runs.pull {N : Nat} {hn : Hn} {id : Nat} {ops : Array Oper} {i : Nat} {zs : List Nat} : ∀ {ys : List Nat} {σ σ' : St}, Runs P G C L N hn id ops (ys ++ i :: zs) σ σ' → (∀ j, j ∈ ys → Ind P hn id ops j i) →
    ∃ τ, Stp P G C L N hn id ops i σ τ ∧ Runs P G C L N hn id ops (ys ++ zs) τ σ' := by
  intro ys
  induction ys with
  | nil =>
    intro σ σ' h _
    cases h with
    | cons h r => exact ⟨_, h, r⟩
  | cons y ys ih =>
    intro σ σ' h hI
    cases h with
    | cons h r =>
      obtain ⟨τ, h1, h2⟩ := ih r fun j hj => hI j (List.mem_cons_of_mem _ hj)
      obtain ⟨τ', h3, h4⟩ := diamond (hI y (List.mem_cons_self ..)) h h1
      exact ⟨τ', h3, .cons h4 h2⟩

theorem opsRunD_runs {N : Nat} {hn : Hn} {id : Nat} {ops : Array Oper} : ∀ (r : List Oper) (i : Nat) (σ σ' : St), ops.toList.drop i = r → Yd C L (opsRunD P G N hn id ops.toList (bfOf ops) r i σ) σ' → Runs P G C L N hn id ops (List.range' i r.length) σ σ' := by
  intro r
  induction r with
  | nil => intro i σ σ' _ h; have h := yd_ret.1 h; subst h; exact .nil _
  | cons o r ih =>
    intro i σ σ' hr h
    obtain ⟨p, h1, h2⟩ := yd_bind.1 h
    obtain ⟨_, h3, h4⟩ := yd_bind.1 h2
    have hi : ops[i]? = some o := by
      have : (ops.toList.drop i)[0]? = some o := by rw [hr]; rfl
      simpa using this
    have hr' : ops.toList.drop (i + 1) = r := by
      rw [← List.drop_drop, hr]; rfl
    rw [List.length_cons, List.range'_succ]
    have h3 := yd_sure.1 h3
    rw [Bool.or_eq_true] at h3
    exact .cons ⟨o, p.2, hi, h1, h3.imp subB_iff.1 (fun h => by simpa using h)⟩ (ih (i + 1) p.1 σ' hr' h4)
end
end Vam
