/- Comparisons, conversions, lengths and small operations. -/
import Derived.Test.YtnngdpaeiafnlaaDoorVE
import Derived.Laws.StructEq
import Derived.ChangeKeysEq
namespace Vam
open Go Pg
set_option linter.unusedVariables false
set_option linter.unusedSimpArgs false

section
variable {S : Nat → Prop} {m : Mp} {w : World} {P : Program} {C : FuncId → List AV → Hp → SV → Hp → Prop} {L : Code → St → Ex → St → Prop}

/-! ### Are two values one -/
def conj : List Bool → Bool
  | [] => true
  | [b] => b
  | b :: r => b && conj r

theorem conj_cons {b : Bool} {l : List Bool} : conj (b :: l) = (b && conj l) := by
  cases l with
  | nil => simp [conj]
  | cons c l => rfl

def lieq (a b : List Int) : Bool := a == b
def intsL {n : Nat} {k : IntKind} (x : (K.arr n (.int k)).T) : List Int := x

/-- Are two lists of leaves one, as values of a type. -/
def eqT (P : Program) : Nat → TypeId → List Lf → List Lf → Option Bool
  | 0, _, _, _ => none
  | d + 1, t, l1, l2 =>
    match P.underlying t with
    | some .bool => match l1, l2 with
      | [.v (.bool a)], [.v (.bool b)] => some (bxn a b)
      | _, _ => none
    | some (.int _) => match l1, l2 with
      | [.v (.int k a)], [.v (.int k' b)] => if k = k' then some (ieq a b) else none
      | _, _ => none
    | some .string => match l1, l2 with
      | [.v (.string a)], [.v (.string b)] => some (seq a b)
      | _, _ => none
    | some (.struct fs) =>
      match P.stoodInHeld t with
      | true => none
      | false => (fs.toList.foldr (fun f r => match f.name == "_" with
        | true => none
        | false => (szOf P f.type).bind fun z => (segAt l1 f.offset).bind fun a => (segAt l2 f.offset).bind fun b => (segTake a z).bind fun a => (segTake b z).bind fun b =>
          (eqT P d f.type a b).bind fun x => r.map fun y => x :: y) (some [])).map conj
    | some (.array n e) =>
      match P.underlying e, szOf P e, l1, l2 with
      | some (.int _), some 1, [.dat (.arr n1 (.int k1)) x], [.dat (.arr n2 (.int k2)) y] => if n1 = n ∧ n2 = n ∧ k1 = k2 then some (lieq (intsL x) (intsL y)) else none
      | _, _, _, _ => none
    | _ => none

/-- What leaves are as one value of a type. -/
def RepT1 (S : Nat → Prop) (m : Mp) (w : World) (P : Program) (t : TypeId) (l : List Lf) (v : Value) : Prop :=
  match aggOf P t with
  | some true => ∃ cs, v = .agg cs ∧ RepLs S m w l cs.toList
  | some false => RepLs S m w l [v]
  | none => False

theorem part_one {t : TypeId} {z off : Nat} {l a b : List Lf} {cs : Array Value} (hz : szOf P t = some z) (h1 : segAt l off = some a) (h2 : segTake a z = some b) (hr : RepLs S m w l cs.toList)
    (hg : (aggOf P t).isSome) (hz1 : aggOf P t = some false → z = 1) : ∃ v, (part t cs off).run P w = Result.ok v w ∧ RepT1 S m w P t b v := by
  obtain ⟨g, hg⟩ := Option.isSome_iff_exists.1 hg
  obtain ⟨f1, f2⟩ := segAt_rep h1 hr
  obtain ⟨f3, f4⟩ := segTake_rep h2 f2
  cases g with
  | true =>
    refine ⟨.agg (cs.extract off (off + z)), by simp [part, run_isAgg' hg, run_sizeOf' hz], ?_⟩
    simp only [RepT1, hg]
    refine ⟨_, rfl, ?_⟩
    simp only [Array.toList_extract, List.extract_eq_take_drop, Nat.add_sub_cancel_left]
    exact f4
  | false =>
    have := hz1 hg
    subst this
    have hlen : off < cs.size := by simp at f3 f1; omega
    refine ⟨cs[off], by simp [part, run_isAgg' hg, hlen], ?_⟩
    simp only [RepT1, hg]
    have : (cs.toList.drop off).take 1 = [cs[off]] := by
      apply List.ext_getElem?
      intro i
      rw [List.getElem?_take]
      cases i with
      | zero => simp [hlen]
      | succ i => simp
    rw [this] at f4
    exact f4

theorem repLs_v {x y : Value} {cs : List Value} (h : RepLs S m w [.v x] cs) : cs = [x] := (RepLs.single.1 h).1

/-- One-cell types. -/
theorem eqT_sz {d : Nat} {t : TypeId} {l1 l2 : List Lf} {b : Bool} (h : eqT P d t l1 l2 = some b) (hg : aggOf P t = some false) {v : Value} {cs : List Value} (hr : RepLs S m w l1 cs) : cs.length = 1 := by
  cases d with
  | zero => simp [eqT] at h
  | succ d =>
    simp only [eqT] at h
    unfold aggOf at hg
    split at h
    · split at h
      · rw [repLs_v (y := v) hr]; rfl
      · cases h
    · split at h
      · rw [repLs_v (y := v) hr]; rfl
      · cases h
    · split at h
      · rw [repLs_v (y := v) hr]; rfl
      · cases h
    · rename_i fs hu; rw [hu] at hg; cases hg
    · rename_i n e hu; rw [hu] at hg; cases hg
    · cases h

theorem eqT_agg {d : Nat} {t : TypeId} {l1 l2 : List Lf} {b : Bool} (h : eqT P d t l1 l2 = some b) : (aggOf P t).isSome = true := by
  cases d with
  | zero => simp [eqT] at h
  | succ d =>
    simp only [eqT] at h
    unfold aggOf
    cases hu : P.underlying t with
    | none => simp [hu] at h
    | some x => cases x <;> rfl

theorem range_items {xs ys : Array Value} {e : TypeId} {k : IntKind} {D : Nat} {kk : IntKind} (hu : P.underlying e = some (.int kk)) (hc : P.cellsOf e = 1) :
    ∀ (is : List Nat) (x y : List Int), is.map (fun i => xs[i]?) = x.map (fun n => some (Value.int k n)) → is.map (fun i => ys[i]?) = y.map (fun n => some (Value.int k n)) →
      (Op.eqItems (D + 1) e 1 xs ys is).run P w = Result.ok (x == y) w := by
  intro is
  induction is with
  | nil => intro x y hx hy; cases x <;> cases y <;> simp_all [Op.eqItems]
  | cons i is ih =>
    intro x y hx hy
    cases x with
    | nil => simp at hx
    | cons a x =>
      cases y with
      | nil => simp at hy
      | cons b y =>
        simp only [List.map_cons, List.cons.injEq] at hx hy
        have hp : ∀ (zs : Array Value) (u : Value), zs[i]? = some u → (part e zs (i * 1)).run P w = Result.ok u w := by
          intro zs u hz
          have hag : aggOf P e = some false := by simp [aggOf, hu]
          simp [part, run_isAgg' hag, hz]
        simp only [Op.eqItems, Sem.run_bind, hp _ _ hx.1, hp _ _ hy.1, Result.andThen_ok, run_equalIn_int w D e k kk a b hu]
        by_cases hab : a = b
        · subst hab
          simp only [beq_self_eq_true, Bool.not_true, Bool.false_eq_true, if_false]
          rw [ih x y hx.2 hy.2]
          simp
        · have : (a == b) = false := by simpa using hab
          simp [this, hab]

theorem arr_ints {n : Nat} {k : IntKind} {x : (K.arr n (.int k)).T} {cs : List Value} (h : RepD S w (.arr n (.int k)) x cs) : cs = (intsL x).map (Value.int k) ∧ (intsL x).length = n := by
  obtain ⟨h1, h2, h3⟩ := h
  have h1' : (intsL x).length = n := h1
  refine ⟨?_, h1'⟩
  simp only [K.sz, Nat.mul_one] at h2 h3
  have h3' : ∀ i, i < n → (cs.drop i).take 1 = [.int k ((intsL x).getD i 0)] := h3
  clear h3 h1
  generalize intsL x = y at *
  apply List.ext_getElem?
  intro i
  by_cases hi : i < n
  · have h5 : ((cs.drop i).take 1)[0]? = some (.int k (y.getD i 0)) := by rw [h3' i hi]; rfl
    rw [List.getElem?_take, if_pos (by decide), List.getElem?_drop, Nat.add_zero] at h5
    rw [h5, List.getElem?_map, List.getD_eq_getElem?_getD, List.getElem?_eq_getElem (by omega)]
    rfl
  · rw [List.getElem?_eq_none (by omega), List.getElem?_eq_none (by simp; omega)]

theorem arr_range {n : Nat} {k : IntKind} {y : List Int} {c : Array Value} (e1 : c.toList = y.map (Value.int k)) (f1 : y.length = n) : (List.range n).map (fun i => c[i]?) = y.map (fun n => some (Value.int k n)) := by
  apply List.ext_getElem?
  intro j
  by_cases hj : j < n
  · have : c[j]? = some (Value.int k (y[j]'(by omega))) := by
      have := congrArg (fun l => l[j]?) e1
      simp only [List.getElem?_map, List.getElem?_eq_getElem (show j < y.length by omega), Option.map_some] at this
      simpa using this
    simp [List.getElem?_map, hj, this, List.getElem?_eq_getElem (show j < y.length by omega)]
  · simp [List.getElem?_map, hj, List.getElem?_eq_none (show y.length ≤ j by omega)]

theorem eqT_run : ∀ {d : Nat} {t : TypeId} {l1 l2 : List Lf} {b : Bool} {v1 v2 : Value} {D : Nat}, eqT P d t l1 l2 = some b → RepT1 S m w P t l1 v1 → RepT1 S m w P t l2 v2 → d + 1 ≤ D →
    (Op.equalIn D t v1 v2).run P w = Result.ok b w := by
  intro d
  induction d with
  | zero => intro t l1 l2 b v1 v2 D h; simp [eqT] at h
  | succ d ih =>
    intro t l1 l2 b v1 v2 D h h1 h2 hD
    obtain ⟨D, rfl⟩ : ∃ D', D = D' + 1 := ⟨D - 1, by omega⟩
    simp only [eqT] at h
    split at h
    · rename_i hu
      split at h
      · simp only [Option.some.injEq] at h; subst h
        simp only [RepT1, aggOf, hu] at h1 h2
        have e1 := repLs_v (y := v1) h1
        have e2 := repLs_v (y := v1) h2
        simp only [List.cons.injEq, and_true] at e1 e2
        subst e1 e2
        exact run_equalIn_bool' w D t _ _ hu
      · cases h
    · rename_i kk hu
      split at h
      · split at h
        · rename_i hk
          subst hk
          simp only [Option.some.injEq] at h; subst h
          simp only [RepT1, aggOf, hu] at h1 h2
          have e1 := repLs_v (y := v1) h1
          have e2 := repLs_v (y := v1) h2
          simp only [List.cons.injEq, and_true] at e1 e2
          subst e1 e2
          exact run_equalIn_int w D t _ _ _ _ hu
        · cases h
      · cases h
    · rename_i hu
      split at h
      · simp only [Option.some.injEq] at h; subst h
        simp only [RepT1, aggOf, hu] at h1 h2
        have e1 := repLs_v (y := v1) h1
        have e2 := repLs_v (y := v1) h2
        simp only [List.cons.injEq, and_true] at e1 e2
        subst e1 e2
        exact run_equalIn_string w D t _ _ hu
      · cases h
    · rename_i fs hu
      split at h
      · cases h
      · rename_i hst
        simp only [RepT1, aggOf, hu] at h1 h2
        obtain ⟨c1, rfl, h1⟩ := h1
        obtain ⟨c2, rfl, h2⟩ := h2
        have hf : P.fieldsOf t = fs := by simp [Program.fieldsOf, hu]
        rw [run_equalIn_struct (P := P) w D t c1 c2 (by rw [hf]; exact hu) hst, hf]
        simp only [Option.map_eq_some_iff] at h
        obtain ⟨bs, h3, rfl⟩ := h
        clear hu hf
        generalize fs.toList = fl at h3
        clear hst fs
        induction fl generalizing bs with
        | nil => simp only [List.foldr_nil, Option.some.injEq] at h3; subst h3; simp [Op.eqFields, conj]
        | cons f fl ihf =>
          simp only [List.foldr_cons] at h3
          split at h3
          · cases h3
          · rename_i hn
            simp only [Option.bind_eq_some_iff, Option.map_eq_some_iff] at h3
            obtain ⟨z, hz, a1, ha1, b1, hb1, a2, ha2, b2, hb2, x, hx, bs', hbs, rfl⟩ := h3
            have hn' : f.name ≠ "_" := by simpa using hn
            have hag := eqT_agg hx
            obtain ⟨u1, p1, q1⟩ := part_one hz ha1 ha2 h1 hag (fun e => by
              obtain ⟨f1, f2⟩ := segAt_rep ha1 h1
              obtain ⟨f3, f4⟩ := segTake_rep ha2 f2
              have := eqT_sz hx e (v := .bool true) f4
              simp at this f3; omega)
            have hb2' : ∃ u2, (part f.type c2 f.offset).run P w = Result.ok u2 w ∧ RepT1 S m w P f.type b2 u2 := by
              refine part_one hz hb1 hb2 h2 hag (fun e => by
                obtain ⟨f1, f2⟩ := segAt_rep ha1 h1
                obtain ⟨f3, f4⟩ := segTake_rep ha2 f2
                have := eqT_sz hx e (v := .bool true) f4
                simp at this f3; omega)
            obtain ⟨u2, p2, q2⟩ := hb2'
            have hE := ih hx q1 q2 (D := D) (by omega)
            simp only [Op.eqFields, if_pos hn', Sem.run_bind, p1, p2, hE, Result.andThen_ok]
            rw [conj_cons]
            cases x
            · simp
            · simpa using ihf bs' hbs
    · rename_i n e hu
      split at h
      · rename_i kk n1 k1 x n2 k2 y hue hse
        split at h
        · rename_i hh
          obtain ⟨rfl, rfl, rfl⟩ := hh
          simp only [Option.some.injEq] at h; subst h
          simp only [RepT1, aggOf, hu] at h1 h2
          obtain ⟨c1, rfl, h1⟩ := h1
          obtain ⟨c2, rfl, h2⟩ := h2
          obtain ⟨e1, f1⟩ := arr_ints (RepLs.single.1 h1)
          obtain ⟨e2, f2⟩ := arr_ints (RepLs.single.1 h2)
          have hinfo : ∃ i, P.info? e = some i ∧ i.size = 1 := by
            unfold szOf at hse
            cases hi : P.info? e with
            | none => simp [hi] at hse
            | some i => exact ⟨i, rfl, by simpa [hi] using hse⟩
          obtain ⟨i, hi, hi1⟩ := hinfo
          have hc : P.cellsOf e = 1 := by simp [Program.cellsOf, hi, hi1]
          rw [run_equalIn_array (P := P) w D c1 c2 hu hi, hc]
          cases D with
          | zero => omega
          | succ D =>
          exact range_items (k := k1) hue hc _ (intsL x) (intsL y) (arr_range e1 f1) (arr_range e2 f2)
        · cases h
      · cases h
    · cases h
end
end Vam
