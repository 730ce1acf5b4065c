/- Rows of elements in memory: read, set, spliced, joined. -/
import Derived.Test.YtnngdpaeiafnlaaDoorVK
namespace Vam
open Go Pg
set_option linter.unusedVariables false
set_option linter.unusedSimpArgs false
section
variable {S S' : Nat → Prop} {m m' : Mp} {w w' : World} {P : Program} {C : FuncId → List AV → Hp → SV → Hp → Prop} {L : Code → St → Ex → St → Prop}

/-- Some cells are others. -/
def splice {α : Type} (cs : List α) (o : Nat) (vs : List α) : List α := cs.take o ++ (vs ++ cs.drop (o + vs.length))

theorem splice_length {α : Type} {cs vs : List α} {o : Nat} (h : o + vs.length ≤ cs.length) : (splice cs o vs).length = cs.length := by
  simp [splice]; omega

theorem splice_mid {α : Type} {A B D vs : List α} {q : Nat} (h : q + vs.length ≤ B.length) : splice (A ++ (B ++ D)) (A.length + q) vs = A ++ (splice B q vs ++ D) := by
  unfold splice
  rw [List.take_append, List.take_of_length_le (by omega), show A.length + q - A.length = q from by omega, List.take_append_of_le_length (by omega)]
  rw [List.drop_append, List.drop_of_length_le (by omega), List.nil_append, show A.length + q + vs.length - A.length = q + vs.length from by omega, List.drop_append_of_le_length h]
  simp

theorem arr_len {n : Nat} {k : K} {x : List k.T} {cs : List Value} (h : RepD S w (.arr n k) x cs) : x.length = n ∧ cs.length = n * k.sz := ⟨h.1, h.2.1⟩

/-- An array's data, an element's cells. -/
theorem arr_split {n i : Nat} {k : K} {x : List k.T} {cs : List Value} (h : RepD S w (.arr n k) x cs) (hi : i < n) :
    ∃ A E D, cs = A ++ (E ++ D) ∧ A.length = i * k.sz ∧ RepD S w k (gd k x i) E ∧ ∀ y E', RepD S w k y E' → RepD S w (.arr n k) (x.set i y : List k.T) (A ++ (E' ++ D)) := by
  obtain ⟨h1, h2, h3⟩ := id h
  have hle : i * k.sz + k.sz ≤ n * k.sz := by
    have : (i + 1) * k.sz ≤ n * k.sz := Nat.mul_le_mul_right _ (by omega)
    rwa [Nat.add_mul, Nat.one_mul] at this
  refine ⟨cs.take (i * k.sz), (cs.drop (i * k.sz)).take k.sz, cs.drop (i * k.sz + k.sz), ?_, by simp; omega, h3 i hi, fun y E' hy => arr_set h hi hy⟩
  rw [← List.drop_drop, List.take_append_drop, List.take_append_drop]

theorem arr_nil {k : K} : RepD S w (.arr 0 k) ([] : List k.T) [] := ⟨rfl, by simp, fun i hi => absurd hi (by omega)⟩

theorem seg_left {n i sz : Nat} {a b : List Value} (ha : a.length = n * sz) (hi : i < n) : ((a ++ b).drop (i * sz)).take sz = (a.drop (i * sz)).take sz := by
  have : (i + 1) * sz ≤ n * sz := Nat.mul_le_mul_right _ (by omega)
  rw [Nat.add_mul, Nat.one_mul] at this
  rw [List.drop_append_of_le_length (by omega), List.take_append_of_le_length (by simp; omega)]
theorem seg_right {n i sz : Nat} {a b : List Value} (ha : a.length = n * sz) : ((a ++ b).drop ((n + i) * sz)).take sz = (b.drop (i * sz)).take sz := by
  rw [Nat.add_mul, List.drop_append, List.drop_of_length_le (by omega), List.nil_append, ha, show n * sz + i * sz - n * sz = i * sz from by omega]

theorem arr_append {n p : Nat} {k : K} {x y : List k.T} {a b : List Value} (hx : RepD S w (.arr n k) x a) (hy : RepD S w (.arr p k) y b) : RepD S w (.arr (n + p) k) (x ++ y : List k.T) (a ++ b) := by
  obtain ⟨h1, h2, h3⟩ := hx
  obtain ⟨g1, g2, g3⟩ := hy
  have h1 : x.length = n := h1
  have g1 : y.length = p := g1
  refine ⟨by show (x ++ y).length = _; simp [h1, g1], by simp [h2, g2, Nat.add_mul], fun i hi => ?_⟩
  rcases Nat.lt_or_ge i n with hi2 | hi2
  · rw [seg_left h2 hi2]
    have : gd k (x ++ y) i = gd k x i := by
      unfold gd; simp only [List.getD_eq_getElem?_getD]; rw [List.getElem?_append_left (by omega)]
    rw [this]; exact h3 i hi2
  · obtain ⟨j, rfl⟩ : ∃ j, i = n + j := ⟨i - n, by omega⟩
    rw [seg_right h2]
    have : gd k (x ++ y) (n + j) = gd k y j := by
      unfold gd; simp only [List.getD_eq_getElem?_getD]; rw [List.getElem?_append_right (by omega)]; congr 2; omega
    rw [this]; exact g3 j (by omega)

theorem arr_take {n p : Nat} {k : K} {x : List k.T} {a : List Value} (hx : RepD S w (.arr n k) x a) (hp : p ≤ n) : RepD S w (.arr p k) (x.take p : List k.T) (a.take (p * k.sz)) := by
  obtain ⟨h1, h2, h3⟩ := hx
  have h1 : x.length = n := h1
  have hle : p * k.sz ≤ n * k.sz := Nat.mul_le_mul_right _ hp
  refine ⟨by show (x.take p).length = p; simp; omega, by simp; omega, fun i hi => ?_⟩
  have e : a = a.take (p * k.sz) ++ a.drop (p * k.sz) := (List.take_append_drop _ _).symm
  have : gd k (x.take p) i = gd k x i := by
    unfold gd; simp only [List.getD_eq_getElem?_getD, List.getElem?_take, hi, if_true]
  rw [this]
  have h4 := h3 i (by omega)
  rw [e, seg_left (n := p) (by simp; omega) hi] at h4
  exact h4

theorem arr_drop {n p : Nat} {k : K} {x : List k.T} {a : List Value} (hx : RepD S w (.arr n k) x a) (hp : p ≤ n) : RepD S w (.arr (n - p) k) (x.drop p : List k.T) (a.drop (p * k.sz)) := by
  obtain ⟨h1, h2, h3⟩ := hx
  have h1 : x.length = n := h1
  have hle : p * k.sz ≤ n * k.sz := Nat.mul_le_mul_right _ hp
  refine ⟨by show (x.drop p).length = n - p; simp; omega, by simp [h2, Nat.sub_mul], fun i hi => ?_⟩
  have : gd k (x.drop p) i = gd k x (p + i) := by
    unfold gd; simp only [List.getD_eq_getElem?_getD, List.getElem?_drop]
  rw [this]
  have h4 := h3 (p + i) (by omega)
  rw [List.drop_drop, ← Nat.add_mul]
  exact h4

/-- A list laid over a list. -/
def over {α : Type} (x : List α) (i : Nat) (y : List α) : List α := x.take i ++ (y ++ x.drop (i + y.length))

theorem arr_over {n p i : Nat} {k : K} {x y : List k.T} {a b : List Value} (hx : RepD S w (.arr n k) x a) (hy : RepD S w (.arr p k) y b) (h : i + p ≤ n) : RepD S w (.arr n k) (over x i y : List k.T) (splice a (i * k.sz) b) := by
  have h1 := arr_take hx (show i ≤ n by omega)
  have h2 := arr_drop hx (show i + p ≤ n by omega)
  have h3 := arr_append h1 (arr_append hy h2)
  have e1 : i + (p + (n - (i + p))) = n := by omega
  rw [e1] at h3
  have e2 : y.length = p := hy.1
  have e3 : b.length = p * k.sz := hy.2.1
  unfold over splice
  rw [e2, e3, ← Nat.add_mul]
  exact h3

/-- The cells of what a slice holds. -/
theorem slice_cells {k : K} {l : List k.T} {c off : Nat} (h : ∀ i, i < l.length → ∃ vs, RepD S w k (gd k l i) vs ∧ vs.length = k.sz ∧ At w c (off + i * k.sz) vs) :
    ∀ n, n ≤ l.length → ∃ vs, RepD S w (.arr n k) (l.take n : List k.T) vs ∧ At w c off vs := by
  intro n
  induction n with
  | zero => intro _; exact ⟨[], arr_nil, fun j v h => by simp at h⟩
  | succ n ih =>
    intro hn
    obtain ⟨vs, h1, h2⟩ := ih (by omega)
    obtain ⟨us, g1, g2, g3⟩ := h n (by omega)
    have hl := h1.2.1
    refine ⟨vs ++ us, ?_, fun j v hj => ?_⟩
    · have e : l.take (n + 1) = l.take n ++ [gd k l n] := by
        rw [List.take_succ_eq_append_getElem (by omega), gd_lt (by omega)]
      rw [e]
      refine arr_append h1 ⟨rfl, by simp [g2], fun i hi => ?_⟩
      obtain rfl : i = 0 := by omega
      simp only [Nat.zero_mul, List.drop_zero]
      rw [List.take_of_length_le (by omega)]
      exact g1
    · rcases Nat.lt_or_ge j vs.length with hj2 | hj2
      · rw [List.getElem?_append_left hj2] at hj; exact h2 j v hj
      · rw [List.getElem?_append_right hj2] at hj
        have := g3 (j - vs.length) v hj
        rw [← hl, show off + vs.length + (j - vs.length) = off + j from by omega] at this
        exact this

/-- A slice's content, its cells read. -/
theorem sliceAt_cells {k : K} {l : List k.T} {v : Value} {n : Nat} (h : SliceAt S w k l v) (hn : n ≤ l.length) :
    ∃ a cap vs, v = .slice a l.length cap ∧ l.length ≤ cap ∧ RepD S w (.arr n k) (l.take n : List k.T) vs ∧ (a = none → l = []) ∧ ∀ ad, a = some ad → ∀ j u, vs[j]? = some u → w.cell? (ad.add j) = some u := by
  obtain ⟨a, cap, e1, e2, e3⟩ := h
  by_cases hl : l = []
  · subst hl
    obtain rfl : n = 0 := by simpa using hn
    exact ⟨a, cap, [], e1, e2, arr_nil, fun _ => rfl, fun ad _ j u h => by simp at h⟩
  · obtain ⟨c, off, rfl, e4⟩ := e3 hl
    obtain ⟨vs, g1, g2⟩ := slice_cells e4 n hn
    refine ⟨_, cap, vs, e1, e2, g1, fun h => by simp at h, fun ad had j u hj => ?_⟩
    simp only [Option.some.injEq] at had
    subst had
    rw [add_none]
    exact g2 j u hj

/-! ### An array or a row in a block -/
structure VA where
  k : K
  n : Nat
  x : List k.T
  back : List k.T → Option Blk

def viewArr (H : Hp) (b o : Nat) : Option VA :=
  match hg H b with
  | some (.row ty k l) => match Nat.beq o 0 with
    | true => some ⟨k, l.length, l, fun l' => some (.row ty k l')⟩
    | false => none
  | some (.cells ty ls) => match segAt ls o with
    | some (.dat (.arr N k) x :: _) => some ⟨k, N, arrL x, fun l' => (putSegs ls o (N * k.sz) [.dat (.arr N k) l']).map (.cells ty)⟩
    | _ => none
  | _ => none

theorem row_view {base n : Nat} {k : K} {l : List k.T} {cs : List Value} (hl : l.length = n) : (base + n * k.sz ≤ cs.length ∧ ∀ i, i < n → RepD S w k (gd k l i) ((cs.drop (base + i * k.sz)).take k.sz)) ↔
    base + n * k.sz ≤ cs.length ∧ RepD S w (.arr n k) l ((cs.drop base).take (n * k.sz)) := by
  have key : ∀ i, i < n → (((cs.drop base).take (n * k.sz)).drop (i * k.sz)).take k.sz = (cs.drop (base + i * k.sz)).take k.sz := by
    intro i hi
    have : (i + 1) * k.sz ≤ n * k.sz := Nat.mul_le_mul_right _ (by omega)
    rw [Nat.add_mul, Nat.one_mul] at this
    rw [List.drop_take, List.drop_drop, List.take_take, Nat.min_eq_left (by omega)]
  constructor
  · rintro ⟨h1, h2⟩
    exact ⟨h1, hl, by simp; omega, fun i hi => by rw [key i hi]; exact h2 i hi⟩
  · rintro ⟨h1, h2⟩
    exact ⟨h1, fun i hi => by rw [← key i hi]; exact h2.2.2 i hi⟩

theorem viewArr_rep {H : Hp} {b o c base : Nat} {V : VA} (hH : SimH S m w H) (h : viewArr H b o = some V) (hm : m b = some (c, base)) :
    ∃ B ty fr cs A D E, hg H b = some B ∧ B.live = true ∧ w.heap[c]? = some (.cells cs ty fr) ∧ FrOk fr cs.size ∧ S c ∧ cs.toList = A ++ (D ++ E) ∧ A.length = base + o ∧ RepD S w (.arr V.n V.k) V.x D ∧
      ∀ x' D' w' cs' B', Wr w w' c ty fr cs cs' → cs'.toList = A ++ (D' ++ E) → RepD S w (.arr V.n V.k) x' D' → V.back x' = some B' → SimB S m w' B' (some (c, base)) := by
  unfold viewArr at h
  split at h
  · rename_i ty k l hb
    split at h
    · rename_i ho
      obtain rfl := Nat.eq_of_beq_eq_true ho
      simp only [Option.some.injEq] at h
      subst h
      rcases hH.blk _ _ hb with ⟨e0, _⟩ | ⟨c', base', cs, fr, e1, e2, e3, e4, e5, e6⟩
      · rw [hm] at e0; cases e0
      rw [hm] at e1
      simp only [Option.some.injEq, Prod.mk.injEq] at e1
      obtain ⟨rfl, rfl⟩ := e1
      obtain ⟨f1, f2⟩ := (row_view (S := S) (w := w) (cs := cs.toList) (l := l) rfl).1 ⟨by simpa using e5, e6⟩
      have f1' : base + l.length * k.sz ≤ cs.size := by simpa using f1
      refine ⟨_, ty, fr, cs, cs.toList.take base, (cs.toList.drop base).take (l.length * k.sz), cs.toList.drop (base + l.length * k.sz), hb, rfl, e2, e3, e4, ?_, by simp; omega, f2, ?_⟩
      · rw [← List.drop_drop, List.take_append_drop, List.take_append_drop]
      · intro x' D' w' cs' B' hw hcs hx hB
        simp only [Option.some.injEq] at hB
        subst hB
        have hx1 : List.length x' = l.length := hx.1
        have hD : D'.length = l.length * k.sz := hx.2.1
        have hA : (cs.toList.take base).length = base := by simp; omega
        refine .inr ⟨c, base, cs', fr, rfl, hw.new, by rw [hw.same]; exact e3, e4, by rw [hx1, hw.same]; omega, ?_⟩
        have hmv : Mv S m w S m w' := hw.mv e4
        have h3 : ((cs'.toList.drop base).take (l.length * k.sz)) = D' := by
          rw [hcs, List.drop_append, List.drop_of_length_le (by omega), List.nil_append, hA, Nat.sub_self, List.drop_zero, List.take_append_of_le_length (by omega), List.take_of_length_le (by omega)]
        have h4 := (row_view (S := S) (w := w') (base := base) (n := l.length) (k := k) (l := x') (cs := cs'.toList) hx1).2 ⟨by simp [hw.same]; omega, by rw [h3]; exact RepD.mv hmv hx⟩
        intro i hi
        exact h4.2 i (by omega)
    · cases h
  · rename_i ty ls hb
    split at h
    · rename_i N k x rest hs
      simp only [Option.some.injEq] at h
      subst h
      obtain ⟨c', cs, fr, e1, e2, e3, e4, e5⟩ := hH.blk _ _ hb
      rw [hm] at e1
      simp only [Option.some.injEq, Prod.mk.injEq] at e1
      obtain ⟨rfl, rfl⟩ := e1
      obtain ⟨g1, d1, d2, g2, g3, g4⟩ := segAt_rep hs e5
      have hd1 : d1.length = N * k.sz := g3.2.1
      have hsz : o + N * k.sz ≤ cs.toList.length := by
        have := congrArg List.length g2
        simp only [List.length_drop, List.length_append] at this
        omega
      have hA : (cs.toList.take o).length = o := by simp at hsz ⊢; omega
      refine ⟨_, ty, fr, cs, cs.toList.take o, d1, d2, hb, rfl, e2, e3, e4, by rw [← g2, List.take_append_drop], by omega, g3, ?_⟩
      intro x' D' w' cs' B' hw hcs hx hB
      simp only [Option.map_eq_some_iff] at hB
      obtain ⟨l', hB, rfl⟩ := hB
      have hD : D'.length = N * k.sz := hx.2.1
      obtain ⟨q1, q2⟩ := putSegs_rep (vs := D') hB e5 (RepLs.single.2 hx)
      refine ⟨c, cs', fr, rfl, hw.new, by rw [hw.same]; exact e3, e4, ?_⟩
      have h3 : cs.toList.drop (o + N * k.sz) = d2 := by
        rw [← List.drop_drop, g2, List.drop_append, List.drop_of_length_le (by omega), List.nil_append, hd1, Nat.sub_self, List.drop_zero]
      rw [hcs, ← h3]
      exact RepLs.mv (hw.mv e4) q2
    · cases h
  · cases h
end
end Vam
