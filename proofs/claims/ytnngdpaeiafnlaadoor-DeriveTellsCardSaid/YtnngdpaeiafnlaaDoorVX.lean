/- A law's arguments, opened: what is handed in is pure data. -/
import Derived.Test.YtnngdpaeiafnlaaDoorVW
import Derived.OpenShut
import Derived.ChangeArms
import Derived.Carry
import Derived.SizedLaws
import Derived.WalkKit
import Derived.ProofKit
import Derived.Lib.SmallJoins
namespace Vam
open Go Pg Go.WideShapes
set_option linter.unusedVariables false
set_option linter.unusedSimpArgs false

def laidFs (P : Program) (g : TypeId → K → Bool) : List Field → Nat → K → Bool
  | [], _, .unit => true
  | f :: r, off, .pair a b => Nat.beq f.offset off && (Nat.beq (P.cellsOf f.type) a.sz && (g f.type a && laidFs P g r (off + a.sz) b))
  | _, _, _ => false
/-- Does a type lie in memory as its kind says. -/
def laidK (P : Program) : Nat → TypeId → K → Bool
  | 0, _, _ => false
  | d + 1, t, k =>
    match P.underlying t, k with
    | some (.int a), .int b => decide (a = b)
    | some .bool, .bool => true
    | some .string, .str => true
    | some (.slice e), .sl k' => Nat.beq (P.cellsOf e) k'.sz && (Nat.ble 1 k'.sz && laidK P d e k')
    | some (.array n e), .arr m k' => Nat.beq n m && (Nat.beq (P.cellsOf e) k'.sz && (Nat.beq (P.cellsOf t) (n * k'.sz) && laidK P d e k'))
    | some (.struct fs), k => Nat.beq (P.cellsOf t) k.sz && laidFs P (laidK P d) fs.toList 0 k
    | _, _ => false

/-- What values of a kind are at most. -/
def Wf : (k : K) → k.T → Prop
  | .int k, n => (Lit.int k n).wf = true
  | .bool, _ => True
  | .str, s => s.size ≤ maxLen
  | .sl e, l => List.length l ≤ maxLen ∧ ∀ i, i < List.length l → Wf e (gd e l i)
  | .arr n e, l => List.length l = n ∧ ∀ i, i < n → Wf e (gd e l i)
  | .pair a b, x => Wf a x.1 ∧ Wf b x.2
  | .unit, _ => True

section
variable {H : Type} {enc : TypeId × Value → H} {P : Program} {w : World} {base : Nat} {spare : Nat → Bool} {held : Bool}

theorem spot_none {a : Addr} {v : Value} (h : w.cell? a = some v) : ∃ c off, a = ⟨c, off, none⟩ ∧ c < w.heap.size := by
  obtain ⟨c, off, sp⟩ := a
  unfold World.cell? at h
  split at h
  · rename_i cs ty fr hc
    cases sp with
    | none =>
      refine ⟨c, off, rfl, ?_⟩
      rcases Nat.lt_or_ge c w.heap.size with h1 | h1
      · exact h1
      · rw [Array.getElem?_eq_none h1] at hc; cases hc
    | some x => simp at h
  · cases h

theorem open_D : ∀ (d : Nat) {t : TypeId} {k : K} {fuel : Nat} {cs : List Value} {x : DataW H × List MemPlace}, laidK P d t k = true → DataW.trod enc P w base spare held fuel t cs = some x →
    ∃ y : k.T, RepD (fun _ => False) w k y cs ∧ Wf k y := by
  intro d
  induction d with
  | zero => intro t k fuel cs x h; cases h
  | succ d ih =>
    intro t k fuel cs x hk h
    unfold laidK at hk
    split at hk
    · rename_i a b hu
      have := of_decide_eq_true hk; subst this
      obtain ⟨n, rfl, _, h2⟩ := DataW.trod_int hu h
      exact ⟨n, rfl, h2⟩
    · rename_i hu
      obtain ⟨b, rfl, _⟩ := DataW.trod_bool hu h
      exact ⟨b, rfl, trivial⟩
    · rename_i hu
      obtain ⟨s, rfl, _, h2⟩ := DataW.trod_string hu h
      exact ⟨s, rfl, h2⟩
    · rename_i e k' hu
      simp only [Bool.and_eq_true] at hk
      have hsz := Nat.eq_of_beq_eq_true hk.1
      have hpos := Nat.le_of_ble_eq_true hk.2.1
      rcases DataW.trod_slice hu h with ⟨rfl, _⟩ | ⟨a, len, cap, elems, rest, n, _, rfl, _, hb, hl, hm, hlen, hel, _⟩
      · exact ⟨[], ⟨none, 0, rfl, Nat.le_refl _, fun h => absurd rfl h⟩, Nat.zero_le _, fun i hi => absurd hi (by simp)⟩
      · have each : ∀ i, i < len → ∃ (y : k'.T) (vs : List Value), RepD (fun _ => False) w k' y vs ∧ Wf k' y ∧ w.cells? base (a.add (i * P.cellsOf e)) (P.cellsOf e) = some vs := by
          intro i hi
          have h1 := hel i hi
          rw [List.getElem?_eq_getElem (by omega)] at h1
          obtain ⟨vs, h2, h3⟩ := Option.bind_eq_some_iff.1 h1
          obtain ⟨y, h4, h5⟩ := ih hk.2.2 h3
          exact ⟨y, vs, h4, h5, h2⟩
        let f : Nat → k'.T := fun i => if h : i < len then (each i h).choose else k'.dflt
        have hf : ∀ i (h : i < len), ∃ vs, RepD (fun _ => False) w k' (f i) vs ∧ Wf k' (f i) ∧ w.cells? base (a.add (i * P.cellsOf e)) (P.cellsOf e) = some vs := by
          intro i hi
          have := (each i hi).choose_spec
          simp only [f, hi, dif_pos]
          exact this
        let l : List k'.T := (List.range len).map f
        have hll : l.length = len := by simp [l]
        have hgd : ∀ i, i < len → gd k' l i = f i := fun i hi => by rw [gd_lt (by omega)]; simp [l]
        refine ⟨l, ⟨some a, cap, by rw [show List.length l = len from hll], by rw [show List.length l = len from hll]; exact hl, fun hne => ?_⟩, by rw [show List.length l = len from hll]; omega, fun i hi => ?_⟩
        · have h0 : 0 < len := by
            rcases Nat.eq_zero_or_pos len with h0 | h0
            · exact absurd (List.length_eq_zero_iff.1 (hll.trans h0)) hne
            · exact h0
          obtain ⟨vs, g1, g2, g3⟩ := hf 0 h0
          have hc := World.cells?_some g3
          have g4 := g1.length
          obtain ⟨c, off, hac, hsize⟩ : ∃ c off, a = ⟨c, off, none⟩ ∧ c < w.heap.size := by
            have h1 := hc.2.2 0 (by rw [hsz]; omega)
            rw [List.getElem?_eq_getElem (by omega)] at h1
            have e0 : (a.add (0 * P.cellsOf e)).add 0 = a := by rw [Nat.zero_mul]; rfl
            rw [e0] at h1
            exact spot_none h1
          subst hac
          refine ⟨c, off, rfl, fun h => h, hsize, fun i hi => ?_⟩
          rw [show List.length l = len from hll] at hi
          obtain ⟨vs, g1, g2, g3⟩ := hf i hi
          rw [hgd i hi]
          have g4 := g1.length
          refine ⟨vs, g1, g4, fun j v hj => ?_⟩
          have hc := (World.cells?_some g3).2.2 j (by rw [hsz, ← g4]; exact (List.getElem?_eq_some_iff.1 hj).1)
          rw [hj, add_none, add_none, hsz, Nat.add_assoc] at hc
          exact hc
        · rw [show List.length l = len from hll] at hi
          rw [hgd i hi]
          obtain ⟨vs, g1, g2, g3⟩ := hf i hi
          exact g2
    · rename_i n e m k' hu
      simp only [Bool.and_eq_true] at hk
      have hnm := Nat.eq_of_beq_eq_true hk.1
      have hsz := Nat.eq_of_beq_eq_true hk.2.1
      have hct := Nat.eq_of_beq_eq_true hk.2.2.1
      subst hnm
      obtain ⟨xs, m', _, _, hl, hlen, hel⟩ := DataW.trod_array hu h
      have each : ∀ i, i < n → ∃ y : k'.T, RepD (fun _ => False) w k' y ((cs.drop (i * k'.sz)).take k'.sz) ∧ Wf k' y := by
        intro i hi
        have h1 := hel i hi
        rw [List.getElem?_eq_getElem (by omega), hsz] at h1
        obtain ⟨y, h4, h5⟩ := ih hk.2.2.2 h1
        exact ⟨y, h4, h5⟩
      let f : Nat → k'.T := fun i => if h : i < n then (each i h).choose else k'.dflt
      have hf : ∀ i (h : i < n), RepD (fun _ => False) w k' (f i) ((cs.drop (i * k'.sz)).take k'.sz) ∧ Wf k' (f i) := by
        intro i hi
        have := (each i hi).choose_spec
        simp only [f, hi, dif_pos]
        exact this
      have hgd : ∀ i, i < n → gd k' ((List.range n).map f) i = f i := fun i hi => by rw [gd_lt (by simpa using hi)]; simp
      refine ⟨(List.range n).map f, ⟨by show ((List.range n).map f).length = n; simp, by rw [hl, hct], fun i hi => ?_⟩, by show ((List.range n).map f).length = n; simp, fun i hi => ?_⟩
      · rw [hgd i hi]; exact (hf i hi).1
      · rw [hgd i hi]; exact (hf i hi).2
    · rename_i fs hu
      simp only [Bool.and_eq_true] at hk
      have hct := Nat.eq_of_beq_eq_true hk.1
      obtain ⟨xs, n, _, _, hl, hlen, hf⟩ := DataW.trod_struct hu h
      have key : ∀ (r : List Field) (off : Nat) (k : K), laidFs P (laidK P d) r off k = true → (∀ f, f ∈ r → ∃ y, DataW.trod enc P w base spare held n f.type ((cs.drop f.offset).take (P.cellsOf f.type)) = some y) → off + k.sz = cs.length →
          ∃ y : k.T, RepD (fun _ => False) w k y (cs.drop off) ∧ Wf k y := by
        intro r
        induction r with
        | nil =>
          intro off k hk _ hsz
          cases k with
          | unit =>
            simp only [K.sz, Nat.add_zero] at hsz
            exact ⟨(), by show cs.drop off = []; rw [hsz]; simp, trivial⟩
          | _ => simp [laidFs] at hk
        | cons f r ihr =>
          intro off k hk hall hsz
          cases k with
          | pair a b =>
            unfold laidFs at hk
            simp only [Bool.and_eq_true] at hk
            have ho := Nat.eq_of_beq_eq_true hk.1
            have hc := Nat.eq_of_beq_eq_true hk.2.1
            simp only [K.sz] at hsz
            obtain ⟨y, hy⟩ := hall f (List.mem_cons_self ..)
            rw [ho, hc] at hy
            obtain ⟨y1, g1, g2⟩ := ih hk.2.2.1 hy
            obtain ⟨y2, g3, g4⟩ := ihr (off + a.sz) b hk.2.2.2 (fun f hf => hall f (List.mem_cons_of_mem _ hf)) (by omega)
            refine ⟨(y1, y2), ⟨_, _, ?_, g1, g3⟩, g2, g4⟩
            rw [← List.drop_drop, List.take_append_drop]
          | _ => simp [laidFs] at hk
      have := key fs.toList 0 _ hk.2 (fun f hf' => ?_) (by rw [hl, hct]; omega)
      · simpa using this
      · obtain ⟨i, hi, rfl⟩ := List.getElem_of_mem hf'
        have h1 := hf i fs[i] (by simp [show i < fs.size by simpa using hi])
        rw [List.getElem?_eq_getElem (by rw [hlen]; simpa using hi)] at h1
        exact ⟨_, by simpa using h1⟩
    · cases hk

/-- An argument as an abstract value. -/
def avOf : (k : K) → k.T → AV
  | .pair a b, x => .agg (leafs (.pair a b) x)
  | .unit, _ => .agg []
  | .int k, n => .one (.v (.int k n))
  | .bool, b => .one (.v (.bool b))
  | .str, s => .one (.v (.string s))
  | .sl e, l => .one (.dat (.sl e) l)
  | .arr n e, l => .one (.dat (.arr n e) l)

theorem toList_one {v : Value} {x : Value} (h : v.cells.toList = [x]) (hv : ∀ cs, v ≠ .agg cs) : v = x := by
  have : v.cells = #[v] := by cases v <;> first | rfl | exact absurd rfl (hv _)
  rw [this] at h
  simpa using h

theorem laidFs_k {g : TypeId → K → Bool} {l : List Field} {o : Nat} {k : K} (h : laidFs P g l o k = true) : (∃ a b, k = .pair a b) ∨ k = .unit := by
  unfold laidFs at h
  split at h
  · exact .inr rfl
  · exact .inl ⟨_, _, rfl⟩
  · cases h
def Under (P : Program) (t : TypeId) : K → Prop
  | .int a => P.underlying t = some (.int a)
  | .bool => P.underlying t = some .bool
  | .str => P.underlying t = some .string
  | .sl _ => ∃ e, P.underlying t = some (.slice e)
  | .arr n _ => ∃ e, P.underlying t = some (.array n e)
  | .pair _ _ => ∃ fs, P.underlying t = some (.struct fs)
  | .unit => ∃ fs, P.underlying t = some (.struct fs)
theorem laid_under {D : Nat} {t : TypeId} {k : K} (h : laidK P (D + 1) t k = true) : Under P t k := by
  unfold laidK at h
  split at h
  · rename_i hu; have := of_decide_eq_true h; subst this; exact hu
  · rename_i hu; exact hu
  · rename_i hu; exact hu
  · rename_i hu; exact ⟨_, hu⟩
  · rename_i hu
    simp only [Bool.and_eq_true] at h
    have := Nat.eq_of_beq_eq_true h.1
    subst this
    exact ⟨_, hu⟩
  · rename_i hu
    simp only [Bool.and_eq_true] at h
    rcases laidFs_k h.2 with ⟨a, b, rfl⟩ | rfl
    · exact ⟨_, hu⟩
    · exact ⟨_, hu⟩
  · cases h

/-- An argument that is handed in is pure data, of its kind's range. -/
theorem arg_rep {t : TypeId} {k : K} {v : Value} {d : DataW H} {ps : List MemPlace} {r : Reach} {b0 : Nat} (D : Nat) (hk : laidK P (D + 1) t k = true) (hval : Value.okWide P w r b0 t v) (h : DataW.Trod enc P w base spare held t v d ps) :
    ∃ y : k.T, RepA (fun _ => False) (fun _ => none) w (avOf k y) v ∧ Wf k y := by
  obtain ⟨fuel, hf⟩ := h
  obtain ⟨y, g1, g2⟩ := open_D (D + 1) hk hf
  have hu := laid_under hk
  refine ⟨y, ?_, g2⟩
  cases k with
  | int kk =>
    obtain ⟨n, rfl⟩ := okWide_int hu hval
    have g1 : [Value.int kk n] = [.int kk y] := g1
    exact (RepA_v (S := fun _ => False) (m := fun _ => none) (w := w)).2 ⟨by simpa using g1, rfl⟩
  | bool =>
    obtain ⟨n, rfl⟩ := okWide_bool hu hval
    have g1 : [Value.bool n] = [.bool y] := g1
    exact (RepA_v (S := fun _ => False) (m := fun _ => none) (w := w)).2 ⟨by simpa using g1, rfl⟩
  | str =>
    obtain ⟨n, rfl⟩ := okWide_string hu hval
    have g1 : [Value.string n] = [.string y] := g1
    exact (RepA_v (S := fun _ => False) (m := fun _ => none) (w := w)).2 ⟨by simpa using g1, rfl⟩
  | sl e =>
    obtain ⟨te, hu⟩ := hu
    obtain ⟨a, len, cap, rfl⟩ := okWide_slice hu hval
    exact (RepA_one rfl).2 g1
  | arr n e =>
    obtain ⟨te, hu⟩ := hu
    unfold Value.okWide at hval
    rw [hu] at hval
    obtain ⟨cs, rfl, _⟩ := hval
    simp only [avOf, RepA, Lf.wide, K.wide, if_true]
    exact ⟨cs, rfl, g1⟩
  | pair a b =>
    obtain ⟨te, hu⟩ := hu
    obtain ⟨cs, rfl, _⟩ := okWide_struct hu hval
    exact ⟨cs, rfl, leafs_rep.2 g1⟩
  | unit =>
    obtain ⟨te, hu⟩ := hu
    obtain ⟨cs, rfl, _⟩ := okWide_struct hu hval
    exact ⟨cs, rfl, g1⟩
end
end Vam
