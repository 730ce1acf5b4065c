/- Local heaps under change: what an event does to a few blocks, and what that means for all. -/
import Derived.Test.YtnngdpaeiafnlaaDoorVJ
import Derived.Laws.IdiomCopy
import Derived.Laws.CopyRow
import Derived.Laws.IdiomStrings
import Derived.Deep.AppendSrc
import Derived.Laws.MakeOwn
import Derived.Lib.LazyBuf
import Derived.Great.BuildSlice
namespace Vam
open Go Pg
set_option linter.unusedVariables false
set_option linter.unusedSimpArgs false

/-! ### Names and blocks -/
def hput : Hp → Nat → Blk → Hp
  | [], b, B => [(b, B)]
  | (i, A) :: r, b, B => match Nat.beq b i with
    | true => (b, B) :: r
    | false => match Nat.ble b i with
      | true => (b, B) :: (i, A) :: r
      | false => (i, A) :: hput r b B

theorem hg_cons_eq {i : Nat} {A : Blk} {r : Hp} : hg ((i, A) :: r) i = some A := by
  have h : Nat.beq i i = true := Nat.beq_refl i
  simp only [hg, h]
theorem hg_cons_ne {i b : Nat} {A : Blk} {r : Hp} (hn : i ≠ b) : hg ((i, A) :: r) b = hg r b := by
  have h : Nat.beq i b = false := Bool.eq_false_iff.2 fun h => hn (Nat.eq_of_beq_eq_true h)
  simp only [hg, h]

theorem hg_hput : ∀ {H : Hp} {b b' : Nat} {B : Blk}, hg (hput H b B) b' = if b = b' then some B else hg H b' := by
  intro H
  induction H with
  | nil =>
    intro b b' B
    simp only [hput]
    by_cases h : b = b'
    · subst h; rw [hg_cons_eq, if_pos rfl]
    · rw [hg_cons_ne h, if_neg h]
  | cons p r ih =>
    obtain ⟨i, A⟩ := p
    intro b b' B
    simp only [hput]
    split
    · rename_i e
      have e := Nat.eq_of_beq_eq_true e
      subst e
      by_cases h : b = b'
      · subst h; rw [hg_cons_eq, if_pos rfl]
      · rw [hg_cons_ne h, hg_cons_ne h, if_neg h]
    · split
      · by_cases h : b = b'
        · subst h; rw [hg_cons_eq, if_pos rfl]
        · rw [hg_cons_ne h, if_neg h]
      · rename_i e _ _
        have e : b ≠ i := fun h => by rw [h, Nat.beq_refl] at e; cases e
        by_cases h : i = b'
        · subst h; rw [hg_cons_eq, if_neg e, hg_cons_eq]
        · rw [hg_cons_ne h, hg_cons_ne h, ih]

def upd (H : Hp) : Hp → Hp
  | [] => H
  | (b, B) :: U => upd (hput H b B) U

def keys (U : Hp) : List Nat := U.map (·.1)

theorem hg_upd : ∀ {U H : Hp} {b : Nat} {B : Blk}, hg (upd H U) b = some B → (b, B) ∈ U ∨ (b ∉ keys U ∧ hg H b = some B) := by
  intro U
  induction U with
  | nil => intro H b B h; exact .inr ⟨by simp [keys], h⟩
  | cons p U ih =>
    obtain ⟨i, A⟩ := p
    intro H b B h
    rcases ih h with h | ⟨h1, h2⟩
    · exact .inl (List.mem_cons_of_mem _ h)
    · rw [hg_hput] at h2
      split at h2
      · rename_i e; subst e; simp only [Option.some.injEq] at h2; subst h2; exact .inl (List.mem_cons_self ..)
      · rename_i e; exact .inr ⟨by simp only [keys, List.map_cons, List.mem_cons, not_or]; exact ⟨fun h => e h.symm, h1⟩, h2⟩

theorem hg_upd_none : ∀ {U H : Hp} {b : Nat}, hg (upd H U) b = none → b ∉ keys U ∧ hg H b = none := by
  intro U
  induction U with
  | nil => intro H b h; exact ⟨by simp [keys], h⟩
  | cons p U ih =>
    obtain ⟨i, A⟩ := p
    intro H b h
    obtain ⟨h1, h2⟩ := ih h
    rw [hg_hput] at h2
    split at h2
    · cases h2
    · rename_i e; exact ⟨by simp only [keys, List.map_cons, List.mem_cons, not_or]; exact ⟨fun h => e h.symm, h1⟩, h2⟩

theorem mem_keys {U : Hp} {b : Nat} {B : Blk} (h : (b, B) ∈ U) : b ∈ keys U := List.mem_map.2 ⟨(b, B), h, rfl⟩

/-- Names that aren't there stand for nothing. -/
def Dom (m : Mp) (H : Hp) : Prop := ∀ b, hg H b = none → m b = none

/-! ### An event on a few blocks -/
structure Ev (S : Nat → Prop) (m : Mp) (w : World) (H : Hp) (S' : Nat → Prop) (m' : Mp) (w' : World) (U : Hp) : Prop where
  mv : Mv S m w S' m' w'
  frame : ∀ c, c < w.heap.size → (∀ b B p, b ∈ keys U → hg H b = some B → B.live = true → m b = some p → p.1 ≠ c) → w'.heap[c]? = w.heap[c]? ∧ (S c → S' c)
  sim : ∀ b B, (b, B) ∈ U → SimB S' m' w' B (m' b)
  own : ∀ b B p, (b, B) ∈ U → B.live = true → m' b = some p → w.heap.size ≤ p.1 ∨ ∃ b0 B0 p0, b0 ∈ keys U ∧ hg H b0 = some B0 ∧ B0.live = true ∧ m b0 = some p0 ∧ p0.1 = p.1
  inj : ∀ b b' B B' p p', (b, B) ∈ U → (b', B') ∈ U → B.live = true → B'.live = true → m' b = some p → m' b' = some p' → p.1 = p'.1 → b = b'
  dom : ∀ b, b ∉ keys U → m' b = m b

structure Tr (S : Nat → Prop) (m : Mp) (w : World) (H : Hp) (S' : Nat → Prop) (m' : Mp) (w' : World) (H' : Hp) : Prop where
  mv : Mv S m w S' m' w'
  frame : ∀ c, c < w.heap.size → (∀ b B p, hg H b = some B → B.live = true → m b = some p → p.1 ≠ c) → w'.heap[c]? = w.heap[c]? ∧ (S c → S' c)
  own : ∀ b B p, hg H' b = some B → B.live = true → m' b = some p → w.heap.size ≤ p.1 ∨ ∃ b0 B0 p0, hg H b0 = some B0 ∧ B0.live = true ∧ m b0 = some p0 ∧ p0.1 = p.1

section
variable {S S' S'' : Nat → Prop} {m m' m'' : Mp} {w w' w'' : World} {H H' H'' U : Hp}

theorem Tr.refl (S : Nat → Prop) (m : Mp) (w : World) (H : Hp) : Tr S m w H S m w H :=
  ⟨Mv.refl S m w, fun _ _ _ => ⟨rfl, id⟩, fun b B p h1 h2 h3 => .inr ⟨b, B, p, h1, h2, h3, rfl⟩⟩

theorem Tr.trans (h : Tr S m w H S' m' w' H') (k : Tr S' m' w' H' S'' m'' w'' H'') : Tr S m w H S'' m'' w'' H'' := by
  refine ⟨h.mv.trans k.mv, fun c hc hf => ?_, fun b B p h1 h2 h3 => ?_⟩
  · obtain ⟨a1, a2⟩ := h.frame c hc hf
    obtain ⟨b1, b2⟩ := k.frame c (Nat.lt_of_lt_of_le hc h.mv.size) (fun b B p h1 h2 h3 e => by
      rcases h.own b B p h1 h2 h3 with h4 | ⟨b0, B0, p0, g1, g2, g3, g4⟩
      · omega
      · exact hf b0 B0 p0 g1 g2 g3 (by omega))
    exact ⟨b1.trans a1, fun hS => b2 (a2 hS)⟩
  · rcases k.own b B p h1 h2 h3 with h4 | ⟨b0, B0, p0, g1, g2, g3, g4⟩
    · exact .inl (Nat.le_trans h.mv.size h4)
    · rcases h.own b0 B0 p0 g1 g2 g3 with f1 | ⟨b1, B1, p1, f1, f2, f3, f4⟩
      · exact .inl (by omega)
      · exact .inr ⟨b1, B1, p1, f1, f2, f3, by omega⟩

theorem SimB.at {B : Blk} {c base : Nat} (h : SimB S m w B (some (c, base))) (hl : B.live = true) : c < w.heap.size ∧ S c := by
  have key : ∀ o : Obj, w.heap[c]? = some o → c < w.heap.size := fun o h => by
    rcases Nat.lt_or_ge c w.heap.size with h1 | h1
    · exact h1
    · rw [Array.getElem?_eq_none h1] at h; cases h
  cases B with
  | cells ty l =>
    obtain ⟨c', cs, fr, e1, e2, e3, e4, e5⟩ := h
    simp only [Option.some.injEq, Prod.mk.injEq] at e1
    obtain ⟨rfl, rfl⟩ := e1
    exact ⟨key _ e2, e4⟩
  | row ty e l =>
    rcases h with ⟨h, _⟩ | ⟨c', base', cs, fr, e1, e2, e3, e4, e5, e6⟩
    · cases h
    · simp only [Option.some.injEq, Prod.mk.injEq] at e1
      obtain ⟨rfl, rfl⟩ := e1
      exact ⟨key _ e2, e4⟩
  | dead => cases hl

theorem Ev.sub {Hm : Hp} (h : Ev S m w Hm S' m' w' U) (hs : ∀ b B, hg Hm b = some B → hg H b = some B) : Ev S m w H S' m' w' U :=
  ⟨h.mv, fun c hc hf => h.frame c hc fun b B p h1 h2 h3 h4 => hf b B p h1 (hs b B h2) h3 h4, h.sim, fun b B p h1 h2 h3 => by
    rcases h.own b B p h1 h2 h3 with h4 | ⟨b0, B0, p0, g0, g1, g2, g3, g4⟩
    · exact .inl h4
    · exact .inr ⟨b0, B0, p0, g0, hs _ _ g1, g2, g3, g4⟩, h.inj, h.dom⟩

theorem SimH.sub {Hm : Hp} (h : SimH S m w H) (hs : ∀ b B, hg Hm b = some B → hg H b = some B) : SimH S m w Hm :=
  ⟨fun b B h1 => h.blk b B (hs b B h1), fun b b' B B' p p' h1 h2 => h.inj b b' B B' p p' (hs _ _ h1) (hs _ _ h2)⟩

theorem Ev.lift (hH : SimH S m w H) (hD : Dom m H) (h : Ev S m w H S' m' w' U) : SimH S' m' w' (upd H U) ∧ Dom m' (upd H U) ∧ Tr S m w H S' m' w' (upd H U) := by
  have keep : ∀ b B c base, b ∉ keys U → hg H b = some B → B.live = true → m b = some (c, base) → c < w.heap.size ∧ w'.heap[c]? = w.heap[c]? ∧ S' c := by
    intro b B c base h1 h2 h3 h4
    have h5 := hH.blk b B h2
    rw [h4] at h5
    obtain ⟨g1, g2⟩ := h5.at h3
    obtain ⟨f1, f2⟩ := h.frame c g1 (fun b0 B0 p0 k1 k2 k3 k4 k5 => h1 (by
      have := hH.inj b0 b B0 B p0 (c, base) k2 h2 k3 h3 k4 h4 k5
      rw [← this]; exact k1))
    exact ⟨g1, f1, f2 g2⟩
  refine ⟨⟨fun b B hb => ?_, fun b b' B B' p p' h1 h2 h3 h4 h5 h6 h7 => ?_⟩, fun b hb => ?_, h.mv, fun c hc hf => ?_, fun b B p h1 h2 h3 => ?_⟩
  · rcases hg_upd hb with h1 | ⟨h1, h2⟩
    · exact h.sim b B h1
    · rw [h.dom b h1]
      by_cases hl : B.live = true
      · exact (hH.blk b B h2).mv h.mv (fun c base hm => ⟨(keep b B c base h1 h2 hl hm).2.1, (keep b B c base h1 h2 hl hm).2.2⟩)
      · cases B <;> first | trivial | exact absurd rfl hl
  · rcases hg_upd h1 with k1 | ⟨k1, k2⟩ <;> rcases hg_upd h2 with l1 | ⟨l1, l2⟩
    · exact h.inj b b' B B' p p' k1 l1 h3 h4 h5 h6 h7
    · exfalso
      rw [h.dom b' l1] at h6
      obtain ⟨q1, q2⟩ := keep b' B' p'.1 p'.2 l1 l2 h4 h6
      rcases h.own b B p k1 h3 h5 with f1 | ⟨b0, B0, p0, f0, f1, f2, f3, f4⟩
      · omega
      · have := hH.inj b0 b' B0 B' p0 p' f1 l2 f2 h4 f3 h6 (by omega)
        exact l1 (this ▸ f0)
    · exfalso
      rw [h.dom b k1] at h5
      obtain ⟨q1, q2⟩ := keep b B p.1 p.2 k1 k2 h3 h5
      rcases h.own b' B' p' l1 h4 h6 with f1 | ⟨b0, B0, p0, f0, f1, f2, f3, f4⟩
      · omega
      · have := hH.inj b0 b B0 B p0 p f1 k2 f2 h3 f3 h5 (by omega)
        exact k1 (this ▸ f0)
    · rw [h.dom b k1] at h5
      rw [h.dom b' l1] at h6
      exact hH.inj b b' B B' p p' k2 l2 h3 h4 h5 h6 h7
  · obtain ⟨h1, h2⟩ := hg_upd_none hb
    rw [h.dom b h1]
    exact hD b h2
  · exact h.frame c hc fun b B p _ h2 h3 h4 => hf b B p h2 h3 h4
  · rcases hg_upd h1 with k1 | ⟨k1, k2⟩
    · rcases h.own b B p k1 h2 h3 with f1 | ⟨b0, B0, p0, f0, f1, f2, f3, f4⟩
      · exact .inl f1
      · exact .inr ⟨b0, B0, p0, f1, f2, f3, f4⟩
    · rw [h.dom b k1] at h3
      exact .inr ⟨b, B, p, k2, h2, h3, rfl⟩

/-! ### Two kinds of events -/
def setm (m : Mp) (d : Nat) (p : Nat × Nat) : Mp := fun b => if b = d then some p else m b
theorem setm_eq {m : Mp} {d : Nat} {p : Nat × Nat} : setm m d p d = some p := if_pos rfl
theorem setm_ne {m : Mp} {d b : Nat} {p : Nat × Nat} (h : b ≠ d) : setm m d p b = m b := if_neg h

def addS (S : Nat → Prop) (c : Nat) : Nat → Prop := fun x => S x ∨ x = c

/-- A new block. -/
theorem mv_new {d : Nat} {o : Obj} {p : Nat × Nat} (hd : m d = none) (hs : w'.heap.size = w.heap.size + 1 ∧ Same w w') (hold : ∀ c, c < w.heap.size → w'.heap[c]? = w.heap[c]?) :
    Mv S m w (addS S w.heap.size) (setm m d p) w' :=
  ⟨by have := hs.1; omega, fun c hc hS => ⟨fun h => h.elim hS (by omega), hold c hc⟩, fun c q hq => by
    have : c < w.heap.size := by
      rcases Nat.lt_or_ge c w.heap.size with h1 | h1
      · exact h1
      · simp only [World.shape?, Array.getElem?_eq_none h1] at hq; cases hq
    simp only [World.shape?, hold c this] at hq ⊢; exact hq, fun b q hq => by
    rw [setm_ne (fun e => by subst e; rw [hd] at hq; cases hq)]; exact hq, hs.2⟩

theorem ev_new {d : Nat} {B : Blk} {o : Obj} (hd : m d = none) (hs : w'.heap.size = w.heap.size + 1 ∧ Same w w') (hold : ∀ c, c < w.heap.size → w'.heap[c]? = w.heap[c]?)
    (hB : SimB (addS S w.heap.size) (setm m d (w.heap.size, 0)) w' B (some (w.heap.size, 0))) : Ev S m w H (addS S w.heap.size) (setm m d (w.heap.size, 0)) w' [(d, B)] := by
  refine ⟨mv_new (o := o) hd hs hold, fun c hc _ => ⟨hold c hc, .inl⟩, fun b B' hb => ?_, fun b B' p hb _ hp => ?_, fun b b' B1 B2 p p' h1 h2 _ _ _ _ _ => ?_, fun b hb => ?_⟩
  · simp only [List.mem_singleton, Prod.mk.injEq] at hb
    obtain ⟨rfl, rfl⟩ := hb
    rw [setm_eq]; exact hB
  · simp only [List.mem_singleton, Prod.mk.injEq] at hb
    obtain ⟨rfl, rfl⟩ := hb
    rw [setm_eq] at hp
    simp only [Option.some.injEq] at hp
    subst hp
    exact .inl (Nat.le_refl _)
  · simp only [List.mem_singleton, Prod.mk.injEq] at h1 h2
    exact h1.1.trans h2.1.symm
  · exact setm_ne (by simpa [keys] using hb)

/-- Cells of one block are new. -/
structure Wr (w w' : World) (c : Nat) (ty : TypeId) (fr : Nat × Nat) (cs cs' : Array Value) : Prop where
  size : w'.heap.size = w.heap.size
  other : ∀ c', c' ≠ c → w'.heap[c']? = w.heap[c']?
  old : w.heap[c]? = some (.cells cs ty fr)
  new : w'.heap[c]? = some (.cells cs' ty fr)
  same : cs'.size = cs.size
  sm : Same w w'

theorem Wr.mv {c : Nat} {ty : TypeId} {fr : Nat × Nat} {cs cs' : Array Value} (h : Wr w w' c ty fr cs cs') (hS : S c) : Mv S m w S m w' :=
  ⟨by rw [h.size]; exact Nat.le_refl _, fun c' _ hn => ⟨hn, h.other c' fun e => hn (e ▸ hS)⟩, fun c' q hq => by
    by_cases e : c' = c
    · subst e
      simp only [World.shape?, h.old, h.new, h.same] at hq ⊢; exact hq
    · simp only [World.shape?, h.other c' e] at hq ⊢; exact hq, fun _ _ h => h, h.sm⟩

theorem ev_write {b c base : Nat} {B B' : Blk} {ty : TypeId} {fr : Nat × Nat} {cs cs' : Array Value} (hb : hg H b = some B) (hl : B.live = true) (hm : m b = some (c, base)) (hS : S c) (hw : Wr w w' c ty fr cs cs')
    (hB : SimB S m w' B' (m b)) : Ev S m w H S m w' [(b, B')] := by
  refine ⟨hw.mv hS, fun c' hc hf => ⟨hw.other c' fun e => hf b B (c, base) (by simp [keys]) hb hl hm e.symm, id⟩, fun b1 B1 h1 => ?_, fun b1 B1 p h1 _ hp => ?_, fun b1 b2 B1 B2 p p' h1 h2 _ _ _ _ _ => ?_, fun _ _ => rfl⟩
  · simp only [List.mem_singleton, Prod.mk.injEq] at h1
    obtain ⟨rfl, rfl⟩ := h1
    exact hB
  · simp only [List.mem_singleton, Prod.mk.injEq] at h1
    obtain ⟨rfl, rfl⟩ := h1
    rw [hm] at hp
    simp only [Option.some.injEq] at hp
    exact .inr ⟨b1, B, (c, base), by simp [keys], hb, hl, hm, by rw [← hp]⟩
  · simp only [List.mem_singleton, Prod.mk.injEq] at h1 h2
    exact h1.1.trans h2.1.symm

/-- A block goes on under a new name. -/
theorem mv_setm {d : Nat} {p : Nat × Nat} (h : Mv S m w S m w') (hd : m d = none) : Mv S m w S (setm m d p) w' :=
  ⟨h.size, h.fro, h.shp, fun b q hq => by rw [setm_ne (fun e => by subst e; rw [hd] at hq; cases hq)]; exact hq, h.sm⟩

theorem ev_move {b d c base base' : Nat} {B B' : Blk} {ty : TypeId} {fr : Nat × Nat} {cs cs' : Array Value} (hb : hg H b = some B) (hl : B.live = true) (hm : m b = some (c, base)) (hd : m d = none) (hS : S c) (hw : Wr w w' c ty fr cs cs')
    (hB : SimB S (setm m d (c, base')) w' B' (some (c, base'))) : Ev S m w H S (setm m d (c, base')) w' [(b, .dead), (d, B')] := by
  have hbd : b ≠ d := fun e => by subst e; rw [hm] at hd; cases hd
  refine ⟨mv_setm (hw.mv hS) hd, fun c' hc hf => ⟨hw.other c' fun e => hf b B (c, base) (by simp [keys]) hb hl hm e.symm, id⟩, fun b1 B1 h1 => ?_, fun b1 B1 p h1 hl1 hp => ?_, fun b1 b2 B1 B2 p p' h1 h2 l1 l2 _ _ _ => ?_, fun b1 h1 => ?_⟩
  · simp only [List.mem_cons, Prod.mk.injEq, List.not_mem_nil, or_false] at h1
    rcases h1 with ⟨rfl, rfl⟩ | ⟨rfl, rfl⟩
    · trivial
    · rw [setm_eq]; exact hB
  · simp only [List.mem_cons, Prod.mk.injEq, List.not_mem_nil, or_false] at h1
    rcases h1 with ⟨rfl, rfl⟩ | ⟨rfl, rfl⟩
    · cases hl1
    · rw [setm_eq] at hp
      simp only [Option.some.injEq] at hp
      exact .inr ⟨b, B, (c, base), by simp [keys], hb, hl, hm, by rw [← hp]⟩
  · simp only [List.mem_cons, Prod.mk.injEq, List.not_mem_nil, or_false] at h1 h2
    rcases h1 with ⟨rfl, rfl⟩ | ⟨rfl, rfl⟩
    · cases l1
    · rcases h2 with ⟨rfl, rfl⟩ | ⟨rfl, rfl⟩
      · cases l2
      · rfl
  · simp only [keys, List.map_cons, List.map_nil, List.mem_cons, List.not_mem_nil, or_false, not_or] at h1
    exact setm_ne h1.2

/-! ### Cells written -/
theorem rep_one_D : ∀ {k : K} {x : k.T} {cs : List Value}, RepD S w k x cs → ∀ v ∈ cs, v.oneCell' = true := by
  intro k
  induction k with
  | int kk => intro x cs h v hv; simp only [RepD] at h; subst h; simp at hv; subst hv; rfl
  | bool => intro x cs h v hv; simp only [RepD] at h; subst h; simp at hv; subst hv; rfl
  | str => intro x cs h v hv; simp only [RepD] at h; subst h; simp at hv; subst hv; rfl
  | sl e ih => intro x cs h v hv; obtain ⟨a, cap, rfl, _⟩ := h; simp at hv; subst hv; rfl
  | arr n e ih =>
    intro x cs h v hv
    obtain ⟨h1, h2, h3⟩ := h
    obtain ⟨q, hq, rfl⟩ := List.getElem_of_mem hv
    have hpos : 0 < e.sz := by
      rcases Nat.eq_zero_or_pos e.sz with h0 | h0
      · rw [h2, h0, Nat.mul_zero] at hq; omega
      · exact h0
    have hi : q / e.sz < n := by
      rw [Nat.div_lt_iff_lt_mul hpos]; rw [h2] at hq; exact hq
    refine ih (h3 _ hi) _ ?_
    have hmod := Nat.div_add_mod q e.sz
    have hlt := Nat.mod_lt q hpos
    rw [Nat.mul_comm] at hmod
    apply List.mem_of_getElem? (i := q % e.sz)
    rw [List.getElem?_take, if_pos hlt, List.getElem?_drop, hmod, List.getElem?_eq_getElem hq]
  | pair a b iha ihb =>
    intro x cs h v hv
    obtain ⟨c1, c2, rfl, h1, h2⟩ := h
    rcases List.mem_append.1 hv with hv | hv
    · exact iha h1 v hv
    · exact ihb h2 v hv
  | unit => intro x cs h v hv; simp only [RepD] at h; subst h; simp at hv

theorem rep_one_L {x : Lf} {cs : List Value} (h : RepL S m w x cs) : ∀ v ∈ cs, v.oneCell' = true := by
  intro v hv
  cases x with
  | v x =>
    obtain ⟨rfl, h1⟩ := h
    simp at hv; subst hv
    cases v <;> first | rfl | cases h1
  | dat k x => exact rep_one_D h v hv
  | ptr => obtain ⟨c, base, _, rfl⟩ := h; simp at hv; subst hv; rfl
  | own => obtain ⟨a, cap, rfl, _⟩ := h; simp at hv; subst hv; rfl
  | fp => obtain ⟨c, off, vs, rfl, _⟩ := h; simp at hv; subst hv; rfl

theorem rep_one : ∀ {l : List Lf} {cs : List Value}, RepLs S m w l cs → ∀ v ∈ cs, v.oneCell' = true := by
  intro l
  induction l with
  | nil => intro cs h v hv; have h : cs = [] := h; subst h; simp at hv
  | cons x l ih =>
    intro cs h v hv
    obtain ⟨c1, c2, rfl, h1, h2⟩ := h
    rcases List.mem_append.1 hv with hv | hv
    · exact rep_one_L h1 v hv
    · exact ih h2 v hv

theorem setCells_heap {c : Nat} {ty : TypeId} {fr : Nat × Nat} : ∀ (vs : List Value) (o : Nat) (w : World) (cs : Array Value), w.heap[c]? = some (.cells cs ty fr) → o + vs.length ≤ cs.size →
    ∃ cs', Wr w (w.setCells c o vs) c ty fr cs cs' ∧ cs'.toList = cs.toList.take o ++ (vs ++ cs.toList.drop (o + vs.length)) := by
  intro vs
  induction vs with
  | nil => intro o w cs h1 h2; exact ⟨cs, ⟨rfl, fun _ _ => rfl, h1, h1, rfl, Same.refl _⟩, by simp⟩
  | cons v vs ih =>
    intro o w cs h1 h2
    simp only [List.length_cons] at h2
    have e1 : (w.setCell ⟨c, o, none⟩ v).heap[c]? = some (.cells (cs.setIfInBounds o v) ty fr) := by
      simp [World.setCell, Array.getElem?_modify, h1]
    obtain ⟨cs', g1, g2⟩ := ih (o + 1) (w.setCell ⟨c, o, none⟩ v) (cs.setIfInBounds o v) e1 (by simp; omega)
    have hk := fold_set (v :: vs) 0 o cs (by simp; omega)
    have hk2 := fold_set vs 1 o (cs.setIfInBounds o v) (by simp; omega)
    refine ⟨cs', ⟨?_, fun c' hc => ?_, h1, g1.new, ?_, Same.trans (w' := w.setCell ⟨c, o, none⟩ v) ⟨rfl, rfl, rfl⟩ (by rw [World.setCells]; exact g1.sm)⟩, ?_⟩
    · rw [World.setCells, g1.size]; simp [World.setCell]
    · rw [World.setCells, g1.other c' hc]
      simp [World.setCell, Array.getElem?_modify, Ne.symm hc]
    · rw [g1.same]; simp
    · rw [g2, ← hk2]
      simp only [List.zipIdx_cons, List.foldl_cons, Nat.add_zero] at hk
      rw [hk]

theorem store_row {P : Program} {c o : Nat} {ty : TypeId} {fr : Nat × Nat} {cs : Array Value} {vs : List Value} (h1 : w.heap[c]? = some (.cells cs ty fr)) (h2 : o + vs.length ≤ cs.size) (h3 : FrOk fr cs.size) (h4 : ∀ v ∈ vs, v.oneCell' = true) :
    ∃ w' cs', (storeCells ⟨c, o, none⟩ vs).run P w = .ok () w' ∧ Wr w w' c ty fr cs cs' ∧ cs'.toList = cs.toList.take o ++ (vs ++ cs.toList.drop (o + vs.length)) := by
  obtain ⟨cs', g1, g2⟩ := setCells_heap vs o w cs h1 h2
  refine ⟨_, cs', ?_, g1, g2⟩
  have := run_storeCells_cells (P := P) c o vs 0 w (fun j hj => ?_) (fun j hj => ?_) h4
  · simpa using this
  · simp only [World.cell?, h1, Nat.add_zero]
    simp only [Option.isSome_none, Bool.false_eq_true, if_false]
    rw [Array.getElem?_eq_getElem (by omega)]
    rfl
  · simp only [World.frozen?, h1, Nat.add_zero]
    exact h3 (o + j) (by omega)
end
end Vam
