/- More quiet operations: cuts, conversions, lengths, joins of strings, comparisons. -/
import Derived.Test.YtnngdpaeiafnlaaDoorVD
import Derived.Laws.BytesArg
namespace Vam
open Go Pg
set_option linter.unusedVariables false
set_option linter.unusedSimpArgs false

section
variable {S : Nat → Prop} {m : Mp} {w : World} {P : Program} {C : FuncId → List AV → Hp → SV → Hp → Prop} {L : Code → St → Ex → St → Prop}

/-! ### What a slice holds -/
def castL (k' k : K) (l : List k'.T) : Option (List k.T) := if h : k' = k then some (h ▸ l) else none

/-- An array's data as a list. -/
def arrL {n : Nat} {k : K} (x : (K.arr n k).T) : List k.T := x

/-- All of it, or a piece. -/
def piece {α : Type} (l : List α) (N i n : Nat) : Pg (List α) :=
  .pick fun d => match d with
    | true => (need (Nat.beq i 0 && nEq n N)).bind fun _ => .ret l
    | false => (need (nle (i + n) N)).bind fun _ => .ret ((l.drop i).take n)

def content (H : Hp) (k : K) : SV → Pg (List k.T)
  | .av (.one (.dat (.sl k') l)) => opt (castL k' k l)
  | .av (.one (.v (.slice none 0 0))) => .ret []
  | .av (.one (.own b o i n s)) =>
    match hg H b with
    | some (.row ty k' l) => (sure (Nat.beq k'.sz s && Nat.beq o 0)).bind fun _ => (opt (castL k' k l)).bind fun l' => piece l' l'.length i n
    | some (.cells ty ls) =>
      match segAt ls o with
      | some (.dat (.arr N k') x :: _) => (sure (Nat.beq k'.sz s)).bind fun _ => (opt (castL k' k (arrL x))).bind fun l' => piece l' N i n
      | _ => .fail
    | _ => .fail
  | _ => .fail

def SliceAt (S : Nat → Prop) (w : World) (k : K) (l : List k.T) (v : Value) : Prop :=
  ∃ a cap, v = .slice a l.length cap ∧ l.length ≤ cap ∧ (l ≠ [] → ∃ c off, a = some ⟨c, off, none⟩ ∧
    ∀ i, i < l.length → ∃ vs, RepD S w k (gd k l i) vs ∧ vs.length = k.sz ∧ At w c (off + i * k.sz) vs)

theorem piece_rep {α : Type} {l : List α} {N i n : Nat} {r : List α} (h : Yd C L (piece l N i n) r) (hN : l.length = N) :
    i + n ≤ N ∧ r = (l.drop i).take n := by
  unfold piece at h
  rcases yd_pick.1 h with h | h
  · obtain ⟨_, e, h⟩ := yd_bind.1 h
    have e := yd_need.1 e
    simp only [Bool.and_eq_true, nEq, decide_eq_true_eq] at e
    have e1 := Nat.eq_of_beq_eq_true e.1
    have h := yd_ret.1 h
    subst h
    refine ⟨by omega, ?_⟩
    rw [e1, e.2, List.drop_zero, List.take_of_length_le (by omega)]
  · obtain ⟨_, h1, h2⟩ := yd_bind.1 h
    exact ⟨of_decide_eq_true (yd_need.1 h1), (yd_ret.1 h2).symm⟩

theorem gd_piece {k : K} {l : List k.T} {i n j : Nat} (h : i + n ≤ l.length) (hj : j < n) : gd k ((l.drop i).take n) j = gd k l (i + j) := by
  unfold gd
  simp only [List.getD_eq_getElem?_getD, List.getElem?_take, List.getElem?_drop, hj, if_true]

theorem castL_eq {k' k : K} {l : List k'.T} {r : List k.T} (h : castL k' k l = some r) : ∃ e : k' = k, r = e ▸ l := by
  unfold castL at h
  split at h
  · rename_i e; simp only [Option.some.injEq] at h; exact ⟨e, h.symm⟩
  · cases h

theorem content_rep {H : Hp} {k : K} {x : SV} {l : List k.T} {v : Value} (hH : SimH S m w H) (h : Yd C L (content H k x) l) (hr : RepS S m w x v) : SliceAt S w k l v := by
  unfold content at h
  split at h
  · rename_i k' l'
    obtain ⟨e, rfl⟩ := castL_eq (yd_opt.1 h)
    subst e
    obtain ⟨a, cap, e1, e2, e3⟩ := (repS_one rfl).1 hr
    simp only [List.cons.injEq, and_true] at e1
    refine ⟨a, cap, e1, e2, fun hx => ?_⟩
    obtain ⟨c, off, e4, e5, e6, e7⟩ := e3 hx
    refine ⟨c, off, e4, fun i hi => ?_⟩
    obtain ⟨vs, f1, f2, f3⟩ := e7 i hi
    exact ⟨vs, f1, f2, fun j v hj => by rw [Nat.add_assoc]; exact f3 j v hj⟩
  · have h := yd_ret.1 h; subst h
    obtain ⟨rfl, _⟩ := repS_v.1 hr
    exact ⟨none, 0, rfl, Nat.le_refl _, fun hx => absurd rfl hx⟩
  · rename_i b o i n s
    obtain ⟨a, cap, e1, e2, e3⟩ := (repS_one rfl).1 hr
    simp only [List.cons.injEq, and_true] at e1
    split at h
    · rename_i ty k' l' hb
      obtain ⟨_, h1, h⟩ := yd_bind.1 h
      have h1 := yd_sure.1 h1
      simp only [Bool.and_eq_true] at h1
      have h1a := Nat.eq_of_beq_eq_true h1.1
      have h1b := Nat.eq_of_beq_eq_true h1.2
      obtain ⟨l2, h2, h⟩ := yd_bind.1 h
      obtain ⟨e, rfl⟩ := castL_eq (yd_opt.1 h2)
      subst e
      obtain ⟨h3, h4⟩ := piece_rep h rfl
      dsimp only at h3 h4
      have hlen : l.length = n := by rw [h4]; simp; omega
      refine ⟨a, cap, by rw [hlen]; exact e1, by omega, fun hx => ?_⟩
      have hn : 0 < n := by rcases Nat.eq_zero_or_pos n with hz | hz; · exact absurd (List.length_eq_zero_iff.1 (by omega)) hx
                            · exact hz
      rcases e3 with e3 | ⟨c, base, ty2, sz2, f1, f2, f3, f4⟩
      · omega
      rcases hH.blk _ _ hb with ⟨e0, _⟩ | ⟨c', base', cs, fr, g1, g2, g3, g4, g5, g6⟩
      · rw [f1] at e0; cases e0
      rw [f1] at g1
      simp only [Option.some.injEq, Prod.mk.injEq] at g1
      obtain ⟨rfl, rfl⟩ := g1
      refine ⟨c, _, f2, fun j hj => ⟨_, by rw [h4, gd_piece (by omega) (by omega)]; exact g6 (i + j) (by omega), ?_, ?_⟩⟩
      · have : (i + j + 1) * k'.sz ≤ l'.length * k'.sz := Nat.mul_le_mul_right _ (by omega)
        rw [Nat.add_mul, Nat.one_mul] at this
        simp; omega
      · have := ((at_block g2).drop (base + (i + j) * k'.sz)).take k'.sz
        rw [← h1a, h1b]
        have e5 : base + (0 + i * k'.sz) + j * k'.sz = 0 + (base + (i + j) * k'.sz) := by rw [Nat.add_mul]; omega
        rw [e5]; exact this
    · rename_i ty ls hb
      split at h
      · rename_i N k' x rest hseg
        obtain ⟨_, h1, h⟩ := yd_bind.1 h
        have h1 := Nat.eq_of_beq_eq_true (yd_sure.1 h1)
        obtain ⟨l2, h2, h⟩ := yd_bind.1 h
        obtain ⟨e, rfl⟩ := castL_eq (yd_opt.1 h2)
        subst e
        obtain ⟨c', cs, fr, g1, g2, g3, g4, g5⟩ := hH.blk _ _ hb
        obtain ⟨q1, d1, d2, q2, q3, q4⟩ := segAt_rep hseg g5
        have hN : (arrL x).length = N := q3.1
        have q5 : ∀ j, j < N → RepD S w k' (gd k' (arrL x) j) ((d1.drop (j * k'.sz)).take k'.sz) := q3.2.2
        have q6 := q3.2.1
        obtain ⟨h3, h4⟩ := piece_rep h hN
        dsimp only at h3 h4
        generalize arrL x = y at *
        have hlen : l.length = n := by rw [h4]; simp; omega
        refine ⟨a, cap, by rw [hlen]; exact e1, by omega, fun hx => ?_⟩
        have hn : 0 < n := by rcases Nat.eq_zero_or_pos n with hz | hz; · exact absurd (List.length_eq_zero_iff.1 (by omega)) hx
                              · exact hz
        rcases e3 with e3 | ⟨c, base, ty2, sz2, f1, f2, f3, f4⟩
        · omega
        rw [f1] at g1
        simp only [Option.some.injEq, Prod.mk.injEq] at g1
        obtain ⟨rfl, rfl⟩ := g1
        refine ⟨c, _, f2, fun j hj => ⟨_, by rw [h4, gd_piece (by omega) (by omega)]; exact q5 (i + j) (by omega), ?_, ?_⟩⟩
        · have : (i + j + 1) * k'.sz ≤ N * k'.sz := Nat.mul_le_mul_right _ (by omega)
          rw [Nat.add_mul, Nat.one_mul] at this
          simp; omega
        · have hat2 : At w c o d1 := by
            intro j v hj
            have := ((at_block g2).drop o) j v (by rw [q2, List.getElem?_append_left (by have := List.getElem?_eq_some_iff.1 hj; exact this.1)]; exact hj)
            simpa using this
          have := (hat2.drop ((i + j) * k'.sz)).take k'.sz
          rw [← h1]
          have e5 : 0 + (o + i * k'.sz) + j * k'.sz = o + (i + j) * k'.sz := by rw [Nat.add_mul]; omega
          rw [e5]; exact this
      · exact fail_absurd h
    · exact fail_absurd h
  · exact fail_absurd h

/-! ### Cuts -/
def lowOf : Option SV → Option Int
  | none => some 0
  | some x => (asI x).map (·.2)

/-- An array of N elements of z cells lies at cell o of block b. -/
def arrAt (H : Hp) (b o N z : Nat) : Bool :=
  match hg H b with
  | some (.cells ty ls) => match segAt ls o with
    | some (.dat (.arr N' k) _ :: _) => Nat.beq N N' && Nat.beq z k.sz
    | _ => false
  | _ => false

theorem arrAt_room {H : Hp} {b o N z : Nat} (hH : SimH S m w H) (h : arrAt H b o N z = true) {c base : Nat} (hm : m b = some (c, base)) : ∃ ty sz, w.shape? c = some (ty, sz) ∧ base + (o + N * z) ≤ sz := by
  unfold arrAt at h
  split at h
  · rename_i ty ls hb
    split at h
    · rename_i N' k y rest hs
      simp only [Bool.and_eq_true] at h
      have h1 := Nat.eq_of_beq_eq_true h.1
      have h2 := Nat.eq_of_beq_eq_true h.2
      obtain ⟨c', cs, fr, g1, g2, g3, g4, g5⟩ := hH.blk _ _ hb
      obtain ⟨q1, d1, d2, q2, q3, q4⟩ := segAt_rep hs g5
      rw [hm] at g1
      simp only [Option.some.injEq, Prod.mk.injEq] at g1
      obtain ⟨rfl, rfl⟩ := g1
      refine ⟨ty, cs.size, by simp [World.shape?, g2], ?_⟩
      have h3 : d1.length = N' * k.sz := q3.2.1
      have h4 := congrArg List.length q2
      simp only [List.length_drop, List.length_append, Array.length_toList, h3] at h4
      simp only [Array.length_toList] at q1
      rw [h1, h2]
      omega
    · cases h
  · cases h

def qSlice (P : Program) (H : Hp) (t : TypeId) (x : SV) (lo hi : Option SV) : Pg SV :=
  match lo.elim (some (0 : Int)) (fun y => (asI y).map (·.2)) with
  | none => .fail
  | some l =>
    match P.underlying t, x with
    | some .string, .av (.one (.v (.string s))) =>
      match hi with
      | none => (need (ile 0 l)).bind fun _ => (need (ile l (ssz s))).bind fun _ => .ret (vv (.string (scut s l.toNat s.size)))
      | some y => match asI y with
        | some (_, h) => (need (ile 0 l)).bind fun _ => (need (ile l h)).bind fun _ => (need (ile h (ssz s))).bind fun _ => .ret (vv (.string (scut s l.toNat h.toNat)))
        | none => .fail
    | some (.slice e), .av (.one (.dat (.sl k) y)) =>
      match szOf P e with
      | some z => (sure (Nat.beq z k.sz)).bind fun _ =>
        match hi with
        | none => (need (ile 0 l)).bind fun _ => (need (ile l (llen y))).bind fun _ => .ret (.av (.one (.dat (.sl k) (List.drop l.toNat y))))
        | some h => match asI h with
          | some (_, h) => (need (ile 0 l)).bind fun _ => (need (ile l h)).bind fun _ => (need (ile h (llen y))).bind fun _ => .ret (.av (.one (.dat (.sl k) (List.drop l.toNat (List.take h.toNat y)))))
          | none => .fail
      | none => .fail
    | some (.slice e), .av (.one (.own b o i n s)) =>
      match szOf P e with
      | some z => (sure (Nat.beq z s)).bind fun _ =>
        match hi with
        | none => (need (ile 0 l)).bind fun _ => (need (ile l (n : Int))).bind fun _ => .ret (.av (.one (.own b o (i + l.toNat) (n - l.toNat) s)))
        | some h => match asI h with
          | some (_, h) => (need (ile 0 l)).bind fun _ => (need (ile l h)).bind fun _ => (need (ile h (n : Int))).bind fun _ => .ret (.av (.one (.own b o (i + l.toNat) (h.toNat - l.toNat) s)))
          | none => .fail
      | none => .fail
    | some (.array N e), .av (.one (.ptr b o i 0 r)) =>
      match szOf P e with
      | some z => (sure (arrAt H b (o + r) N z)).bind fun _ =>
        match hi with
        | none => (need (ile 0 l)).bind fun _ => (need (ile l (N : Int))).bind fun _ => .ret (.av (.one (.own b (o + r) l.toNat (N - l.toNat) z)))
        | some h => match asI h with
          | some (_, h) => (need (ile 0 l)).bind fun _ => (need (ile l h)).bind fun _ => (need (ile h (N : Int))).bind fun _ => .ret (.av (.one (.own b (o + r) l.toNat (h.toNat - l.toNat) z)))
          | none => .fail
      | none => .fail
    | _, _ => .fail

/-- The machine's bounds of a cut. -/
theorem run_bounds {b : Bool} {len cap : Nat} {lo hi : Option Value} {l h : Int} (hlo : lo = none ∧ l = 0 ∨ ∃ k, lo = some (.int k l)) (hhi : hi = none ∧ h = (len : Int) ∨ ∃ k, hi = some (.int k h))
    (h0 : 0 ≤ l) (h1 : l ≤ h) (h2 : h ≤ (cap : Int)) : (Instr.sliceBounds b len cap lo hi none).run P w = Result.ok (l.toNat, h.toNat, cap) w := by
  have eh : (h.toNat : Int) = h := Int.toNat_of_nonneg (by omega)
  have a0 : 0 ≤ h := by omega
  rcases hlo with ⟨rfl, rfl⟩ | ⟨k, rfl⟩ <;> rcases hhi with ⟨rfl, rfl⟩ | ⟨k', rfl⟩
  · simp [Instr.sliceBounds]
  · simp [Instr.sliceBounds, run_sliceBound, a0, h2]
  · simp [Instr.sliceBounds, run_sliceBound, h0, h1]
  · simp [Instr.sliceBounds, run_sliceBound, h0, h1, a0, h2, eh]

def RepO (S : Nat → Prop) (m : Mp) (w : World) : Option SV → Option Value → Prop
  | none, none => True
  | some x, some v => RepS S m w x v
  | _, _ => False

theorem low_of {lo : Option SV} {vlo : Option Value} {l : Int} (h : lo.elim (some (0 : Int)) (fun y => (asI y).map (·.2)) = some l) (hr : RepO S m w lo vlo) :
    vlo = none ∧ l = 0 ∨ ∃ k, vlo = some (.int k l) := by
  cases lo with
  | none =>
    cases vlo with
    | none => simp at h; exact .inl ⟨rfl, h.symm⟩
    | some v => exact hr.elim
  | some x =>
    cases vlo with
    | none => exact hr.elim
    | some v =>
      simp only [Option.elim_some, Option.map_eq_some_iff] at h
      obtain ⟨⟨k, n⟩, h1, h2⟩ := h
      obtain rfl := asI_rep h1 hr
      exact .inr ⟨k, by rw [← h2]⟩

theorem cutD {k : K} {y : List k.T} {v : Value} {a : Option Addr} {cap l h z : Nat} (hr : RepL S m w (.dat (.sl k) y) [.slice a (List.length y) cap]) (h1 : l ≤ h) (h2 : h ≤ List.length y) (hz : z = k.sz) :
    RepL S m w (.dat (.sl k) (List.drop l (List.take h y))) [sliced a l h cap z] := by
  obtain ⟨a', cap', e1, e2, e3⟩ := hr
  simp only [List.cons.injEq, Value.slice.injEq, and_true, true_and] at e1
  obtain ⟨rfl, rfl⟩ := e1
  have hlen : List.length (List.drop l (List.take h y)) = h - l := by simp; omega
  refine ⟨if cap = l then a else a.map (·.add (l * z)), cap - l, by rw [hlen]; rfl, by rw [hlen]; omega, fun hx => ?_⟩
  have hpos : 0 < h - l := by rw [← hlen]; exact List.length_pos_iff.2 hx
  obtain ⟨c, off, e4, e5, e6, e7⟩ := e3 (by intro e0; subst e0; simp at h2; omega)
  subst e4
  rw [if_neg (by omega)]
  refine ⟨c, off + l * z, by simp only [Option.map_some, add_none], e5, e6, fun i hi => ?_⟩
  rw [hlen] at hi
  obtain ⟨vs, f1, f2, f3⟩ := e7 (l + i) (by omega)
  refine ⟨vs, ?_, f2, fun j u hj => ?_⟩
  · have : gd k (List.drop l (List.take h y)) i = gd k y (l + i) := by
      unfold gd
      simp only [List.getD_eq_getElem?_getD, List.getElem?_drop, List.getElem?_take]
      rw [if_pos (by omega)]
    rw [this]; exact f1
  · have := f3 j u hj
    subst hz
    rw [Nat.add_mul] at this
    have e5 : off + l * k.sz + (i * k.sz + j) = off + (l * k.sz + i * k.sz + j) := by omega
    rw [e5]; exact this

theorem cutD0 {k : K} {y : List k.T} {a : Option Addr} {cap l z : Nat} (hr : RepL S m w (.dat (.sl k) y) [.slice a (List.length y) cap]) (h1 : l ≤ List.length y) (hz : z = k.sz) :
    RepL S m w (.dat (.sl k) (List.drop l y)) [sliced a l (List.length y) cap z] := by
  have := cutD (l := l) (h := y.length) (v := .bool true) hr h1 (Nat.le_refl _) hz
  rwa [List.take_of_length_le (Nat.le_refl _)] at this

theorem cutO {b o i n s : Nat} {a : Option Addr} {cap l h z : Nat} (hr : RepL S m w (.own b o i n s) [.slice a n cap]) (h1 : l ≤ h) (h2 : h ≤ n) (hz : z = s) :
    RepL S m w (.own b o (i + l) (h - l) s) [sliced a l h cap z] := by
  obtain ⟨a', cap', e1, e2, e3⟩ := hr
  simp only [List.cons.injEq, Value.slice.injEq, and_true, true_and] at e1
  obtain ⟨rfl, rfl⟩ := e1
  refine ⟨if cap = l then a else a.map (·.add (l * z)), cap - l, rfl, by omega, ?_⟩
  rcases Nat.eq_zero_or_pos (cap - l) with hc | hc
  · exact .inl hc
  · right
    rcases e3 with e3 | ⟨c, base, ty, sz, f1, f2, f3, f4⟩
    · omega
    · subst f2 hz
      rw [if_neg (by omega)]
      refine ⟨c, base, ty, sz, f1, ?_, f3, ?_⟩
      · simp only [Option.map_some, add_none, Nat.add_mul]; congr 2; omega
      · rw [show i + l + (cap - l) = i + cap from by omega]; exact f4

theorem run_slice_run {t e : TypeId} {a : Option Addr} {len cap z : Nat} {lo hi : Option Value} {l h : Int} (hu : P.underlying t = some (.slice e)) (hz : szOf P e = some z)
    (hlo : lo = none ∧ l = 0 ∨ ∃ k, lo = some (.int k l)) (hhi : hi = none ∧ h = (len : Int) ∨ ∃ k, hi = some (.int k h)) (h0 : 0 ≤ l) (h1 : l ≤ h) (h2 : h ≤ (cap : Int)) :
    (Instr.sliceAt t (.slice a len cap) lo hi none).run P w = Result.ok (sliced a l.toNat h.toNat cap z) w := by
  simp only [Instr.sliceAt, Instr.slice, Sem.run_bind, run_underlying hu, Result.andThen, run_bounds hlo hhi h0 h1 h2, run_sizeOf' hz, Sem.run_pure, sliced]

theorem run_slice_str {t : TypeId} {s : ByteArray} {lo hi : Option Value} {l h : Int} (hu : P.underlying t = some .string)
    (hlo : lo = none ∧ l = 0 ∨ ∃ k, lo = some (.int k l)) (hhi : hi = none ∧ h = (s.size : Int) ∨ ∃ k, hi = some (.int k h)) (h0 : 0 ≤ l) (h1 : l ≤ h) (h2 : h ≤ (s.size : Int)) :
    (Instr.sliceAt t (.string s) lo hi none).run P w = Result.ok (.string (s.extract l.toNat h.toNat)) w := by
  simp [Instr.sliceAt, Instr.slice, Sem.run_bind, run_underlying hu, Result.andThen, run_bounds hlo hhi h0 h1 h2, Sem.run_pure]

theorem run_slice_arr {t e : TypeId} {N z : Nat} {a : Addr} {lo hi : Option Value} {l h : Int} (hu : P.underlying t = some (.array N e)) (hz : szOf P e = some z)
    (hlo : lo = none ∧ l = 0 ∨ ∃ k, lo = some (.int k l)) (hhi : hi = none ∧ h = (N : Int) ∨ ∃ k, hi = some (.int k h)) (h0 : 0 ≤ l) (h1 : l ≤ h) (h2 : h ≤ (N : Int)) :
    (Instr.sliceAt t (.pointer (some a)) lo hi none).run P w = Result.ok (.slice (some (if N = l.toNat then a else a.add (l.toNat * z))) (h.toNat - l.toNat) (N - l.toNat)) w := by
  simp only [Instr.sliceAt, Sem.run_bind, run_underlying hu, Result.andThen, Instr.sureAddr, run_bounds hlo hhi h0 h1 h2, run_sizeOf' hz, Sem.run_pure]

theorem qSlice_run {H : Hp} {t : TypeId} {x r : SV} {lo hi : Option SV} {v : Value} {vlo vhi : Option Value} (hH : SimH S m w H)
    (h : Yd C L (qSlice P H t x lo hi) r) (hx : RepS S m w x v) (hlo : RepO S m w lo vlo) (hhi : RepO S m w hi vhi) :
    ∃ y, (Instr.sliceAt t v vlo vhi none).run P w = Result.ok y w ∧ RepS S m w r y := by
  unfold qSlice at h
  split at h
  · exact fail_absurd h
  · rename_i l hl
    have hL := low_of hl hlo
    have hHi : ∀ k n, (∃ y, hi = some y ∧ asI y = some (k, n)) → vhi = some (.int k n) := by
      rintro k n ⟨y, rfl, e⟩
      cases vhi with
      | none => exact hhi.elim
      | some u => rw [asI_rep e hhi]
    have hNo : hi = none → vhi = none := by
      rintro rfl
      cases vhi with
      | none => rfl
      | some u => exact hhi.elim
    split at h
    · rename_i s hu
      obtain ⟨rfl, _⟩ := repS_v.1 hx
      split at h
      · obtain ⟨_, h1, h⟩ := yd_bind.1 h
        obtain ⟨_, h2, h⟩ := yd_bind.1 h
        have h1 := of_decide_eq_true (yd_need.1 h1)
        try simp only [llen, ssz] at h1
        have h2 := of_decide_eq_true (yd_need.1 h2)
        try simp only [llen, ssz] at h2
        have h := yd_ret.1 h; subst h
        exact ⟨_, run_slice_str hu hL (.inl ⟨hNo rfl, rfl⟩) h1 h2 (Int.le_refl _), rep_v rfl⟩
      · rename_i y
        split at h
        · rename_i k hv he
          obtain ⟨_, h1, h⟩ := yd_bind.1 h
          obtain ⟨_, h2, h⟩ := yd_bind.1 h
          obtain ⟨_, h3, h⟩ := yd_bind.1 h
          have h1 := of_decide_eq_true (yd_need.1 h1)
          try simp only [llen, ssz] at h1
          have h2 := of_decide_eq_true (yd_need.1 h2)
          try simp only [llen, ssz] at h2
          have h3 := of_decide_eq_true (yd_need.1 h3)
          try simp only [llen, ssz] at h3
          have h := yd_ret.1 h; subst h
          exact ⟨_, run_slice_str hu hL (.inr ⟨k, hHi k hv ⟨_, rfl, he⟩⟩) h1 h2 h3, rep_v rfl⟩
        · exact fail_absurd h
    · rename_i e k y hu
      split at h
      · rename_i z hz
        obtain ⟨_, h0, h⟩ := yd_bind.1 h
        have h0 := Nat.eq_of_beq_eq_true (yd_sure.1 h0)
        have hx' := (repS_one rfl).1 hx
        obtain ⟨a, cap, e1, e2, e3⟩ := id hx'
        simp only [List.cons.injEq, and_true] at e1
        subst e1
        split at h
        · obtain ⟨_, h1, h⟩ := yd_bind.1 h
          obtain ⟨_, h2, h⟩ := yd_bind.1 h
          have h1 := of_decide_eq_true (yd_need.1 h1)
          try simp only [llen, ssz] at h1
          have h2 := of_decide_eq_true (yd_need.1 h2)
          try simp only [llen, ssz] at h2
          have h := yd_ret.1 h; subst h
          refine ⟨_, run_slice_run hu hz hL (.inl ⟨hNo rfl, rfl⟩) h1 h2 (by omega), (repS_one rfl).2 ?_⟩
          rw [Int.toNat_natCast]
          exact cutD0 hx' (by omega) h0
        · rename_i hy
          split at h
          · rename_i kk hv he
            obtain ⟨_, h1, h⟩ := yd_bind.1 h
            obtain ⟨_, h2, h⟩ := yd_bind.1 h
            obtain ⟨_, h3, h⟩ := yd_bind.1 h
            have h1 := of_decide_eq_true (yd_need.1 h1)
            try simp only [llen, ssz] at h1
            have h2 := of_decide_eq_true (yd_need.1 h2)
            try simp only [llen, ssz] at h2
            have h3 := of_decide_eq_true (yd_need.1 h3)
            try simp only [llen, ssz] at h3
            have h := yd_ret.1 h; subst h
            exact ⟨_, run_slice_run hu hz hL (.inr ⟨kk, hHi kk hv ⟨_, rfl, he⟩⟩) h1 h2 (by omega), (repS_one rfl).2 (cutD (v := .bool true) hx' (by omega) (by omega) h0)⟩
          · exact fail_absurd h
      · exact fail_absurd h
    · rename_i e b o i n s hu
      split at h
      · rename_i z hz
        obtain ⟨_, h0, h⟩ := yd_bind.1 h
        have h0 := Nat.eq_of_beq_eq_true (yd_sure.1 h0)
        have hx' := (repS_one rfl).1 hx
        obtain ⟨a, cap, e1, e2, e3⟩ := id hx'
        simp only [List.cons.injEq, and_true] at e1
        subst e1
        split at h
        · obtain ⟨_, h1, h⟩ := yd_bind.1 h
          obtain ⟨_, h2, h⟩ := yd_bind.1 h
          have h1 := of_decide_eq_true (yd_need.1 h1)
          try simp only [llen, ssz] at h1
          have h2 := of_decide_eq_true (yd_need.1 h2)
          try simp only [llen, ssz] at h2
          have h := yd_ret.1 h; subst h
          refine ⟨_, run_slice_run hu hz hL (.inl ⟨hNo rfl, rfl⟩) h1 h2 (by omega), (repS_one rfl).2 ?_⟩
          rw [Int.toNat_natCast]
          exact cutO hx' (by omega) (Nat.le_refl _) h0
        · rename_i hy
          split at h
          · rename_i kk hv he
            obtain ⟨_, h1, h⟩ := yd_bind.1 h
            obtain ⟨_, h2, h⟩ := yd_bind.1 h
            obtain ⟨_, h3, h⟩ := yd_bind.1 h
            have h1 := of_decide_eq_true (yd_need.1 h1)
            try simp only [llen, ssz] at h1
            have h2 := of_decide_eq_true (yd_need.1 h2)
            try simp only [llen, ssz] at h2
            have h3 := of_decide_eq_true (yd_need.1 h3)
            try simp only [llen, ssz] at h3
            have h := yd_ret.1 h; subst h
            exact ⟨_, run_slice_run hu hz hL (.inr ⟨kk, hHi kk hv ⟨_, rfl, he⟩⟩) h1 h2 (by omega), (repS_one rfl).2 (cutO hx' (by omega) (by omega) h0)⟩
          · exact fail_absurd h
      · exact fail_absurd h
    · rename_i N e b o i r' hu
      split at h
      · rename_i z hz
        obtain ⟨_, h0, h⟩ := yd_bind.1 h
        have h0 := yd_sure.1 h0
        obtain ⟨c, base, hm, hv⟩ := (repS_one rfl).1 hx
        simp only [List.cons.injEq, and_true] at hv
        subst hv
        obtain ⟨ty, sz, g1, g2⟩ := arrAt_room hH h0 hm
        have key : ∀ l h : Nat, l ≤ h → h ≤ N → RepL S m w (.own b (o + r') l (h - l) z)
            [.slice (some (if N = l then ⟨c, base + (o + i * 0 + r'), none⟩ else (⟨c, base + (o + i * 0 + r'), none⟩ : Addr).add (l * z))) (h - l) (N - l)] := by
          intro l h h1 h2
          refine ⟨_, _, rfl, by omega, ?_⟩
          rcases Nat.eq_zero_or_pos (N - l) with hc | hc
          · exact .inl hc
          · refine .inr ⟨c, base, ty, sz, hm, ?_, g1, ?_⟩
            · rw [if_neg (by omega), add_none]; congr 2; omega
            · rw [show l + (N - l) = N from by omega]; exact g2
        split at h
        · obtain ⟨_, h1, h⟩ := yd_bind.1 h
          obtain ⟨_, h2, h⟩ := yd_bind.1 h
          have h1 := of_decide_eq_true (yd_need.1 h1)
          try simp only [llen, ssz] at h1
          have h2 := of_decide_eq_true (yd_need.1 h2)
          try simp only [llen, ssz] at h2
          have h := yd_ret.1 h; subst h
          refine ⟨_, run_slice_arr hu hz hL (.inl ⟨hNo rfl, rfl⟩) h1 h2 (Int.le_refl _), (repS_one rfl).2 ?_⟩
          rw [Int.toNat_natCast]
          exact key l.toNat N (by omega) (Nat.le_refl _)
        · rename_i hy
          split at h
          · rename_i kk hv he
            obtain ⟨_, h1, h⟩ := yd_bind.1 h
            obtain ⟨_, h2, h⟩ := yd_bind.1 h
            obtain ⟨_, h3, h⟩ := yd_bind.1 h
            have h1 := of_decide_eq_true (yd_need.1 h1)
            try simp only [llen, ssz] at h1
            have h2 := of_decide_eq_true (yd_need.1 h2)
            try simp only [llen, ssz] at h2
            have h3 := of_decide_eq_true (yd_need.1 h3)
            try simp only [llen, ssz] at h3
            have h := yd_ret.1 h; subst h
            exact ⟨_, run_slice_arr hu hz hL (.inr ⟨kk, hHi kk hv ⟨_, rfl, he⟩⟩) h1 h2 h3, (repS_one rfl).2 (key _ _ (by omega) (by omega))⟩
          · exact fail_absurd h
      · exact fail_absurd h
    · exact fail_absurd h
end
end Vam
