/- Own rows frozen: from then on they are pure data. -/
import Derived.Test.YtnngdpaeiafnlaaDoorVQ
namespace Vam
open Go Pg
set_option linter.unusedVariables false
set_option linter.unusedSimpArgs false

/-! ### Leaves changed everywhere -/
def mapLs (g : Lf → Pg Lf) : List Lf → Pg (List Lf)
  | [] => .ret []
  | x :: l => (g x).bind fun y => (mapLs g l).bind fun r => .ret (y :: r)
def mapA (g : Lf → Pg Lf) : AV → Pg AV
  | .one x => (g x).bind fun y => .ret (.one y)
  | .agg l => (mapLs g l).bind fun r => .ret (.agg r)
def mapAs (g : Lf → Pg Lf) : List AV → Pg (List AV)
  | [] => .ret []
  | x :: l => (mapA g x).bind fun y => (mapAs g l).bind fun r => .ret (y :: r)
def mapS (g : Lf → Pg Lf) : SV → Pg SV
  | .av x => (mapA g x).bind fun y => .ret (.av y)
  | .tup l => (mapAs g l).bind fun r => .ret (.tup r)
  | x => .ret x
def mapTm (g : Lf → Pg Lf) : Tm → Pg Tm
  | [] => .ret []
  | (t, x) :: r => (mapS g x).bind fun y => (mapTm g r).bind fun l => .ret ((t, y) :: l)
def mapB (g : Lf → Pg Lf) : Blk → Pg Blk
  | .cells ty l => (mapLs g l).bind fun r => .ret (.cells ty r)
  | B => .ret B
def mapH (g : Lf → Pg Lf) (b : Nat) : Hp → Pg Hp
  | [] => .ret []
  | (i, B) :: r => (mapB g (match Nat.beq i b with | true => .dead | false => B)).bind fun B' => (mapH g b r).bind fun l => .ret ((i, B') :: l)

def frzL (k : K) (l : List k.T) (b : Nat) (x : Lf) : Pg Lf :=
  match x with
  | .own b' o i n s => match Nat.beq b' b with
    | true => (sure (Nat.beq k.sz s && Nat.beq o 0)).bind fun _ => (piece l l.length i n).bind fun l' => .ret (.dat (.sl k) l')
    | false => .ret x
  | x => .ret x

def frz (b : Nat) (σ : St) : Pg St :=
  match hg σ.hp b with
  | some (.row ty k l) => (mapTm (frzL k l b) σ.tm).bind fun tm => (mapH (frzL k l b) b σ.hp).bind fun hp => .ret ⟨tm, hp⟩
  | _ => .ret σ
def frzAll : List Nat → St → Pg St
  | [], σ => .ret σ
  | b :: r, σ => (frz b σ).bind fun τ => frzAll r τ

section
variable {S S' : Nat → Prop} {m : Mp} {w : World} {C : FuncId → List AV → Hp → SV → Hp → Prop} {L : Code → St → Ex → St → Prop} {g : Lf → Pg Lf}

theorem mapLs_rep (hg : ∀ x y cs, Yd C L (g x) y → RepL S m w x cs → RepL S' m w y cs) : ∀ {l r : List Lf} {cs : List Value}, Yd C L (mapLs g l) r → RepLs S m w l cs → RepLs S' m w r cs := by
  intro l
  induction l with
  | nil => intro r cs h hr; have h := yd_ret.1 h; subst h; exact hr
  | cons x l ih =>
    intro r cs h hr
    obtain ⟨y, h1, h⟩ := yd_bind.1 h
    obtain ⟨t, h2, h⟩ := yd_bind.1 h
    have h := yd_ret.1 h; subst h
    obtain ⟨c1, c2, e, k1, k2⟩ := hr
    exact ⟨c1, c2, e, hg x y c1 h1 k1, ih h2 k2⟩
theorem mapA_rep (hg : ∀ x y cs, Yd C L (g x) y → RepL S m w x cs → RepL S' m w y cs) (hw : ∀ x y, Yd C L (g x) y → y.wide = x.wide) {x y : AV} {v : Value} (h : Yd C L (mapA g x) y) (hr : RepA S m w x v) : RepA S' m w y v := by
  cases x with
  | one x =>
    obtain ⟨z, h1, h⟩ := yd_bind.1 h
    have h := yd_ret.1 h; subst h
    simp only [RepA] at hr ⊢
    rw [hw x z h1]
    split at hr
    · rename_i e; rw [if_pos e]; obtain ⟨cs, e1, h2⟩ := hr; exact ⟨cs, e1, hg _ _ _ h1 h2⟩
    · rename_i e; rw [if_neg e]; exact hg _ _ _ h1 hr
  | agg l =>
    obtain ⟨z, h1, h⟩ := yd_bind.1 h
    have h := yd_ret.1 h; subst h
    obtain ⟨cs, e1, h2⟩ := hr
    exact ⟨cs, e1, mapLs_rep hg h1 h2⟩
theorem mapAs_rep (hg : ∀ x y cs, Yd C L (g x) y → RepL S m w x cs → RepL S' m w y cs) (hw : ∀ x y, Yd C L (g x) y → y.wide = x.wide) : ∀ {l r : List AV} {vs : List Value}, Yd C L (mapAs g l) r → RepAs S m w l vs → RepAs S' m w r vs := by
  intro l
  induction l with
  | nil => intro r cs h hr; have h := yd_ret.1 h; subst h; exact hr
  | cons x l ih =>
    intro r cs h hr
    obtain ⟨y, h1, h⟩ := yd_bind.1 h
    obtain ⟨t, h2, h⟩ := yd_bind.1 h
    have h := yd_ret.1 h; subst h
    obtain ⟨v, vs', e, k1, k2⟩ := hr
    exact ⟨v, vs', e, mapA_rep hg hw h1 k1, ih h2 k2⟩
theorem mapS_rep (hg : ∀ x y cs, Yd C L (g x) y → RepL S m w x cs → RepL S' m w y cs) (hw : ∀ x y, Yd C L (g x) y → y.wide = x.wide) {x y : SV} {v : Value} (h : Yd C L (mapS g x) y) (hr : RepS S m w x v) : RepS S' m w y v := by
  cases x with
  | av x =>
    obtain ⟨z, h1, h⟩ := yd_bind.1 h
    have h := yd_ret.1 h; subst h
    exact mapA_rep hg hw h1 hr
  | tup l =>
    obtain ⟨z, h1, h⟩ := yd_bind.1 h
    have h := yd_ret.1 h; subst h
    obtain ⟨vs, e, h2⟩ := hr
    exact ⟨vs, e, mapAs_rep hg hw h1 h2⟩
  | un => have h := yd_ret.1 h; subst h; exact hr
  | any => have h := yd_ret.1 h; subst h; exact hr
theorem mapTm_get : ∀ {tm r : Tm} {t : Nat} {y : SV}, Yd C L (mapTm g tm) r → tmGet r t = some y → ∃ x, tmGet tm t = some x ∧ Yd C L (mapS g x) y := by
  intro tm
  induction tm with
  | nil => intro r t y h hy; have h := yd_ret.1 h; subst h; cases hy
  | cons p tm ih =>
    obtain ⟨u, x⟩ := p
    intro r t y h hy
    obtain ⟨z, h1, h⟩ := yd_bind.1 h
    obtain ⟨l, h2, h⟩ := yd_bind.1 h
    have h := yd_ret.1 h; subst h
    by_cases e : u = t
    · subst e
      rw [tmGet_cons_eq] at hy
      simp only [Option.some.injEq] at hy; subst hy
      exact ⟨x, tmGet_cons_eq, h1⟩
    · rw [tmGet_cons_ne e] at hy
      obtain ⟨x', k1, k2⟩ := ih h2 hy
      exact ⟨x', by rw [tmGet_cons_ne e]; exact k1, k2⟩
theorem mapH_get {b : Nat} : ∀ {H r : Hp} {i : Nat} {B' : Blk}, Yd C L (mapH g b H) r → hg r i = some B' → ∃ B, hg H i = some B ∧ Yd C L (mapB g (match Nat.beq i b with | true => .dead | false => B)) B' := by
  intro H
  induction H with
  | nil => intro r i y h hy; have h := yd_ret.1 h; subst h; cases hy
  | cons p H ih =>
    obtain ⟨u, x⟩ := p
    intro r t y h hy
    obtain ⟨z, h1, h⟩ := yd_bind.1 h
    obtain ⟨l, h2, h⟩ := yd_bind.1 h
    have h := yd_ret.1 h; subst h
    by_cases e : u = t
    · subst e
      rw [hg_cons_eq] at hy
      simp only [Option.some.injEq] at hy; subst hy
      exact ⟨x, hg_cons_eq, h1⟩
    · rw [hg_cons_ne e] at hy
      obtain ⟨x', k1, k2⟩ := ih h2 hy
      exact ⟨x', by rw [hg_cons_ne e]; exact k1, k2⟩
theorem mapH_none {b : Nat} : ∀ {H r : Hp} {i : Nat}, Yd C L (mapH g b H) r → hg r i = none → hg H i = none := by
  intro H
  induction H with
  | nil => intro r i h _; rfl
  | cons p H ih =>
    obtain ⟨u, x⟩ := p
    intro r t h hy
    obtain ⟨z, h1, h⟩ := yd_bind.1 h
    obtain ⟨l, h2, h⟩ := yd_bind.1 h
    have h := yd_ret.1 h; subst h
    by_cases e : u = t
    · subst e; rw [hg_cons_eq] at hy; cases hy
    · rw [hg_cons_ne e] at hy; rw [hg_cons_ne e]; exact ih h2 hy
theorem mapB_live {B B' : Blk} (h : Yd C L (mapB g B) B') : B'.live = B.live := by
  cases B with
  | cells ty l => obtain ⟨r, _, h⟩ := yd_bind.1 h; have h := yd_ret.1 h; subst h; rfl
  | row => have h := yd_ret.1 h; subst h; rfl
  | dead => have h := yd_ret.1 h; subst h; rfl

theorem frzL_wide {k : K} {l : List k.T} {b : Nat} {x y : Lf} (h : Yd C L (frzL k l b x) y) : y.wide = x.wide := by
  unfold frzL at h
  split at h
  · split at h
    · obtain ⟨_, _, h⟩ := yd_bind.1 h
      obtain ⟨_, _, h⟩ := yd_bind.1 h
      have h := yd_ret.1 h; subst h; rfl
    · have h := yd_ret.1 h; subst h; rfl
  · have h := yd_ret.1 h; subst h; rfl

variable {X : Cx} {σ : St}

theorem frz_sound {b : Nat} {τ : St} {a : Act} (h : Yd C L (frz b σ) τ) (hgd : Good X σ a w) : Good X τ a w := by
  obtain ⟨S, m, h1, h2, h3, h4, h5, h6, h7⟩ := hgd
  unfold frz at h
  split at h
  · rename_i ty k l hb
    obtain ⟨tm, ht, h⟩ := yd_bind.1 h
    obtain ⟨hp, hh, h⟩ := yd_bind.1 h
    have h := yd_ret.1 h; subst h
    let S' : Nat → Prop := fun c => S c ∧ ¬ ∃ base, m b = some (c, base)
    have hmv : Mv S m w S' m w := ⟨Nat.le_refl _, fun c _ h => ⟨fun h' => h h'.1, rfl⟩, fun _ _ h => h, fun _ _ h => h, Same.refl w⟩
    have hL : ∀ x y cs, Yd C L (frzL k l b x) y → RepL S m w x cs → RepL S' m w y cs := by
      intro x y cs hx hr
      unfold frzL at hx
      split at hx
      · rename_i b' o i n s
        split at hx
        · rename_i hbb
          obtain rfl := Nat.eq_of_beq_eq_true hbb
          obtain ⟨_, k1, hx⟩ := yd_bind.1 hx
          have k1 := yd_sure.1 k1
          simp only [Bool.and_eq_true] at k1
          have k1a := Nat.eq_of_beq_eq_true k1.1
          have k1b := Nat.eq_of_beq_eq_true k1.2
          obtain ⟨l', k2, hx⟩ := yd_bind.1 hx
          have hx := yd_ret.1 hx; subst hx
          obtain ⟨k3, k4⟩ := piece_rep k2 rfl
          have hll : l'.length = n := by rw [k4]; simp; omega
          obtain ⟨ad, cap, e1, e2, e3⟩ := hr
          subst e1
          refine ⟨ad, cap, by rw [show List.length l' = n from hll], by rw [show List.length l' = n from hll]; exact e2, fun hne => ?_⟩
          have hn : 0 < n := by
            rcases Nat.eq_zero_or_pos n with h0 | h0
            · exact absurd (List.length_eq_zero_iff.1 (hll.trans h0)) hne
            · exact h0
          rcases e3 with e3 | ⟨c, base, ty', sz, f1, f2, f3, f4⟩
          · omega
          rcases h1.blk _ _ hb with ⟨e0, _⟩ | ⟨c', base', cs', fr, q1, q2, q3, q4, q5, q6⟩
          · rw [f1] at e0; cases e0
          rw [f1] at q1
          simp only [Option.some.injEq, Prod.mk.injEq] at q1
          obtain ⟨rfl, rfl⟩ := q1
          have hsz : c < w.heap.size := by
            rcases Nat.lt_or_ge c w.heap.size with h5 | h5
            · exact h5
            · rw [Array.getElem?_eq_none h5] at q2; cases q2
          refine ⟨c, _, f2, fun h => h.2 ⟨base, f1⟩, hsz, fun j hj => ?_⟩
          rw [show List.length l' = n from hll] at hj
          have hgd : gd k l' j = gd k l (i + j) := by rw [k4]; exact gd_piece (by omega) hj
          rw [hgd]
          refine ⟨_, RepD.mv hmv (q6 (i + j) (by omega)), ?_, fun q u hq => ?_⟩
          · have : (i + j + 1) * k.sz ≤ l.length * k.sz := Nat.mul_le_mul_right _ (by omega)
            rw [Nat.add_mul, Nat.one_mul] at this
            simp; omega
          · have h7 := (((at_block q2).drop (base + (i + j) * k.sz)).take k.sz) q u hq
            have e9 : base + (o + i * s) + (j * k.sz + q) = 0 + (base + (i + j) * k.sz) + q := by rw [← k1a, k1b, Nat.add_mul]; omega
            rw [e9]; exact h7
        · have hx := yd_ret.1 hx; subst hx; exact RepL.mv hmv hr
      · have hx := yd_ret.1 hx; subst hx; exact RepL.mv hmv hr
    have hblk : ∀ i B', hg hp i = some B' → ∃ B, hg σ.hp i = some B ∧ (B'.live = true → i ≠ b ∧ B.live = true) ∧ SimB S' m w B' (m i) := by
      intro i B' hi
      obtain ⟨B, k1, k2⟩ := mapH_get hh hi
      refine ⟨B, k1, fun hl => ?_, ?_⟩
      · have := mapB_live k2
        rw [hl] at this
        cases hbb : Nat.beq i b with
        | true => rw [hbb] at this; cases this
        | false => rw [hbb] at this; exact ⟨fun e => (by subst e; rw [Nat.beq_refl] at hbb; cases hbb), this.symm⟩
      · cases hbb : Nat.beq i b with
        | true =>
          rw [hbb] at k2
          have k2 := yd_ret.1 k2; subst k2; trivial
        | false =>
          rw [hbb] at k2
          have hne : i ≠ b := fun e => by subst e; rw [Nat.beq_refl] at hbb; cases hbb
          have hs := h1.blk i B k1
          have hS' : ∀ c base, m i = some (c, base) → B.live = true → S' c := by
            intro c base hm hl
            refine ⟨by rw [hm] at hs; exact (hs.at hl).2, ?_⟩
            rintro ⟨base2, hm2⟩
            exact hne (h1.inj i b B _ _ _ k1 hb hl rfl hm hm2 rfl)
          cases B with
          | cells ty2 l2 =>
            obtain ⟨r2, k3, k2⟩ := yd_bind.1 k2
            have k2 := yd_ret.1 k2; subst k2
            obtain ⟨c, cs, fr, e1, e2, e3, e4, e5⟩ := hs
            exact ⟨c, cs, fr, e1, e2, e3, hS' c 0 e1 rfl, mapLs_rep hL k3 e5⟩
          | row ty2 e2 l2 =>
            have k2 := yd_ret.1 k2; subst k2
            exact hs.mv hmv fun c base hm => ⟨rfl, hS' c base hm rfl⟩
          | dead => have k2 := yd_ret.1 k2; subst k2; trivial
    refine ⟨S', m, ⟨fun i B' hi => (hblk i B' hi).choose_spec.2.2, fun i i' B B' p p' k1 k2 k3 k4 => ?_⟩, fun i hi => h2 i (mapH_none hh hi), fun t y hy => ?_, h4, h5, h6.mv hmv, ⟨h7.mv.trans hmv, fun c hc hf => ?_, fun i B' p hi hl hp => ?_⟩⟩
    · obtain ⟨B1, a1, a2, _⟩ := hblk i B k1
      obtain ⟨B2, e1, e2, _⟩ := hblk i' B' k2
      exact h1.inj i i' B1 B2 p p' a1 e1 (a2 k3).2 (e2 k4).2
    · obtain ⟨x, k1, k2⟩ := mapTm_get ht hy
      obtain ⟨v, k3, k4⟩ := h3 t x k1
      exact ⟨v, k3, mapS_rep hL (fun x y hxy => frzL_wide hxy) k2 k4⟩
    · obtain ⟨g1, g2⟩ := h7.frame c hc hf
      refine ⟨g1, fun hS => ⟨g2 hS, ?_⟩⟩
      rintro ⟨base, hm⟩
      rcases h7.own b _ _ hb rfl hm with k1 | ⟨b0, B0, p0, k1, k2, k3, k4⟩
      · have : X.w0.heap.size ≤ c := k1
        omega
      · exact hf b0 B0 p0 k1 k2 k3 k4
    · obtain ⟨B, k1, k2, _⟩ := hblk i B' hi
      exact h7.own i B p k1 (k2 hl).2 hp
  · have h := yd_ret.1 h; subst h; exact ⟨S, m, h1, h2, h3, h4, h5, h6, h7⟩

theorem frzAll_sound {a : Act} : ∀ {bs : List Nat} {σ τ : St}, Yd C L (frzAll bs σ) τ → Good X σ a w → Good X τ a w := by
  intro bs
  induction bs with
  | nil => intro σ τ h hg; have h := yd_ret.1 h; subst h; exact hg
  | cons b bs ih =>
    intro σ τ h hg
    obtain ⟨υ, h1, h2⟩ := yd_bind.1 h
    exact ih h2 (frz_sound h1 hg)
end
end Vam
