/- A region that draws its order, whole. -/
import Derived.Test.YtnngdpaeiafnlaaDoorVR
namespace Vam
open Go Pg
set_option linter.unusedVariables false
set_option linter.unusedSimpArgs false
section
variable {P : Program} {X : Cx} {L : Code → St → Ex → St → Prop} {hn : Hn} {id : Nat} {ops : Array Oper}

theorem maskOf_mem {bf : List Nat} {i b : Nat} : ∀ {l : List Oper} {k j : Nat} {o : Oper}, l[j]? = some o → i ≠ k + j → (∀ h : k + j ≤ i, ordd bf (k + j) i = false) → (∀ h : i ≤ k + j, ordd bf i (k + j) = false) → b ∈ sid P hn id (k + j) o → b ∈ maskOf P hn id bf i l k := by
  intro l
  induction l with
  | nil => intro k j o h; simp at h
  | cons x l ih =>
    intro k j o h hne h1 h2 hb
    cases j with
    | zero =>
      simp only [List.getElem?_cons_zero, Option.some.injEq] at h
      subst h
      simp only [Nat.add_zero] at hne h1 h2 hb
      unfold maskOf
      split
      · rename_i e; rw [e] at hb; cases hb
      · rename_i l' e
        have hf : ordAny bf i k = false := by
          unfold ordAny
          have e1 : Nat.beq i k = false := Bool.eq_false_iff.2 fun h => hne (Nat.eq_of_beq_eq_true h)
          rw [e1, Bool.false_or]
          cases hle : Nat.ble k i with
          | true => exact h1 (Nat.le_of_ble_eq_true hle)
          | false => exact h2 (by
              rcases Nat.le_total i k with h | h
              · exact h
              · rw [Nat.ble_eq_true_of_le h] at hle; cases hle)
        rw [hf]
        exact List.mem_append_left _ hb
    | succ j =>
      simp only [List.getElem?_cons_succ] at h
      have e : k + (j + 1) = k + 1 + j := by omega
      rw [e] at hne h1 h2 hb
      have := ih h hne h1 h2 hb
      unfold maskOf
      split
      · exact this
      · split
        · exact this
        · exact List.mem_append_right _ this

theorem pairOk_get {bf : List Nat} {i : Nat} {oi : Oper} : ∀ {l : List Oper} {k j : Nat} {o : Oper}, pairOk P hn id ops bf i oi l k = true → l[j]? = some o → k + j < i →
    (ordd bf (k + j) i = true → ∃ e, e ∈ oi.after ∧ Region.binds .any e = true ∧ (e.on = k + j ∨ (ordd bf (k + j) e.on = true ∧ k + j < e.on))) ∧
    (ordd bf (k + j) i = false → Oper.apart ops o oi = true ∧ ∀ b, b ∈ sid P hn id (k + j) o → b ∉ sid P hn id i oi) := by
  intro l
  induction l with
  | nil => intro k j o _ h; simp at h
  | cons x l ih =>
    intro k j o h hj hlt
    unfold pairOk at h
    have hb : Nat.ble i k = false := Bool.eq_false_iff.2 fun h => by have := Nat.le_of_ble_eq_true h; omega
    rw [hb] at h
    simp only [Bool.and_eq_true] at h
    cases j with
    | zero =>
      simp only [List.getElem?_cons_zero, Option.some.injEq] at hj
      subst hj
      simp only [Nat.add_zero] at hlt ⊢
      constructor
      · intro ho
        rw [ho] at h
        obtain ⟨e, he, h2⟩ := List.any_eq_true.1 h.1
        simp only [Bool.and_eq_true, Bool.or_eq_true] at h2
        refine ⟨e, by simpa using he, h2.1, ?_⟩
        rcases h2.2 with h3 | h3
        · exact .inl (Nat.eq_of_beq_eq_true h3)
        · exact .inr ⟨h3.1, Nat.le_of_ble_eq_true h3.2⟩
      · intro ho
        rw [ho] at h
        simp only [Bool.and_eq_true] at h
        exact ⟨h.1.1, disB_iff.1 h.1.2⟩
    | succ j =>
      simp only [List.getElem?_cons_succ] at hj
      have e : k + (j + 1) = k + 1 + j := by omega
      rw [e] at hlt ⊢
      exact ih h.2 hj hlt

theorem statOk_get {bf : List Nat} : ∀ {l : List Oper} {k j : Nat} {o : Oper}, statOk P hn id ops bf l k = true → l[j]? = some o →
    (∀ e, e ∈ o.after → Region.binds .any e = true → e.on < k + j) ∧ pairOk P hn id ops bf (k + j) o ops.toList 0 = true := by
  intro l
  induction l with
  | nil => intro k j o _ h; simp at h
  | cons x l ih =>
    intro k j o h hj
    simp only [statOk, Bool.and_eq_true] at h
    cases j with
    | zero =>
      simp only [List.getElem?_cons_zero, Option.some.injEq] at hj
      subst hj
      refine ⟨fun e he hb => ?_, h.2.1⟩
      have := List.all_eq_true.1 h.1 e (by simpa using he)
      rw [hb] at this
      simp at this
      exact this
    | succ j =>
      simp only [List.getElem?_cons_succ] at hj
      have e : k + (j + 1) = k + 1 + j := by omega
      rw [e]
      exact ih h.2.2 hj

theorem ind_of (hok : regOk P hn id ops = true) {j i : Nat} (hlt : j < i) (hin : i < ops.size) (ho : ordd (bfOf ops) j i = false) : Ind P hn id ops j i := by
  have n1 : ordAny (bfOf ops) j i = false := by
    unfold ordAny
    have e1 : Nat.beq j i = false := Bool.eq_false_iff.2 fun h => by have := Nat.eq_of_beq_eq_true h; omega
    have e2 : Nat.ble i j = false := Bool.eq_false_iff.2 fun h => by have := Nat.le_of_ble_eq_true h; omega
    rw [e1, e2, Bool.false_or]; exact ho
  have n2 : ordAny (bfOf ops) i j = false := by
    unfold ordAny
    have e1 : Nat.beq i j = false := Bool.eq_false_iff.2 fun h => by have := Nat.eq_of_beq_eq_true h; omega
    rw [e1, Nat.ble_eq_true_of_le (show j ≤ i by omega), Bool.false_or]; exact ho
  refine ⟨by omega, hin, n1, n2, fun oj oi hj hi => ?_⟩
  have hj' : ops.toList[j]? = some oj := by simpa using hj
  have hi' : ops.toList[i]? = some oi := by simpa using hi
  have h1 := (statOk_get (k := 0) hok hi').2
  simp only [Nat.zero_add] at h1
  have h2 := (pairOk_get (k := 0) h1 hj' (by omega)).2
  simp only [Nat.zero_add] at h2
  obtain ⟨h3, h4⟩ := h2 ho
  refine ⟨h3, h4, fun b hb => ?_, fun b hb => ?_⟩
  · exact maskOf_mem (k := 0) (j := j) hj' (by omega) (fun _ => by rw [Nat.zero_add]; exact ho) (fun h => by omega) (by rw [Nat.zero_add]; exact hb)
  · exact maskOf_mem (k := 0) (j := i) hi' (by omega) (fun h => by omega) (fun _ => by rw [Nat.zero_add]; exact ho) (by rw [Nat.zero_add]; exact hb)

theorem Good.heap {σ : St} {a : Act} {w w' : World} (h : Good X σ a w) (he0 : w'.heap = w.heap ∧ Same w w') : Good X σ a w' := by
  have he := he0.1
  obtain ⟨S, m, h1, h2, h3, h4, h5, h6, h7⟩ := h
  have hmv : Mv S m w S m w' := ⟨by rw [he]; exact Nat.le_refl _, fun c _ h => ⟨h, by rw [he]⟩, fun c p h => by simpa only [World.shape?, he] using h, fun _ _ h => h, he0.2⟩
  refine ⟨S, m, ⟨fun b B hb => ?_, h1.inj⟩, h2, h3.mv hmv, h4, h5, h6.mv hmv, ⟨h7.mv.trans hmv, fun c hc hf => by rw [he]; exact h7.frame c hc hf, h7.own⟩⟩
  by_cases hl : B.live = true
  · refine (h1.blk b B hb).mv hmv fun c base hm => ⟨by rw [he], ?_⟩
    have := h1.blk b B hb
    rw [hm] at this
    exact (this.at hl).2
  · cases B <;> first | trivial | exact absurd rfl hl

theorem wpAny_runs {Q : Exit → Act → World → Prop} {σ' : St} (hok : regOk P hn id ops = true) (hQ : ∀ a' w', Good X σ' a' w' → Q .normal a' w') :
    ∀ (fuel : Nat) (listed : Array Bool) (xs : List Nat) (σ : St) (a : Act) (w : World), xs.length = fuel → listed.size = ops.size → xs.Pairwise (· < ·) → (∀ i, i ∈ xs ↔ i < ops.size ∧ listed.getD i true = false) →
      (∀ k, k < ops.size → listed.getD k false = true → ∀ j, j < k → ordd (bfOf ops) j k = true → listed.getD j false = true) →
      Runs P X.G (Snd P X.G) L X.N hn id ops xs σ σ' → Good X σ a w → wpAny P .any ops Q fuel listed a w := by
  have tf : ∀ {l : Array Bool} {i : Nat}, i < l.size → (l.getD i true = false ↔ l.getD i false = false) := by
    intro l i h
    simp [h]
  have ready : ∀ {listed : Array Bool} {xs : List Nat} {x : Nat} {r : List Nat}, xs = x :: r → listed.size = ops.size → xs.Pairwise (· < ·) → (∀ i, i ∈ xs ↔ i < ops.size ∧ listed.getD i true = false) → x ∈ Region.ready .any ops listed := by
    intro listed xs x r hx hs hp hmem
    subst hx
    obtain ⟨h1, h2⟩ := (hmem x).1 (List.mem_cons_self ..)
    refine mem_ready.2 ⟨h2, ops[x], by simp [h1], fun e he hb => ?_⟩
    have hlt := (statOk_get (k := 0) (j := x) (o := ops[x]) hok (by simp [h1])).1 e he hb
    rw [Nat.zero_add] at hlt
    have hn : e.on ∉ x :: r := fun hc => by
      rcases List.mem_cons.1 hc with h | h
      · omega
      · have := (List.pairwise_cons.1 hp).1 _ h; omega
    cases hv : listed.getD e.on false with
    | true => rfl
    | false => exact absurd ((hmem e.on).2 ⟨by omega, (tf (by omega)).2 hv⟩) hn
  intro fuel
  induction fuel with
  | zero =>
    intro listed xs σ a w hl hs hp hmem hinv hr hg
    obtain rfl : xs = [] := List.length_eq_zero_iff.1 hl
    refine ⟨?_, ?_⟩
    · cases hrd : Region.ready .any ops listed with
      | nil => rfl
      | cons i l =>
        have hi : i ∈ Region.ready .any ops listed := by rw [hrd]; exact List.mem_cons_self ..
        obtain ⟨h1, o, h2, _⟩ := mem_ready.1 hi
        have := (hmem i).2 ⟨(Array.getElem?_eq_some_iff.1 h2).1, h1⟩
        cases this
    · cases hr; exact hQ _ _ hg
  | succ fuel ih =>
    intro listed xs σ a w hl hs hp hmem hinv hr hg
    refine ⟨fun hnil => ?_, fun i hi => ?_⟩
    · cases xs with
      | nil => simp at hl
      | cons x r =>
        have := ready rfl hs hp hmem
        rw [hnil] at this; cases this
    · obtain ⟨h1, o, h2, h3⟩ := mem_ready.1 hi
      have hin : i < ops.size := (Array.getElem?_eq_some_iff.1 h2).1
      have hix : i ∈ xs := (hmem i).2 ⟨hin, h1⟩
      obtain ⟨ys, zs, rfl⟩ := List.append_of_mem hix
      have hp2 := List.pairwise_append.1 hp
      have hlist : ∀ j, j ∈ ys ++ i :: zs → listed.getD j false = false := fun j hj => by
        obtain ⟨q1, q2⟩ := (hmem j).1 hj
        exact (tf (by omega)).1 q2
      have hI : ∀ j, j ∈ ys → Ind P hn id ops j i := by
        intro j hj
        have hlt : j < i := hp2.2.2 j hj i (List.mem_cons_self ..)
        cases ho : ordd (bfOf ops) j i with
        | false => exact ind_of hok hlt hin ho
        | true =>
          exfalso
          have hj0 := hlist j (List.mem_append_left _ hj)
          have hjn : j < ops.size := by omega
          have hst := (statOk_get (k := 0) hok (show ops.toList[i]? = some o by simpa using h2)).2
          rw [Nat.zero_add] at hst
          obtain ⟨e, he, hb, hd⟩ := (pairOk_get (k := 0) (j := j) (o := ops[j]) hst (by simp [hjn]) (by omega)).1 (by rw [Nat.zero_add]; exact ho)
          rw [Nat.zero_add] at hd
          have hl2 := h3 e he hb
          rcases hd with hd | ⟨hd, hd2⟩
          · rw [hd, hj0] at hl2; cases hl2
          · have helt : e.on < ops.size := by
              have := (statOk_get (k := 0) hok (show ops.toList[i]? = some o by simpa using h2)).1 e he hb
              omega
            have := hinv e.on helt hl2 j hd2 hd
            rw [hj0] at this; cases this
      obtain ⟨τ, hs1, hr2⟩ := hr.pull hI
      obtain ⟨o', u, ho', hy, _⟩ := hs1
      refine gstep_sound ho' hg (fun b B hb => ?_) hy fun a' w' hg' => ?_
      · rw [hg_mask] at hb
        split at hb
        · cases hb
        · exact hb
      · have hnodup : i ∉ ys ++ zs := fun hc => by
          rcases List.mem_append.1 hc with h | h
          · have := hp2.2.2 i h i (List.mem_cons_self ..); omega
          · have := (List.pairwise_cons.1 hp2.2.1).1 i h; omega
        refine ih (listed.setIfInBounds i true) (ys ++ zs) τ a' w' (by simp at hl ⊢; omega) (by simp [hs]) ?_ (fun j => ?_) (fun k hk hkl j hjk hjo => ?_) hr2 hg'
        · exact List.pairwise_append.2 ⟨hp2.1, (List.pairwise_cons.1 hp2.2.1).2, fun x hx y hy => hp2.2.2 x hx y (List.mem_cons_of_mem _ hy)⟩
        · constructor
          · intro hj
            have hne : i ≠ j := fun h => hnodup (h ▸ hj)
            have hj2 : j ∈ ys ++ i :: zs := by
              rcases List.mem_append.1 hj with h | h
              · exact List.mem_append_left _ h
              · exact List.mem_append_right _ (List.mem_cons_of_mem _ h)
            obtain ⟨q1, q2⟩ := (hmem j).1 hj2
            exact ⟨q1, by rw [getD_set_ne true hne]; exact q2⟩
          · rintro ⟨q1, q2⟩
            have hne : i ≠ j := fun h => by
              subst h
              simp [hs, hin] at q2
            rw [getD_set_ne true hne] at q2
            have := (hmem j).2 ⟨q1, q2⟩
            rcases List.mem_append.1 this with h | h
            · exact List.mem_append_left _ h
            · rcases List.mem_cons.1 h with h | h
              · exact absurd h.symm hne
              · exact List.mem_append_right _ h
        · by_cases hki : k = i
          · subst hki
            have hst := (statOk_get (k := 0) hok (show ops.toList[k]? = some o by simpa using h2))
            rw [Nat.zero_add] at hst
            have hjn : j < ops.size := by omega
            obtain ⟨e, he, hb, hd⟩ := (pairOk_get (k := 0) (j := j) (o := ops[j]) hst.2 (by simp [hjn]) (by omega)).1 (by rw [Nat.zero_add]; exact hjo)
            rw [Nat.zero_add] at hd
            have hl2 := h3 e he hb
            have helt := hst.1 e he hb
            rcases hd with hd | ⟨hd, hd2⟩
            · exact getD_set_true (hd ▸ hl2)
            · exact getD_set_true (hinv e.on (by omega) hl2 j hd2 hd)
          · rw [getD_set_ne false (Ne.symm hki)] at hkl
            exact getD_set_true (hinv k hk hkl j hjk hjo)

theorem drawn_sound {σ σ' : St} {a : Act} {w : World} {Q : Exit → Act → World → Prop} (hm : P.follows .mixedOrders = true) (hok : regOk P hn id ops = true) (hg : Good X σ a w)
    (h : Yd (Snd P X.G) L (opsRunD P X.G X.N hn id ops.toList (bfOf ops) ops.toList 0 σ) σ') (hQ : ∀ a' w', Good X σ' a' w' → Q .normal a' w') : (Code.region id ops true).wp P Q a w := by
  refine wp_region_any hm ?_
  have hr := opsRunD_runs ops.toList 0 σ σ' rfl h
  refine wpAny_runs hok hQ ops.size _ (List.range' 0 ops.toList.length) σ a _ (by simp) (by simp) (List.pairwise_lt_range') (fun i => ?_) (fun k hk hkl => ?_) hr (hg.heap ⟨rfl, ⟨rfl, rfl, rfl⟩⟩)
  · simp only [List.mem_range', Array.length_toList]
    constructor
    · rintro ⟨j, h1, rfl⟩
      have : 0 + 1 * j < ops.size := by omega
      refine ⟨this, ?_⟩
      simp [show j < ops.size by omega]
    · rintro ⟨h1, _⟩
      exact ⟨i, h1, by omega⟩
  · simp [hk] at hkl
end
end Vam
