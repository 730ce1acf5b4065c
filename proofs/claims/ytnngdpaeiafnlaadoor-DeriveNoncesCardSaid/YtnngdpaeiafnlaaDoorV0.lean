/- Words for plain laws: tests decided, rounds counted, bytes as lists of numbers. -/
import Derived.Test.YtnngdpaeiafnlaaDoorVZ
import Derived.Test.YtnngdpaeiafnlaaDoorVW
import Derived.Test.YtnngdpaeiafnlaaDoorVX
import Derived.Laws.BitsLemmas
namespace Vam
open Go Pg
set_option linter.unusedVariables false
set_option linter.unusedSimpArgs false

/-! ### Tests decided -/
section
variable {α : Type} {x y : α} {a b : Int} {m n : Nat}
theorem sel_tt : sel true x y = x := rfl
theorem sel_ff : sel false x y = y := rfl
theorem sel_ile (h : a ≤ b) : sel (ile a b) x y = x := sel_t (ile_t.2 h)
theorem sel_ile' (h : b < a) : sel (ile a b) x y = y := sel_f (ile_f.2 h)
theorem sel_ilt (h : a < b) : sel (ilt a b) x y = x := sel_t (ilt_t.2 h)
theorem sel_ilt' (h : b ≤ a) : sel (ilt a b) x y = y := sel_f (ilt_f.2 h)
theorem sel_ieq (h : a = b) : sel (ieq a b) x y = x := sel_t (ieq_t.2 h)
theorem sel_ieq' (h : ¬ a = b) : sel (ieq a b) x y = y := sel_f (ieq_f.2 h)
theorem sel_nle (h : m ≤ n) : sel (nle m n) x y = x := sel_t (nle_t.2 h)
theorem sel_nle' (h : n < m) : sel (nle m n) x y = y := sel_f (nle_f.2 h)
theorem sel_nlt (h : m < n) : sel (nlt m n) x y = x := sel_t (nlt_t.2 h)
theorem sel_nlt' (h : n ≤ m) : sel (nlt m n) x y = y := sel_f (nlt_f.2 h)
theorem sel_nEq (h : m = n) : sel (nEq m n) x y = x := sel_t (nEq_t.2 h)
theorem sel_nEq' (h : ¬ m = n) : sel (nEq m n) x y = y := sel_f (nEq_f.2 h)
theorem sel_bno {c : Bool} : sel (bno c) x y = sel c y x := by cases c <;> rfl
theorem sel_same {c : Bool} : sel c x x = x := by cases c <;> rfl
theorem sel_if {c : Bool} : sel c x y = if c = true then x else y := by cases c <;> rfl
theorem sel_and {c d : Bool} : sel (c && d) x y = sel c (sel d x y) y := by cases c <;> rfl
end
theorem bno_ile {a b : Int} : bno (ile a b) = ilt b a := by
  cases h : ile a b
  · rw [ile_f] at h; exact (ilt_t.2 h).symm
  · rw [ile_t] at h; exact (ilt_f.2 h).symm
theorem bno_ilt {a b : Int} : bno (ilt a b) = ile b a := by
  cases h : ilt a b
  · rw [ilt_f] at h; exact (ile_t.2 h).symm
  · rw [ilt_t] at h; exact (ile_f.2 h).symm

/-! ### Rounds -/
section
variable {α β X Y : Type} {t : X → DT α (X ⊕ Y)}
theorem lm_next {x x' : X} (h : mod (t x) = some (.inl x')) : lrun (fun x => mod (t x)) x = lrun (fun x => mod (t x)) x' := lrun_next h
theorem lm_out {x : X} {y : Y} (h : mod (t x) = some (.inr y)) : lrun (fun x => mod (t x)) x = some y := lrun_out h
/-- Rounds by number: S i is the state ahead of round i. -/
theorem lm_count (S : Nat → X) (n : Nat) (y : Y) (hs : ∀ i, i < n → mod (t (S i)) = some (.inl (S (i + 1)))) (ho : mod (t (S n)) = some (.inr y)) : lrun (fun x => mod (t x)) (S 0) = some y :=
  lrun_count S n y hs ho
/-- Rounds that keep something and come nearer to an end. -/
theorem lm_inv (I : X → Prop) (μ : X → Nat) (Q : Y → Prop) (h : ∀ x, I x → (∃ x', mod (t x) = some (.inl x') ∧ I x' ∧ μ x' < μ x) ∨ ∃ y, mod (t x) = some (.inr y) ∧ Q y) {x : X} (hx : I x) : ∃ y, lrun (fun x => mod (t x)) x = some y ∧ Q y := by
  have : ∀ n x, μ x ≤ n → I x → ∃ y, lrun (fun x => mod (t x)) x = some y ∧ Q y := by
    intro n
    induction n with
    | zero =>
      intro x hn hx
      rcases h x hx with ⟨x', h1, h2, h3⟩ | ⟨y, h1, h2⟩
      · omega
      · exact ⟨y, lm_out h1, h2⟩
    | succ n ih =>
      intro x hn hx
      rcases h x hx with ⟨x', h1, h2, h3⟩ | ⟨y, h1, h2⟩
      · rw [lm_next h1]; exact ih x' (by omega) h2
      · exact ⟨y, lm_out h1, h2⟩
  exact this (μ x) x (Nat.le_refl _) hx
end

/-! ### Lists of numbers -/
theorem gd_int {k : IntKind} {l : List Int} {i : Nat} : gd (.int k) l i = l.getD i 0 := rfl
theorem gd_set_eq {k : K} {l : List k.T} {i : Nat} {x : k.T} (h : i < l.length) : gd k (l.set i x) i = x := by
  unfold gd; simp [List.getD_eq_getElem?_getD, List.getElem?_set, h]
theorem gd_set_ne {k : K} {l : List k.T} {i j : Nat} {x : k.T} (h : i ≠ j) : gd k (l.set i x) j = gd k l j := by
  unfold gd; simp [List.getD_eq_getElem?_getD, List.getElem?_set, h]

theorem getD_lt {l : List Int} {i : Nat} (h : i < l.length) : l[i] = l.getD i 0 := by rw [List.getD_eq_getElem?_getD, List.getElem?_eq_getElem h]; rfl
theorem getD_ge {l : List Int} {i : Nat} (h : l.length ≤ i) : l.getD i 0 = 0 := by rw [List.getD_eq_getElem?_getD, List.getElem?_eq_none h]; rfl
theorem getD_take {l : List Int} {i n : Nat} (h : i < n) : (l.take n).getD i 0 = l.getD i 0 := by simp [List.getD_eq_getElem?_getD, List.getElem?_take, h]
theorem getD_drop {l : List Int} {i n : Nat} : (l.drop n).getD i 0 = l.getD (n + i) 0 := by simp [List.getD_eq_getElem?_getD, List.getElem?_drop]
theorem getD_app_l {a b : List Int} {i : Nat} (h : i < a.length) : (a ++ b).getD i 0 = a.getD i 0 := by simp [List.getD_eq_getElem?_getD, List.getElem?_append_left h]
theorem getD_app_r {a b : List Int} {i : Nat} (h : a.length ≤ i) : (a ++ b).getD i 0 = b.getD (i - a.length) 0 := by simp [List.getD_eq_getElem?_getD, List.getElem?_append_right h]
theorem getD_set {l : List Int} {i j : Nat} {x : Int} : (l.set i x).getD j 0 = if i = j ∧ j < l.length then x else l.getD j 0 := by
  simp only [List.getD_eq_getElem?_getD, List.getElem?_set]
  by_cases e : i = j
  · subst e
    by_cases h : i < l.length
    · simp [h]
    · simp [h, List.getElem?_eq_none (Nat.le_of_not_lt h)]
  · simp [e]
theorem getD_map_range {n i : Nat} {f : Nat → Int} (h : i < n) : ((List.range n).map f).getD i 0 = f i := by
  simp [List.getD_eq_getElem?_getD, List.getElem?_map, h]
theorem list_ext_getD {a b : List Int} (h : a.length = b.length) (hi : ∀ i, i < a.length → a.getD i 0 = b.getD i 0) : a = b := by
  apply List.ext_getElem h
  intro i h1 h2
  rw [getD_lt h1, getD_lt h2]; exact hi i h1
theorem fill_set {O : List Int} {n j : Nat} (hO : O.length = n) (hj : j < n) : (O.take j ++ List.replicate (n - j) 0).set j (O.getD j 0) = O.take (j + 1) ++ List.replicate (n - (j + 1)) 0 := by
  apply list_ext_getD
  · simp; omega
  · intro i h1
    have h3 : i < n := by simp at h1; omega
    rw [getD_set]
    by_cases e : j = i
    · subst e
      rw [if_pos ⟨rfl, by simp; omega⟩, getD_app_l (by simp; omega), getD_take (by omega)]
    · rw [if_neg (fun h => e h.1)]
      rcases Nat.lt_or_ge i j with h | h
      · rw [getD_app_l (by simp; omega), getD_app_l (by simp; omega), getD_take h, getD_take (by omega)]
      · rw [getD_app_r (by simp; omega), getD_app_r (by simp; omega)]
        simp [List.getD_eq_getElem?_getD, List.getElem?_replicate]
        split <;> split <;> rfl
theorem take_app1 {O : List Int} {j : Nat} (h : j < O.length) : List.append (O.take j) [O.getD j 0] = O.take (j + 1) := by
  show O.take j ++ _ = _
  rw [List.take_add_one, List.getD_eq_getElem?_getD, List.getElem?_eq_getElem h]; rfl

theorem gd_bool {l : List Bool} {i : Nat} : gd .bool l i = l.getD i false := rfl
theorem gd_str {l : List ByteArray} {i : Nat} : gd .str l i = l.getD i (ByteArray.mk #[]) := rfl
theorem getD_set' {α : Type} {d : α} {l : List α} {i j : Nat} {x : α} : (l.set i x).getD j d = if i = j ∧ j < l.length then x else l.getD j d := by
  simp only [List.getD_eq_getElem?_getD, List.getElem?_set]
  by_cases e : i = j
  · subst e
    by_cases h : i < l.length
    · simp [h]
    · simp [h, List.getElem?_eq_none (Nat.le_of_not_lt h)]
  · simp [e]
theorem getD_replicate' {α : Type} {d : α} {n i : Nat} : (List.replicate n d).getD i d = d := by
  simp [List.getD_eq_getElem?_getD, List.getElem?_replicate]; split <;> rfl
theorem getD_lt' {α : Type} {d : α} {l : List α} {i : Nat} (h : i < l.length) : l[i] = l.getD i d := by rw [List.getD_eq_getElem?_getD, List.getElem?_eq_getElem h]; rfl
theorem list_ext_getD' {α : Type} (d : α) {a b : List α} (h : a.length = b.length) (hi : ∀ i, i < a.length → a.getD i d = b.getD i d) : a = b := by
  apply List.ext_getElem h
  intro i h1 h2
  rw [getD_lt' (d := d) h1, getD_lt' (d := d) h2]; exact hi i h1
theorem getD_map' {α β : Type} {d : α} {e : β} {f : α → β} {l : List α} {i : Nat} (h : i < l.length) : (l.map f).getD i e = f (l.getD i d) := by
  simp [List.getD_eq_getElem?_getD, List.getElem?_map, List.getElem?_eq_getElem h]
theorem getD_map_range' {α : Type} {d : α} {n i : Nat} {f : Nat → α} (h : i < n) : ((List.range n).map f).getD i d = f i := by
  simp [List.getD_eq_getElem?_getD, List.getElem?_map, h]
theorem take_app1' {α : Type} {d : α} {O : List α} {j : Nat} (h : j < O.length) : List.append (O.take j) [O.getD j d] = O.take (j + 1) := by
  show O.take j ++ _ = _
  rw [List.take_add_one, List.getD_eq_getElem?_getD, List.getElem?_eq_getElem h]; rfl
theorem fill_set' {α : Type} {d : α} {O : List α} {n j : Nat} (hO : O.length = n) (hj : j < n) : (O.take j ++ List.replicate (n - j) d).set j (O.getD j d) = O.take (j + 1) ++ List.replicate (n - (j + 1)) d := by
  apply List.ext_getElem
  · simp; omega
  · intro i h1 h2
    simp only [List.getElem_set, List.getElem_append, List.length_take, List.getElem_take, List.getElem_replicate]
    have h3 : i < n := by simp at h1; omega
    by_cases e : j = i
    · subst e
      rw [if_pos rfl, dif_pos (by omega), ← getD_lt' (d := d) (by omega)]
    · rw [if_neg e]
      split
      · rw [dif_pos (by omega)]
      · rw [dif_neg (by omega)]

/-! ### Bytes as numbers -/
def BOk (l : List Int) : Prop := ∀ x, x ∈ l → 0 ≤ x ∧ x < 256
theorem nums_ok (s : ByteArray) : BOk (nums s) := by
  intro x hx
  simp only [nums, List.mem_map] at hx
  obtain ⟨b, _, rfl⟩ := hx
  have := b.toNat_lt
  omega
theorem nums_len (s : ByteArray) : (nums s).length = s.size := nums_length s
theorem nums_inj {a b : ByteArray} (h : nums a = nums b) : a = b := by
  have : a.data.toList = b.data.toList := by
    have hf : Function.Injective (fun c : UInt8 => (c.toNat : Int)) := by
      intro x y hxy
      have hxy : (x.toNat : Int) = (y.toNat : Int) := hxy
      exact UInt8.toNat_inj.1 (by omega)
    exact (List.map_inj_right hf).1 h
  obtain ⟨⟨a⟩⟩ := a
  obtain ⟨⟨b⟩⟩ := b
  simp at this
  rw [this]
theorem nums_app {a b : ByteArray} : nums (sapp a b) = nums a ++ nums b := by simp [nums, sapp]
theorem nums_cut {s : ByteArray} {l h : Nat} : nums (scut s l h) = ((nums s).take h).drop l := by
  simp [nums, scut, ByteArray.data_extract, Array.toList_extract, List.extract_eq_take_drop, List.drop_take]
theorem bt_nums {s : ByteArray} {i : Int} : bt s i = (nums s).getD i.toNat 0 := by
  unfold bt
  split
  · rename_i h
    have h' : i.toNat < s.data.toList.length := by simpa using h
    simp [nums, List.getD_eq_getElem?_getD, List.getElem?_map, List.getElem?_eq_getElem h', ByteArray.getElem_eq_getElem_data]
  · rename_i h
    rw [List.getD_eq_getElem?_getD, List.getElem?_eq_none (by rw [nums_len]; omega)]; rfl
theorem nums_str {l : List Int} (h : BOk l) : nums (strOfNums l) = l := by
  unfold nums strOfNums
  rw [List.toList_toArray, List.map_map]
  conv => rhs; rw [← List.map_id l]
  apply List.map_congr_left
  intro x hx
  obtain ⟨h1, h2⟩ := h x hx
  simp only [Function.comp, UInt8.toNat_ofNat', id]
  omega
theorem str_nums (s : ByteArray) : strOfNums (nums s) = s := nums_inj (nums_str (nums_ok s))
theorem str_inj {a b : List Int} (ha : BOk a) (hb : BOk b) (h : strOfNums a = strOfNums b) : a = b := by
  rw [← nums_str ha, ← nums_str hb, h]
theorem str_app {a b : List Int} : sapp (strOfNums a) (strOfNums b) = strOfNums (a ++ b) := by
  apply congrArg ByteArray.mk
  simp [strOfNums, sapp]
theorem sapp_str {a b : ByteArray} : sapp a b = strOfNums (nums a ++ nums b) := by rw [← nums_app, str_nums]
theorem scut_str {s : ByteArray} {l h : Nat} : scut s l h = strOfNums (((nums s).take h).drop l) := by rw [← nums_cut, str_nums]
theorem seq_nums {a b : ByteArray} : seq a b = decide (nums a = nums b) := by
  cases h : seq a b
  · rw [seq_f] at h; exact (decide_eq_false fun e => h (nums_inj e)).symm
  · rw [seq_t] at h; subst h; exact (decide_eq_true rfl).symm
theorem BOk.nil : BOk [] := by intro x hx; cases hx
theorem BOk.cons {x : Int} {l : List Int} (hx : 0 ≤ x ∧ x < 256) (h : BOk l) : BOk (x :: l) := by
  intro y hy
  rcases List.mem_cons.1 hy with rfl | hy
  · exact hx
  · exact h y hy
theorem BOk.append {a b : List Int} (h : BOk a) (k : BOk b) : BOk (a ++ b) := by
  intro x hx
  rcases List.mem_append.1 hx with hx | hx
  · exact h x hx
  · exact k x hx
theorem BOk.take {a : List Int} {n : Nat} (h : BOk a) : BOk (a.take n) := fun x hx => h x (List.mem_of_mem_take hx)
theorem BOk.drop {a : List Int} {n : Nat} (h : BOk a) : BOk (a.drop n) := fun x hx => h x (List.mem_of_mem_drop hx)
theorem BOk.set {a : List Int} {n : Nat} {x : Int} (h : BOk a) (hx : 0 ≤ x ∧ x < 256) : BOk (a.set n x) := by
  intro y hy
  rcases List.mem_or_eq_of_mem_set hy with hy | rfl
  · exact h y hy
  · exact hx
theorem BOk.replicate {n : Nat} {x : Int} (hx : 0 ≤ x ∧ x < 256) : BOk (List.replicate n x) := by
  intro y hy
  rw [List.eq_of_mem_replicate hy]; exact hx
theorem BOk.map {α : Type} {f : α → Int} {l : List α} (h : ∀ x, x ∈ l → 0 ≤ f x ∧ f x < 256) : BOk (l.map f) := by
  intro y hy
  obtain ⟨x, hx, rfl⟩ := List.mem_map.1 hy
  exact h x hx
theorem BOk.getD {a : List Int} {n : Nat} (h : BOk a) : 0 ≤ a.getD n 0 ∧ a.getD n 0 < 256 := by
  rw [List.getD_eq_getElem?_getD]
  rcases Nat.lt_or_ge n a.length with h1 | h1
  · rw [List.getElem?_eq_getElem h1]; exact h _ (List.getElem_mem h1)
  · rw [List.getElem?_eq_none h1]; simp
theorem icv8_ok {x : Int} : 0 ≤ icv .u8 x ∧ icv .u8 x < 256 := by rw [icv8]; omega
theorem llen_eq {α : Type} {l : List α} : llen l = (l.length : Int) := rfl
theorem ssz_eq {s : ByteArray} : ssz s = (s.size : Int) := rfl

/-! ### Bits of bytes -/
theorem u8_wrap {n : Nat} (h : n < 256) : IntKind.u8.wrap (n : Int) = n := by rw [IntKind.wrap_u8]; omega
theorem ixor8 {a b : Nat} (ha : a < 256) (hb : b < 256) : ixor .u8 (a : Int) (b : Int) = ((a ^^^ b : Nat) : Int) := by
  have ha' : a % 256 = a := Nat.mod_eq_of_lt ha
  have hb' : b % 256 = b := Nat.mod_eq_of_lt hb
  have h : a ^^^ b < 2 ^ 8 := Nat.xor_lt_two_pow ha hb
  have e : ixor .u8 (a : Int) (b : Int) = IntKind.u8.wrap ((BitVec.ofInt 8 (a : Int) ^^^ BitVec.ofInt 8 (b : Int)).toNat : Int) := rfl
  rw [e]
  simp only [BitVec.ofInt_natCast, BitVec.toNat_xor, BitVec.toNat_ofNat]
  rw [show (2 : Nat) ^ 8 = 256 from rfl, ha', hb']
  exact u8_wrap h
theorem ixor8_ok {a b : Int} (ha : 0 ≤ a ∧ a < 256) (hb : 0 ≤ b ∧ b < 256) : 0 ≤ ixor .u8 a b ∧ ixor .u8 a b < 256 := by
  obtain ⟨m, rfl⟩ := Int.eq_ofNat_of_zero_le ha.1
  obtain ⟨n, rfl⟩ := Int.eq_ofNat_of_zero_le hb.1
  rw [ixor8 (by omega) (by omega)]
  have : m ^^^ n < 2 ^ 8 := Nat.xor_lt_two_pow (by omega) (by omega)
  omega
theorem ixor8_twice {a b : Int} (ha : 0 ≤ a ∧ a < 256) (hb : 0 ≤ b ∧ b < 256) : ixor .u8 (ixor .u8 a b) b = a := by
  obtain ⟨m, rfl⟩ := Int.eq_ofNat_of_zero_le ha.1
  obtain ⟨n, rfl⟩ := Int.eq_ofNat_of_zero_le hb.1
  have : m ^^^ n < 2 ^ 8 := Nat.xor_lt_two_pow (by omega) (by omega)
  rw [ixor8 (by omega) (by omega), ixor8 (by omega) (by omega), Nat.xor_assoc, Nat.xor_self, Nat.xor_zero]
theorem ixor8_zero {b : Int} (hb : 0 ≤ b ∧ b < 256) : ixor .u8 0 b = b := by
  obtain ⟨n, rfl⟩ := Int.eq_ofNat_of_zero_le hb.1
  have := ixor8 (a := 0) (b := n) (by omega) (by omega)
  rw [Nat.zero_xor] at this
  exact this

/-! ### What arguments are at most -/
theorem wf_int {k : IntKind} {x : Int} (h : Wf (.int k) x) : k.min ≤ x ∧ x ≤ k.max := by
  have h : (decide (k.min ≤ x) && decide (x ≤ k.max)) = true := h
  simpa using h
theorem wf_u8 {x : Int} (h : Wf (.int .u8) x) : 0 ≤ x ∧ x < 256 := by
  have h := wf_int h
  have e1 : IntKind.u8.min = 0 := by kernel_rfl
  have e2 : IntKind.u8.max = 255 := by kernel_rfl
  omega
theorem wf_u16 {x : Int} (h : Wf (.int .u16) x) : 0 ≤ x ∧ x < 65536 := by
  have h := wf_int h
  have e1 : IntKind.u16.min = 0 := by kernel_rfl
  have e2 : IntKind.u16.max = 65535 := by kernel_rfl
  omega
theorem wf_u32 {x : Int} (h : Wf (.int .u32) x) : 0 ≤ x ∧ x < 4294967296 := by
  have h := wf_int h
  have e1 : IntKind.u32.min = 0 := by kernel_rfl
  have e2 : IntKind.u32.max = 4294967295 := by kernel_rfl
  omega
theorem wf_u64 {x : Int} (h : Wf (.int .u64) x) : 0 ≤ x ∧ x < 18446744073709551616 := by
  have h := wf_int h
  have e1 : IntKind.u64.min = 0 := by kernel_rfl
  have e2 : IntKind.u64.max = 18446744073709551615 := by kernel_rfl
  omega
theorem wf_i64 {x : Int} (h : Wf (.int .i64) x) : -9223372036854775808 ≤ x ∧ x < 9223372036854775808 := by
  have h := wf_int h
  have e1 : IntKind.i64.min = -9223372036854775808 := by kernel_rfl
  have e2 : IntKind.i64.max = 9223372036854775807 := by kernel_rfl
  omega
theorem wf_i8 {x : Int} (h : Wf (.int .i8) x) : -128 ≤ x ∧ x < 128 := by
  have h := wf_int h
  have e1 : IntKind.i8.min = -128 := by kernel_rfl
  have e2 : IntKind.i8.max = 127 := by kernel_rfl
  omega
theorem wf_bytes {n : Nat} {l : List Int} (h : Wf (.arr n (.int .u8)) l) : l.length = n ∧ BOk l := by
  have h : l.length = n ∧ ∀ i, i < n → Wf (.int .u8) (gd (.int .u8) l i) := h
  refine ⟨h.1, fun x hx => ?_⟩
  obtain ⟨i, hi, rfl⟩ := List.getElem_of_mem hx
  have := wf_u8 (h.2 i (by omega))
  have e : gd (.int .u8) l i = l[i] := gd_lt (e := .int .u8) hi
  rw [← e]; exact this
theorem wf_str {s : ByteArray} (h : Wf .str s) : s.size ≤ maxLen := h

/-! ### Rounds that compare -/
theorem all_succ {E : Nat → Prop} {n : Nat} : (∀ i, i < n + 1 → E i) ↔ (∀ i, i < n → E i) ∧ E n := by
  constructor
  · intro h; exact ⟨fun i hi => h i (by omega), h n (by omega)⟩
  · rintro ⟨h1, h2⟩ i hi
    rcases Nat.lt_or_ge i n with h | h
    · exact h1 i h
    · rw [show i = n from by omega]; exact h2
/-- Rounds over places: out with b at the first one where E fails, with g behind all. -/
theorem eq_rounds {α X Y : Type} {t : X → DT α (X ⊕ Y)} (S : Nat → X) (n : Nat) (E : Nat → Prop) (b g : Y) (hs : ∀ i, i < n → (∀ j, j < i → E j) → E i → mod (t (S i)) = some (.inl (S (i + 1)))) (hf : ∀ i, i < n → (∀ j, j < i → E j) → ¬ E i → mod (t (S i)) = some (.inr b))
    (ho : (∀ j, j < n → E j) → mod (t (S n)) = some (.inr g)) : ((∀ i, i < n → E i) → lrun (fun x => mod (t x)) (S 0) = some g) ∧ (¬ (∀ i, i < n → E i) → lrun (fun x => mod (t x)) (S 0) = some b) := by
  have key : ∀ r i, i + r = n → (∀ j, j < i → E j) → ((∀ i, i < n → E i) → lrun (fun x => mod (t x)) (S i) = some g) ∧ (¬ (∀ i, i < n → E i) → lrun (fun x => mod (t x)) (S i) = some b) := by
    intro r
    induction r with
    | zero =>
      intro i hi hE
      have : i = n := by omega
      subst this
      exact ⟨fun h => lm_out (ho h), fun h => absurd hE h⟩
    | succ r ih =>
      intro i hi hE
      by_cases hEi : E i
      · have := ih (i + 1) (by omega) (all_succ.2 ⟨hE, hEi⟩)
        rw [lm_next (hs i (by omega) hE hEi)]; exact this
      · exact ⟨fun h => absurd (h i (by omega)) hEi, fun h => lm_out (hf i (by omega) hE hEi)⟩
  exact key n 0 (by omega) (fun j hj => absurd hj (Nat.not_lt_zero j))
/-- As many different numbers below n as n are all of them. -/
theorem pigeon : ∀ n (f : Nat → Nat), (∀ k, k < n + 1 → f k < n) → ∃ i j, i < j ∧ j < n + 1 ∧ f i = f j := by
  intro n
  induction n with
  | zero => intro f h; exact absurd (h 0 (by omega)) (Nat.not_lt_zero _)
  | succ n ih =>
    intro f h
    by_cases hx : ∃ i, i < n + 1 ∧ f i = f (n + 1)
    · obtain ⟨i, hi, e⟩ := hx; exact ⟨i, n + 1, hi, by omega, e⟩
    · have hx : ∀ i, i < n + 1 → f i ≠ f (n + 1) := fun i hi e => hx ⟨i, hi, e⟩
      let g : Nat → Nat := fun k => if f k < f (n + 1) then f k else f k - 1
      have hg : ∀ k, k < n + 1 → g k < n := by
        intro k hk
        have h1 := h k (by omega); have h2 := h (n + 1) (by omega); have h3 := hx k hk
        simp only [g]; split <;> omega
      obtain ⟨i, j, h1, h2, h3⟩ := ih g hg
      refine ⟨i, j, h1, by omega, ?_⟩
      have h4 := hx i (by omega); have h5 := hx j h2
      simp only [g] at h3
      split at h3 <;> split at h3 <;> omega
theorem onto {n : Nat} {f : Nat → Nat} (h : ∀ k, k < n → f k < n) (hi : ∀ i j, i < j → j < n → f i ≠ f j) {v : Nat} (hv : v < n) : ∃ k, k < n ∧ f k = v := by
  by_cases hx : ∃ k, k < n ∧ f k = v
  · exact hx
  · have hx : ∀ k, k < n → f k ≠ v := fun k hk e => hx ⟨k, hk, e⟩
    obtain ⟨m, rfl⟩ : ∃ m, n = m + 1 := ⟨n - 1, by omega⟩
    let g : Nat → Nat := fun k => if f k < v then f k else f k - 1
    obtain ⟨i, j, h1, h2, h3⟩ := pigeon m g (fun k hk => by
      have h1 := h k hk; have h2 := hx k hk
      simp only [g]; split <;> omega)
    have h4 := hx i (by omega); have h5 := hx j h2
    have := hi i j h1 h2
    simp only [g] at h3
    split at h3 <;> split at h3 <;> omega
end Vam
