/- Words for plain laws: tests decided, rounds counted, bytes as lists of numbers. -/
import Derived.Test.YtkbpgmhkmhojnaaVZ
import Derived.Test.YtkbpgmhkmhojnaaVW
import Derived.Test.YtkbpgmhkmhojnaaVX
namespace Vam
open Go Pg
set_option linter.unusedVariables false
set_option linter.unusedSimpArgs false

/-! ### Tests decided -/
section
variable {α : Type} {x y : α} {a b : Int} {m n : Nat}
theorem sel_tt : sel true x y = x := rfl
theorem sel_ff : sel false x y = y := rfl
theorem sel_ile (h : a ≤ b) : sel (ile a b) x y = x := sel_t (ile_t.2 h)
theorem sel_ile' (h : b < a) : sel (ile a b) x y = y := sel_f (ile_f.2 h)
theorem sel_ilt (h : a < b) : sel (ilt a b) x y = x := sel_t (ilt_t.2 h)
theorem sel_ilt' (h : b ≤ a) : sel (ilt a b) x y = y := sel_f (ilt_f.2 h)
theorem sel_ieq (h : a = b) : sel (ieq a b) x y = x := sel_t (ieq_t.2 h)
theorem sel_ieq' (h : ¬ a = b) : sel (ieq a b) x y = y := sel_f (ieq_f.2 h)
theorem sel_nle (h : m ≤ n) : sel (nle m n) x y = x := sel_t (nle_t.2 h)
theorem sel_nle' (h : n < m) : sel (nle m n) x y = y := sel_f (nle_f.2 h)
theorem sel_nlt (h : m < n) : sel (nlt m n) x y = x := sel_t (nlt_t.2 h)
theorem sel_nlt' (h : n ≤ m) : sel (nlt m n) x y = y := sel_f (nlt_f.2 h)
theorem sel_nEq (h : m = n) : sel (nEq m n) x y = x := sel_t (nEq_t.2 h)
theorem sel_nEq' (h : ¬ m = n) : sel (nEq m n) x y = y := sel_f (nEq_f.2 h)
theorem sel_bno {c : Bool} : sel (bno c) x y = sel c y x := by cases c <;> rfl
theorem sel_same {c : Bool} : sel c x x = x := by cases c <;> rfl
theorem sel_if {c : Bool} : sel c x y = if c = true then x else y := by cases c <;> rfl
theorem sel_and {c d : Bool} : sel (c && d) x y = sel c (sel d x y) y := by cases c <;> rfl
end
theorem bno_ile {a b : Int} : bno (ile a b) = ilt b a := by
  cases h : ile a b
  · rw [ile_f] at h; exact (ilt_t.2 h).symm
  · rw [ile_t] at h; exact (ilt_f.2 h).symm
theorem bno_ilt {a b : Int} : bno (ilt a b) = ile b a := by
  cases h : ilt a b
  · rw [ilt_f] at h; exact (ile_t.2 h).symm
  · rw [ilt_t] at h; exact (ile_f.2 h).symm

/-! ### Rounds -/
section
variable {α β X Y : Type} {t : X → DT α (X ⊕ Y)}
theorem lm_next {x x' : X} (h : mod (t x) = some (.inl x')) : lrun (fun x => mod (t x)) x = lrun (fun x => mod (t x)) x' := lrun_next h
theorem lm_out {x : X} {y : Y} (h : mod (t x) = some (.inr y)) : lrun (fun x => mod (t x)) x = some y := lrun_out h
/-- Rounds by number: S i is the state ahead of round i. -/
theorem lm_count (S : Nat → X) (n : Nat) (y : Y) (hs : ∀ i, i < n → mod (t (S i)) = some (.inl (S (i + 1)))) (ho : mod (t (S n)) = some (.inr y)) : lrun (fun x => mod (t x)) (S 0) = some y :=
  lrun_count S n y hs ho
/-- Rounds that keep something and come nearer to an end. -/
theorem lm_inv (I : X → Prop) (μ : X → Nat) (Q : Y → Prop) (h : ∀ x, I x → (∃ x', mod (t x) = some (.inl x') ∧ I x' ∧ μ x' < μ x) ∨ ∃ y, mod (t x) = some (.inr y) ∧ Q y) {x : X} (hx : I x) : ∃ y, lrun (fun x => mod (t x)) x = some y ∧ Q y := by
  have : ∀ n x, μ x ≤ n → I x → ∃ y, lrun (fun x => mod (t x)) x = some y ∧ Q y := by
    intro n
    induction n with
    | zero =>
      intro x hn hx
      rcases h x hx with ⟨x', h1, h2, h3⟩ | ⟨y, h1, h2⟩
      · omega
      · exact ⟨y, lm_out h1, h2⟩
    | succ n ih =>
      intro x hn hx
      rcases h x hx with ⟨x', h1, h2, h3⟩ | ⟨y, h1, h2⟩
      · rw [lm_next h1]; exact ih x' (by omega) h2
      · exact ⟨y, lm_out h1, h2⟩
  exact this (μ x) x (Nat.le_refl _) hx
end

/-! ### Lists of numbers -/
theorem gd_int {k : IntKind} {l : List Int} {i : Nat} : gd (.int k) l i = l.getD i 0 := rfl
theorem gd_set_eq {k : K} {l : List k.T} {i : Nat} {x : k.T} (h : i < l.length) : gd k (l.set i x) i = x := by
  unfold gd; simp [List.getD_eq_getElem?_getD, List.getElem?_set, h]
theorem gd_set_ne {k : K} {l : List k.T} {i j : Nat} {x : k.T} (h : i ≠ j) : gd k (l.set i x) j = gd k l j := by
  unfold gd; simp [List.getD_eq_getElem?_getD, List.getElem?_set, h]

/-! ### Bytes as numbers -/
def BOk (l : List Int) : Prop := ∀ x, x ∈ l → 0 ≤ x ∧ x < 256
theorem nums_ok (s : ByteArray) : BOk (nums s) := by
  intro x hx
  simp only [nums, List.mem_map] at hx
  obtain ⟨b, _, rfl⟩ := hx
  have := b.toNat_lt
  omega
theorem nums_len (s : ByteArray) : (nums s).length = s.size := nums_length s
theorem nums_inj {a b : ByteArray} (h : nums a = nums b) : a = b := by
  have : a.data.toList = b.data.toList := by
    have hf : Function.Injective (fun c : UInt8 => (c.toNat : Int)) := by
      intro x y hxy
      have hxy : (x.toNat : Int) = (y.toNat : Int) := hxy
      exact UInt8.toNat_inj.1 (by omega)
    exact (List.map_inj_right hf).1 h
  obtain ⟨⟨a⟩⟩ := a
  obtain ⟨⟨b⟩⟩ := b
  simp at this
  rw [this]
theorem nums_app {a b : ByteArray} : nums (sapp a b) = nums a ++ nums b := by simp [nums, sapp]
theorem nums_cut {s : ByteArray} {l h : Nat} : nums (scut s l h) = ((nums s).take h).drop l := by
  simp [nums, scut, ByteArray.data_extract, Array.toList_extract, List.extract_eq_take_drop, List.drop_take]
theorem bt_nums {s : ByteArray} {i : Int} : bt s i = (nums s).getD i.toNat 0 := by
  unfold bt
  split
  · rename_i h
    have h' : i.toNat < s.data.toList.length := by simpa using h
    simp [nums, List.getD_eq_getElem?_getD, List.getElem?_map, List.getElem?_eq_getElem h', ByteArray.getElem_eq_getElem_data]
  · rename_i h
    rw [List.getD_eq_getElem?_getD, List.getElem?_eq_none (by rw [nums_len]; omega)]; rfl
theorem nums_str {l : List Int} (h : BOk l) : nums (strOfNums l) = l := by
  unfold nums strOfNums
  rw [List.toList_toArray, List.map_map]
  conv => rhs; rw [← List.map_id l]
  apply List.map_congr_left
  intro x hx
  obtain ⟨h1, h2⟩ := h x hx
  simp only [Function.comp, UInt8.toNat_ofNat', id]
  omega
theorem str_nums (s : ByteArray) : strOfNums (nums s) = s := nums_inj (nums_str (nums_ok s))
theorem str_inj {a b : List Int} (ha : BOk a) (hb : BOk b) (h : strOfNums a = strOfNums b) : a = b := by
  rw [← nums_str ha, ← nums_str hb, h]
theorem str_app {a b : List Int} : sapp (strOfNums a) (strOfNums b) = strOfNums (a ++ b) := by
  apply congrArg ByteArray.mk
  simp [strOfNums, sapp]
theorem sapp_str {a b : ByteArray} : sapp a b = strOfNums (nums a ++ nums b) := by rw [← nums_app, str_nums]
theorem scut_str {s : ByteArray} {l h : Nat} : scut s l h = strOfNums (((nums s).take h).drop l) := by rw [← nums_cut, str_nums]
theorem seq_nums {a b : ByteArray} : seq a b = decide (nums a = nums b) := by
  cases h : seq a b
  · rw [seq_f] at h; exact (decide_eq_false fun e => h (nums_inj e)).symm
  · rw [seq_t] at h; subst h; exact (decide_eq_true rfl).symm
theorem BOk.nil : BOk [] := by intro x hx; cases hx
theorem BOk.cons {x : Int} {l : List Int} (hx : 0 ≤ x ∧ x < 256) (h : BOk l) : BOk (x :: l) := by
  intro y hy
  rcases List.mem_cons.1 hy with rfl | hy
  · exact hx
  · exact h y hy
theorem BOk.append {a b : List Int} (h : BOk a) (k : BOk b) : BOk (a ++ b) := by
  intro x hx
  rcases List.mem_append.1 hx with hx | hx
  · exact h x hx
  · exact k x hx
theorem BOk.take {a : List Int} {n : Nat} (h : BOk a) : BOk (a.take n) := fun x hx => h x (List.mem_of_mem_take hx)
theorem BOk.drop {a : List Int} {n : Nat} (h : BOk a) : BOk (a.drop n) := fun x hx => h x (List.mem_of_mem_drop hx)
theorem BOk.set {a : List Int} {n : Nat} {x : Int} (h : BOk a) (hx : 0 ≤ x ∧ x < 256) : BOk (a.set n x) := by
  intro y hy
  rcases List.mem_or_eq_of_mem_set hy with hy | rfl
  · exact h y hy
  · exact hx
theorem BOk.replicate {n : Nat} {x : Int} (hx : 0 ≤ x ∧ x < 256) : BOk (List.replicate n x) := by
  intro y hy
  rw [List.eq_of_mem_replicate hy]; exact hx
theorem BOk.map {α : Type} {f : α → Int} {l : List α} (h : ∀ x, x ∈ l → 0 ≤ f x ∧ f x < 256) : BOk (l.map f) := by
  intro y hy
  obtain ⟨x, hx, rfl⟩ := List.mem_map.1 hy
  exact h x hx
theorem BOk.getD {a : List Int} {n : Nat} (h : BOk a) : 0 ≤ a.getD n 0 ∧ a.getD n 0 < 256 := by
  rw [List.getD_eq_getElem?_getD]
  rcases Nat.lt_or_ge n a.length with h1 | h1
  · rw [List.getElem?_eq_getElem h1]; exact h _ (List.getElem_mem h1)
  · rw [List.getElem?_eq_none h1]; simp
theorem icv8_ok {x : Int} : 0 ≤ icv .u8 x ∧ icv .u8 x < 256 := by rw [icv8]; omega
theorem llen_eq {α : Type} {l : List α} : llen l = (l.length : Int) := rfl
theorem ssz_eq {s : ByteArray} : ssz s = (s.size : Int) := rfl

/-! ### Bits of bytes -/
theorem u8_wrap {n : Nat} (h : n < 256) : IntKind.u8.wrap (n : Int) = n := by rw [IntKind.wrap_u8]; omega
theorem ixor8 {a b : Nat} (ha : a < 256) (hb : b < 256) : ixor .u8 (a : Int) (b : Int) = ((a ^^^ b : Nat) : Int) := by
  have ha' : a % 256 = a := Nat.mod_eq_of_lt ha
  have hb' : b % 256 = b := Nat.mod_eq_of_lt hb
  have h : a ^^^ b < 2 ^ 8 := Nat.xor_lt_two_pow ha hb
  have e : ixor .u8 (a : Int) (b : Int) = IntKind.u8.wrap ((BitVec.ofInt 8 (a : Int) ^^^ BitVec.ofInt 8 (b : Int)).toNat : Int) := rfl
  rw [e]
  simp only [BitVec.ofInt_natCast, BitVec.toNat_xor, BitVec.toNat_ofNat]
  rw [show (2 : Nat) ^ 8 = 256 from rfl, ha', hb']
  exact u8_wrap h
theorem ixor8_ok {a b : Int} (ha : 0 ≤ a ∧ a < 256) (hb : 0 ≤ b ∧ b < 256) : 0 ≤ ixor .u8 a b ∧ ixor .u8 a b < 256 := by
  obtain ⟨m, rfl⟩ := Int.eq_ofNat_of_zero_le ha.1
  obtain ⟨n, rfl⟩ := Int.eq_ofNat_of_zero_le hb.1
  rw [ixor8 (by omega) (by omega)]
  have : m ^^^ n < 2 ^ 8 := Nat.xor_lt_two_pow (by omega) (by omega)
  omega
theorem ixor8_twice {a b : Int} (ha : 0 ≤ a ∧ a < 256) (hb : 0 ≤ b ∧ b < 256) : ixor .u8 (ixor .u8 a b) b = a := by
  obtain ⟨m, rfl⟩ := Int.eq_ofNat_of_zero_le ha.1
  obtain ⟨n, rfl⟩ := Int.eq_ofNat_of_zero_le hb.1
  have : m ^^^ n < 2 ^ 8 := Nat.xor_lt_two_pow (by omega) (by omega)
  rw [ixor8 (by omega) (by omega), ixor8 (by omega) (by omega), Nat.xor_assoc, Nat.xor_self, Nat.xor_zero]
theorem ixor8_zero {b : Int} (hb : 0 ≤ b ∧ b < 256) : ixor .u8 0 b = b := by
  obtain ⟨n, rfl⟩ := Int.eq_ofNat_of_zero_le hb.1
  have := ixor8 (a := 0) (b := n) (by omega) (by omega)
  rw [Nat.zero_xor] at this
  exact this

/-! ### What arguments are at most -/
theorem wf_int {k : IntKind} {x : Int} (h : Wf (.int k) x) : k.min ≤ x ∧ x ≤ k.max := by
  have h : (decide (k.min ≤ x) && decide (x ≤ k.max)) = true := h
  simpa using h
theorem wf_u8 {x : Int} (h : Wf (.int .u8) x) : 0 ≤ x ∧ x < 256 := by
  have h := wf_int h
  have e1 : IntKind.u8.min = 0 := by kernel_rfl
  have e2 : IntKind.u8.max = 255 := by kernel_rfl
  omega
theorem wf_u16 {x : Int} (h : Wf (.int .u16) x) : 0 ≤ x ∧ x < 65536 := by
  have h := wf_int h
  have e1 : IntKind.u16.min = 0 := by kernel_rfl
  have e2 : IntKind.u16.max = 65535 := by kernel_rfl
  omega
theorem wf_u32 {x : Int} (h : Wf (.int .u32) x) : 0 ≤ x ∧ x < 4294967296 := by
  have h := wf_int h
  have e1 : IntKind.u32.min = 0 := by kernel_rfl
  have e2 : IntKind.u32.max = 4294967295 := by kernel_rfl
  omega
theorem wf_u64 {x : Int} (h : Wf (.int .u64) x) : 0 ≤ x ∧ x < 18446744073709551616 := by
  have h := wf_int h
  have e1 : IntKind.u64.min = 0 := by kernel_rfl
  have e2 : IntKind.u64.max = 18446744073709551615 := by kernel_rfl
  omega
theorem wf_i64 {x : Int} (h : Wf (.int .i64) x) : -9223372036854775808 ≤ x ∧ x < 9223372036854775808 := by
  have h := wf_int h
  have e1 : IntKind.i64.min = -9223372036854775808 := by kernel_rfl
  have e2 : IntKind.i64.max = 9223372036854775807 := by kernel_rfl
  omega
theorem wf_i8 {x : Int} (h : Wf (.int .i8) x) : -128 ≤ x ∧ x < 128 := by
  have h := wf_int h
  have e1 : IntKind.i8.min = -128 := by kernel_rfl
  have e2 : IntKind.i8.max = 127 := by kernel_rfl
  omega
theorem wf_bytes {n : Nat} {l : List Int} (h : Wf (.arr n (.int .u8)) l) : l.length = n ∧ BOk l := by
  have h : l.length = n ∧ ∀ i, i < n → Wf (.int .u8) (gd (.int .u8) l i) := h
  refine ⟨h.1, fun x hx => ?_⟩
  obtain ⟨i, hi, rfl⟩ := List.getElem_of_mem hx
  have := wf_u8 (h.2 i (by omega))
  have e : gd (.int .u8) l i = l[i] := gd_lt (e := .int .u8) hi
  rw [← e]; exact this
theorem wf_str {s : ByteArray} (h : Wf .str s) : s.size ≤ maxLen := h
end Vam
