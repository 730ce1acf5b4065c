/- Bytes: what strings that are cut, joined, made of numbers hold. -/
import Derived.Test.YtnngdpaeiafnlaaDoorVV
import Derived.Laws.BytesArg
namespace Vam
open Go Pg
set_option linter.unusedVariables false
set_option linter.unusedSimpArgs false

theorem bt_lt {s : ByteArray} {i : Nat} (h : i < s.size) : bt s (i : Int) = ((s.data.toList[i]'(by simpa using h)).toNat : Int) := by
  unfold bt
  rw [dif_pos (by rw [Int.toNat_natCast]; exact h)]
  simp [ByteArray.getElem_eq_getElem_data]
theorem bt_ge {s : ByteArray} {i : Int} (h : s.size ≤ i.toNat) : bt s i = 0 := by
  unfold bt
  rw [dif_neg (by omega)]

theorem ba_ext {a b : ByteArray} (h : a.size = b.size) (hb : ∀ i : Nat, i < a.size → bt a i = bt b i) : a = b := by
  have e : a.data.toList = b.data.toList := by
    apply List.ext_getElem
    · simpa using h
    · intro i h1 h2
      have h1' : i < a.size := by simpa using h1
      have := hb i h1'
      rw [bt_lt h1', bt_lt (by omega)] at this
      exact UInt8.toNat_inj.1 (by exact_mod_cast this)
  obtain ⟨⟨a⟩⟩ := a
  obtain ⟨⟨b⟩⟩ := b
  simp at e
  rw [e]

theorem size_str (l : List Int) : (strOfNums l).size = l.length := strOfNums_size l
theorem bt_str {l : List Int} {i : Nat} (h : i < l.length) : bt (strOfNums l) i = (l[i].toNat % 256 : Nat) := by
  rw [bt_lt (by rw [size_str]; exact h)]
  simp [strOfNums]
theorem size_app (a b : ByteArray) : (sapp a b).size = a.size + b.size := by simp [sapp]
theorem bt_app_l {a b : ByteArray} {i : Nat} (h : i < a.size) : bt (sapp a b) i = bt a i := by
  rw [bt_lt (by rw [size_app]; omega), bt_lt h]
  have h' : i < a.data.toList.length := by simpa using h
  simp only [sapp, ByteArray.data_append, Array.toList_append]
  rw [List.getElem_append_left h']
theorem bt_app_r {a b : ByteArray} {i : Nat} (h : i < b.size) : bt (sapp a b) ((a.size + i : Nat) : Int) = bt b i := by
  rw [bt_lt (by rw [size_app]; omega), bt_lt h]
  simp only [sapp, ByteArray.data_append, Array.toList_append]
  rw [List.getElem_append_right (by simp)]
  congr 2
  simp
theorem size_cut {s : ByteArray} {l h : Nat} (h1 : l ≤ h) (h2 : h ≤ s.size) : (scut s l h).size = h - l := by
  simp [scut, ByteArray.size_extract]; omega
theorem bt_cut {s : ByteArray} {l h i : Nat} (h1 : h ≤ s.size) (h2 : l + i < h) : bt (scut s l h) i = bt s ((l + i : Nat) : Int) := by
  rw [bt_lt (by rw [size_cut (by omega) h1]; omega), bt_lt (by omega)]
  simp [scut, ByteArray.data_extract, List.getElem_drop]
end Vam
