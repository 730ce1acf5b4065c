/- A part of the proof that the laws of this seat hold for every input; no conditions of its own. -/
import Derived.Test.YtnngdpaeiafnlaaDoorDP
import Derived.Test.YtnngdpaeiafnlaaDoorV0
open Go Vam Vam.Pg Go.Proofs
set_option linter.unusedVariables false
set_option linter.unusedSimpArgs false
set_option maxRecDepth 100000
namespace Go.Proofs.YtnngdpaeiafnlaaDoor
/-! ### Numbers in bytes -/
def leB (n : Int) (i : Nat) : Int := icv .u8 (shr .u64 n (8 * (i : Int)))
def le (n : Int) (k : Nat) : List Int := (List.range k).map (leB n)
theorem le_len {n : Int} {k : Nat} : (le n k).length = k := by simp [le]
theorem le_ok {n : Int} {k : Nat} : BOk (le n k) := BOk.map fun _ _ => icv8_ok
theorem le_at {n : Int} {k i : Nat} (h : i < k) : (le n k).getD i 0 = leB n i := getD_map_range h
theorem imul8 {i : Nat} (h : i < 64) : imul .i64 8 (i : Int) = 8 * (i : Int) := imul64 (by omega) (by omega)
theorem littleL {n : Int} {k : Nat} (h : k ≤ 8) : f21_l3_m n k (k : Int) (List.replicate k 0, 0) = some (le n k) := by
  have := lm_count (t := f21_l3_t n k (k : Int)) (fun i => ((le n k).take i ++ List.replicate (k - i) 0, (i : Int))) k (le n k) (fun i hi => by
    rw [f21_l3_e]
    simp only [Int.toNat_natCast, Nat.zero_add]
    rw [imul8 (by omega), sel_ilt (by omega), sel_ile (by omega), sel_ile (by omega), sel_ilt (by omega), sel_nlt (by simp [le_len]; omega)]
    change some (Sum.inl (List.set _ i (leB n i), _)) = _
    rw [← le_at hi, fill_set le_len hi, show (1 : Int) = ((1 : Nat) : Int) from rfl, iadd64' (by omega)]) (by
    rw [f21_l3_e]
    simp only []
    rw [sel_ilt' (by omega), List.take_of_length_le (by rw [le_len]; exact Nat.le_refl _)]
    simp)
  simpa [f21_l3_m] using this
theorem little {n : Int} {k : Nat} (h : k ≤ 8) : f21_m n k = some (strOfNums (le n k)) := by
  rw [f21_e, sel_ile (by omega), sel_ile (by show 1 * (k : Int) ≤ _; omega), Int.toNat_natCast, littleL h]
  simp only [Option.bind_some]
  rw [sel_nle (by rw [le_len]; omega), List.drop_zero, List.take_of_length_le (by rw [le_len]; exact Nat.le_refl _)]

/-! ### Packs -/
def one (s : List Int) : List Int := le (s.length : Int) 4 ++ s
def pk (ps : List ByteArray) : Nat → List Int
  | 0 => []
  | j + 1 => pk ps j ++ one (nums (ps.getD j (ByteArray.mk #[])))
theorem pk_ok {ps : List ByteArray} : ∀ j, BOk (pk ps j)
  | 0 => BOk.nil
  | j + 1 => by rw [pk, one]; exact (pk_ok j).append (le_ok.append (nums_ok _))
theorem pk_len {ps : List ByteArray} : ∀ j, (pk ps j).length = 4 * j + (cat ps j).length
  | 0 => rfl
  | j + 1 => by rw [pk, one, cat, List.length_append, List.length_append, List.length_append, le_len, pk_len j]; omega
theorem pack {ps : List ByteArray} (hp : ps.length ≤ 1048576) (hc : (cat ps ps.length).length ≤ 1099511627776) : f9_m ps = some (strOfNums (pk ps ps.length)) := by
  have := lm_count (t := f9_l3_t ps (llen ps)) (fun j => (pk ps j, (j : Int))) ps.length (pk ps ps.length) (fun j hj => by
    have h1 := cat_mono (ps := ps) (show j + 1 ≤ ps.length by omega)
    have hl := pk_len (ps := ps) j
    have hc1 : (cat ps (j + 1)).length = (cat ps j).length + (nums (ps.getD j (ByteArray.mk #[]))).length := by rw [cat, List.length_append]
    rw [f9_l3_e]
    simp only [gd_str, Int.toNat_natCast, llen_eq]
    rw [sel_ilt (by omega), sel_ile (by omega), sel_ilt (by omega), ssz_eq, size_nums, icvu (by omega), show (4 : Int) = ((4 : Nat) : Int) from rfl, little (by omega)]
    simp only [Option.bind_some, nums_str le_ok]
    have e1 : List.append (pk ps j) (le ((nums (ps.getD j (ByteArray.mk #[]))).length : Int) 4) = pk ps j ++ le ((nums (ps.getD j (ByteArray.mk #[]))).length : Int) 4 := rfl
    have e2 : List.append (pk ps j ++ le ((nums (ps.getD j (ByteArray.mk #[]))).length : Int) 4) (nums (ps.getD j (ByteArray.mk #[]))) = pk ps (j + 1) := by
      rw [pk, one, ← List.append_assoc]; rfl
    have hl1 := pk_len (ps := ps) (j + 1)
    rw [e1, e2]
    have l1 : (pk ps j ++ le ((nums (ps.getD j (ByteArray.mk #[]))).length : Int) 4).length = (pk ps j).length + 4 := by rw [List.length_append, le_len]
    rw [sel_nle (by omega), sel_nle (by omega), sel_nle (by omega), sel_nle (by omega), show (1 : Int) = ((1 : Nat) : Int) from rfl, iadd64' (by omega)]) (by
    rw [f9_l3_e]
    simp only []
    rw [sel_ilt' (by rw [llen_eq]; omega)])
  rw [f9_e, show f9_l3_m ps (llen ps) ([], 0) = some (pk ps ps.length) from this]
  rfl
theorem le4 {n : Nat} : [icv .u8 (n : Int), icv .u8 (shr .i64 (n : Int) 8), icv .u8 (shr .i64 (n : Int) 16), icv .u8 (shr .i64 (n : Int) 24)] = le (n : Int) 4 := by
  have h0 : (n : Int) = shr .u64 (n : Int) (8 * ((0 : Nat) : Int)) := by
    show (n : Int) = (n : Int) / 2 ^ 0
    simp
  have e : le (n : Int) 4 = [leB n 0, leB n 1, leB n 2, leB n 3] := rfl
  rw [e]
  unfold leB
  rw [← h0]
  rfl
theorem pack' {ps : List ByteArray} (hp : ps.length ≤ 1048576) (hc : (cat ps ps.length).length ≤ 1099511627776) : f10_m ps = some (strOfNums (pk ps ps.length)) := by
  have := lm_count (t := f10_l3_t ps) (fun j => (strOfNums (pk ps j), (j : Int))) ps.length (strOfNums (pk ps ps.length)) (fun j hj => by
    have h1 := cat_mono (ps := ps) (show j + 1 ≤ ps.length by omega)
    have hl := pk_len (ps := ps) j
    have hc1 : (cat ps (j + 1)).length = (cat ps j).length + (nums (ps.getD j (ByteArray.mk #[]))).length := by rw [cat, List.length_append]
    rw [f10_l3_e]
    unfold f10_s0
    simp only [gd_str, Int.toNat_natCast, ssz_eq]
    rw [show (ps.getD j (ByteArray.mk #[])).size = (nums (ps.getD j (ByteArray.mk #[]))).length from size_nums, le4]
    have hs : sapp (strOfNums (le ((nums (ps.getD j (ByteArray.mk #[]))).length : Int) 4)) (ps.getD j (ByteArray.mk #[])) = strOfNums (one (nums (ps.getD j (ByteArray.mk #[])))) := by rw [sapp_str, nums_str le_ok]; rfl
    have ho : (one (nums (ps.getD j (ByteArray.mk #[])))).length = 4 + (nums (ps.getD j (ByteArray.mk #[]))).length := by rw [one, List.length_append, le_len]
    have ob : BOk (one (nums (ps.getD j (ByteArray.mk #[])))) := le_ok.append (nums_ok _)
    rw [hs, size_strN le_ok, le_len, size_strN ob, size_strN (pk_ok j), ho, str_app]
    rw [sel_ilt (by rw [llen_eq]; omega), sel_ile (by omega), sel_nle (by omega), sel_nle (by omega), show (1 : Int) = ((1 : Nat) : Int) from rfl, iadd64' (by omega)]
    rfl) (by
    rw [f10_l3_e]
    simp only []
    rw [sel_ilt' (by rw [llen_eq]; omega)])
  rw [f10_e, show f10_l3_m ps (ByteArray.mk #[], 0) = some (strOfNums (pk ps ps.length)) from this]
  rfl

/-! ### Keys, names -/
def kd (s : ByteArray) (ps : List ByteArray) : List Int := sha (one (nums s) ++ pk ps ps.length)
theorem pk1 {s : ByteArray} : pk [s] [s].length = one (nums s) := by simp [pk]
theorem cat1 {s : ByteArray} : cat [s] [s].length = nums s := by simp [cat]
theorem one_len {s : List Int} : (one s).length = 4 + s.length := by rw [one, List.length_append, le_len]
theorem one_ok {s : ByteArray} : BOk (one (nums s)) := le_ok.append (nums_ok _)
theorem pack1 {s : ByteArray} (h : (nums s).length ≤ 1099511627776) : f9_m [s] = some (strOfNums (one (nums s))) := by
  have := pack (ps := [s]) (by simp) (by rw [cat1]; exact h)
  rwa [pk1] at this
theorem pack1' {s : ByteArray} (h : (nums s).length ≤ 1099511627776) : f10_m [s] = some (strOfNums (one (nums s))) := by
  have := pack' (ps := [s]) (by simp) (by rw [cat1]; exact h)
  rwa [pk1] at this
theorem key {s : ByteArray} {ps : List ByteArray} (h : (nums s).length ≤ 65536) (hp : ps.length ≤ 1048576) (hc : (cat ps ps.length).length ≤ 1073741824) : f11_m s ps = some (kd s ps) := by
  rw [f11_e, pack1 (by omega), pack hp (by omega)]
  simp only [Option.bind_some]
  have e : cat [strOfNums (one (nums s)), strOfNums (pk ps ps.length)] 2 = one (nums s) ++ pk ps ps.length := by
    simp [cat, nums_str one_ok, nums_str (pk_ok _)]
  have hl : (cat [strOfNums (one (nums s)), strOfNums (pk ps ps.length)] 2).length ≤ 1099511627776 := by
    rw [e, List.length_append, pk_len, one_len]; omega
  have := sum (ps := [strOfNums (one (nums s)), strOfNums (pk ps ps.length)]) hl (by simp)
  rw [this]
  simp only [Option.bind_some]
  rw [show [strOfNums (one (nums s)), strOfNums (pk ps ps.length)].length = 2 from rfl, e]
  rfl
theorem key' {s : ByteArray} {ps : List ByteArray} (h : (nums s).length ≤ 65536) (hp : ps.length ≤ 1048576) (hc : (cat ps ps.length).length ≤ 1073741824) : f12_m s ps = some (kd s ps) := by
  rw [f12_e, pack1' (by omega), pack' hp (by omega)]
  simp only [Option.bind_some]
  have hl := pk_len (ps := ps) ps.length
  have ho := one_len (s := nums s)
  have hb : BOk (one (nums s) ++ pk ps ps.length) := one_ok.append (pk_ok _)
  rw [size_strN one_ok, size_strN (pk_ok _), sel_nle (by omega), str_app, sum' (by rw [nums_str hb, List.length_append]; omega), nums_str hb]
  rfl
theorem kd_len {s : ByteArray} {ps : List ByteArray} : (kd s ps).length = 32 := outB_len
theorem id_ {s : ByteArray} {ps : List ByteArray} (h : (nums s).length ≤ 65536) (hp : ps.length ≤ 1048576) (hc : (cat ps ps.length).length ≤ 1073741824) : f13_m s ps = some ((kd s ps).take 16) := by
  rw [f13_e, key h hp hc]
  simp only [Option.bind_some]
  rw [sel_nle' (by rw [kd_len]; decide)]
  congr 1
theorem idL {z : List Int} (hz : z.length = 32) : f14_l4_m z ([0, 0, 0, 0, 0, 0, 0, 0, 0, 0, 0, 0, 0, 0, 0, 0], 0) = some (z.take 16) := by
  have hl : (z.take 16).length = 16 := by rw [List.length_take, hz]; rfl
  have := lm_count (t := f14_l4_t z) (fun i => ((z.take 16).take i ++ List.replicate (16 - i) 0, (i : Int))) 16 (z.take 16) (fun i hi => by
    rw [f14_l4_e]
    simp only [Int.toNat_natCast, gd_int]
    rw [sel_ilt (by omega), sel_ile (by omega), sel_ilt (by omega), sel_nlt (by omega), sel_nlt (by omega), ← getD_take (n := 16) hi, fill_set hl hi, show (1 : Int) = ((1 : Nat) : Int) from rfl, iadd64' (by omega)]) (by
    rw [f14_l4_e]
    simp only []
    rw [sel_ilt' (by omega), List.take_of_length_le (by rw [hl]; decide)]
    simp)
  simpa [f14_l4_m] using this
theorem id' {s : ByteArray} {ps : List ByteArray} (h : (nums s).length ≤ 65536) (hp : ps.length ≤ 1048576) (hc : (cat ps ps.length).length ≤ 1073741824) : f14_m s ps = some ((kd s ps).take 16) := by
  rw [f14_e, key' h hp hc]
  simp only [Option.bind_some]
  rw [idL kd_len]
  rfl
/-! ### Rounds, nonces -/
theorem round {r : Int} : f15_m r = some (strOfNums (le r 8)) := by
  rw [f15_e, show (8 : Int) = ((8 : Nat) : Int) from rfl, little (by omega)]
  rfl
theorem round'L {r : Int} : f16_l3_m r ([0, 0, 0, 0, 0, 0, 0, 0], 0) = some (le r 8) := by
  have := lm_count (t := f16_l3_t r) (fun i => ((le r 8).take i ++ List.replicate (8 - i) 0, (i : Int))) 8 (le r 8) (fun i hi => by
    rw [f16_l3_e]
    simp only [Int.toNat_natCast]
    rw [imul8 (by omega), sel_ilt (by omega), sel_ile (by omega), sel_ile (by omega), sel_nlt (by omega)]
    change some (Sum.inl (List.set _ i (leB r i), _)) = _
    rw [← le_at hi, fill_set le_len hi, show (1 : Int) = ((1 : Nat) : Int) from rfl, iadd64' (by omega)]) (by
    rw [f16_l3_e]
    simp only []
    rw [sel_ilt' (by omega), List.take_of_length_le (by rw [le_len]; decide)]
    simp)
  simpa [f16_l3_m] using this
theorem round' {r : Int} : f16_m r = some (strOfNums (le r 8)) := by
  rw [f16_e, round'L]
  rfl
def nn (a r : Int) : List Int := le a 4 ++ le r 8
theorem nonce {a r : Int} (ha : 0 ≤ a ∧ a < 4294967296) : f17_m a r = some (nn a r) := by
  obtain ⟨a, rfl⟩ := Int.eq_ofNat_of_zero_le ha.1
  rw [f17_e, icvu (by omega), show (4 : Int) = ((4 : Nat) : Int) from rfl, little (by omega)]
  simp only [Option.bind_some]
  rw [round]
  simp only [Option.bind_some]
  have hl : (le (a : Int) 4 ++ le r 8).length = 12 := by rw [List.length_append, le_len, le_len]
  rw [size_strN le_ok, size_strN le_ok, le_len, le_len, sel_nle (by omega), str_app, nums_str (le_ok.append le_ok), sel_nle (by omega)]
  unfold over
  rw [hl, show (List.drop (0 + 12) [0, 0, 0, 0, 0, 0, 0, 0, 0, 0, 0, (0 : Int)]) = [] from rfl, List.append_nil]
  rfl
def nst (a r : Int) : Nat → List Int
  | 0 => [icv .u8 a, icv .u8 (shr .u32 a 8), icv .u8 (shr .u32 a 16), icv .u8 (shr .u32 a 24), 0, 0, 0, 0, 0, 0, 0, 0]
  | i + 1 => (nst a r i).set (4 + i) (leB r i)
theorem nonce'L {a r : Int} : f18_l3_m r (nst a r 0, 0) = some (nst a r 8) :=
  lm_count (t := f18_l3_t r) (fun i => (nst a r i, (i : Int))) 8 (nst a r 8) (fun i hi => by
    rw [f18_l3_e]
    simp only []
    rw [imul8 (by omega), show (4 : Int) = ((4 : Nat) : Int) from rfl, iadd64' (by omega)]
    simp only [Int.toNat_natCast]
    rw [sel_ilt (by omega), sel_ile (by omega), sel_ile (by omega), sel_ilt (by omega), sel_nlt (by omega), show (1 : Int) = ((1 : Nat) : Int) from rfl, iadd64' (by omega)]
    rfl) (by
    rw [f18_l3_e]
    kernel_rfl)
theorem nonce' {a r : Int} (ha : 0 ≤ a ∧ a < 4294967296) : f18_m a r = some (nn a r) := by
  obtain ⟨a, rfl⟩ := Int.eq_ofNat_of_zero_le ha.1
  have h0 : (a : Int) = shr .u64 (a : Int) (8 * ((0 : Nat) : Int)) := by
    show (a : Int) = (a : Int) / 2 ^ 0
    simp
  have e : nst (a : Int) r 8 = nn a r := by
    have e1 : nst (a : Int) r 8 = [icv .u8 (a : Int), icv .u8 (shr .u32 (a : Int) 8), icv .u8 (shr .u32 (a : Int) 16), icv .u8 (shr .u32 (a : Int) 24)] ++ le r 8 := rfl
    have e2 : le (a : Int) 4 = [leB a 0, leB a 1, leB a 2, leB a 3] := rfl
    rw [e1, nn, e2]
    unfold leB
    rw [← h0]
    rfl
  rw [f18_e, show f18_l3_m r ([icv .u8 (a : Int), icv .u8 (shr .u32 (a : Int) 8), icv .u8 (shr .u32 (a : Int) 16), icv .u8 (shr .u32 (a : Int) 24), 0, 0, 0, 0, 0, 0, 0, 0], 0) = some (nst a r 8) from nonce'L, e]
  rfl
end Go.Proofs.YtnngdpaeiafnlaaDoor
