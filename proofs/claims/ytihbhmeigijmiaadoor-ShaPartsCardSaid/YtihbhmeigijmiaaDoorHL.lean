/- A part of the proof that the laws of this seat hold for every input; no conditions of its own. -/
import Derived.Test.YtihbhmeigijmiaaDoorHQ
import Derived.Test.YtihbhmeigijmiaaDoorV0
open Go Vam Vam.Pg Go.Proofs
set_option linter.unusedVariables false
set_option linter.unusedSimpArgs false
set_option maxRecDepth 100000
namespace Go.Proofs.YtihbhmeigijmiaaDoor
/-! ### Wakes -/
theorem abc : (sha [97, 98, 99]).take 4 = [186, 120, 22, 191] := by decide +kernel
theorem empty : (sha []).take 4 = [227, 176, 196, 66] := by decide +kernel
theorem ok4 {l : List Int} {a b c d : Int} (h : l.take 4 = [a, b, c, d]) (A : ByteArray) (ha : nums A = [a, b, c, d]) : strOfNums ((l.drop 0).take 4) = A := by
  rw [List.drop_zero, h, ← ha, str_nums]
theorem wakes : f7_m = some true := by
  have h1 := sum (ps := [ByteArray.mk #[97, 98, 99]]) (by decide) (by decide)
  have h0 := sum (ps := []) (by decide) (by decide)
  rw [f7_e, h1, h0]
  simp only [Option.bind_some]
  rw [show cat [ByteArray.mk #[97, 98, 99]] [ByteArray.mk #[97, 98, 99]].length = [97, 98, 99] from by decide, show cat [] ([] : List ByteArray).length = [] from rfl,
    ok4 abc (ByteArray.mk #[186, 120, 22, 191]) (by decide), ok4 empty (ByteArray.mk #[227, 176, 196, 66]) (by decide)]
  have hs : ∀ A : ByteArray, seq A A = true := fun A => by rw [seq_nums]; simp
  rw [hs, hs]
  rfl

/-! ### The helpers -/
theorem long {ps : List ByteArray} {m : Nat} (hm : m < 4294967296) (hp : ps.length ≤ 1152921504606846976) (hz : ∀ i, i < ps.length → (ps.getD i (ByteArray.mk #[])).size ≤ maxLen) : ∃ b, f6_m ps m = some b ∧ (b = false → (cat ps ps.length).length ≤ m) := by
  obtain ⟨y, h1, h2⟩ := lm_inv (t := f6_l2_t ps) (fun x => ∃ i, i ≤ ps.length ∧ (cat ps i).length ≤ m ∧ x = ((m : Int) - ((cat ps i).length : Int), (i : Int))) (fun x => ps.length - x.2.toNat) (fun y => (∀ z, y = .inr z → (cat ps ps.length).length ≤ m)) (fun x hx => by
    obtain ⟨i, h1, h2, rfl⟩ := hx
    rw [f6_l2_e]
    simp only [gd_str, Int.toNat_natCast]
    by_cases h : i < ps.length
    · rw [sel_ilt (by rw [llen_eq]; omega), sel_ile (by omega)]
      have hc : (cat ps (i + 1)).length = (cat ps i).length + (nums (ps.getD i (ByteArray.mk #[]))).length := by rw [cat, List.length_append]
      have hz' := hz i h
      unfold maxLen at hz'
      rw [ssz_eq]
      rw [size_nums] at hz' ⊢
      by_cases k : (m : Int) - ((cat ps i).length : Int) < ((nums (ps.getD i (ByteArray.mk #[]))).length : Int)
      · rw [sel_ilt k]
        exact .inr ⟨_, rfl, fun z hz => by cases hz⟩
      · rw [sel_ilt' (by omega), isub64 (by omega) (by omega), show (1 : Int) = ((1 : Nat) : Int) from rfl, iadd64' (by omega)]
        refine .inl ⟨_, rfl, ⟨i + 1, by omega, by omega, ?_⟩, by simp only [Int.toNat_natCast]; omega⟩
        rw [hc]
        congr 1
        omega
    · rw [sel_ilt' (by rw [llen_eq]; omega)]
      have : i = ps.length := by omega
      subst this
      exact .inr ⟨_, rfl, fun z hz => h2⟩) (x := (m, 0)) ⟨0, by omega, by simp [cat], by simp [cat]⟩
  rw [f6_e, show f6_l2_m ps (m, 0) = some y from h1]
  cases y with
  | inl z => exact ⟨true, rfl, fun h => by cases h⟩
  | inr z => exact ⟨false, rfl, fun _ => h2 z rfl⟩
theorem lieq_self {l : List Int} : lieq l l = true := lieq_t.2 rfl
theorem seq_self {A : ByteArray} : seq A A = true := by rw [seq_nums]; simp
theorem texts {ps : List ByteArray} (hp : ps.length ≤ 1152921504606846976) : f10_m ps ps = some true := by
  have := lm_count (t := f10_l4_t ps ps) (fun i => (i : Int)) ps.length (.inr ()) (fun i hi => by
    rw [f10_l4_e]
    simp only [gd_str, Int.toNat_natCast]
    rw [sel_ilt (by rw [llen_eq]; omega), sel_ile (by omega), sel_ilt (by rw [llen_eq]; omega), seq_self, sel_bno, sel_tt, show (1 : Int) = ((1 : Nat) : Int) from rfl, iadd64' (by omega)]) (by
    rw [f10_l4_e]
    rw [sel_ilt' (by rw [llen_eq]; omega)])
  rw [f10_e, sel_bno, sel_ieq rfl, show f10_l4_m ps ps 0 = some (.inr ()) from this]
  rfl
theorem joined {ps : List ByteArray} (h : (cat ps ps.length).length ≤ 4096) (hp : ps.length ≤ 1152921504606846976) : f3_l5_m ps (ByteArray.mk #[], 0) = some (strOfNums (cat ps ps.length)) := by
  have ok : ∀ i, BOk (cat ps i) := fun i => by
    induction i with
    | zero => exact BOk.nil
    | succ i ih => rw [cat]; exact ih.append (nums_ok _)
  exact lm_count (t := f3_l5_t ps) (fun i => (strOfNums (cat ps i), (i : Int))) ps.length _ (fun i hi => by
    have h1 := cat_mono (ps := ps) (show i + 1 ≤ ps.length by omega)
    have hc : (cat ps (i + 1)).length = (cat ps i).length + (nums (ps.getD i (ByteArray.mk #[]))).length := by rw [cat, List.length_append]
    rw [f3_l5_e]
    simp only [gd_str, Int.toNat_natCast]
    rw [sel_ilt (by rw [llen_eq]; omega), sel_ile (by omega), sel_nle (by rw [size_strN (ok i), size_nums]; omega), show (1 : Int) = ((1 : Nat) : Int) from rfl, iadd64' (by omega), sapp_str, nums_str (ok i)]
    rfl) (by
    rw [f3_l5_e]
    simp only []
    rw [sel_ilt' (by rw [llen_eq]; omega)])
theorem cat_ok {ps : List ByteArray} : ∀ i, BOk (cat ps i)
  | 0 => BOk.nil
  | i + 1 => by rw [cat]; exact (cat_ok i).append (nums_ok _)

/-! ### The laws -/
theorem tells {ps : List ByteArray} (hw : ps.length * 16 ≤ 140737488355327) (hz : ∀ i, i < ps.length → (ps.getD i (ByteArray.mk #[])).size ≤ maxLen) : f3_m ps = some true := by
  obtain ⟨b, h1, h2⟩ := long (ps := ps) (m := 500) (by decide) (by omega) hz
  rw [f3_e, show f6_m ps 500 = some b from h1]
  simp only [Option.bind_some]
  cases b with
  | true => rw [sel_tt, wakes]; rfl
  | false =>
    have h3 := h2 rfl
    rw [sel_ff, joined (by omega) (by omega)]
    simp only [Option.bind_some]
    rw [show List.append [] ps = ps from rfl, sel_nle (by omega), sel_nle (by omega), sum (by omega) (by omega), sum' (by rw [nums_str (cat_ok _)]; omega), nums_str (cat_ok _)]
    simp only [Option.bind_some]
    rw [lieq_self, sel_tt, texts (by omega)]
    simp only [Option.bind_some]
    rw [sel_tt, wakes]
    rfl
theorem sum1 {s : ByteArray} (h : (nums s).length ≤ 1099511627776) : f8_m [s] = some (sha (nums s)) := by
  have e : cat [s] [s].length = nums s := by simp [cat]
  have := sum (ps := [s]) (by rw [e]; exact h) (by simp)
  rwa [e] at this
theorem parts {s : ByteArray} {a b : Int} (ha : 0 ≤ a ∧ a < 256) (hb : 0 ≤ b ∧ b < 256) : f4_m s a b = some true := by
  rw [f4_e]
  by_cases hl : 400 < s.size
  · rw [sel_ilt (by rw [ssz_eq]; omega), wakes]; rfl
  · rw [sel_ilt' (by rw [ssz_eq]; omega)]
    obtain ⟨a, rfl⟩ := Int.eq_ofNat_of_zero_le ha.1
    obtain ⟨b, rfl⟩ := Int.eq_ofNat_of_zero_le hb.1
    have e1 : iadd .i64 (ssz s) 1 = ((s.size + 1 : Nat) : Int) := by rw [ssz_eq, show (1 : Int) = ((1 : Nat) : Int) from rfl, iadd64' (by omega)]
    have ea : icv .i64 (a : Int) = (a : Int) := icv64 (by omega) (by omega)
    have eb : icv .i64 (b : Int) = (b : Int) := icv64 (by omega) (by omega)
    have hi : a % (s.size + 1) < s.size + 1 := Nat.mod_lt _ (by omega)
    generalize hI : a % (s.size + 1) = i at hi
    have e2 : isub .i64 (ssz s) (i : Int) = ((s.size - i : Nat) : Int) := by rw [ssz_eq, isub64' (by omega) (by omega)]
    have e3 : iadd .i64 ((s.size - i : Nat) : Int) 1 = ((s.size - i + 1 : Nat) : Int) := by rw [show (1 : Int) = ((1 : Nat) : Int) from rfl, iadd64' (by omega)]
    have hj : b % (s.size - i + 1) < s.size - i + 1 := Nat.mod_lt _ (by omega)
    unfold f4_s0 f4_s1
    rw [ea, eb, e1, irem64, hI, e2, e3, irem64]
    generalize b % (s.size - i + 1) = j at hj
    rw [iadd64' (by omega)]
    simp only [Int.toNat_natCast, ssz_eq]
    rw [sel_bno, sel_ieq' (by omega), sel_bno, sel_ieq' (by omega), sel_ile (by omega), sel_ile (by omega), sel_ile (by omega), sel_ile (by omega), sel_ile (by omega)]
    have hn := nums_len s
    have hc : cat [scut s 0 i, ByteArray.mk #[], scut s i (i + j), scut s (i + j) s.size] 4 = nums s := by
      have : ∀ x y z w : ByteArray, cat [x, y, z, w] 4 = nums x ++ nums y ++ nums z ++ nums w := fun x y z w => by simp [cat]
      rw [this, nums_cut, nums_cut, nums_cut, show nums (ByteArray.mk #[]) = [] from by decide, ← hn, List.take_length, List.drop_zero, List.append_nil]
      have e4 : ((nums s).take (i + j)).take i = (nums s).take i := by rw [List.take_take]; congr 1; omega
      rw [← e4, List.take_append_drop, List.take_append_drop]
    have := sum (ps := [scut s 0 i, ByteArray.mk #[], scut s i (i + j), scut s (i + j) s.size]) (by
      show (cat _ 4).length ≤ _
      rw [hc]; omega) (by simp)
    rw [show [scut s 0 i, ByteArray.mk #[], scut s i (i + j), scut s (i + j) s.size].length = 4 from rfl, hc] at this
    rw [this, sum1 (by omega)]
    simp only [Option.bind_some]
    rw [lieq_self, sel_tt, wakes]
    rfl
theorem fills {n : Nat} {b : Int} (h : n < 256) : ∃ z, f5_l3_m b n (List.replicate n 0, 0) = some z ∧ z.length = n := by
  exact lm_inv (t := f5_l3_t b n) (fun x => ∃ i, i ≤ n ∧ x.2 = (i : Int) ∧ x.1.length = n) (fun x => n - x.2.toNat) (fun y => y.length = n) (fun x hx => by
    obtain ⟨i, h1, h2, h3⟩ := hx
    obtain ⟨l, q⟩ := x
    simp only [] at h2 h3
    subst h2
    rw [f5_l3_e]
    simp only [Int.toNat_natCast]
    by_cases k : i < n
    · rw [sel_ilt (by omega), sel_ile (by omega), sel_nlt (by omega), show (1 : Int) = ((1 : Nat) : Int) from rfl, iadd64' (by omega)]
      refine .inl ⟨_, rfl, ⟨i + 1, by omega, rfl, by rw [List.length_set]; exact h3⟩, by simp only [Int.toNat_natCast]; omega⟩
    · rw [sel_ilt' (by omega)]
      exact .inr ⟨_, rfl, h3⟩) ⟨0, by omega, rfl, List.length_replicate⟩
theorem lengths {n b : Int} (hn : 0 ≤ n ∧ n < 256) : f5_m n b = some true := by
  obtain ⟨n, rfl⟩ := Int.eq_ofNat_of_zero_le hn.1
  obtain ⟨z, h1, h2⟩ := fills (n := n) (b := b) (by omega)
  rw [f5_e, Int.toNat_natCast, sel_ile (by omega), sel_ile (by show 1 * (n : Int) ≤ _; omega), h1]
  simp only [Option.bind_some]
  have hs : (nums (strOfNums (List.take n (List.drop 0 z)))).length ≤ 256 := by rw [nums_len, size_str]; simp; omega
  rw [sel_nle (by omega), sum' (by omega), sum1 (by omega)]
  simp only [Option.bind_some]
  rw [lieq_self, sel_tt, wakes]
  rfl
end Go.Proofs.YtihbhmeigijmiaaDoor
