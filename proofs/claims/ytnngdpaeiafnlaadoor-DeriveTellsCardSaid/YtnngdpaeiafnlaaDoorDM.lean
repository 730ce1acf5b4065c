/- A part of the proof that the laws of this seat hold for every input; no conditions of its own. -/
import Derived.Test.YtnngdpaeiafnlaaDoorDL
import Derived.Test.YtnngdpaeiafnlaaDoorV0
open Go Vam Vam.Pg Go.Proofs
set_option linter.unusedVariables false
set_option linter.unusedSimpArgs false
set_option maxRecDepth 100000
namespace Go.Proofs.YtnngdpaeiafnlaaDoor
theorem long4 {ps : List ByteArray} (w : Wf (.sl .str) ps) : ∃ b, f7_m ps 400 = some b ∧ (b = false → (cat ps ps.length).length ≤ 400) :=
  long (ps := ps) (m := 400) (by decide) w.1 (fun i hi => w.2 i hi)
theorem tells {s : ByteArray} {ps : List ByteArray} {a r : Int} (w : Wf (.sl .str) ps) (ha : 0 ≤ a ∧ a < 4294967296) : f3_m s ps a r = some true := by
  rw [f3_e, wakes]
  by_cases hs : 200 < s.size
  · rw [sel_ilt (by rw [ssz_eq]; omega)]; rfl
  · rw [sel_ilt' (by rw [ssz_eq]; omega)]
    obtain ⟨b, h1, h2⟩ := long4 w
    rw [h1]
    simp only [Option.bind_some]
    cases b with
    | true => rfl
    | false =>
      have hc := h2 rfl
      rw [sel_ff]
      by_cases hl : 100 < ps.length
      · rw [sel_ilt (by rw [llen_eq]; omega)]
      · have hn : (nums s).length ≤ 65536 := by rw [nums_len]; omega
        rw [sel_ilt' (by rw [llen_eq]; omega), show List.append [] ps = ps from rfl, sel_nle (by omega), sel_nle (by omega), pack (by omega) (by omega), pack' (by omega) (by omega)]
        simp only [Option.bind_some]
        rw [seq_self, sel_tt, key hn (by omega) (by omega), key' hn (by omega) (by omega)]
        simp only [Option.bind_some]
        rw [lieq_self, sel_tt, id_ hn (by omega) (by omega), id' hn (by omega) (by omega)]
        simp only [Option.bind_some]
        rw [lieq_self, sel_tt, round, round']
        simp only [Option.bind_some]
        rw [seq_self, sel_tt, nonce ha, nonce' ha]
        simp only [Option.bind_some]
        rw [lieq_self, sel_tt, texts (by omega), decide_eq_true rfl]
        rfl
theorem apart {a b : List ByteArray} (wa : Wf (.sl .str) a) (wb : Wf (.sl .str) b) : f4_m a b = some true := by
  rw [f4_e, wakes]
  obtain ⟨x, h1, h2⟩ := long4 wa
  obtain ⟨y, h3, h4⟩ := long4 wb
  rw [h1, h3]
  simp only [Option.bind_some]
  cases x with
  | true => rfl
  | false =>
    cases y with
    | true => rfl
    | false =>
      have ca := h2 rfl
      have cb := h4 rfl
      rw [sel_ff, sel_ff]
      by_cases hl : 100 < a.length
      · rw [sel_ilt (by rw [llen_eq]; omega)]
      · rw [sel_ilt' (by rw [llen_eq]; omega)]
        by_cases hm : 100 < b.length
        · rw [sel_ilt (by rw [llen_eq]; omega)]
        · rw [sel_ilt' (by rw [llen_eq]; omega), pack (by omega) (by omega), pack (by omega) (by omega), texts (by omega)]
          simp only [Option.bind_some]
          have e : seq (strOfNums (pk a a.length)) (strOfNums (pk b b.length)) = decide (a = b) := by
            rw [seq_nums, nums_str (pk_ok _), nums_str (pk_ok _), pk_pl, pk_pl]
            congr 1
            refine propext ⟨pl_inj (fun s hs => ?_) (fun s hs => ?_), fun e => by rw [e]⟩
            · have := cat_mem hs; omega
            · have := cat_mem hs; omega
          rw [e]
          cases decide (a = b) <;> rfl
theorem nn_inj {a b : Nat} {r s : Nat} (ha : a < 4294967296) (hb : b < 4294967296) (hr : r < 18446744073709551616) (hs : s < 18446744073709551616) (h : nn (a : Int) (r : Int) = nn (b : Int) (s : Int)) : a = b ∧ r = s := by
  obtain ⟨h1, h2⟩ := List.append_inj h (by rw [le_len, le_len])
  exact ⟨le4_inj ha hb h1, le8_inj hr hs h2⟩
theorem lieq_dec {a b : List Int} : lieq a b = decide (a = b) := by
  by_cases h : a = b
  · rw [lieq_t.2 h, decide_eq_true h]
  · rw [lieq_f h, decide_eq_false h]
theorem ieq_dec {a b : Nat} : ieq (a : Int) (b : Int) = decide (a = b) := by
  by_cases h : a = b
  · rw [decide_eq_true h, h]; unfold ieq; simp
  · rw [decide_eq_false h]; unfold ieq; simp only [beq_eq_false_iff_ne, ne_eq]; omega
theorem nonces {a b r s : Int} (ha : 0 ≤ a ∧ a < 4294967296) (hb : 0 ≤ b ∧ b < 4294967296) (hr : 0 ≤ r ∧ r < 18446744073709551616) (hs : 0 ≤ s ∧ s < 18446744073709551616) : f5_m a b r s = some true := by
  rw [f5_e, wakes, nonce ha, nonce hb, round, round]
  obtain ⟨a, rfl⟩ := Int.eq_ofNat_of_zero_le ha.1
  obtain ⟨b, rfl⟩ := Int.eq_ofNat_of_zero_le hb.1
  obtain ⟨r, rfl⟩ := Int.eq_ofNat_of_zero_le hr.1
  obtain ⟨s, rfl⟩ := Int.eq_ofNat_of_zero_le hs.1
  simp only [Option.bind_some]
  have e1 : seq (strOfNums (le (r : Int) 8)) (strOfNums (le (s : Int) 8)) = decide (r = s) := by
    rw [seq_nums, nums_str le_ok, nums_str le_ok]
    congr 1
    exact propext ⟨le8_inj (by omega) (by omega), fun e => by rw [e]⟩
  have e2 : lieq (nn (a : Int) (r : Int)) (nn (b : Int) (s : Int)) = (decide (a = b) && decide (r = s)) := by
    rw [lieq_dec, ← Bool.decide_and]
    congr 1
    exact propext ⟨nn_inj (by omega) (by omega) (by omega) (by omega), fun ⟨e, f⟩ => by rw [e, f]⟩
  rw [e1, e2, ieq_dec, ieq_dec, ssz_eq, size_strN le_ok, le_len]
  cases decide (a = b) <;> cases decide (r = s) <;> rfl
theorem joins {s : ByteArray} {a b : List ByteArray} (wa : Wf (.sl .str) a) (wb : Wf (.sl .str) b) : f6_m s a b = some true := by
  rw [f6_e, wakes]
  by_cases hs : 200 < s.size
  · rw [sel_ilt (by rw [ssz_eq]; omega)]; rfl
  · rw [sel_ilt' (by rw [ssz_eq]; omega)]
    obtain ⟨x, h1, h2⟩ := long4 wa
    obtain ⟨y, h3, h4⟩ := long4 wb
    rw [h1, h3]
    simp only [Option.bind_some]
    cases x with
    | true => rfl
    | false =>
      cases y with
      | true => rfl
      | false =>
        have ca := h2 rfl
        have cb := h4 rfl
        rw [sel_ff, sel_ff]
        by_cases hl : 100 < a.length
        · rw [sel_ilt (by rw [llen_eq]; omega)]
        · rw [sel_ilt' (by rw [llen_eq]; omega)]
          by_cases hm : 100 < b.length
          · rw [sel_ilt (by rw [llen_eq]; omega)]
          · rw [sel_ilt' (by rw [llen_eq]; omega), show List.append [] a = a from rfl, show List.append a b = a ++ b from rfl]
            have hab : (a ++ b).length = a.length + b.length := List.length_append
            have hpk : pk (a ++ b) (a ++ b).length = pk a a.length ++ pk b b.length := by rw [hab]; exact pk_app _
            have hlen := pk_len (ps := a ++ b) (a ++ b).length
            have la := pk_len (ps := a) a.length
            have lb := pk_len (ps := b) b.length
            have hcl : (cat (a ++ b) (a ++ b).length).length ≤ 800 := by
              rw [hpk, List.length_append] at hlen
              omega
            have hn : (nums s).length ≤ 65536 := by rw [nums_len]; omega
            have hn2 := nums_len s
            rw [sel_nle (by omega), sel_nle (by omega), sel_nle (by omega), sel_nle (by omega), key hn (by omega) (by omega), id_ hn (by omega) (by omega), pack (ps := a ++ b) (by omega) (by omega), pack (ps := a) (by omega) (by omega), pack (ps := b) (by omega) (by omega), pack1 (by omega)]
            simp only [Option.bind_some, List.drop_zero]
            have ho := one_len (s := nums s)
            have hb : BOk (one (nums s) ++ pk (a ++ b) (a ++ b).length) := one_ok.append (pk_ok _)
            rw [size_strN (pk_ok _), size_strN (pk_ok _), sel_nle (by omega), str_app, hpk, seq_self, sel_tt, seq_self, sel_tt, ← hpk, size_strN one_ok, size_strN (pk_ok _), sel_nle (by omega), str_app, sum' (by rw [nums_str hb, List.length_append]; omega), nums_str hb]
            simp only [Option.bind_some]
            rw [show sha (one (nums s) ++ pk (a ++ b) (a ++ b).length) = kd s (a ++ b) from rfl, lieq_self]
            rfl
end Go.Proofs.YtnngdpaeiafnlaaDoor
