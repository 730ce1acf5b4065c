/- A part of the proof that the laws of this seat hold for every input; no conditions of its own. -/
import Derived.Test.YtcolcoapgodfcaaFC
import Derived.Test.YtcolcoapgodfcaaVW
open Go Vam Vam.Pg Go.Proofs
set_option linter.unusedVariables false
set_option linter.unusedSimpArgs false
namespace Go.Proofs.Ytcolcoapgodfcaa
/-! What frames' bytes are, plainly. -/
theorem lbs (r : Int) : lb r 0 = r % 256 ∧ lb r 1 = r / 256 % 256 ∧ lb r 2 = r / 65536 % 256 ∧ lb r 3 = r / 16777216 % 256 ∧ lb r 4 = r / 4294967296 % 256 ∧ lb r 5 = r / 1099511627776 % 256 ∧ lb r 6 = r / 281474976710656 % 256 ∧ lb r 7 = r / 72057594037927936 % 256 := by
  unfold lb
  simp only [icv8]
  refine ⟨?_, ?_, ?_, ?_, ?_, ?_, ?_, ?_⟩ <;> (rw [imul64 (by omega) (by omega)]; simp [shr, IntKind.bits])
theorem head_size (a b c r : Int) : (sapp (strOfNums [icv .u8 a, icv .u8 b, icv .u8 c]) (strOfNums (lb8 r))).size = 11 := by
  rw [size_app, size_str, size_str]; rfl
theorem head_lo {a b c r : Int} {i : Nat} (h : i < 3) : bt (sapp (strOfNums [icv .u8 a, icv .u8 b, icv .u8 c]) (strOfNums (lb8 r))) i = bt (strOfNums [icv .u8 a, icv .u8 b, icv .u8 c]) i := by
  rw [bt_app_l (by rw [size_str]; exact h)]
theorem head_hi {a b c r : Int} {i : Nat} (h : i < 8) : bt (sapp (strOfNums [icv .u8 a, icv .u8 b, icv .u8 c]) (strOfNums (lb8 r))) ((3 + i : Nat) : Int) = bt (strOfNums (lb8 r)) i := by
  have := bt_app_r (a := strOfNums [icv .u8 a, icv .u8 b, icv .u8 c]) (b := strOfNums (lb8 r)) (i := i) (by rw [size_str]; exact h)
  rw [size_str] at this
  exact this
theorem bt3 (a b c : Int) : bt (strOfNums [icv .u8 a, icv .u8 b, icv .u8 c]) 0 = a % 256 ∧ bt (strOfNums [icv .u8 a, icv .u8 b, icv .u8 c]) 1 = b % 256 ∧ bt (strOfNums [icv .u8 a, icv .u8 b, icv .u8 c]) 2 = c % 256 := by
  have h0 := bt_str (l := [icv .u8 a, icv .u8 b, icv .u8 c]) (i := 0) (by simp)
  have h1 := bt_str (l := [icv .u8 a, icv .u8 b, icv .u8 c]) (i := 1) (by simp)
  have h2 := bt_str (l := [icv .u8 a, icv .u8 b, icv .u8 c]) (i := 2) (by simp)
  simp only [List.getElem_cons_zero, List.getElem_cons_succ, icv8] at h0 h1 h2
  simp only [icv8]
  refine ⟨?_, ?_, ?_⟩
  · show bt _ ((0 : Nat) : Int) = _; rw [h0]; omega
  · show bt _ ((1 : Nat) : Int) = _; rw [h1]; omega
  · show bt _ ((2 : Nat) : Int) = _; rw [h2]; omega
theorem tn (x : Int) : (((x % 256).toNat % 256 : Nat) : Int) = x % 256 := by omega
theorem dstep {y w : Int} (h0 : 0 ≤ y) (h1 : y < 256) : (y + 256 * w) % 256 = y ∧ (y + 256 * w) / 256 = w := by omega
theorem digits8 {x y0 y1 y2 y3 y4 y5 y6 y7 : Int} (hx : x = y0 + y1 * 256 + y2 * 65536 + y3 * 16777216 + y4 * 4294967296 + y5 * 1099511627776 + y6 * 281474976710656 + y7 * 72057594037927936)
    (r0 : 0 ≤ y0 ∧ y0 < 256) (r1 : 0 ≤ y1 ∧ y1 < 256) (r2 : 0 ≤ y2 ∧ y2 < 256) (r3 : 0 ≤ y3 ∧ y3 < 256) (r4 : 0 ≤ y4 ∧ y4 < 256) (r5 : 0 ≤ y5 ∧ y5 < 256) (r6 : 0 ≤ y6 ∧ y6 < 256) (r7 : 0 ≤ y7 ∧ y7 < 256) :
    x % 256 = y0 ∧ x / 256 % 256 = y1 ∧ x / 65536 % 256 = y2 ∧ x / 16777216 % 256 = y3 ∧ x / 4294967296 % 256 = y4 ∧ x / 1099511627776 % 256 = y5 ∧ x / 281474976710656 % 256 = y6 ∧ x / 72057594037927936 % 256 = y7 := by
  have hx' : x = y0 + 256 * (y1 + 256 * (y2 + 256 * (y3 + 256 * (y4 + 256 * (y5 + 256 * (y6 + 256 * y7)))))) := by omega
  have e2 : x / 65536 = x / 256 / 256 := by clear hx hx'; omega
  have e3 : x / 16777216 = x / 256 / 256 / 256 := by clear hx hx' e2; omega
  have e4 : x / 4294967296 = x / 256 / 256 / 256 / 256 := by clear hx hx' e2 e3; omega
  have e5 : x / 1099511627776 = x / 256 / 256 / 256 / 256 / 256 := by clear hx hx' e2 e3 e4; omega
  have e6 : x / 281474976710656 = x / 256 / 256 / 256 / 256 / 256 / 256 := by clear hx hx' e2 e3 e4 e5; omega
  have e7 : x / 72057594037927936 = x / 256 / 256 / 256 / 256 / 256 / 256 / 256 := by clear hx hx' e2 e3 e4 e5 e6; omega
  have s6 := dstep (w := y7) r6.1 r6.2
  have s5 := dstep (w := y6 + 256 * y7) r5.1 r5.2
  have s4 := dstep (w := y5 + 256 * (y6 + 256 * y7)) r4.1 r4.2
  have s3 := dstep (w := y4 + 256 * (y5 + 256 * (y6 + 256 * y7))) r3.1 r3.2
  have s2 := dstep (w := y3 + 256 * (y4 + 256 * (y5 + 256 * (y6 + 256 * y7)))) r2.1 r2.2
  have s1 := dstep (w := y2 + 256 * (y3 + 256 * (y4 + 256 * (y5 + 256 * (y6 + 256 * y7))))) r1.1 r1.2
  have s0 := dstep (w := y1 + 256 * (y2 + 256 * (y3 + 256 * (y4 + 256 * (y5 + 256 * (y6 + 256 * y7)))))) r0.1 r0.2
  rw [e2, e3, e4, e5, e6, e7, hx', s0.2, s1.2, s2.2, s3.2, s4.2, s5.2, s6.2]
  exact ⟨s0.1, s1.1, s2.1, s3.1, s4.1, s5.1, s6.1, by obtain ⟨a, b⟩ := r7; clear s0 s1 s2 s3 s4 s5 s6 hx hx' e2 e3 e4 e5 e6 e7 r0 r1 r2 r3 r4 r5 r6; omega⟩
theorem bt8 (r : Int) : bt (strOfNums (lb8 r)) 0 = r % 256 ∧ bt (strOfNums (lb8 r)) 1 = r / 256 % 256 ∧ bt (strOfNums (lb8 r)) 2 = r / 65536 % 256 ∧ bt (strOfNums (lb8 r)) 3 = r / 16777216 % 256 ∧
    bt (strOfNums (lb8 r)) 4 = r / 4294967296 % 256 ∧ bt (strOfNums (lb8 r)) 5 = r / 1099511627776 % 256 ∧ bt (strOfNums (lb8 r)) 6 = r / 281474976710656 % 256 ∧ bt (strOfNums (lb8 r)) 7 = r / 72057594037927936 % 256 := by
  obtain ⟨e0, e1, e2, e3, e4, e5, e6, e7⟩ := lbs r
  have h0 := bt_str (l := lb8 r) (i := 0) (by simp [lb8])
  have h1 := bt_str (l := lb8 r) (i := 1) (by simp [lb8])
  have h2 := bt_str (l := lb8 r) (i := 2) (by simp [lb8])
  have h3 := bt_str (l := lb8 r) (i := 3) (by simp [lb8])
  have h4 := bt_str (l := lb8 r) (i := 4) (by simp [lb8])
  have h5 := bt_str (l := lb8 r) (i := 5) (by simp [lb8])
  have h6 := bt_str (l := lb8 r) (i := 6) (by simp [lb8])
  have h7 := bt_str (l := lb8 r) (i := 7) (by simp [lb8])
  simp only [lb8, List.getElem_cons_zero, List.getElem_cons_succ, e0, e1, e2, e3, e4, e5, e6, e7] at h0 h1 h2 h3 h4 h5 h6 h7
  simp only [lb8, e0, e1, e2, e3, e4, e5, e6, e7]
  refine ⟨?_, ?_, ?_, ?_, ?_, ?_, ?_, ?_⟩
  · show bt _ ((0 : Nat) : Int) = _; rw [h0, tn]
  · show bt _ ((1 : Nat) : Int) = _; rw [h1, tn]
  · show bt _ ((2 : Nat) : Int) = _; rw [h2, tn]
  · show bt _ ((3 : Nat) : Int) = _; rw [h3, tn]
  · show bt _ ((4 : Nat) : Int) = _; rw [h4, tn]
  · show bt _ ((5 : Nat) : Int) = _; rw [h5, tn]
  · show bt _ ((6 : Nat) : Int) = _; rw [h6, tn]
  · show bt _ ((7 : Nat) : Int) = _; rw [h7, tn]

theorem may_iff {a b c r : Int} {d : ByteArray} : may a b c r d = true ↔ (1 ≤ a ∧ a < 10) ∧ (1 ≤ b ∧ b < 10) ∧ (1 ≤ c ∧ c ≤ 6) ∧ d.size ≤ 16384 := by
  rw [← may15, ← adr_iff, ← adr_iff]
  have hd : ile (ssz d) 16384 = true ↔ d.size ≤ 16384 := by rw [ile_t]; unfold ssz; omega
  rw [← hd, ← ile_t, ← ile_t]
  cases adr a <;> cases adr b <;> cases ile 1 c <;> cases ile c 6 <;> simp [sel]

/-- The bytes of a frame that may be, read. -/
theorem enc_bytes {a b c r : Int} {d : ByteArray} (h : may a b c r d = true) : ∃ e, encS a b c r d = e ∧ e.size = 11 + d.size ∧ bt e 0 = a ∧ bt e 1 = b ∧ bt e 2 = c ∧
    bt e 3 = r % 256 ∧ bt e 4 = r / 256 % 256 ∧ bt e 5 = r / 65536 % 256 ∧ bt e 6 = r / 16777216 % 256 ∧ bt e 7 = r / 4294967296 % 256 ∧ bt e 8 = r / 1099511627776 % 256 ∧ bt e 9 = r / 281474976710656 % 256 ∧ bt e 10 = r / 72057594037927936 % 256 ∧
    ∀ i : Nat, i < d.size → bt e ((11 + i : Nat) : Int) = bt d i := by
  obtain ⟨⟨a0, a1⟩, ⟨b0, b1⟩, ⟨c0, c1⟩, hd⟩ := may_iff.1 h
  have hs := head_size a b c r
  refine ⟨_, by unfold encS; rw [h], ?_, ?_⟩
  · show (sapp (sapp _ _) d).size = _
    rw [size_app, hs]
  · have lo : ∀ i : Nat, i < 11 → bt (sapp (sapp (strOfNums [icv .u8 a, icv .u8 b, icv .u8 c]) (strOfNums (lb8 r))) d) i = bt (sapp (strOfNums [icv .u8 a, icv .u8 b, icv .u8 c]) (strOfNums (lb8 r))) i :=
      fun i hi => bt_app_l (by rw [hs]; exact hi)
    obtain ⟨x0, x1, x2⟩ := bt3 a b c
    obtain ⟨y0, y1, y2, y3, y4, y5, y6, y7⟩ := bt8 r
    refine ⟨?_, ?_, ?_, ?_, ?_, ?_, ?_, ?_, ?_, ?_, ?_, fun i hi => ?_⟩
    · exact ((lo 0 (by omega)).trans (head_lo (by omega))).trans (x0.trans (by omega))
    · exact ((lo 1 (by omega)).trans (head_lo (by omega))).trans (x1.trans (by omega))
    · exact ((lo 2 (by omega)).trans (head_lo (by omega))).trans (x2.trans (by omega))
    · exact ((lo 3 (by omega)).trans (head_hi (i := 0) (by omega))).trans y0
    · exact ((lo 4 (by omega)).trans (head_hi (i := 1) (by omega))).trans y1
    · exact ((lo 5 (by omega)).trans (head_hi (i := 2) (by omega))).trans y2
    · exact ((lo 6 (by omega)).trans (head_hi (i := 3) (by omega))).trans y3
    · exact ((lo 7 (by omega)).trans (head_hi (i := 4) (by omega))).trans y4
    · exact ((lo 8 (by omega)).trans (head_hi (i := 5) (by omega))).trans y5
    · exact ((lo 9 (by omega)).trans (head_hi (i := 6) (by omega))).trans y6
    · exact ((lo 10 (by omega)).trans (head_hi (i := 7) (by omega))).trans y7
    · have := bt_app_r (a := sapp (strOfNums [icv .u8 a, icv .u8 b, icv .u8 c]) (strOfNums (lb8 r))) (b := d) (i := i) hi
      rw [hs] at this
      exact this

theorem icvb {s : ByteArray} {i : Int} : icv .i64 (bt s i) = bt s i := by
  have := @bt_range s i
  exact icv64 (by omega) (by omega)

/-- What a frame that may be is, read out of its bytes. -/
theorem dec_enc {a b c r : Int} {d : ByteArray} (h : may a b c r d = true) (r0 : 0 ≤ r) (r1 : r < 18446744073709551616) :
    dOk (encS a b c r d) = true ∧ dA (encS a b c r d) = a ∧ dB (encS a b c r d) = b ∧ dC (encS a b c r d) = c ∧ dR (encS a b c r d) = r ∧ dD (encS a b c r d) = d ∧ dE (encS a b c r d) = 0 := by
  obtain ⟨e, he, hs, b0, b1, b2, b3, b4, b5, b6, b7, b8, b9, b10, bd⟩ := enc_bytes h
  rw [he]
  have hr : rAt e 8 = r := by
    rw [rAt_sum, b3, b4, b5, b6, b7, b8, b9, b10]; omega
  have hd : scut e 11 e.size = d := by
    apply ba_ext
    · rw [size_cut (by omega) (Nat.le_refl _)]; omega
    · intro i hi
      rw [size_cut (by omega) (Nat.le_refl _)] at hi
      rw [bt_cut (Nat.le_refl _) (by omega)]
      exact bd i (by omega)
  have hl : ilt (ssz e) 11 = false := ilt_f.2 (by unfold ssz; omega)
  have hok : dOk e = true := by
    unfold dOk
    rw [hl, icvb, icvb, icvb, b0, b1, b2, hr, hd]
    exact h
  unfold dA dB dC dR dD dE
  rw [hok, icvb, icvb, icvb, b0, b1, b2, hr, hd]
  exact ⟨rfl, rfl, rfl, rfl, rfl, rfl, rfl⟩

/-- Bytes that are a frame are that frame's bytes. -/
theorem dok_parts {s : ByteArray} (h : dOk s = true) : 11 ≤ s.size ∧ may (dA s) (dB s) (dC s) (dR s) (dD s) = true ∧ dA s = bt s 0 ∧ dB s = bt s 1 ∧ dC s = bt s 2 ∧ dR s = rAt s 8 ∧ dD s = scut s 11 s.size ∧ dE s = 0 := by
  have h1 := h
  unfold dOk at h1
  cases hl : ilt (ssz s) 11 with
  | true => rw [hl] at h1; cases h1
  | false =>
    rw [hl] at h1
    unfold dA dB dC dR dD dE
    rw [h]
    refine ⟨by have := ilt_f.1 hl; unfold ssz at this; omega, h1, icvb, icvb, icvb, rfl, rfl, rfl⟩
theorem dok_no {s : ByteArray} (h : dOk s = false) : dA s = 0 ∧ dB s = 0 ∧ dC s = 0 ∧ dR s = 0 ∧ dD s = ⟨#[]⟩ ∧ dE s = 5 := by
  unfold dA dB dC dR dD dE
  rw [h]
  exact ⟨rfl, rfl, rfl, rfl, rfl, rfl⟩
theorem enc_dec {s : ByteArray} (h : dOk s = true) : encS (dA s) (dB s) (dC s) (dR s) (dD s) = s := by
  obtain ⟨hl, hm, ea, eb, ec, er, ed, _⟩ := dok_parts h
  obtain ⟨e, he, hs, b0, b1, b2, b3, b4, b5, b6, b7, b8, b9, b10, bd⟩ := enc_bytes hm
  rw [he]
  have r3 := @bt_range s 3; have r4 := @bt_range s 4; have r5 := @bt_range s 5; have r6 := @bt_range s 6
  have r7 := @bt_range s 7; have r8 := @bt_range s 8; have r9 := @bt_range s 9; have r10 := @bt_range s 10
  have hdz : (dD s).size = s.size - 11 := by rw [ed, size_cut hl (Nat.le_refl _)]
  have hr := rAt_sum s
  rw [← er] at hr
  obtain ⟨g3, g4, g5, g6, g7, g8, g9, g10⟩ := digits8 hr r3 r4 r5 r6 r7 r8 r9 r10
  apply ba_ext (by omega)
  intro i hi
  rcases Nat.lt_or_ge i 11 with h11 | h11
  · have : i = 0 ∨ i = 1 ∨ i = 2 ∨ i = 3 ∨ i = 4 ∨ i = 5 ∨ i = 6 ∨ i = 7 ∨ i = 8 ∨ i = 9 ∨ i = 10 := by omega
    rcases this with rfl | rfl | rfl | rfl | rfl | rfl | rfl | rfl | rfl | rfl | rfl
    · exact b0.trans ea
    · exact b1.trans eb
    · exact b2.trans ec
    · exact b3.trans g3
    · exact b4.trans g4
    · exact b5.trans g5
    · exact b6.trans g6
    · exact b7.trans g7
    · exact b8.trans g8
    · exact b9.trans g9
    · exact b10.trans g10
  · obtain ⟨j, rfl⟩ : ∃ j, i = 11 + j := ⟨i - 11, by omega⟩
    rw [bd j (by omega), ed, bt_cut (Nat.le_refl _) (by omega)]
theorem enc_no {a b c r : Int} {d : ByteArray} (h : may a b c r d = false) : encS a b c r d = ⟨#[]⟩ ∧ encE a b c r d = 5 := by
  unfold encS encE; rw [h]; exact ⟨rfl, rfl⟩
theorem enc_yes {a b c r : Int} {d : ByteArray} (h : may a b c r d = true) : encE a b c r d = 0 := by
  unfold encE; rw [h]; rfl
end Go.Proofs.Ytcolcoapgodfcaa
