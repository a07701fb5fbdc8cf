/- The walk of TriggerLate. No condition. -/
import Derived.Test.YthplenfbeknlhaaEarly
namespace Go.Proofs.Ythplenfbeknlhaa
open Go.RowKit

/-- A machine with a Late of N behind passing and k values told one by one. -/
def late (N k : Nat) : MS := ⟨⟨0, N, 5, false⟩, 1 + k / N, if k / N = 0 then 1 else 2, ((k % N : Nat) : Int), true, false⟩
theorem late_inv (N k : Nat) : (late N k).Inv := by
  refine ⟨?_, ?_, ?_, ?_, ?_⟩
  · simp only [late]; split <;> omega
  · simp [late]
  · simp only [late]; split <;> omega
  · simp only [late]; split <;> omega
  · simp only [late]; omega

theorem mod_hit {N k : Nat} (hN : 1 ≤ N) (h : (k + 1) % N = 0) : k % N + 1 = N ∧ (k + 1) / N = k / N + 1 := by
  have hlt := Nat.mod_lt k hN
  have h1 : k % N + 1 = N := by
    by_cases hlt' : k % N + 1 < N
    · rw [Nat.add_mod, Nat.mod_eq_of_lt (show 1 < N by omega), Nat.mod_eq_of_lt hlt'] at h
      omega
    · omega
  refine ⟨h1, ?_⟩
  have := Nat.div_add_mod k N
  rw [show k + 1 = N * (k / N + 1) by rw [Nat.mul_add]; omega]
  exact Nat.mul_div_cancel_left _ hN
theorem mod_miss {N k : Nat} (hN : 1 ≤ N) (h : (k + 1) % N ≠ 0) : k % N + 1 < N ∧ (k + 1) / N = k / N ∧ (k + 1) % N = k % N + 1 := by
  have hlt := Nat.mod_lt k hN
  have hd := Nat.div_add_mod k N
  have h1 : k % N + 1 < N := by
    by_cases hlt' : k % N + 1 < N
    · exact hlt'
    · exfalso
      apply h
      rw [show k + 1 = N * (k / N + 1) by rw [Nat.mul_add]; omega]
      exact Nat.mul_mod_right _ _
  refine ⟨h1, ?_, ?_⟩
  · rw [show k + 1 = (k % N + 1) + N * (k / N) by omega, Nat.add_mul_div_left _ _ hN, Nat.div_eq_of_lt h1]
    omega
  · rw [show k + 1 = (k % N + 1) + N * (k / N) by omega, Nat.add_mul_mod_self_left, Nat.mod_eq_of_lt h1]

theorem late_hit (N k : Nat) (hN : 1 ≤ N) (h : (k + 1) % N = 0) : ∃ q, (late N k).add 1 = (late N (k + 1), [q], 0) := by
  obtain ⟨h1, h2⟩ := mod_hit hN h
  refine ⟨⟨((1 + k / N : Nat) : Int), 2, false⟩, ?_⟩
  unfold MS.add
  rw [if_pos (by omega)]
  have e1 : (late N k).closed = false := rfl
  have e2 : (late N k).lim = N := rfl
  rw [e1, e2, if_neg (by simp), if_neg (by simp only [late]; omega)]
  simp [MS.fire, MS.plus, MS.tim, late, stageOf, h, h2]
  omega

theorem late_miss (N k : Nat) (hN : 1 ≤ N) (h : (k + 1) % N ≠ 0) : (late N k).add 1 = (late N (k + 1), [], 0) := by
  obtain ⟨h1, h2, h3⟩ := mod_miss hN h
  unfold MS.add
  rw [if_pos (by omega)]
  have e1 : (late N k).closed = false := rfl
  have e2 : (late N k).lim = N := rfl
  rw [e1, e2, if_neg (by simp), if_pos (by simp only [late]; omega)]
  simp [MS.plus, late, h2, h3]

theorem late_start (N : Nat) (a : Int) (ha : 1 ≤ a ∧ a ≤ 1000) :
    (MS.new ⟨0, N, 5, false⟩).add a = ((MS.new ⟨0, N, 5, false⟩).plus a, [], 0) ∧ ((MS.new ⟨0, N, 5, false⟩).plus a).Inv ∧
      ((MS.new ⟨0, N, 5, false⟩).plus a).pass = (late N 0, [⟨0, 1, false⟩], 0) := by
  refine ⟨?_, ?_, ?_⟩
  · unfold MS.add
    rw [if_pos ha]
    simp [MS.new, MS.plus, MS.lim]
  · refine ⟨?_, ?_, ?_, ?_, ?_⟩ <;> simp [MS.new, MS.plus]
    omega
  · simp [MS.pass, MS.new, MS.plus, MS.fire, late, stageOf]

def lateEnd (N k : Nat) : MS := ⟨⟨0, N, 5, false⟩, 1 + k / N + 1, 3, 0, true, true⟩
theorem lateEnd_inv (N k : Nat) : (lateEnd N k).Inv := ⟨by simp [lateEnd], by simp [lateEnd], by simp [lateEnd], by simp [lateEnd], by simp [lateEnd]⟩
theorem late_close (N k : Nat) (hz : k % N ≠ 0) : (late N k).close = (lateEnd N k, [⟨1 + (k : Int) / (N : Int), 2, true⟩], 0) := by
  have hz' : (late N k).fresh ≠ 0 := by simp only [late]; omega
  have e1 : (late N k).passed = true := rfl
  have e2 : (late N k).closed = false := rfl
  unfold MS.close
  rw [e1, e2, if_pos rfl, if_neg (by simp), if_neg hz']
  simp [MS.fire, late, stageOf, lateEnd]

set_option maxHeartbeats 2000000 in
theorem late_calls (n ahead values : Int) (w : World) :
    Calls Try.prog 9 #[.int .i64 n, .int .i64 ahead, .int .i64 values] w fun e w' => e = .returned (.bool true) ∧ Fr No w w' := by
  by_cases hout : n < 1 ∨ n > 1000 ∨ values < 0 ∨ values > 3000 ∨ ahead < 1 ∨ ahead > 1000
  · have hc : (decide (n < 1) = true) ∨ (decide (n < 1) = false ∧ decide (1000 < n) = true) ∨ (decide (n < 1) = false ∧ decide (1000 < n) = false ∧ decide (values < 0) = true) ∨ (decide (n < 1) = false ∧ decide (1000 < n) = false ∧ decide (values < 0) = false ∧ decide (3000 < values) = true) ∨
        (decide (n < 1) = false ∧ decide (1000 < n) = false ∧ decide (values < 0) = false ∧ decide (3000 < values) = false ∧ decide (ahead < 1) = true) ∨ (decide (n < 1) = false ∧ decide (1000 < n) = false ∧ decide (values < 0) = false ∧ decide (3000 < values) = false ∧ decide (ahead < 1) = false ∧ decide (1000 < ahead) = true) := by
      simp; omega
    clear hout
    rcases hc with h1 | ⟨h1, h2⟩ | ⟨h1, h2, h3⟩ | ⟨h1, h2, h3, h4⟩ | ⟨h1, h2, h3, h4, h5⟩ | ⟨h1, h2, h3, h4, h5, h6⟩
    all_goals
      go_enter Try.func9, Try.ntmps9
      go_wp2_with fail
      refine (awake10_calls _).mono ?_
      rintro e w2 ⟨rfl, h2⟩
      go_wp2_with fail
      go_ret
      exact ⟨rfl, h2⟩
  obtain ⟨N, rfl⟩ : ∃ N : Nat, n = N := ⟨n.toNat, by omega⟩
  obtain ⟨V, rfl⟩ : ∃ V : Nat, values = V := ⟨values.toNat, by omega⟩
  have hN : 1 ≤ N := by omega
  have hN' : N ≤ 1000 := by omega
  have hV : V ≤ 3000 := by omega
  have hok := Lib.hid (show Sp.ok ⟨0, N, 5, false⟩ = true by simp [Sp.ok]; omega)
  have t1 : decide ((N : Int) < 1) = false := by simp; omega
  have t2 : decide ((1000 : Int) < (N : Int)) = false := by simp; omega
  have t3 : decide ((V : Int) < 0) = false := by simp
  have t4 : decide ((3000 : Int) < (V : Int)) = false := by simp; omega
  have t5 : decide (ahead < 1) = false := by simp; omega
  have t6 : decide (1000 < ahead) = false := by simp; omega
  obtain ⟨s1, s2, s3⟩ := late_start N ahead (by omega)
  have S1 := Lib.hid s1
  have S2 := Lib.hid s2
  have S3 := Lib.hid s3
  have hah : 1 ≤ ahead ∧ ahead ≤ 1000 := by omega
  have HAH := Lib.hid hah
  clear hout s1 s2 s3 hah
  go_enter Try.func9, Try.ntmps9
  go_wp2_with fail
  refine (new21_yes ⟨0, N, 5, false⟩ _ hok.out).mono ?_
  rintro e w1 ⟨g, b, rfl, hg, hb, hm, h1⟩
  go_wp2_with fail
  refine (add_calls g b _ ahead _ hm (MS.new_inv _) (by show 0 < _; omega) (by show (0 : Int) ≤ _; omega)).mono ?_
  rintro e w2 ⟨v, rfl, ⟨p, rfl, -⟩, hm2, h2⟩
  rw [S1.out] at hm2 ⊢
  have F2 : Fr No w w2 := h1.trans h2 (fun k hk e => by rcases e with e | e <;> omega)
  clear hm h1 h2
  go_wp2_with fail
  refine (pass_calls g b _ _ hm2 S2.out (by show 0 < _; omega)).mono ?_
  rintro e w3 ⟨v, rfl, ⟨p, rfl, ho⟩, hm3, h3⟩
  rw [S3.out] at hm3 ho ⊢
  have F3 : Fr No w w3 := F2.trans h3 (fun k hk e => by rcases e with e | e <;> omega)
  obtain ⟨ad, c, rfl, x0, x1, x2⟩ := ho.single
  simp only at x0 x1 x2
  clear hm2 h3 ho F2
  go_wp2_with fail
  clear x0 x1 x2
  go_loopw [75] (fun v75 wr => ∃ (k : Nat), k ≤ V ∧ v75 = .int .i64 k ∧ Mac wr g b (late N k) ∧ Fr No w wr) (fun i _ => V - (intOf i).toNat)
  case atStart => exact ⟨0, Nat.zero_le _, rfl, hm3, F3⟩
  case round =>
    obtain ⟨k, hk, rfl, hmk, hf⟩ := hrel
    have hmod := Nat.mod_lt k hN
    have hdiv := Nat.div_le_self k N
    have HD := Lib.hid (And.intro hmod hdiv)
    clear hmod hdiv
    by_cases hlt : k < V
    · by_cases hh : (k + 1) % N = 0
      · obtain ⟨q, ha⟩ := late_hit N k hN hh
        have HA := Lib.hid ha
        have hr0 : (((k : Int) + 1) % (N : Int) == 0) = true := by
          have : (((k + 1) % N : Nat) : Int) = 0 := by rw [hh]; rfl
          rw [Int.natCast_emod] at this
          simpa using this
        clear ha hh
        go_wp2_with fail
        refine (add_calls g b _ 1 _ hmk (late_inv N k) (by have := HD.out; show 1 + k / N < _; omega) (by have := HD.out; show ((k % N : Nat) : Int) ≤ _; omega)).mono ?_
        rintro e w2 ⟨v, rfl, ⟨p, rfl, ho⟩, hm2, h2⟩
        rw [HA.out] at ho hm2 ⊢
        obtain ⟨ad, c, rfl, -, -, -⟩ := ho.single
        have F2 : Fr No w w2 := hf.trans h2 (fun k hk e => by rcases e with e | e <;> omega)
        clear ho
        go_wp2
        go_roundw
        case rel => exact ⟨k + 1, by omega, by go_num, hm2, F2⟩
        case measure => simp [intOf]; omega
      · have ha := late_miss N k hN hh
        have HA := Lib.hid ha
        have hr0 : (((k : Int) + 1) % (N : Int) == 0) = false := by
          have : (((k + 1) % N : Nat) : Int) ≠ 0 := by omega
          rw [Int.natCast_emod] at this
          simpa using this
        clear ha hh
        go_wp2_with fail
        refine (add_calls g b _ 1 _ hmk (late_inv N k) (by have := HD.out; show 1 + k / N < _; omega) (by have := HD.out; show ((k % N : Nat) : Int) ≤ _; omega)).mono ?_
        rintro e w2 ⟨v, rfl, ⟨p, rfl, ho⟩, hm2, h2⟩
        rw [HA.out] at ho hm2 ⊢
        obtain ⟨A, c, rfl, -⟩ := ho.empty
        have F2 : Fr No w w2 := hf.trans h2 (fun k hk e => by rcases e with e | e <;> omega)
        clear ho
        go_wp2
        go_roundw
        case rel => exact ⟨k + 1, by omega, by go_num, hm2, F2⟩
        case measure => simp [intOf]; omega
    · obtain rfl : k = V := by omega
      clear hlt
      have hadd : ∀ m : MS, m.closed = true → m.add 1 = (m, [], 200) := by
        intro m hm
        unfold MS.add
        rw [if_pos (by omega), hm]
        simp
      have HADD := Lib.hid hadd
      clear hadd
      by_cases hz : k % N = 0
      · have hcl := Lib.hid (show (late N k).close = ({ late N k with closed := true }, [], 0) by simp [MS.close, late, hz])
        have hr0 : ((k : Int) % (N : Int) != 0) = false := by
          have : ((k % N : Nat) : Int) = 0 := by rw [hz]; rfl
          rw [Int.natCast_emod] at this
          simpa using this
        clear hz
        go_wp2_with fail
        refine (close_calls g b _ _ hmk (late_inv N k) (by have := HD.out; show 1 + k / N < _; omega)).mono ?_
        rintro e w2 ⟨v, rfl, ⟨p, rfl, ho⟩, hm2, h2⟩
        rw [hcl.out] at ho hm2 ⊢
        obtain ⟨A, c, rfl, -⟩ := ho.empty
        have F2 : Fr No w w2 := hf.trans h2 (fun k hk e => by rcases e with e | e <;> omega)
        clear ho
        go_wp2_with fail
        go_quiet (fail)
        go_wp2_with fail
        have hm3 := hm2.no ((Fr.refl No w2).drewN nq)
        refine (add_calls g b _ 1 _ hm3 ⟨(late_inv N k).rng, (fun h => by cases h), (late_inv N k).old, (fun h => by cases h), (late_inv N k).pos⟩ (by have := HD.out; show 1 + k / N < _; omega) (by have := HD.out; show ((k % N : Nat) : Int) ≤ _; omega)).mono ?_
        rintro e w4 ⟨v, rfl, ⟨p, rfl, -⟩, -, h4⟩
        rw [HADD.out _ rfl]
        have F4 : Fr No w w4 := (F2.drewN nq).trans h4 (fun k hk e => by rcases e with e | e <;> omega)
        clear h4 hm3 hm2
        go_wp2_with fail
        refine (awake10_calls _).mono ?_
        rintro e w5 ⟨rfl, h5⟩
        go_wp2_with fail
        go_ret
        exact ⟨rfl, F4.no h5⟩
      · have hcl := Lib.hid (late_close N k hz)
        have hr0 : ((k : Int) % (N : Int) != 0) = true := by
          have : ((k % N : Nat) : Int) ≠ 0 := by omega
          rw [Int.natCast_emod] at this
          simpa using this
        have hkn : 0 ≤ (k : Int) / (N : Int) ∧ (k : Int) / (N : Int) ≤ 3000 := by
          have h1 : 0 ≤ (k : Int) / (N : Int) := Int.ediv_nonneg (by omega) (by omega)
          have h2 : (k : Int) / (N : Int) ≤ k := Int.ediv_le_self _ (by omega)
          omega
        have hwq : IntKind.i64.wrap ((k : Int) / (N : Int)) = (k : Int) / (N : Int) := IntWalk.i64_in _ (by omega)
        have hws : IntKind.i64.wrap (1 + (k : Int) / (N : Int)) = 1 + (k : Int) / (N : Int) := IntWalk.i64_in _ (by omega)
        have HWQ := Lib.hid hwq
        have HWS := Lib.hid hws
        obtain ⟨hkn1, hkn2⟩ := hkn
        clear hz hwq hws
        go_wp2_with fail
        refine (close_calls g b _ _ hmk (late_inv N k) (by have := HD.out; show 1 + k / N < _; omega)).mono ?_
        rintro e w2 ⟨v, rfl, ⟨p, rfl, ho⟩, hm2, h2⟩
        rw [hcl.out] at ho hm2 ⊢
        obtain ⟨ad, c, rfl, x0, x1, x2⟩ := ho.single
        simp only at x0 x1 x2
        have F2 : Fr No w w2 := hf.trans h2 (fun k hk e => by rcases e with e | e <;> omega)
        clear ho
        go_wp2_with fail
        have hwq := HWQ.out
        have hws := HWS.out
        go_quiet (fail)
        go_wp2_with fail
        have hm3 := hm2.no ((Fr.refl No w2).drewN nq)
        refine (add_calls g b _ 1 _ hm3 (lateEnd_inv N k) (by have := HD.out; show 1 + k / N + 1 < _; omega) (by show (0 : Int) ≤ _; omega)).mono ?_
        rintro e w4 ⟨v, rfl, ⟨p, rfl, -⟩, -, h4⟩
        rw [HADD.out _ rfl]
        have F4 : Fr No w w4 := (F2.drewN nq).trans h4 (fun k hk e => by rcases e with e | e <;> omega)
        clear h4 hm3 hm2 hwq hws x0 x1 x2
        go_wp2_with fail
        refine (awake10_calls _).mono ?_
        rintro e w5 ⟨rfl, h5⟩
        go_wp2_with fail
        go_ret
        exact ⟨rfl, F4.no h5⟩
end Go.Proofs.Ythplenfbeknlhaa
