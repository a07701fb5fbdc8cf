/- The walk of TriggerEarly. No condition. -/
import Derived.Test.YthplenfbeknlhaaTrig2
namespace Go.Proofs.Ythplenfbeknlhaa
open Go.RowKit

/-- A machine with an Early of N behind k values told one by one. -/
def early (N k : Nat) : MS := ⟨⟨N, 0, 0, false⟩, k / N, 0, ((k % N : Nat) : Int), false, false⟩
theorem early_inv (N k : Nat) : (early N k).Inv := ⟨by simp [early], by simp [early], by simp [early], by simp [early], by simp [early]; omega⟩
theorem early_zero (N : Nat) : early N 0 = MS.new ⟨N, 0, 0, false⟩ := by simp [early, MS.new]

theorem early_hit (N k : Nat) (hN : 1 ≤ N) (h : (k + 1) % N = 0) : (early N k).add 1 = (early N (k + 1), [⟨((k / N : Nat) : Int), 0, false⟩], 0) := by
  have hlt := Nat.mod_lt k hN
  have h1 : k % N + 1 = N := by
    have := Nat.add_mod k 1 N
    by_cases hlt' : k % N + 1 < N
    · rw [Nat.add_mod, Nat.mod_eq_of_lt (show 1 < N by omega), Nat.mod_eq_of_lt hlt'] at h
      omega
    · omega
  have h2 : (k + 1) / N = k / N + 1 := by
    have := Nat.div_add_mod k N
    rw [show k + 1 = N * (k / N + 1) by rw [Nat.mul_add]; omega]
    exact Nat.mul_div_cancel_left _ hN
  unfold MS.add
  rw [if_pos (by omega)]
  have e1 : (early N k).closed = false := rfl
  have e2 : (early N k).lim = N := rfl
  rw [e1, e2, if_neg (by simp), if_neg (by simp only [early]; omega)]
  simp [MS.fire, MS.plus, MS.tim, early, stageOf, h, h2]

theorem early_miss (N k : Nat) (hN : 1 ≤ N) (h : (k + 1) % N ≠ 0) : (early N k).add 1 = (early N (k + 1), [], 0) := by
  have hlt := Nat.mod_lt k hN
  have h1 : k % N + 1 < N := by
    by_cases hlt' : k % N + 1 < N
    · exact hlt'
    · exfalso
      apply h
      have := Nat.div_add_mod k N
      rw [show k + 1 = N * (k / N + 1) by rw [Nat.mul_add]; omega]
      exact Nat.mul_mod_right _ _
  have h2 : (k + 1) / N = k / N := by
    have := Nat.div_add_mod k N
    rw [show k + 1 = (k % N + 1) + N * (k / N) by omega, Nat.add_mul_div_left _ _ hN, Nat.div_eq_of_lt h1]
    omega
  have h3 : (k + 1) % N = k % N + 1 := by
    have := Nat.div_add_mod k N
    rw [show k + 1 = (k % N + 1) + N * (k / N) by omega, Nat.add_mul_mod_self_left, Nat.mod_eq_of_lt h1]
  unfold MS.add
  rw [if_pos (by omega)]
  have e1 : (early N k).closed = false := rfl
  have e2 : (early N k).lim = N := rfl
  rw [e1, e2, if_neg (by simp), if_pos (by simp only [early]; omega)]
  simp [MS.plus, early, h2, h3]

set_option maxHeartbeats 2000000 in
theorem early_calls (n values : Int) (w : World) :
    Calls Try.prog 7 #[.int .i64 n, .int .i64 values] w fun e w' => e = .returned (.bool true) ∧ Fr No w w' := by
  by_cases hout : n < 1 ∨ n > 1000 ∨ values < 0 ∨ values > 3000
  · have hc : (decide (n < 1) = true) ∨ (decide (n < 1) = false ∧ decide (1000 < n) = true) ∨ (decide (n < 1) = false ∧ decide (1000 < n) = false ∧ decide (values < 0) = true) ∨ (decide (n < 1) = false ∧ decide (1000 < n) = false ∧ decide (values < 0) = false ∧ decide (3000 < values) = true) := by
      simp; omega
    clear hout
    rcases hc with h1 | ⟨h1, h2⟩ | ⟨h1, h2, h3⟩ | ⟨h1, h2, h3, h4⟩
    all_goals
      go_enter Try.func7, Try.ntmps7
      go_wp2_with fail
      refine (awake10_calls _).mono ?_
      rintro e w2 ⟨rfl, h2⟩
      go_wp2_with fail
      go_ret
      exact ⟨rfl, h2⟩
  obtain ⟨N, rfl⟩ : ∃ N : Nat, n = N := ⟨n.toNat, by omega⟩
  obtain ⟨V, rfl⟩ : ∃ V : Nat, values = V := ⟨values.toNat, by omega⟩
  have hN : 1 ≤ N := by omega
  have hN' : N ≤ 1000 := by omega
  have hV : V ≤ 3000 := by omega
  have hok := Lib.hid (show Sp.ok ⟨N, 0, 0, false⟩ = true by simp [Sp.ok]; omega)
  have t1 : decide ((N : Int) < 1) = false := by simp; omega
  have t2 : decide ((1000 : Int) < (N : Int)) = false := by simp; omega
  have t3 : decide ((V : Int) < 0) = false := by simp
  have t4 : decide ((3000 : Int) < (V : Int)) = false := by simp; omega
  clear hout
  go_enter Try.func7, Try.ntmps7
  go_wp2_with fail
  refine (new21_yes ⟨N, 0, 0, false⟩ _ hok.out).mono ?_
  rintro e w1 ⟨g, b, rfl, hg, hb, hm, h1⟩
  rw [← early_zero] at hm
  go_wp2_with fail
  go_loopw [7, 41] (fun v7 v41 wr => ∃ (k q : Nat), k ≤ V ∧ v41 = .int .i64 k ∧ v7 = .int .i64 q ∧ q ≤ k ∧ Hid (q = k / N) ∧ Mac wr g b (early N k) ∧ Fr No w wr) (fun _ i _ => V - (intOf i).toNat)
  case atStart => exact ⟨0, 0, Nat.zero_le _, rfl, rfl, by omega, (Nat.zero_div N).symm, hm, h1⟩
  case round =>
    obtain ⟨k, q, hk, rfl, rfl, hqk, hq, hmk, hf⟩ := hrel
    have hmod := Nat.mod_lt k hN
    by_cases hlt : k < V
    · by_cases hh : (k + 1) % N = 0
      · have ha := early_hit N k hN hh
        have hq' := Lib.hid (show q + 1 = (k + 1) / N by
          have := congrArg (fun x => x.1.next) ha
          simp only [early, MS.add] at this
          have h2 := congrArg (fun x => x.1.next) (early_hit N k hN hh)
          have hlt := Nat.mod_lt k hN
          have h1 : k % N + 1 = N := by
            by_cases hlt' : k % N + 1 < N
            · rw [Nat.add_mod, Nat.mod_eq_of_lt (show 1 < N by omega), Nat.mod_eq_of_lt hlt'] at hh
              omega
            · omega
          have hd := Nat.div_add_mod k N
          rw [show k + 1 = N * (k / N + 1) by rw [Nat.mul_add]; omega, Nat.mul_div_cancel_left _ hN, hq.out])
        have HA := Lib.hid ha
        have hr0 : (((k : Int) + 1) % (N : Int) == 0) = true := by
          have : (((k + 1) % N : Nat) : Int) = 0 := by rw [hh]; rfl
          rw [Int.natCast_emod] at this
          simpa using this
        clear ha hh
        go_wp2_with fail
        refine (add_calls g b _ 1 _ hmk (early_inv N k) (by show k / N < _; rw [← hq.out]; omega) (by show ((k % N : Nat) : Int) ≤ _; omega)).mono ?_
        rintro e w2 ⟨v, rfl, ⟨p, rfl, ho⟩, hm2, h2⟩
        rw [HA.out] at ho hm2 ⊢
        obtain ⟨ad, c, rfl, -, -, -⟩ := ho.single
        have F2 : Fr No w w2 := hf.trans h2 (fun k hk e => by rcases e with e | e <;> omega)
        clear ho hmod
        go_wp2
        go_roundw
        case rel => exact ⟨k + 1, q + 1, by omega, by go_num, by go_num, by omega, hq', hm2, F2⟩
        case measure => simp [intOf]; omega
      · have ha := early_miss N k hN hh
        have hq' := Lib.hid (show q = (k + 1) / N by
          have h1 : k % N + 1 < N := by
            by_cases hlt' : k % N + 1 < N
            · exact hlt'
            · exfalso
              apply hh
              have := Nat.div_add_mod k N
              rw [show k + 1 = N * (k / N + 1) by rw [Nat.mul_add]; omega]
              exact Nat.mul_mod_right _ _
          have := Nat.div_add_mod k N
          rw [show k + 1 = (k % N + 1) + N * (k / N) by omega, Nat.add_mul_div_left _ _ hN, Nat.div_eq_of_lt h1, hq.out]
          omega)
        have HA := Lib.hid ha
        have hr0 : (((k : Int) + 1) % (N : Int) == 0) = false := by
          have : (((k + 1) % N : Nat) : Int) ≠ 0 := by omega
          rw [Int.natCast_emod] at this
          simpa using this
        clear ha hh
        go_wp2_with fail
        refine (add_calls g b _ 1 _ hmk (early_inv N k) (by show k / N < _; rw [← hq.out]; omega) (by show ((k % N : Nat) : Int) ≤ _; omega)).mono ?_
        rintro e w2 ⟨v, rfl, ⟨p, rfl, ho⟩, hm2, h2⟩
        rw [HA.out] at ho hm2 ⊢
        obtain ⟨A, c, rfl, -⟩ := ho.empty
        have F2 : Fr No w w2 := hf.trans h2 (fun k hk e => by rcases e with e | e <;> omega)
        clear ho hmod
        go_wp2
        go_roundw
        case rel => exact ⟨k + 1, q, by omega, by go_num, by go_num, by omega, hq', hm2, F2⟩
        case measure => simp [intOf]; omega
    · obtain rfl : k = V := by omega
      clear hlt hmod
      have hpass := Lib.hid (show (early N k).pass = (((early N k).pass).1, [⟨(k / N : Nat), 1, true⟩], 0) by simp [MS.pass, early])
      have hqd : ((q : Int) == wrap64 ((k : Int) / (N : Int))) = true := by
        rw [beq_iff_eq, ← Int.natCast_ediv, ← hq.out]
        unfold wrap64
        omega
      go_wp2_with fail
      refine (pass_calls g b _ _ hmk (early_inv N k) (by show k / N < _; rw [← hq.out]; omega)).mono ?_
      rintro e w2 ⟨v, rfl, ⟨p, rfl, ho⟩, -, h2⟩
      rw [hpass.out] at ho ⊢
      rw [← hq.out] at ho
      obtain ⟨ad, c, rfl, x0, x1, x2⟩ := ho.single
      simp only at x0 x1 x2
      have F2 : Fr No w w2 := hf.trans h2 (fun k hk e => by rcases e with e | e <;> omega)
      clear ho
      go_wp2_with fail
      refine (awake10_calls _).mono ?_
      rintro e w3 ⟨rfl, h3⟩
      go_wp2_with fail
      go_ret
      exact ⟨rfl, F2.no h3⟩
end Go.Proofs.Ythplenfbeknlhaa
