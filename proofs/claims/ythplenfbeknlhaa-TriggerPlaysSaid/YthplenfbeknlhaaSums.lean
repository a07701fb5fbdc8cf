/- The walk of TriggerSums. No condition. -/
import Derived.Test.YthplenfbeknlhaaTrig2
namespace Go.Proofs.Ythplenfbeknlhaa
open Go.RowKit

/-- A machine without an Early of which so many are fresh. -/
def sums (s : Sp) (S : Int) : MS := ⟨{ s with e := 0 }, 0, 0, S, false, false⟩
theorem sums_inv (s : Sp) (S : Int) (h : 0 ≤ S) : (sums s S).Inv := ⟨by simp [sums], by simp [sums], by simp [sums], by simp [sums], h⟩
theorem sums_add (s : Sp) (S n : Int) (h : 1 ≤ n ∧ n ≤ 1000) : (sums s S).add n = (sums s (S + n), [], 0) := by
  unfold MS.add
  rw [if_pos h]
  simp [sums, MS.lim, MS.plus]
theorem sums_pass (s : Sp) (S : Int) : (sums s S).pass = (((sums s S).pass).1, [⟨0, 1, decide (s.la = 0)⟩], 0) := by unfold MS.pass; rw [if_neg (by simp [sums])]; rfl

def ints (w : World) (A : Option Addr) (ns : List Int) : Prop := Rows w A 1 (ns.map fun n => [.int .i64 n])
theorem int_at {w : World} {A : Option Addr} {ns : List Int} (h : ints w A ns) (i : Nat) (hi : i < ns.length) : ∃ ad, A = some ad ∧ w.cell? (ad.add i) = some (.int .i64 ns[i]) := by
  obtain ⟨ad, hA, hc⟩ := h i [.int .i64 ns[i]] (by simp [hi])
  exact ⟨ad, hA, by have := hc 0 _ rfl; rw [add_add, Nat.mul_one, Nat.add_zero] at this; exact this⟩

theorem sums_v (s : Sp) (S : Int) : (sums s S).v = .agg #[.int .i64 0, .int .i64 0, .int .i64 S, .bool false, .bool false] := rfl
theorem field56 (a b c : Int) (x y : Bool) (w : World) : (Instr.field 56 (.agg #[.int .i64 a, .int .i64 b, .int .i64 c, .bool x, .bool y]) 2).run Try.prog w = .ok (.int .i64 c) w := by kernel_rfl

set_option maxHeartbeats 4000000 in
theorem sums_calls (s : Sp) (A : Option Addr) (n c : Nat) (ns : List Int) (w : World) (h : n ≤ 100 → ns.length = n ∧ ints w A ns) (hn : n ≤ 1000000000000000000) :
    Calls Try.prog 8 #[s.v, .slice A n c] w fun e w' => e = .returned (.bool true) ∧ Fr No w w' := by
  cases hok : ({ s with e := 0 } : Sp).ok
  · have HOK := Lib.hid hok
    clear hok
    obtain ⟨e, l, la, acc⟩ := s
    unfold Sp.v
    simp only
    go_enter Try.func8, Try.ntmps8
    go_wp2_with fail
    refine (new21_no ⟨0, l, la, acc⟩ _ HOK.out).mono ?_
    rintro e w1 ⟨rfl, h1⟩
    obtain ⟨x0, x1, x2, x3, xl⟩ := ((Blk.new w _ _).no h1).four
    go_wp2_with fail
    refine (new21_no ⟨0, l, la, acc⟩ _ HOK.out).mono ?_
    rintro e w2 ⟨rfl, h2⟩
    go_wp2_with fail
    refine (awake10_calls _).mono ?_
    rintro e w3 ⟨rfl, h3⟩
    go_wp2_with fail
    go_ret
    exact ⟨rfl, ((((Fr.refl _ _).alloc _).no h1).no h2).no h3⟩
  have HOK := Lib.hid hok
  clear hok
  obtain ⟨e, l, la, acc⟩ := s
  unfold Sp.v
  simp only
  by_cases h5 : n ≤ 100
  rotate_left
  · have h5' : (100 : Int) < (n : Int) := by omega
    go_enter Try.func8, Try.ntmps8
    go_wp2_with fail
    refine (new21_yes ⟨0, l, la, acc⟩ _ HOK.out).mono ?_
    rintro e w1 ⟨ga, ba, rfl, -, -, -, h1⟩
    obtain ⟨x0, x1, x2, x3, xl⟩ := ((Blk.new w _ _).no h1).four
    go_wp2_with fail
    refine (new21_yes ⟨0, l, la, acc⟩ _ HOK.out).mono ?_
    rintro e w2 ⟨gb, bb, rfl, -, -, -, h2⟩
    go_wp2_with fail
    refine (awake10_calls _).mono ?_
    rintro e w3 ⟨rfl, h3⟩
    go_wp2_with fail
    go_ret
    exact ⟨rfl, ((((Fr.refl _ _).alloc _).no h1).no h2).no h3⟩
  obtain ⟨rfl, hr⟩ := h h5
  have HR := Lib.hid hr
  clear h hr hn
  have h5' : ¬ (100 : Int) < (ns.length : Int) := by omega
  go_enter Try.func8, Try.ntmps8
  go_wp2_with fail
  refine (new21_yes ⟨0, l, la, acc⟩ _ HOK.out).mono ?_
  rintro e' w1 ⟨ga, ba, rfl, hga, hba, hma, h1⟩
  have hB1 := (Blk.new w _ _).no h1
  obtain ⟨x0, x1, x2, x3, xl⟩ := hB1.four
  go_wp2_with fail
  refine (new21_yes ⟨0, l, la, acc⟩ _ HOK.out).mono ?_
  rintro e' w2 ⟨gb, bb, rfl, hgb, hbb, hmb, h2⟩
  have hB2 := Lib.hid (hB1.no h2)
  have F2 := (((Fr.refl No w).alloc _).no h1).no h2
  have hga1 := hma.1.lt
  have hba1 := Blk.lt hma.2
  simp only [World.size_alloc] at hga hba
  have hA := Lib.hid (hma.no h2)
  have hBm := Lib.hid hmb
  have HNE := Lib.hid (show ga ≠ gb ∧ ga ≠ bb ∧ ba ≠ gb ∧ ba ≠ bb ∧ w.heap.size < ga ∧ w.heap.size < ba ∧ w.heap.size < gb ∧ w.heap.size < bb by omega)
  clear hB1 x0 x1 x2 x3 xl hma hmb h1 h2 hga hba hgb hbb hga1 hba1
  go_wp2_with fail
  go_loopw [9, 48] (fun v9 v48 wr => ∃ (k : Nat) (S : Int), k ≤ ns.length ∧ v48 = .int .i64 k ∧ v9 = .int .i64 S ∧ 0 ≤ S ∧ S ≤ 5 * k ∧ Mac wr ga ba (sums ⟨e, l, la, acc⟩ S) ∧ Mac wr gb bb (sums ⟨e, l, la, acc⟩ S) ∧
    Blk wr w.heap.size [.int .i64 0, .int .i64 l, .int .i64 la, .bool acc] 48 ∧ Fr No w wr) (fun _ i _ => ns.length - (intOf i).toNat)
  case atStart => exact ⟨0, 0, Nat.zero_le _, rfl, rfl, by omega, by omega, hA.out, hBm.out, hB2.out, F2⟩
  case round =>
    obtain ⟨k, S, hk, rfl, rfl, hS0, hS1, hma, hmb, hB, hf⟩ := hrel
    clear hA hBm hB2 F2
    by_cases hlt : k < ns.length
    · obtain ⟨ad, rfl, c0⟩ := int_at (HR.out.no hf) k hlt
      generalize ns[k] = n at c0
      by_cases hn : n < 1 ∨ 5 < n
      · have hc : decide (n < 1) = true ∨ (decide (n < 1) = false ∧ decide (5 < n) = true) := by simp; omega
        clear hn
        rcases hc with h1 | ⟨h1, h2⟩
        all_goals
          go_wp2_with fail
          go_roundw
          case rel => exact ⟨k + 1, S, by omega, by go_num, rfl, hS0, by omega, hma, hmb, hB, hf⟩
          case measure => simp [intOf]; omega
      · have t1 : decide (n < 1) = false := by simp; omega
        have t2 : decide (5 < n) = false := by simp; omega
        have hadd := Lib.hid (sums_add ⟨e, l, la, acc⟩ S n (by omega))
        have hn15 : 1 ≤ n ∧ n ≤ 5 := by omega
        obtain ⟨hn1, hn5⟩ := hn15
        clear hn
        go_wp2_with fail
        refine (add_calls ga ba _ n _ hma (sums_inv _ _ hS0) (by show 0 < _; omega) (by show S ≤ _; omega)).mono ?_
        rintro e' w3 ⟨v, rfl, ⟨p, rfl, -⟩, hma3, h3⟩
        rw [hadd.out] at hma3 ⊢
        have hmb3 := hmb.fr h3 (fun e => by have := HNE.out; rcases e with e | e <;> omega) (fun e => by have := HNE.out; rcases e with e | e <;> omega)
        have hB3 := hB.fr h3 (fun e => by have := HNE.out; rcases e with e | e <;> omega)
        have F3 : Fr No w w3 := hf.trans h3 (fun k hk e => by have := HNE.out; rcases e with e | e <;> omega)
        clear hma hmb hB hf h3 c0
        obtain ⟨x0, x1, x2, x3, xl⟩ := hB3.four
        go_wp2_with fail
        refine (new21_yes ⟨0, l, la, acc⟩ _ HOK.out).mono ?_
        rintro e' w4 ⟨go_, bo, rfl, hgo, hbo, hmo, h4⟩
        have hma4 := hma3.no h4
        have hmb4 := hmb3.no h4
        have hB4 := hB3.no h4
        have F4 := F3.no h4
        have hNO := Lib.hid (show (∀ k, two go_ bo k → k ≠ ga ∧ k ≠ ba ∧ k ≠ gb ∧ k ≠ bb ∧ k ≠ w.heap.size ∧ w.heap.size < k) by
          have i1 := hma3.1.lt
          have i2 := Blk.lt hma3.2
          have i3 := hmb3.1.lt
          have i4 := Blk.lt hmb3.2
          have i5 := hB3.lt
          intro k e
          rcases e with rfl | rfl <;> omega)
        clear x0 x1 x2 x3 xl hma3 hmb3 hB3 F3 h4 hgo hbo
        go_wp2_with fail
        obtain ⟨wo, hwo⟩ : ∃ wo : World, wo = w4 := ⟨_, rfl⟩
        clear hwo
        go_loopw [72] (fun v72 wq => ∃ (j : Nat), (j : Int) ≤ n ∧ v72 = .int .i64 j ∧ Mac wq go_ bo (sums ⟨e, l, la, acc⟩ j) ∧ Mac wq ga ba (sums ⟨e, l, la, acc⟩ (S + n)) ∧ Mac wq gb bb (sums ⟨e, l, la, acc⟩ S) ∧
          Blk wq w.heap.size [.int .i64 0, .int .i64 l, .int .i64 la, .bool acc] 48 ∧ Fr No w wq) (fun i _ => (n - intOf i).toNat)
        case atStart => exact ⟨0, by simp; omega, rfl, hmo, hma4, hmb4, hB4, F4⟩
        case round =>
          obtain ⟨j, hj, rfl, hmo5, hma5, hmb5, hB5, F5⟩ := hrel
          clear hmo hma4 hmb4 hB4 F4
          by_cases hjn : (j : Int) < n
          · have hadd1 := Lib.hid (sums_add ⟨e, l, la, acc⟩ j 1 (by omega))
            go_wp2_with fail
            refine (add_calls go_ bo _ 1 _ hmo5 (sums_inv _ _ (by omega)) (by show 0 < _; omega) (by show (j : Int) ≤ _; omega)).mono ?_
            rintro e' w6 ⟨v, rfl, ⟨p, rfl, -⟩, hmo6, h6⟩
            rw [hadd1.out] at hmo6 ⊢
            have hma6 := hma5.fr h6 (fun e => (hNO.out _ e).1 rfl) (fun e => (hNO.out _ e).2.1 rfl)
            have hmb6 := hmb5.fr h6 (fun e => (hNO.out _ e).2.2.1 rfl) (fun e => (hNO.out _ e).2.2.2.1 rfl)
            have hB6 := hB5.fr h6 (fun e => (hNO.out _ e).2.2.2.2.1 rfl)
            have F6 : Fr No w w6 := F5.trans h6 (fun k hk e => by have := (hNO.out _ e).2.2.2.2.2; omega)
            clear hmo5 hma5 hmb5 hB5 F5 h6
            go_wp2_with fail
            go_roundw
            case rel => exact ⟨j + 1, by omega, by go_num, by simpa using hmo6, hma6, hmb6, hB6, F6⟩
            case measure => simp [intOf]; omega
          · obtain rfl : n = j := by omega
            have hne : gb ≠ go_ := fun e => (hNO.out go_ (.inl rfl)).2.2.1 e.symm
            have hplus := Lib.hid (show (sums ⟨e, l, la, acc⟩ S).plus (sums ⟨e, l, la, acc⟩ j).fresh = sums ⟨e, l, la, acc⟩ (S + j) from rfl)
            go_wp2_with fail
            refine (join_yes gb bb go_ bo _ _ _ hmb5 hmo5 hne rfl (by show 0 ≤ S ∧ S ≤ _; omega) (by show 0 ≤ (j : Int) ∧ (j : Int) ≤ _; omega)).mono ?_
            rintro e' w6 ⟨rfl, hmb6, h6⟩
            rw [hplus.out] at hmb6
            have hma6 := hma5.fr h6 (fun e => by have := HNE.out; rcases e with e | e <;> omega) (fun e => by have := HNE.out; rcases e with e | e <;> omega)
            have hB6 := hB5.fr h6 (fun e => by have := HNE.out; rcases e with e | e <;> omega)
            have F6 : Fr No w w6 := F5.trans h6 (fun k hk e => by have := HNE.out; rcases e with e | e <;> omega)
            clear hmo5 hma5 hmb5 hB5 F5 h6
            go_wp2_with fail
            go_roundw
            case rel => exact ⟨k + 1, S + j, by omega, by go_num, rfl, by omega, by omega, hma6, hmb6, hB6, F6⟩
            case measure => simp [intOf]; omega
    · obtain rfl : k = ns.length := by omega
      have hpa := Lib.hid (sums_pass ⟨e, l, la, acc⟩ S)
      clear hlt
      go_wp2_with fail
      refine (state_calls ga ba _ _ hma).mono ?_
      rintro e' w3 ⟨rfl, h3⟩
      rw [sums_v]
      go_wp2_with fail
      refine (state_calls gb bb _ _ (hmb.no h3)).mono ?_
      rintro e' w4 ⟨rfl, h4⟩
      rw [sums_v]
      go_wp2_with fail
      refine (state_calls ga ba _ _ ((hma.no h3).no h4)).mono ?_
      rintro e' w5 ⟨rfl, h5⟩
      rw [sums_v]
      have hma5 := ((hma.no h3).no h4).no h5
      have hmb5 := ((hmb.no h3).no h4).no h5
      have F5 := ((hf.no h3).no h4).no h5
      clear hma hmb hf h3 h4 h5 hB
      have hfld := field56
      go_wp2_with fail
      clear hfld
      refine (pass_calls ga ba _ _ hma5 (sums_inv _ _ hS0) (by show 0 < _; omega)).mono ?_
      rintro e' w6 ⟨v, rfl, ⟨p, rfl, ho⟩, -, h6⟩
      rw [hpa.out] at ho ⊢
      have hmb6 := hmb5.fr h6 (fun e => by have := HNE.out; rcases e with e | e <;> omega) (fun e => by have := HNE.out; rcases e with e | e <;> omega)
      have F6 : Fr No w w6 := F5.trans h6 (fun k hk e => by have := HNE.out; rcases e with e | e <;> omega)
      obtain ⟨ad, c6, rfl, x0, x1, x2⟩ := ho.single
      have hnb : ∀ u v : Value, (w6.cell? ad = some u → ad.block < w6.heap.size) := fun u v h => World.block_lt_of_cell? w6 _ h
      have hap : ¬ two gb bb ad.block := by
        obtain ⟨g7, hg7, hb7⟩ : ∃ g7, (Value.slice (some ad) 1 c6).ownBlock = some g7 ∧ True := ⟨_, rfl, trivial⟩
        have hge := ho.ge _ hg7
        have : g7 = ad.block := (Option.some.inj hg7).symm
        intro e
        have i1 := hmb5.1.lt
        have i2 := Blk.lt hmb5.2
        rcases e with e | e <;> omega
      have X0 := Lib.hid x0
      have X1 := Lib.hid x1
      have X2 := Lib.hid x2
      clear hma5 hmb5 F5 h6 ho x0 x1 x2 hnb
      go_wp2_with fail
      refine (pass_calls gb bb _ _ hmb6 (sums_inv _ _ hS0) (by show 0 < _; omega)).mono ?_
      rintro e' w7 ⟨v, rfl, ⟨p, rfl, ho⟩, -, h7⟩
      rw [hpa.out] at ho ⊢
      have F7 : Fr No w w7 := F6.trans h7 (fun k hk e => by have := HNE.out; rcases e with e | e <;> omega)
      obtain ⟨ad', c7, rfl, y0, y1, y2⟩ := ho.single
      have x0 := h7.cell X0.out hap
      have x1 := h7.cell X1.out hap
      have x2 := h7.cell X2.out hap
      simp only at x0 x1 x2 y0 y1 y2
      clear hmb6 F6 h7 ho
      generalize decide (la = 0) = db at x2 y2
      go_wp2_with fail
      refine wp_region_tail 26 (by kernel_rfl) (by kernel_rfl) ?_
      intro w8 hw8
      have hd := (Fr.refl No w7).drew
      have F8 := Lib.hid F7.drew
      have x0 := hd.cell x0 (fun h => h)
      have x1 := hd.cell x1 (fun h => h)
      have x2 := hd.cell x2 (fun h => h)
      have y0 := hd.cell y0 (fun h => h)
      have y1 := hd.cell y1 (fun h => h)
      have y2 := hd.cell y2 (fun h => h)
      rw [hw8] at x0 x1 x2 y0 y1 y2 F8
      clear hw8 F7 hd
      simp only [List.take_succ_cons, List.take_zero, List.drop_succ_cons, List.drop_zero]
      repeat still_step
      refine wpStill_nil ?_
      go_wp2_with fail
      refine (awake10_calls _).mono ?_
      rintro e w9 ⟨rfl, h9⟩
      go_wp2_with fail
      go_ret
      exact ⟨rfl, F8.out.no h9⟩
end Go.Proofs.Ythplenfbeknlhaa
