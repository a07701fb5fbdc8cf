/- The walk of PaneCounts. No condition. -/
import Derived.Test.YthplenfbeknlhaaFires
namespace Go.Proofs.Ythplenfbeknlhaa
open Go.RowKit

set_option maxHeartbeats 2000000 in
theorem counts_calls (A : Option Addr) (n c : Nat) (ts : List Tr) (w : World) (h : n ≤ 500 → ts.length = n ∧ Rows w A 2 (ts.map Tr.cells)) (hn : n ≤ 1000000000000000) :
    Calls Try.prog 4 #[.slice A n c] w fun e w' => e = .returned (.bool true) ∧ Fr No w w' := by
  by_cases h5 : n ≤ 500
  rotate_left
  · have h5'' : (500 : Int) < (n : Int) := by omega
    go_enter Try.func4, Try.ntmps4
    go_wp2_with fail
    refine (new0_calls _).mono ?_
    rintro e w1 ⟨rfl, h1, hl1, -⟩
    go_wp2_with fail
    refine (awake9_calls _).mono ?_
    rintro e w2 ⟨rfl, h2⟩
    go_wp2_with fail
    go_ret
    exact ⟨rfl, h1.no h2⟩
  obtain ⟨rfl, hr⟩ := h h5
  have HR := Lib.hid hr
  clear h hr
  have h5'' : ¬ (500 : Int) < (ts.length : Int) := by omega
  go_enter Try.func4, Try.ntmps4
  go_wp2_with fail
  refine (new0_calls _).mono ?_
  rintro e w1 ⟨rfl, h1, hl1, -⟩
  go_wp2_with fail
  go_loopw [4, 5, 6, 26] (fun v4 v5 v6 v26 wr => ∃ (k n : Nat) (on s : Int) (ov : Bool), k ≤ ts.length ∧ v26 = .int .i64 k ∧ v4 = .int .i64 n ∧ v5 = .int .i64 on ∧ v6 = .bool ov ∧ Line wr w.heap.size n s ∧
      (0 ≤ on ∧ on ≤ 1) ∧ (s = 0 → on = 0) ∧ Hid (ov = decide (s = 3)) ∧ n ≤ k ∧ Fr No w wr) (fun _ _ _ i _ => ts.length - (intOf i).toNat)
  case atStart => exact ⟨0, 0, 0, 0, false, Nat.zero_le _, rfl, rfl, rfl, rfl, hl1, by omega, fun _ => rfl, by exact rfl, Nat.le_refl _, h1⟩
  case round =>
    obtain ⟨k, n, on, s, ov, hk, rfl, rfl, rfl, rfl, hl, hon, hs0, hov, hd, hf⟩ := hrel
    have HS0 := Lib.hid hs0
    clear hs0
    by_cases hlt : k < ts.length
    · obtain ⟨ad, rfl, c0, c1⟩ := tr_at (HR.out.no hf) k hlt
      generalize ts[k] = tr at c0 c1
      obtain ⟨t, b⟩ := tr
      simp only at c0 c1
      cases hcf : canFire s t
      · have HC := Lib.hid hcf
        clear hcf
        go_wp2_with fail
        refine (fire_no _ _ s t b _ (hl.alloc _) HC.out).mono ?_
        rintro e w2 ⟨rfl, h2⟩
        unfold refusedV
        have F := ((hf.alloc _).no h2).alloc (.cells #[.int .i64 0, .int .i64 0, .bool false] 31)
        have hl' := (Blk.no hl (((Fr.refl No wr).alloc _).no h2)).alloc (.cells #[.int .i64 0, .int .i64 0, .bool false] 31)
        go_wp2
        go_roundw
        case rel => exact ⟨k + 1, n, on, s, ov, by omega, by go_num, rfl, rfl, rfl, hl', hon, HS0.out, hov, by omega, F⟩
        case measure => simp [intOf]; omega
      · have HC := Lib.hid hcf
        have hs3 : s ≠ 3 := by rintro rfl; simp [canFire] at hcf
        obtain rfl : ov = false := by rw [hov.out]; simpa using hs3
        have h01 : t = 1 → s = 0 := by rintro rfl; simpa [canFire] using hcf
        have h02 : s = 0 → on = 0 := HS0.out
        have hstg : (if t = 1 then on + 1 else on) ≤ 1 ∧ (stageOf t b = 0 → (if t = 1 then on + 1 else on) = 0) := by
          simp [canFire] at hcf
          unfold stageOf
          cases b <;> simp <;> split <;> omega
        have HSTG := Lib.hid hstg
        clear hcf hstg h01 h02 hs3 hov
        go_wp2_with fail
        refine (fire_yes _ _ s t b _ (hl.alloc _) HC.out (by omega) (by omega)).mono ?_
        rintro e w2 ⟨rfl, h2, hl2⟩
        unfold firedV
        have hgw : w.heap.size < wr.heap.size := hl.lt
        have b1 := (Blk.new wr _ _).fr h2 (by show ¬ wr.heap.size = w.heap.size; omega)
        obtain ⟨x0, x1, xl⟩ := b1.two
        have F := ((hf.alloc _).trans h2 (fun k hk (e : k = w.heap.size) => by omega)).alloc (.cells #[.int .i64 n, .int .i64 t, .bool b] 31)
        have hl' := Blk.alloc hl2 (.cells #[.int .i64 n, .int .i64 t, .bool b] 31)
        clear b1 hl hl2
        have hov' := Lib.hid (show b = decide (stageOf t b = 3) by
          have := HC.out
          unfold stageOf
          simp [canFire] at this
          cases b <;> simp
          omega)
        by_cases ht : t = 1
        · subst ht
          have := HSTG.out
          simp only [if_true] at this
          have HT := Lib.hid this
          clear this
          go_wp2
          go_roundw
          case rel => exact ⟨k + 1, n + 1, on + 1, _, b, by omega, by go_num, by go_num, rfl, rfl, hl', by have := HT.out; omega, HT.out.2, hov', by omega, F⟩
          case measure => simp [intOf]; omega
        · have := HSTG.out
          rw [if_neg ht] at this
          have HT := Lib.hid this
          clear this
          have ht' : (t == 1) = false := by simpa using ht
          clear ht
          go_wp2
          go_roundw
          case rel => exact ⟨k + 1, n + 1, on, _, b, by omega, by go_num, by go_num, rfl, rfl, hl', by have := HT.out; omega, HT.out.2, hov', by omega, F⟩
          case measure => simp [intOf]; omega
    · obtain rfl : k = ts.length := by omega
      have hon1 : decide (on ≤ 1) = true := by simpa using hon.2
      cases ov
      · have hs3 : (s == 3) = false := by have := hov.out; simpa using this.symm
        clear hov
        go_wp2_with (first | (go_at_call 16; refine (next_calls _ _ _ _ hl).mono ?_; rintro e w' ⟨rfl, rfl⟩) | (go_at_call 17; refine (stage_calls _ _ _ _ hl).mono ?_; rintro e w' ⟨rfl, rfl⟩))
        refine (awake9_calls _).mono ?_
        rintro e w2 ⟨rfl, h2⟩
        go_wp2_with fail
        go_ret
        exact ⟨rfl, hf.no h2⟩
      · obtain rfl : s = 3 := by have := hov.out; simpa using this.symm
        clear hov
        go_wp2_with (first | (go_at_call 16; refine (next_calls _ _ _ _ hl).mono ?_; rintro e w' ⟨rfl, rfl⟩) | (go_at_call 17; refine (stage_calls _ _ _ _ hl).mono ?_; rintro e w' ⟨rfl, rfl⟩))
        refine (awake9_calls _).mono ?_
        rintro e w2 ⟨rfl, h2⟩
        go_wp2_with fail
        go_ret
        exact ⟨rfl, hf.no h2⟩
end Go.Proofs.Ythplenfbeknlhaa
