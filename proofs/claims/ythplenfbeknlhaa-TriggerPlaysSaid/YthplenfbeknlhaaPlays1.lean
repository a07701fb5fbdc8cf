/- TriggerPlays: same, Right, and plain laws. No condition. -/
import Derived.Test.YthplenfbeknlhaaRef10
import Derived.Test.YthplenfbeknlhaaPanes
namespace Go.Proofs.Ythplenfbeknlhaa
open Go.RowKit

/-- Panes that follow one another rightly: the stage is what the document says. -/
theorem good_of (l : List Inf) (h : chk 0 0 l = none) : Good l (fin 0 l) := by
  induction hn : l.length generalizing l with
  | zero =>
    obtain rfl : l = [] := List.eq_nil_of_length_eq_zero hn
    exact Good.nil
  | succ n ih =>
    obtain ⟨a, p, rfl⟩ : ∃ a p, l = a ++ [p] := by
      have hne : l ≠ [] := by rintro rfl; simp at hn
      exact ⟨l.dropLast, l.getLast hne, (List.dropLast_concat_getLast hne).symm⟩
    have h1 := chk_left h
    have hg := ih a h1 (by simpa using hn)
    rw [chk_append h1, chk] at h
    by_cases hp : canFire (fin 0 a) p.t = true ∧ p.i = (0 + a.length : Nat)
    · have := hg.fire p.t p.l hp.1
      have hpe : p = ⟨a.length, p.t, p.l⟩ := by
        obtain ⟨i, t, b⟩ := p
        have := hp.2
        simp at this
        rw [this]
      rw [← hpe] at this
      have hf : fin 0 (a ++ [p]) = stageOf p.t p.l := by
        unfold fin
        rw [List.foldl_append]
        rfl
      rw [hf]
      exact this
    · rw [if_neg hp] at h
      cases h

theorem PInv.stage9 {m : MS} {l : List Inf} (h : PInv m l) : m.stage = stage9 l := by
  rw [h.st]
  exact (good_of l h.ck).st

set_option maxHeartbeats 1000000 in
theorem same_calls (A A' : Option Addr) (c c' : Nat) (l : List Inf) (w : World) (h : Rows w A 3 (l.map Inf.cells)) (h' : Rows w A' 3 (l.map Inf.cells)) (hn : l.length ≤ 1000000000000000) :
    Calls Try.prog 37 #[.slice A l.length c, .slice A' l.length c'] w fun e w' => e = .returned (.bool true) ∧ ∃ n, w' = w.drewN n := by
  have H := Lib.hid h
  have H' := Lib.hid h'
  clear h h'
  go_enter Try.func37, Try.ntmps37
  go_wp2_with fail
  go_loopw [13] (fun v13 wr => ∃ (k n : Nat), k ≤ l.length ∧ v13 = .int .i64 k ∧ wr = w.drewN n) (fun i _ => l.length - (intOf i).toNat)
  case atStart => exact ⟨0, 0, Nat.zero_le _, rfl, rfl⟩
  case round =>
    obtain ⟨k, n, hk, rfl, rfl⟩ := hrel
    by_cases hlt : k < l.length
    · obtain ⟨ad, hA, c0, c1, c2⟩ := inf_at H.out k hlt
      obtain ⟨ad', hA', d0, d1, d2⟩ := inf_at H'.out k hlt
      subst hA hA'
      generalize l[k] = p at c0 c1 c2 d0 d1 d2
      obtain ⟨pi, pt, pl⟩ := p
      simp only at c0 c1 c2 d0 d1 d2
      go_wp2_with fail
      go_quiet (fail)
      go_wp2_with fail
      go_roundw
      case rel => exact ⟨k + 1, n + _, by omega, by go_num, rfl⟩
      case measure => simp [intOf]; omega
    · obtain rfl : k = l.length := by omega
      go_wp2_with fail
      go_ret
      exact ⟨rfl, _, rfl⟩

theorem right_bools : ∀ b1 b2 b3 b4 b5 b6 b7 b8 r : Bool, (b1 && b2 && b3 && b4 && b5 && b6 && (b7 || b8)) = r →
    (r = false ∧ (b1 = false ∨ (b1 = true ∧ b2 = false) ∨ (b1 = true ∧ b2 = true ∧ b3 = false) ∨ (b1 = true ∧ b2 = true ∧ b3 = true ∧ b4 = false) ∨ (b1 = true ∧ b2 = true ∧ b3 = true ∧ b4 = true ∧ b5 = false) ∨
      (b1 = true ∧ b2 = true ∧ b3 = true ∧ b4 = true ∧ b5 = true ∧ b6 = false) ∨ (b1 = true ∧ b2 = true ∧ b3 = true ∧ b4 = true ∧ b5 = true ∧ b6 = true ∧ b7 = false ∧ b8 = false))) ∨
    (r = true ∧ b1 = true ∧ b2 = true ∧ b3 = true ∧ b4 = true ∧ b5 = true ∧ b6 = true ∧ b7 = true) ∨
    (r = true ∧ b1 = true ∧ b2 = true ∧ b3 = true ∧ b4 = true ∧ b5 = true ∧ b6 = true ∧ b7 = false ∧ b8 = true) := by
  intro b1 b2 b3 b4 b5 b6 b7 b8 r h
  subst h
  cases b1 <;> simp
  cases b2 <;> simp
  cases b3 <;> simp
  cases b4 <;> simp
  cases b5 <;> simp
  cases b6 <;> simp
  cases b7 <;> simp
theorem Sp.right (s : Sp) : (decide (s.e ≥ 0) && decide (s.e ≤ 1000) && decide (s.l ≥ 0) && decide (s.l ≤ 1000) && decide (s.la ≥ 0) && decide (s.la ≤ 1048576) && (decide (s.la > 0) || (s.l == 0))) = s.ok := by
  unfold Sp.ok
  rw [Bool.eq_iff_iff]
  simp
  omega

set_option maxHeartbeats 2000000 in
theorem right27 (s : Sp) (w : World) : Calls Try.prog 27 #[s.v] w fun e w' => e = .returned (.bool s.ok) ∧ Fr No w w' := by
  have hc := right_bools _ _ _ _ _ _ _ _ _ s.right
  generalize s.ok = r at hc
  obtain ⟨e, l, la, acc⟩ := s
  unfold Sp.v
  simp only at hc ⊢
  rcases hc with ⟨rfl, h1 | ⟨h1, h2⟩ | ⟨h1, h2, h3⟩ | ⟨h1, h2, h3, h4⟩ | ⟨h1, h2, h3, h4, h5⟩ | ⟨h1, h2, h3, h4, h5, h6⟩ | ⟨h1, h2, h3, h4, h5, h6, h7, h8⟩⟩ | ⟨rfl, h1, h2, h3, h4, h5, h6, h7⟩ | ⟨rfl, h1, h2, h3, h4, h5, h6, h7, h8⟩
  all_goals
    go_enter Try.func27, Try.ntmps27
    go_wp2
    go_ret
    exact ⟨rfl, (Fr.refl _ _).alloc _⟩
end Go.Proofs.Ythplenfbeknlhaa
