/- What the reference's functions on panes do (Follows, Stage), and awake. No condition. -/
import Derived.Test.YthplenfbeknlhaaPane
namespace Go.Proofs.Ythplenfbeknlhaa
open Go.RowKit

theorem stage9_snoc (l : List Inf) (k : Nat) (hk : k < l.length) : stage9 (l.take (k + 1)) = stStep (stage9 (l.take k)) l[k] := by
  unfold stage9
  rw [List.take_succ_eq_append_getElem hk, List.foldl_append]
  rfl

set_option maxHeartbeats 1000000 in
theorem stage9_calls (A : Option Addr) (c : Nat) (l : List Inf) (w : World) (h : Rows w A 3 (l.map Inf.cells)) (hn : l.length ≤ 1000000000000000) :
    Calls Try.prog 18 #[.slice A l.length c] w fun e w' => e = .returned (.int .i64 (stage9 l)) ∧ w = w' := by
  have H := Lib.hid h
  clear h
  go_enter Try.func18, Try.ntmps18
  go_wp2
  go_loop [3, 4] (fun v3 v4 => ∃ (k : Nat) (s : Int), k ≤ l.length ∧ v4 = .int .i64 k ∧ v3 = .int .i64 s ∧ Hid (s = stage9 (l.take k))) (fun _ i => l.length - (intOf i).toNat)
  case atStart => exact ⟨0, 0, Nat.zero_le _, rfl, rfl, by exact rfl⟩
  case round =>
    obtain ⟨k, s, hk, rfl, rfl, hs⟩ := hrel
    by_cases hlt : k < l.length
    · obtain ⟨ad, rfl, -, c1, c2⟩ := inf_at H.out k hlt
      have hsn := Lib.hid (stage9_snoc l k hlt)
      generalize l[k] = p at c1 c2 hsn
      obtain ⟨pi, pt, pl⟩ := p
      simp only at c1 c2
      cases pl
      all_goals
        go_wp2
        all_goals
          go_round
          case measure => simp [intOf]; omega
          case rel =>
            refine ⟨k + 1, _, by omega, by go_num, rfl, ?_⟩
            show _ = _
            rw [hsn.out, ← hs.out]
            unfold stStep
            simp <;> omega
    · obtain rfl : k = l.length := by omega
      go_wp2
      go_ret
      rw [hs.out, List.take_length]
      exact ⟨rfl, rfl⟩

theorem follows_calls (A : Option Addr) (c : Nat) (l : List Inf) (p : Inf) (w : World) (h : Rows w A 3 (l.map Inf.cells)) (hn : l.length ≤ 1000000000000000) (r : Bool) (hr : follows l p = r) :
    Calls Try.prog 15 #[.slice A l.length c, p.v] w fun e w' => e = .returned (.bool r) ∧ Fr No w w' := by
  have H := Lib.hid h
  have Hr := Lib.hid hr
  clear h hr
  obtain ⟨pi, pt, pl⟩ := p
  unfold Inf.v
  simp only
  by_cases h1 : pi = l.length
  rotate_left
  · have h1' : (pi != (l.length : Int)) = true := by simpa using h1
    have hr : r = false := by rw [← Hr.out, follows_idx h1]
    subst hr
    go_enter Try.func15, Try.ntmps15
    go_wp2
    go_ret
    exact ⟨rfl, (Fr.refl _ _).alloc _⟩
  subst h1
  by_cases h2 : pt < 0
  · have hr : r = false := by rw [← Hr.out]; simp [follows]; omega
    subst hr
    go_enter Try.func15, Try.ntmps15
    go_wp2
    go_ret
    exact ⟨rfl, (Fr.refl _ _).alloc _⟩
  by_cases h3 : pt > 2
  · have hr : r = false := by rw [← Hr.out]; simp [follows]; omega
    subst hr
    go_enter Try.func15, Try.ntmps15
    go_wp2
    go_ret
    exact ⟨rfl, (Fr.refl _ _).alloc _⟩
  have Ha := Lib.hid (show r = l.all (fun q => !bad q ⟨l.length, pt, pl⟩) by rw [← Hr.out]; simp [follows]; omega)
  clear Hr
  go_enter Try.func15, Try.ntmps15
  go_wp2
  go_loop [5] (fun v5 => ∃ (k : Nat), k ≤ l.length ∧ v5 = .int .i64 k ∧ Hid (∀ q ∈ l.take k, bad q ⟨l.length, pt, pl⟩ = false)) (fun i => l.length - (intOf i).toNat)
  case atStart => exact ⟨0, Nat.zero_le _, rfl, by intro q hq; simp at hq⟩
  case round =>
    obtain ⟨k, hk, rfl, hs⟩ := hrel
    by_cases hlt : k < l.length
    · obtain ⟨ad, rfl, -, c1, c2⟩ := inf_at (w := w.alloc (.cells #[.int .i64 l.length, .int .i64 pt, .bool pl] 30)) (H.out.no ((Fr.refl _ _).alloc _)) k hlt
      have hsn := Lib.hid (List.take_succ_eq_append_getElem hlt)
      have hmem := Lib.hid (List.getElem_mem hlt)
      generalize l[k] = q at c1 c2 hsn hmem
      obtain ⟨qi, qt, ql⟩ := q
      simp only at c1 c2
      by_cases hb : bad ⟨qi, qt, ql⟩ ⟨l.length, pt, pl⟩ = true
      · have hrf : r = false := by
          rw [Ha.out]
          exact List.all_eq_false.2 ⟨_, hmem.out, by simp [hb]⟩
        subst hrf
        have hb' : ql = true ∨ (ql = false ∧ pt = 0 ∧ (qt != 0) = true) ∨ (ql = false ∧ (pt == 0) = false ∧ pt = 1 ∧ (qt != 0) = true) := by
          simp [bad] at hb
          cases ql <;> simp at hb ⊢
          omega
        clear hb
        rcases hb' with rfl | ⟨rfl, rfl, hq⟩ | ⟨rfl, hp, rfl, hq⟩
        all_goals
          go_wp2
          go_ret
          exact ⟨rfl, (Fr.refl _ _).alloc _⟩
      · have hs' := Lib.hid (show ∀ q ∈ l.take (k + 1), bad q ⟨l.length, pt, pl⟩ = false by
          rw [hsn.out]
          intro q hq
          simp only [List.mem_append, List.mem_singleton] at hq
          rcases hq with hq | rfl
          · exact hs.out q hq
          · simpa using hb)
        have hb' : ql = false ∧ ((pt = 0 ∧ (qt != 0) = false) ∨ ((pt == 0) = false ∧ pt = 1 ∧ (qt != 0) = false) ∨ ((pt == 0) = false ∧ (pt == 1) = false)) := by
          simp [bad] at hb ⊢
          cases ql <;> simp at hb ⊢
          omega
        clear hb
        obtain ⟨rfl, ⟨rfl, hq⟩ | ⟨hp, rfl, hq⟩ | ⟨hp, hq⟩⟩ := hb'
        all_goals
          go_wp2
          go_round
          case measure => simp [intOf]; omega
          case rel => exact ⟨k + 1, by omega, by go_num, hs'⟩
    · obtain rfl : k = l.length := by omega
      have hrf : r = true := by
        rw [Ha.out]
        rw [List.take_length] at hs
        simpa using hs.out
      subst hrf
      go_wp2
      go_ret
      exact ⟨rfl, (Fr.refl _ _).alloc _⟩

theorem stage9_at (A : Option Addr) (n c : Nat) (l : List Inf) (s : Int) (w : World) (h : Rows w A 3 (l.map Inf.cells)) (hl : l.length = n) (hn : n ≤ 1000000000000000) (hs : s = stage9 l) :
    Calls Try.prog 18 #[.slice A n c] w fun e w' => e = .returned (.int .i64 s) ∧ w = w' := by
  subst hl; subst hs; exact stage9_calls A c l w h hn

theorem new0_calls (w : World) :
    Calls Try.prog 12 #[] w fun e w' => e = .returned (.pointer (some ⟨w.heap.size, 0, none⟩)) ∧ Fr No w w' ∧ Line w' w.heap.size 0 0 ∧ w.heap.size < w'.heap.size :=
  (new_calls w).mono fun e w' ⟨he, hw⟩ => by
    subst hw
    exact ⟨he, (Fr.refl _ _).alloc _, Blk.new _ _ _, by simp⟩

theorem awake9_calls (w : World) : Calls Try.prog 13 #[] w fun e w' => e = .returned (.bool true) ∧ Fr No w w' := by
  go_enter Try.func13, Try.ntmps13
  go_wp2_with fail
  refine (new0_calls _).mono ?_
  rintro e w1 ⟨rfl, h1, hl1, -⟩
  go_wp2_with fail
  refine (fire_yes _ 0 0 1 true _ hl1 rfl (by omega) (by omega)).mono ?_
  rintro e w2 ⟨rfl, h2, hl2⟩
  unfold firedV
  go_wp2_with fail
  refine (fire_no _ _ _ 2 false _ (hl2.alloc _) rfl).mono ?_
  rintro e w3 ⟨rfl, h3⟩
  unfold refusedV
  obtain ⟨x0, x1, x2, xl⟩ := ((Blk.new w2 _ _).no h3).three
  go_wp2_with fail
  go_ret
  exact ⟨rfl, ((h1.trans ((h2.alloc _).no h3) (fun k hk (e : k = w.heap.size) => by omega)).alloc _)⟩
end Go.Proofs.Ythplenfbeknlhaa
