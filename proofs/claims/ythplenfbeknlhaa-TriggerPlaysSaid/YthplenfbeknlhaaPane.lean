/- What pane's functions do (New, Fire, Next, Stage). No condition. -/
import Derived.Test.YthplenfbeknlhaaInf
namespace Go.Proofs.Ythplenfbeknlhaa
open Go.RowKit

/-- A line: its next index and its stage. -/
def Line (w : World) (g : Nat) (n s : Int) : Prop := Blk w g [.int .i64 n, .int .i64 s] 72

theorem new_calls (w : World) :
    Calls Try.prog 12 #[] w fun e w' => e = .returned (.pointer (some ⟨w.heap.size, 0, none⟩)) ∧ w' = w.alloc (.cells #[.int .i64 0, .int .i64 0] 72) := by
  go_enter Try.func12, Try.ntmps12
  go_wp2
  go_ret
  exact ⟨rfl, rfl⟩

theorem next_calls (g : Nat) (n s : Int) (w : World) (h : Line w g n s) :
    Calls Try.prog 16 #[.pointer (some ⟨g, 0, none⟩)] w fun e w' => e = .returned (.int .i64 n) ∧ w = w' := by
  have c0 := (Blk.cell h 0)
  simp at c0
  go_enter Try.func16, Try.ntmps16
  go_wp2
  go_ret
  exact ⟨rfl, rfl⟩

theorem stage_calls (g : Nat) (n s : Int) (w : World) (h : Line w g n s) :
    Calls Try.prog 17 #[.pointer (some ⟨g, 0, none⟩)] w fun e w' => e = .returned (.int .i64 s) ∧ w = w' := by
  have c0 := (Blk.cell h 1)
  simp at c0
  go_enter Try.func17, Try.ntmps17
  go_wp2
  go_ret
  exact ⟨rfl, rfl⟩

/-- What Fire tells. -/
def firedV (n t : Int) (l : Bool) : Value := .tuple #[.agg #[.int .i64 n, .int .i64 t, .bool l], .int .i64 0]
def refusedV : Value := .tuple #[.agg #[.int .i64 0, .int .i64 0, .bool false], .int .i64 90]

set_option maxHeartbeats 1000000 in
theorem fire_no (g : Nat) (n s t : Int) (l : Bool) (w : World) (h : Line w g n s) (hc : canFire s t = false) :
    Calls Try.prog 14 #[.pointer (some ⟨g, 0, none⟩), .int .i64 t, .bool l] w fun e w' => e = .returned refusedV ∧ Fr No w w' := by
  have hb := Blk.lt h
  have c1 := (Blk.cell h 1)
  simp at c1
  have hcase : ((t = 0 ∨ t = 1) ∧ (s == 0) = false) ∨ (t = 2 ∧ s = 3) ∨ ((t == 0) = false ∧ (t == 1) = false ∧ (t == 2) = false) := by
    simp [canFire] at hc ⊢
    omega
  clear hc h
  go_enter Try.func14, Try.ntmps14
  go_wp2
  refine wp_scope_forward 0 rfl fun J hJ => ?_
  rcases hcase with ⟨rfl | rfl, h2⟩ | ⟨rfl, rfl⟩ | ⟨h1, h2, h3⟩
  all_goals
    go_wp2
    go_step3
    refine ⟨rfl, hJ _ _ ?_⟩
    go_wp2
    simp only [Exit.noGoto]
    refine bodyPost_ret (v := refusedV) (by simp [results, Try.results14, go_sem, refusedV]) rfl ⟨rfl, ?_⟩
    exact (Fr.refl _ _).alloc _

set_option maxHeartbeats 1000000 in
theorem fire_yes (g : Nat) (n s t : Int) (l : Bool) (w : World) (h : Line w g n s) (hc : canFire s t = true) (hn0 : 0 ≤ n) (hn1 : n < 1000000000000000) :
    Calls Try.prog 14 #[.pointer (some ⟨g, 0, none⟩), .int .i64 t, .bool l] w fun e w' => e = .returned (firedV n t l) ∧ Fr (fun k => k = g) w w' ∧ Line w' g (n + 1) (stageOf t l) := by
  have hb := Blk.lt h
  have c0 := (Blk.cell h 0)
  have c1 := (Blk.cell h 1)
  have f0 := Blk.frozen h 0
  have f1 := Blk.frozen h 1
  simp at c0 c1
  have hcase : ((t = 0 ∨ t = 1) ∧ s = 0) ∨ (t = 2 ∧ (s == 3) = false) := by
    simp [canFire] at hc ⊢
    omega
  clear hc
  have H := Lib.hid h
  clear h
  go_enter Try.func14, Try.ntmps14
  go_wp2
  refine wp_scope_forward 0 rfl fun J hJ => ?_
  rcases hcase with ⟨rfl | rfl, rfl⟩ | ⟨rfl, h2⟩
  all_goals
    cases l
    · go_wp2
      simp only [Exit.jump]
      refine bodyPost_ret (v := firedV n _ _) (by simp [results, Try.results14, go_sem, firedV]) rfl ⟨rfl, ?_, ?_⟩
      · exact (((Fr.refl _ _).setAt (by exact rfl) _).setAt (by exact rfl) _).alloc _
      · exact Blk.alloc (Blk.put (Blk.put H.out 1 _ rfl) 0 _ rfl) _
    · go_wp2
      simp only [Exit.jump]
      refine bodyPost_ret (v := firedV n _ _) (by simp [results, Try.results14, go_sem, firedV]) rfl ⟨rfl, ?_, ?_⟩
      · exact ((((Fr.refl _ _).setAt (by exact rfl) _).setAt (by exact rfl) _).setAt (by exact rfl) _).alloc _
      · exact Blk.alloc (Blk.put (Blk.put (Blk.put H.out 1 _ rfl) 1 _ rfl) 0 _ rfl) _
end Go.Proofs.Ythplenfbeknlhaa
