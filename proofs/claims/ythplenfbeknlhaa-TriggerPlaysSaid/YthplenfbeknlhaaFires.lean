/- The walk of PaneFires. No condition. -/
import Derived.Test.YthplenfbeknlhaaRef9
namespace Go.Proofs.Ythplenfbeknlhaa
open Go.RowKit

theorem info30 : (Try.prog.info? 30).map (fun i => (i.zero, i.size, i.bytes)) = some (some (.agg #[.int .i64 0, .int .i64 0, .bool false]), 3, 24) := by kernel_rfl
theorem info31 : (Try.prog.info? 31).map (fun i => (i.zero, i.size, i.bytes)) = some (some (.agg #[.int .i64 0, .int .i64 0, .bool false]), 3, 24) := by kernel_rfl

/-- A pane that is to be fired. -/
structure Tr where
  t : Int
  l : Bool
def Tr.cells (p : Tr) : List Value := [.int .i64 p.t, .bool p.l]

theorem tr_at {w : World} {A : Option Addr} {l : List Tr} (h : Rows w A 2 (l.map Tr.cells)) (i : Nat) (hi : i < l.length) :
    ∃ ad, A = some ad ∧ w.cell? (ad.add (i * 2)) = some (.int .i64 l[i].t) ∧ w.cell? ⟨(ad.add (i * 2)).block, (ad.add (i * 2)).off + 1, none⟩ = some (.bool l[i].l) := by
  obtain ⟨ad, hA, hc⟩ := h i l[i].cells (by simp [hi])
  exact ⟨ad, hA, hc 0 _ rfl, hc 1 _ rfl⟩

set_option maxHeartbeats 1000000 in
theorem fires_calls (A : Option Addr) (n c : Nat) (ts : List Tr) (w : World) (h : n ≤ 500 → ts.length = n ∧ Rows w A 2 (ts.map Tr.cells)) (hn : n ≤ 1000000000000000) :
    Calls Try.prog 3 #[.slice A n c] w fun e w' => e = .returned (.bool true) ∧ Fr No w w' := by
  by_cases h5 : n ≤ 500
  rotate_left
  · have h5' : decide ((500 : Int) < (n : Int)) = true := by simp; omega
    have h5'' : (500 : Int) < (n : Int) := by omega
    go_enter Try.func3, Try.ntmps3
    go_wp2_with fail
    refine (new0_calls _).mono ?_
    rintro e w1 ⟨rfl, h1, hl1, -⟩
    go_wp2_with fail
    refine (awake9_calls _).mono ?_
    rintro e w2 ⟨rfl, h2⟩
    go_wp2_with fail
    go_ret
    exact ⟨rfl, h1.no h2⟩
  obtain ⟨rfl, hr⟩ := h h5
  have HR := Lib.hid hr
  clear h hr
  obtain ⟨i0, hi, hz0, hz1, hz2⟩ := info_parts info30
  have h5'' : ¬ (500 : Int) < (ts.length : Int) := by omega
  go_enter Try.func3, Try.ntmps3
  go_wp2_with fail
  refine (new0_calls _).mono ?_
  rintro e w1 ⟨rfl, h1, hl1, -⟩
  go_wp2_with fail
  go_loopw [4, 25] (fun v4 v25 wr => ∃ (k : Nat) (done : List Inf) (s : Int), k ≤ ts.length ∧ v25 = .int .i64 k ∧ Own wr w.heap.size 30 v4 done ∧ Line wr w.heap.size done.length s ∧ Good done s ∧ done.length ≤ k ∧ Fr No w wr) (fun _ i _ => ts.length - (intOf i).toNat)
  case atStart => exact ⟨0, [], 0, Nat.zero_le _, rfl, Own.nil _ _ _, hl1, Good.nil, Nat.le_refl _, h1⟩
  case round =>
    obtain ⟨k, done, s, hk, rfl, ho, hl, hg, hd, hf⟩ := hrel
    by_cases hlt : k < ts.length
    · obtain ⟨ad, rfl, c0, c1⟩ := tr_at (HR.out.no hf) k hlt
      generalize ts[k] = tr at c0 c1
      obtain ⟨t, b⟩ := tr
      simp only at c0 c1
      obtain ⟨A4, c4, rfl, hcap, hrows⟩ := ho.slice
      have HCAP := Lib.hid hcap
      clear hcap
      cases hcf : canFire s t
      · have hfol := Lib.hid ((hg.follows t b).trans hcf)
        have HC := Lib.hid hcf
        clear hcf
        go_wp2_with fail
        refine (fire_no _ _ s t b _ ((hl.alloc _).alloc _) HC.out).mono ?_
        rintro e w2 ⟨rfl, h2⟩
        unfold refusedV
        have b1 := ((Blk.new wr _ _).alloc _).no h2
        have b2 := (Blk.new (wr.alloc _) _ _).no h2
        obtain ⟨x0, x1, xl⟩ := b1.two
        obtain ⟨y0, y1, y2, yl⟩ := b2.three
        simp only [World.size_alloc] at y0 y1 y2 yl
        go_wp2_with fail
        refine (follows_calls A4 c4 done ⟨done.length, t, b⟩ _ (((hrows.no ((Fr.refl _ _).alloc _)).no ((Fr.refl _ _).alloc _)).no (h2.alloc _)) (by omega) false hfol.out).mono ?_
        rintro e w3 ⟨rfl, h3⟩
        obtain ⟨z0, z1, z2, zl⟩ := ((Blk.new w2 _ _).no h3).three
        have F := (((hf.alloc _).alloc _).no (h2.alloc _)).no h3
        have F' := ((((Fr.refl No wr).alloc _).alloc _).no (h2.alloc _)).no h3
        have ho' := ho.no F'
        have hl' := Blk.no hl F'
        clear F'
        go_wp2
        go_roundw
        case rel => exact ⟨k + 1, done, s, by omega, by go_num, ho', hl', hg, by omega, F⟩
        case measure => simp [intOf]; omega
      · have hfol := Lib.hid ((hg.follows t b).trans hcf)
        have HC := Lib.hid hcf
        clear hcf
        go_wp2_with fail
        refine (fire_yes _ _ s t b _ ((hl.alloc _).alloc _) HC.out (by omega) (by omega)).mono ?_
        rintro e w2 ⟨rfl, h2, hl2⟩
        unfold firedV
        have hgw : w.heap.size < wr.heap.size := hl.lt
        have b1 := ((Blk.new wr _ _).alloc _).fr h2 (by show ¬ wr.heap.size = w.heap.size; omega)
        have b2 := (Blk.new (wr.alloc _) _ _).fr h2 (by show ¬ _ = w.heap.size; simp; omega)
        obtain ⟨x0, x1, xl⟩ := b1.two
        obtain ⟨y0, y1, y2, yl⟩ := b2.three
        simp only [World.size_alloc] at y0 y1 y2 yl
        have hne := ho.ne hl (by decide)
        have ho2 := ((ho.alloc _).alloc _).fr h2 (fun k hk e => hne k hk e)
        obtain ⟨A', c', e', -, hrows2⟩ := ho2.slice
        injection e' with e1 e2 e3
        subst e1; subst e3
        clear e2 hrows ho
        go_wp2_with fail
        refine (follows_calls A4 c4 done ⟨done.length, t, b⟩ _ (hrows2.no ((Fr.refl _ _).alloc _)) (by omega) true hfol.out).mono ?_
        rintro e w3 ⟨rfl, h3⟩
        obtain ⟨z0, z1, z2, zl⟩ := ((Blk.new w2 _ _).no h3).three
        have y0 := h3.cell ((World.cell?_alloc_past _ _ _ yl).trans y0) (fun h => h)
        have y1 := h3.cell ((World.cell?_alloc_past _ _ _ yl).trans y1) (fun h => h)
        have y2 := h3.cell ((World.cell?_alloc_past _ _ _ yl).trans y2) (fun h => h)
        clear x0 x1 xl c0 c1
        have ho3 := ho2.no ((((Fr.refl _ _).alloc _).no h3).alloc (.cells #[.int .i64 done.length, .int .i64 t, .bool b] 30))
        have hbase : w.heap.size ≤ w3.heap.size := by have := h2.size; have := h3.size; simp at *; omega
        go_wp2_with (at_builtin; refine wpList_append_own _ rfl (.tmp 63) (.tmp 65) 26 rfl w.heap.size 30 i0 (.agg #[.int .i64 0, .int .i64 0, .bool false]) 3 24 Try.underlying26 hi hz0 hz1 hz2 rfl (by decide) _ done.length _ rfl ho3 ⟨w3.heap.size, 0, none⟩ 1 1 (Inf.cells ⟨done.length, t, b⟩) rfl rfl (inf_new w3 ⟨done.length, t, b⟩ 30) (inf_one _) (by unfold maxLen; omega) (by omega) (by simp; omega) ?_)
        intro v4' w4 hown4 hgrow4 _
        have F : Fr No w w4 := by
          refine Fr.grown (w' := w3.alloc _) ?_ hgrow4 (fun k hk _ => ?_)
          · exact ((((hf.alloc _).alloc _).trans h2 (fun k hk (e : k = w.heap.size) => by omega)).no (((Fr.refl _ _).alloc _).no h3)).alloc _
          · have := ho3.ge k hk; omega
        have hl3 := (Blk.no hl2 (((Fr.refl _ _).alloc _).no h3)).alloc (.cells #[.int .i64 done.length, .int .i64 t, .bool b] 30)
        have hl4 : Line w4 w.heap.size (done.length + 1) (stageOf t b) := Blk.grown hl3 hgrow4 (fun e => ho3.ne hl3 (by decide) _ e.symm rfl)
        have ho4 := Own.push hown4
        have hg4 := hg.fire t b HC.out
        clear hl3 hl2 hl hown4 hgrow4 hrows2 ho2 ho3 hne b1 b2 y0 y1 y2 yl z0 z1 z2 zl h2 h3 hbase
        obtain ⟨A5, c5, rfl, hcap5, hrows5⟩ := ho4.slice
        have HCAP5 := Lib.hid hcap5
        clear hcap5
        rw [List.length_append, List.length_singleton] at *
        have hst := Lib.hid hg4.st
        go_wp2_with (first | (go_at_call 16; refine (next_calls _ _ _ _ hl4).mono ?_; rintro e w' ⟨rfl, rfl⟩) | (go_at_call 17; refine (stage_calls _ _ _ _ hl4).mono ?_; rintro e w' ⟨rfl, rfl⟩))
        refine (stage9_at _ _ _ _ _ _ hrows5 (by simp) (by omega) hst.out).mono ?_
        rintro e w5 ⟨rfl, rfl⟩
        go_wp2
        go_roundw
        case rel => exact ⟨k + 1, _, _, by omega, by go_num, ho4, by simpa using hl4, hg4, by simp; omega, F⟩
        case measure => simp [intOf]; omega
    · obtain rfl : k = ts.length := by omega
      obtain ⟨A4, c4, rfl, hcap, hrows⟩ := ho.slice
      have HCAP := Lib.hid hcap
      clear hcap hrows
      go_wp2_with (go_at_call 16; refine (next_calls _ _ _ _ hl).mono ?_; rintro e w' ⟨rfl, rfl⟩)
      refine (awake9_calls _).mono ?_
      rintro e w2 ⟨rfl, h2⟩
      go_wp2_with fail
      go_ret
      exact ⟨rfl, hf.no h2⟩
end Go.Proofs.Ythplenfbeknlhaa
