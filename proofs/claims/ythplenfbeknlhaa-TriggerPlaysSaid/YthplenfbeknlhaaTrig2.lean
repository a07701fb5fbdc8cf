/- Join, State and awake of trigger. No condition. -/
import Derived.Test.YthplenfbeknlhaaTrig
import Derived.StillTailTactics
import Derived.LaidEqlPtr
namespace Go.Proofs.Ythplenfbeknlhaa
open Go.RowKit

/-- A region that draws its order: quiet operations, and behind them a tail in one order. The world behind the draw is a variable. -/
theorem wp_region_tail {P : Program} {id : Nat} {Q : Exit → Act → World → Prop} {a : Act} {w : World} {l : List Oper} (n : Nat) (hm : P.follows .mixedOrders = true) (hB : Region.lexTailB .any l.toArray n = true)
    (h : ∀ w1, w.drew = w1 → wpStill P l.toArray w1 (fun a' => wpList P l.toArray Q (l.drop n) a' w1) (l.take n) a) : (Code.region id l.toArray true).wp P Q a w :=
  wp_region_still_tail n hm hB (h _ rfl)

theorem still_calls {P : Program} {f : FuncId} {args : Array Value} {w : World} {v : Value} (h : Calls P f args w fun e w' => e = .returned v ∧ w = w') : Calls P f args w fun e w'' => e = .returned v ∧ w'' = w :=
  h.mono fun _ _ ⟨h1, h2⟩ => ⟨h1, h2.symm⟩

/-- What State tells. -/
def MS.v (m : MS) : Value := .agg #[.int .i64 m.next, .int .i64 m.stage, .int .i64 m.fresh, .bool m.passed, .bool m.closed]

set_option maxHeartbeats 2000000 in
theorem state_calls (g b : Nat) (m : MS) (w : World) (h : Mac w g b m) :
    Calls Try.prog 25 #[.pointer (some ⟨g, 0, none⟩)] w fun e w' => e = .returned m.v ∧ Fr No w w' := by
  have hF := Lib.hid (((Fr.refl No w).alloc (.cells #[.int .i64 0, .int .i64 0, .int .i64 0, .bool false, .bool false] 56)).drew)
  have hB := Lib.hid ((Blk.new w #[.int .i64 0, .int .i64 0, .int .i64 0, .bool false, .bool false] 56).drew)
  have hm := Lib.hid (h.no hF.out)
  clear h
  go_enter Try.func25, Try.ntmps25
  go_wp2_with fail
  refine wp_region_tail 23 (by kernel_rfl) (by kernel_rfl) ?_
  intro w1 hw1
  rw [hw1] at hF hB hm
  clear hw1
  obtain ⟨hm, hl⟩ := hm
  have Q1 := Lib.hid (still_calls (next_calls _ _ _ _ hl))
  have Q2 := Lib.hid (still_calls (stage_calls _ _ _ _ hl))
  obtain ⟨c0, c1, c2, c3, c4, c5, c6, c7, hg⟩ := hm.eight
  simp only [List.take_succ_cons, List.take_zero, List.drop_succ_cons, List.drop_zero]
  repeat still_step
  still_call Q1.out
  repeat still_step
  still_call Q2.out
  repeat still_step
  refine wpStill_nil ?_
  have b0 := hB.out.cell 0
  have b1 := hB.out.cell 1
  have b2 := hB.out.cell 2
  have b3 := hB.out.cell 3
  have b4 := hB.out.cell 4
  simp at b0 b1 b2 b3 b4
  have f0 := hB.out.frozen 0
  have f1 := hB.out.frozen 1
  have f2 := hB.out.frozen 2
  have f3 := hB.out.frozen 3
  have f4 := hB.out.frozen 4
  go_wp2
  have hB' := Blk.put (Blk.put (Blk.put (Blk.put (Blk.put hB.out 0 (.int .i64 m.next) rfl) 1 (.int .i64 m.stage) rfl) 2 (.int .i64 m.fresh) rfl) 3 (.bool m.passed) rfl) 4 (.bool m.closed) rfl
  refine bodyPost_ret (results_cell_row rfl _ _ w.heap.size 56 #[.int .i64 m.next, .int .i64 m.stage, .int .i64 m.fresh, .bool m.passed, .bool m.closed] (0, 0) _ rfl hB' Try.underlying56 rfl (by kernel_rfl)) rfl ?_
  exact ⟨rfl, ((((hF.out.setNew (Nat.le_refl _) _).setNew (Nat.le_refl _) _).setNew (Nat.le_refl _) _).setNew (Nat.le_refl _) _).setNew (Nat.le_refl _) _⟩

theorem ptr_same (g : Nat) (w : World) : (binOp .eql 44 (.pointer (some ⟨g, 0, none⟩)) (.pointer (some ⟨g, 0, none⟩))).run Try.prog w = .ok (.bool true) w := by
  obtain ⟨i, hi, -⟩ := info_parts (P := Try.prog) (e := 74) (z := .agg #[.int .i64 0, .int .i64 0, .int .i64 0, .bool false, .pointer none, .int .i64 0, .bool false, .bool false]) (size := 8) (bytes := 56) (by kernel_rfl)
  exact run_eql_ptr_same w _ Try.underlying44 hi
theorem ptr_other (g g' : Nat) (w : World) {cs cs' : List Value} (hg : Blk w g cs 74) (hg' : Blk w g' cs' 74) (hne : g' ≠ g) :
    (binOp .eql 44 (.pointer (some ⟨g', 0, none⟩)) (.pointer (some ⟨g, 0, none⟩))).run Try.prog w = .ok (.bool false) w := by
  obtain ⟨i, hi, -, hs, -⟩ := info_parts (P := Try.prog) (e := 74) (z := .agg #[.int .i64 0, .int .i64 0, .int .i64 0, .bool false, .pointer none, .int .i64 0, .bool false, .bool false]) (size := 8) (bytes := 56) (by kernel_rfl)
  exact run_eql_ptr_other w Try.underlying44 hi (by omega) (fun e => hne (by injection e)) hg' hg

set_option maxHeartbeats 1000000 in
theorem join_self (g : Nat) (w : World) :
    Calls Try.prog 24 #[.pointer (some ⟨g, 0, none⟩), .pointer (some ⟨g, 0, none⟩)] w fun e w' => e = .returned (.int .i64 100) ∧ w = w' := by
  have hq := ptr_same g w
  go_enter Try.func24, Try.ntmps24
  go_wp2_with fail
  go_ret
  exact ⟨rfl, rfl⟩

set_option maxHeartbeats 1000000 in
theorem join_no (g b g' b' : Nat) (m m' : MS) (w : World) (h : Mac w g b m) (h' : Mac w g' b' m') (hg : g ≠ g') (hy : (young m && young m') = false) :
    Calls Try.prog 24 #[.pointer (some ⟨g, 0, none⟩), .pointer (some ⟨g', 0, none⟩)] w fun e w' => e = .returned (.int .i64 100) ∧ w = w' := by
  have hq := ptr_other g g' w h.1 h'.1 (fun e => hg e.symm)
  cases hy1 : young m
  · have Y1 := Lib.hid hy1
    clear hy hy1 hg
    go_enter Try.func24, Try.ntmps24
    go_wp2_with fail
    refine (young_calls g b m _ h false Y1.out).mono ?_
    rintro e w1 ⟨rfl, rfl⟩
    go_wp2_with fail
    go_ret
    exact ⟨rfl, rfl⟩
  · have Y1 := Lib.hid hy1
    have Y2 := Lib.hid (show young m' = false by simpa [hy1] using hy)
    clear hy hy1 hg
    go_enter Try.func24, Try.ntmps24
    go_wp2_with fail
    refine (young_calls g b m _ h true Y1.out).mono ?_
    rintro e w1 ⟨rfl, rfl⟩
    go_wp2_with fail
    refine (young_calls g' b' m' _ h' false Y2.out).mono ?_
    rintro e w1 ⟨rfl, rfl⟩
    go_wp2_with fail
    go_ret
    exact ⟨rfl, rfl⟩

set_option maxHeartbeats 2000000 in
theorem join_yes (g b g' b' : Nat) (m m' : MS) (w : World) (h : Mac w g b m) (h' : Mac w g' b' m') (hg : g ≠ g') (hy : (young m && young m') = true)
    (hf : 0 ≤ m.fresh ∧ m.fresh ≤ 1000000000000000000) (hf' : 0 ≤ m'.fresh ∧ m'.fresh ≤ 1000000000000000000) :
    Calls Try.prog 24 #[.pointer (some ⟨g, 0, none⟩), .pointer (some ⟨g', 0, none⟩)] w fun e w' => e = .returned (.int .i64 0) ∧ Mac w' g b (m.plus m'.fresh) ∧ Fr (two g b) w w' := by
  have hq := ptr_other g g' w h.1 h'.1 (fun e => hg e.symm)
  simp only [Bool.and_eq_true] at hy
  have Y1 := Lib.hid hy.1
  have Y2 := Lib.hid hy.2
  have HM := Lib.hid h
  have HM' := Lib.hid h'
  obtain ⟨hf1, hf2⟩ := hf
  obtain ⟨hf3, hf4⟩ := hf'
  clear hy hg h h'
  go_enter Try.func24, Try.ntmps24
  go_wp2_with fail
  refine (young_calls g b m _ HM.out true Y1.out).mono ?_
  rintro e w1 ⟨rfl, rfl⟩
  go_wp2_with fail
  refine (young_calls g' b' m' _ HM'.out true Y2.out).mono ?_
  rintro e w1 ⟨rfl, rfl⟩
  go_wp2_with fail
  refine wp_region_tail 11 (by kernel_rfl) (by kernel_rfl) ?_
  intro w1 hw1
  have hF := Lib.hid ((Fr.refl (two g b) w).drew)
  have hm := Lib.hid (HM.out.no ((Fr.refl No w).drew))
  have hm' := Lib.hid (HM'.out.no ((Fr.refl No w).drew))
  rw [hw1] at hF hm hm'
  clear hw1 HM HM'
  have hMac := hm.out
  obtain ⟨hm1, hl1⟩ := hm.out
  obtain ⟨hm2, hl2⟩ := hm'.out
  obtain ⟨-, -, -, -, -, c5, -, -, hgl⟩ := hm1.eight
  obtain ⟨-, -, -, -, -, d5, -, -, hgl'⟩ := hm2.eight
  have f5 := hm1.frozen 5
  have hne := Blk.ne hm1 hl1 (by decide)
  have HMAC := Lib.hid hMac
  have HNE := Lib.hid hne
  clear hMac hm1 hl1 hm2 hl2 hne hm hm'
  simp only [List.take_succ_cons, List.take_zero, List.drop_succ_cons, List.drop_zero]
  repeat still_step
  refine wpStill_nil ?_
  go_wp2
  go_ret
  exact ⟨rfl, ⟨Blk.put HMAC.out.1 5 _ rfl, Blk.far HMAC.out.2 (by exact fun e => HNE.out e.symm) _⟩, hF.out.setAt (.inl rfl) _⟩

theorem Own.single {w : World} {B : Nat} {e : TypeId} {v : Value} {q : Inf} (h : Own w B e v [q]) : ∃ ad c, v = .slice (some ad) 1 c ∧ w.cell? ad = some (.int .i64 q.i) ∧
    w.cell? ⟨ad.block, ad.off + 1, none⟩ = some (.int .i64 q.t) ∧ w.cell? ⟨ad.block, ad.off + 2, none⟩ = some (.bool q.l) := by
  obtain ⟨A, c, rfl, hc, hr⟩ := h.slice
  obtain ⟨ad, rfl, x0, x1, x2⟩ := inf_at hr 0 (by simp)
  exact ⟨ad, c, rfl, x0, x1, x2⟩
theorem Own.empty {w : World} {B : Nat} {e : TypeId} {v : Value} (h : Own w B e v []) : ∃ A c, v = .slice A 0 c ∧ (A = none → c = 0) := by
  rcases h.2 with ⟨rfl, _⟩ | ⟨g, cap, cur, rfl, _⟩
  · exact ⟨_, _, rfl, fun _ => rfl⟩
  · exact ⟨_, _, rfl, fun h => by cases h⟩

theorem sp2_ok : Sp.ok ⟨2, 0, 0, false⟩ = true := by decide

set_option maxHeartbeats 2000000 in
theorem awake10_calls (w : World) : Calls Try.prog 20 #[] w fun e w' => e = .returned (.bool true) ∧ Fr No w w' := by
  go_enter Try.func20, Try.ntmps20
  go_wp2_with fail
  refine (new21_yes ⟨2, 0, 0, false⟩ _ sp2_ok).mono ?_
  rintro e w1 ⟨g, b, rfl, hg, hb, hm, h1⟩
  go_wp2_with fail
  refine (add_calls g b _ 1 _ hm (MS.new_inv _) (by simp [MS.new]) (by simp [MS.new])).mono ?_
  rintro e w2 ⟨v, rfl, ⟨p, rfl, ho⟩, hm2, h2⟩
  have F2 : Fr No w w2 := h1.trans h2 (fun k hk e => by rcases e with e | e <;> omega)
  have hadd : (MS.new ⟨2, 0, 0, false⟩).add 1 = ((MS.new ⟨2, 0, 0, false⟩).plus 1, [], 0) := by rfl
  rw [hadd] at hm2 ho
  have H2 := Lib.hid hm2
  clear hadd hm2 ho h2 h1
  go_wp2_with fail
  refine (add_calls g b _ 1 _ H2.out ⟨by simp [MS.new, MS.plus], by simp [MS.new, MS.plus], by simp [MS.new, MS.plus], by simp [MS.new, MS.plus], by simp [MS.new, MS.plus]⟩ (by simp [MS.new, MS.plus]) (by simp [MS.new, MS.plus])).mono ?_
  rintro e w3 ⟨v, rfl, ⟨p, rfl, ho⟩, -, h3⟩
  have hadd : ((MS.new ⟨2, 0, 0, false⟩).plus 1).add 1 = ((((MS.new ⟨2, 0, 0, false⟩).plus 1).plus 1).fire 0 false |>.1, [⟨0, 0, false⟩], 0) := by rfl
  rw [hadd] at ho ⊢
  obtain ⟨ad, c, rfl, x0, x1, x2⟩ := ho.single
  clear hadd ho
  have F3 : Fr No w w3 := F2.trans h3 (fun k hk e => by rcases e with e | e <;> omega)
  go_wp2
  go_ret
  exact ⟨rfl, F3⟩
end Go.Proofs.Ythplenfbeknlhaa
