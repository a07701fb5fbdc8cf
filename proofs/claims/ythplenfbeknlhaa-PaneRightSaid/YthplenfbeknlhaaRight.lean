/- The walk of PaneRight. No condition. -/
import Derived.Test.YthplenfbeknlhaaCheck9
import Derived.Deep.RegionLaw
namespace Go.Proofs.Ythplenfbeknlhaa
open Go.RowKit

theorem rows_take {w : World} {A : Option Addr} {l : List Inf} (h : Rows w A 3 (l.map Inf.cells)) (j : Nat) : Rows w A 3 ((l.take j).map Inf.cells) := by
  intro i cs hi
  refine h i cs ?_
  rw [List.map_take, List.getElem?_take] at hi
  split at hi
  · exact hi
  · cases hi

theorem rows_drop {w : World} {ad : Addr} {l : List Inf} (h : Rows w (some ad) 3 (l.map Inf.cells)) (j : Nat) : Rows w (some (ad.add (j * 3))) 3 ((l.drop j).map Inf.cells) := by
  intro i cs hi
  rw [List.map_drop, List.getElem?_drop] at hi
  obtain ⟨ad', e, hc⟩ := h (j + i) cs hi
  obtain rfl := Option.some.inj e
  refine ⟨_, rfl, fun k u hu => ?_⟩
  have := hc k u hu
  rw [add_add, Nat.add_mul] at this
  rw [add_add, add_add, ← Nat.add_assoc]
  exact this

set_option maxHeartbeats 2000000 in
theorem right_calls (A : Option Addr) (n c : Nat) (ts : List Tr) (out : Int) (w : World) (h : n ≤ 500 → ts.length = n ∧ Rows w A 2 (ts.map Tr.cells)) (hn : n ≤ 1000000000000000) :
    Calls Try.prog 6 #[.slice A n c, .int .i64 out] w fun e w' => e = .returned (.bool true) ∧ Fr No w w' := by
  by_cases h5 : n ≤ 500
  rotate_left
  · have h5'' : (500 : Int) < (n : Int) := by omega
    go_enter Try.func6, Try.ntmps6
    go_wp2_with fail
    refine (new0_calls _).mono ?_
    rintro e w1 ⟨rfl, h1, hl1, -⟩
    go_wp2_with fail
    refine (awake9_calls _).mono ?_
    rintro e w2 ⟨rfl, h2⟩
    go_wp2_with fail
    go_ret
    exact ⟨rfl, h1.no h2⟩
  obtain ⟨rfl, hr⟩ := h h5
  have HR := Lib.hid hr
  clear h hr
  have h5'' : ¬ (500 : Int) < (ts.length : Int) := by omega
  obtain ⟨i0, hi, hz0, hz1, hz2⟩ := info_parts info31
  go_enter Try.func6, Try.ntmps6
  go_wp2_with fail
  refine (new0_calls _).mono ?_
  rintro e w1 ⟨rfl, h1, hl1, -⟩
  go_wp2_with fail
  go_loopw [6, 31] (fun v6 v31 wr => ∃ (k : Nat) (done : List Inf) (s : Int), k ≤ ts.length ∧ v31 = .int .i64 k ∧ Own wr w.heap.size 31 v6 done ∧ Line wr w.heap.size done.length s ∧
    Hid (chk 0 0 done = none ∧ s = fin 0 done) ∧ done.length ≤ k ∧ Fr No w wr) (fun _ i _ => ts.length - (intOf i).toNat)
  case atStart => exact ⟨0, [], 0, Nat.zero_le _, rfl, Own.nil _ _ _, hl1, by exact ⟨rfl, rfl⟩, Nat.le_refl _, h1⟩
  case round =>
    obtain ⟨k, done, s, hk, rfl, ho, hl, hg, hd, hf⟩ := hrel
    by_cases hlt : k < ts.length
    · obtain ⟨ad, rfl, c0, c1⟩ := tr_at (HR.out.no hf) k hlt
      generalize ts[k] = tr at c0 c1
      obtain ⟨t, b⟩ := tr
      simp only at c0 c1
      obtain ⟨A4, c4, rfl, hcap, hrows⟩ := ho.slice
      have HCAP := Lib.hid hcap
      clear hcap hrows
      cases hcf : canFire s t
      · have HC := Lib.hid hcf
        clear hcf
        go_wp2_with fail
        refine (fire_no _ _ s t b _ (hl.alloc _) HC.out).mono ?_
        rintro e w2 ⟨rfl, h2⟩
        unfold refusedV
        have F := ((hf.alloc _).no h2).alloc (.cells #[.int .i64 0, .int .i64 0, .bool false] 31)
        have F' := (((Fr.refl No wr).alloc _).no h2).alloc (.cells #[.int .i64 0, .int .i64 0, .bool false] 31)
        have ho' := ho.no F'
        have hl' := Blk.no hl F'
        clear F'
        go_wp2
        go_roundw
        case rel => exact ⟨k + 1, done, s, by omega, by go_num, ho', hl', hg, by omega, F⟩
        case measure => simp [intOf]; omega
      · have HC := Lib.hid hcf
        clear hcf
        go_wp2_with fail
        refine (fire_yes _ _ s t b _ (hl.alloc _) HC.out (by omega) (by omega)).mono ?_
        rintro e w2 ⟨rfl, h2, hl2⟩
        unfold firedV
        have hgw : w.heap.size < wr.heap.size := hl.lt
        have hne := ho.ne hl (by decide)
        have ho2 := ((((ho.alloc _).fr h2 (fun k hk e => hne k hk e)).alloc (.cells #[.int .i64 done.length, .int .i64 t, .bool b] 31)).alloc (.cells #[.int .i64 done.length, .int .i64 t, .bool b] 31))
        have hl3 := (Blk.alloc hl2 (.cells #[.int .i64 done.length, .int .i64 t, .bool b] 31)).alloc (.cells #[.int .i64 done.length, .int .i64 t, .bool b] 31)
        have F2 := (((hf.alloc _).trans h2 (fun k hk (e : k = w.heap.size) => by omega)).alloc (.cells #[.int .i64 done.length, .int .i64 t, .bool b] 31)).alloc (.cells #[.int .i64 done.length, .int .i64 t, .bool b] 31)
        have hbase : w.heap.size ≤ w2.heap.size := by have := h2.size; simp at this; omega
        clear hne c0 c1
        have hnew := inf_new (w2.alloc (.cells #[.int .i64 done.length, .int .i64 t, .bool b] 31)) ⟨done.length, t, b⟩ 31
        rw [World.size_alloc] at hnew
        go_wp2_with (at_builtin; refine wpList_append_any _ rfl (.tmp 46) (.tmp 48) 39 rfl w.heap.size 31 i0 (.agg #[.int .i64 0, .int .i64 0, .bool false]) 3 24 Try.underlying39 hi hz0 hz1 hz2 rfl (by decide) _ done.length _ rfl ho2 (some ⟨w2.heap.size + 1, 0, none⟩) 1 1 (Inf.cells ⟨done.length, t, b⟩) rfl (fun h => by cases h) rfl (fun ad e => by cases e; exact hnew) (inf_one _) (by unfold maxLen; omega) (by omega) (by simp; omega) ?_)
        intro v4' w4 hown4 hgrow4
        have F : Fr No w w4 := F2.grown hgrow4 (fun k hk _ => by have := ho2.ge k hk; omega)
        have hl4 : Line w4 w.heap.size (done.length + 1) (stageOf t b) := Blk.grown hl3 hgrow4 (fun e => ho2.ne hl3 (by decide) _ e.symm rfl)
        have ho4 := Own.push hown4
        have hg4 := Lib.hid (chk_snoc hg.out.1 hg.out.2 t b HC.out)
        clear hnew hl3 hl2 hl hown4 hgrow4 ho2 h2 hbase F2
        go_wp2
        go_roundw
        case rel => exact ⟨k + 1, _, _, by omega, by go_num, ho4, by simpa using hl4, hg4, by simp; omega, F⟩
        case measure => simp [intOf]; omega
    · obtain rfl : k = ts.length := by omega
      obtain ⟨A4, c4, rfl, hcap, hrows⟩ := ho.slice
      have HCAP := Lib.hid hcap
      have hdl : done.length ≤ 500 := by omega
      clear hcap hlt
      go_wp2_with fail
      refine (check_calls A4 c4 done _ hrows (by omega) none hg.out.1).mono ?_
      rintro e w2 ⟨rfl, h2⟩
      unfold chkV
      by_cases ho1 : out < 0
      · go_wp2_with fail
        refine (awake9_calls _).mono ?_
        rintro e w3 ⟨rfl, h3⟩
        go_wp2_with fail
        go_ret
        exact ⟨rfl, (hf.no h2).no h3⟩
      · obtain ⟨j, rfl⟩ : ∃ j : Nat, out = j := ⟨out.toNat, by omega⟩
        by_cases ho2 : (done.length : Int) - 1 ≤ j
        · go_wp2_with fail
          refine (awake9_calls _).mono ?_
          rintro e w3 ⟨rfl, h3⟩
          go_wp2_with fail
          go_ret
          exact ⟨rfl, (hf.no h2).no h3⟩
        · have hj1 : j + 1 < done.length := by omega
          have hout := Lib.hid (chk_out hg.out.1 j hj1)
          have hcj : ¬ c4 = j + 1 := by have := HCAP.out; omega
          have hcap' : done.length ≤ c4 := HCAP.out
          have hjc : j ≤ c4 := by omega
          have hjc1 : j + 1 ≤ c4 := by omega
          have hjl : j + 1 ≤ done.length := by omega
          obtain ⟨ad, rfl⟩ : ∃ ad, A4 = some ad := by obtain ⟨ad, e, _⟩ := inf_at hrows 0 (by omega); exact ⟨ad, e⟩
          have hr2 := hrows.no h2
          have hfl : ((done.take j).flatMap Inf.cells).length = j * 3 := by rw [inf_flat_len]; simp; omega
          have hfr : ((done.drop (j + 1)).flatMap Inf.cells).length = (done.length - (j + 1)) * 3 := by rw [inf_flat_len]; simp
          have Hfl := Lib.hid hfl
          have Hfr := Lib.hid hfr
          have HR2 := Lib.hid hr2
          clear hfl hfr hrows hr2
          have hsz2 : w.heap.size ≤ w2.heap.size := by have := hf.size; have := h2.size; omega
          go_wp2_with fail
          have hnil : ((w2.alloc (.cells #[] 31)).drew).ownsRow w.heap.size 31 3 (.slice (some ⟨w2.heap.size, 0, none⟩) 0 0) 0 [] := World.ownsRow_made w2 #[] 0 hsz2 (by unfold maxLen; omega) rfl
          have hr3 := Lib.hid ((HR2.out.no ((Fr.refl _ _).alloc (.cells #[] 31))).no (Fr.refl _ _).drew)
          have hbs : w.heap.size ≤ ((w2.alloc (.cells #[] 31)).drew).heap.size := by show _ ≤ (w2.alloc _).heap.size; simp; omega
          have hw1 : IntKind.i64.wrap ((j : Int) + 1) = (j : Int) + 1 := IntWalk.i64_in _ (by omega)
          have hw2 : (0 : Int) ≤ (j : Int) + 1 := by omega
          have hw3 : ((j : Int) + 1).toNat = j + 1 := by omega
          have hw4 : (j : Int) + 1 ≤ (done.length : Int) := by omega
          go_region_law (first | (refine step_append_any rfl (.tmp 74) (.tmp 77) 39 rfl w.heap.size 31 i0 (.agg #[.int .i64 0, .int .i64 0, .bool false]) 3 24 Try.underlying39 hi hz0 hz1 hz2 rfl (by decide) _ 0 [] rfl hnil (some ad) j c4 ((done.take j).flatMap Inf.cells) rfl (fun h => by cases h) Hfl.out (fun ad e => by cases e; exact rows_flat (rows_take hr3.out j)) (inf_ones _) (by unfold maxLen; omega) (by omega) hbs ?_; intro v1 w1 hown1 hgrow1) | (refine step_append_any rfl (.tmp 78) (.tmp 82) 39 rfl w.heap.size 31 i0 (.agg #[.int .i64 0, .int .i64 0, .bool false]) 3 24 Try.underlying39 hi hz0 hz1 hz2 rfl (by decide) _ (0 + j) _ rfl hown1 (some (ad.add ((j + 1) * 3))) (done.length - (j + 1)) (c4 - (j + 1)) ((done.drop (j + 1)).flatMap Inf.cells) rfl (fun h => by cases h) Hfr.out (fun ad' e => by cases e; exact rows_flat (rows_drop (HR2.out.no (Fr.grown (((Fr.refl No w2).alloc (.cells #[] 31)).drew) hgrow1 (fun k hk hlt => by have e : w2.heap.size = k := Option.some.inj hk; exact absurd e (Nat.ne_of_gt hlt)))) (j + 1))) (inf_ones _) (by unfold maxLen; omega) (by omega) (Nat.le_trans hbs hgrow1.size) ?_; intro v3 w3 hown3 hgrow3))
          have hF1 : Fr No w w1 := Fr.grown (((hf.no h2).alloc (.cells #[] 31)).drew) hgrow1 (fun k hk hlt => by have e : w2.heap.size = k := Option.some.inj hk; omega)
          have hF3 : Fr No w w3 := Fr.grown hF1 hgrow3 (fun k hk hlt => by have := (World.ownsRow.lt hown1 k hk).1; omega)
          have ho3 : Own w3 w.heap.size 31 v3 (done.take j ++ done.drop (j + 1)) := Own.append (by simpa using hown3) (by simp; omega)
          obtain ⟨A7, c7, hv7, -, hrows7⟩ := ho3.slice
          obtain ⟨n7, hn7⟩ : ∃ n, (done.take j ++ done.drop (j + 1)).length = n := ⟨_, rfl⟩
          rw [hn7] at hv7
          subst hv7
          have hlen7 : n7 ≤ 500 := by rw [← hn7]; simp; omega
          have HN7 := Lib.hid hn7
          clear hown1 hown3 hgrow1 hgrow3 hnil hbs hw1 hw2 hw3 hw4 hn7 ho3
          go_wp2_with fail
          refine (check_at A7 n7 c7 _ _ HN7.out hrows7 (by omega) (some j) hout.out).mono ?_
          rintro e w4 ⟨rfl, h4⟩
          unfold chkV
          go_wp2_with fail
          refine (awake9_calls _).mono ?_
          rintro e w5 ⟨rfl, h5⟩
          go_wp2_with fail
          go_ret
          exact ⟨rfl, (hF3.no h4).no h5⟩
end Go.Proofs.Ythplenfbeknlhaa
