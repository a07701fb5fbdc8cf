/- What pane.Check does; the walk of PaneChecks. No condition. -/
import Derived.Test.YthplenfbeknlhaaFires
import Derived.Laws.AppendOwnNone
namespace Go.Proofs.Ythplenfbeknlhaa
open Go.RowKit

def chkV (n : Nat) : Option Nat → Value
  | none => .tuple #[.int .i64 n, .int .i64 0]
  | some i => .tuple #[.int .i64 i, .int .i64 90]

set_option maxHeartbeats 2000000 in
theorem check_calls (A : Option Addr) (c : Nat) (l : List Inf) (w : World) (h : Rows w A 3 (l.map Inf.cells)) (hn : l.length ≤ 10000000000000) (r : Option Nat) (hr : chk 0 0 l = r) :
    Calls Try.prog 19 #[.slice A l.length c] w fun e w' => e = .returned (chkV l.length r) ∧ Fr No w w' := by
  have HR := Lib.hid h
  have Hr := Lib.hid hr
  clear h hr
  go_enter Try.func19, Try.ntmps19
  go_wp2_with fail
  refine (new0_calls _).mono ?_
  rintro e w1 ⟨rfl, h1, hl1, -⟩
  go_wp2_with fail
  go_loopw [12] (fun v12 wr => ∃ (k : Nat) (s : Int), k ≤ l.length ∧ v12 = .int .i64 k ∧ Line wr w.heap.size k s ∧ Hid (chk s k (l.drop k) = r) ∧ Fr No w wr) (fun i _ => l.length - (intOf i).toNat)
  case atStart => exact ⟨0, 0, Nat.zero_le _, rfl, hl1, by exact Hr.out, h1⟩
  case round =>
    obtain ⟨k, s, hk, rfl, hl, hc, hf⟩ := hrel
    by_cases hlt : k < l.length
    · obtain ⟨ad, rfl, c0, c1, c2⟩ := inf_at (HR.out.no hf) k hlt
      have hdr := List.drop_eq_getElem_cons hlt
      have hc' := hc.out
      rw [hdr, chk] at hc'
      clear hdr hc
      generalize l[k] = p at c0 c1 c2 hc'
      obtain ⟨pi, pt, pl⟩ := p
      simp only at c0 c1 c2 hc'
      cases hcf : canFire s pt
      · rw [hcf, if_neg (by simp)] at hc'
        have Hc := Lib.hid hc'
        have HC := Lib.hid hcf
        clear hc' hcf
        go_wp2_with fail
        refine (fire_no _ _ s pt pl _ (hl.alloc _) HC.out).mono ?_
        rintro e w2 ⟨rfl, h2⟩
        unfold refusedV
        obtain ⟨x0, x1, x2, xl⟩ := ((Blk.new wr _ _).no h2).three
        go_wp2_with fail
        go_ret2
        rw [← Hc.out]
        exact ⟨rfl, ((hf.alloc _).no h2).alloc _⟩
      · have HC := Lib.hid hcf
        have Hc := Lib.hid hc'
        clear hc' hcf
        go_wp2_with fail
        refine (fire_yes _ _ s pt pl _ (hl.alloc _) HC.out (by omega) (by omega)).mono ?_
        rintro e w2 ⟨rfl, h2, hl2⟩
        unfold firedV
        have hgw : w.heap.size < wr.heap.size := hl.lt
        obtain ⟨x0, x1, x2, xl⟩ := ((Blk.new wr _ _).fr h2 (by show ¬ wr.heap.size = w.heap.size; omega)).three
        have F := ((hf.alloc _).trans h2 (fun k hk (e : k = w.heap.size) => by omega)).alloc (.cells #[.int .i64 k, .int .i64 pt, .bool pl] 31)
        have hl' := Blk.alloc hl2 (.cells #[.int .i64 k, .int .i64 pt, .bool pl] 31)
        clear hl hl2
        by_cases hi : pi = k
        · subst hi
          have hcn := Hc.out
          rw [if_pos ⟨HC.out, rfl⟩] at hcn
          have Hcn := Lib.hid hcn
          clear hcn
          go_wp2
          go_roundw
          case rel => exact ⟨k + 1, _, by omega, by go_num, hl', Hcn, F⟩
          case measure => simp [intOf]; omega
        · have hcn := Hc.out
          rw [if_neg (fun h => hi h.2)] at hcn
          have Hcn := Lib.hid hcn
          have hi' : ((k : Int) == pi) = false := by simp; omega
          clear hcn hi
          go_wp2
          go_ret2
          rw [← Hcn.out]
          exact ⟨rfl, F⟩
    · obtain rfl : k = l.length := by omega
      have hcn := hc.out
      rw [List.drop_length, chk] at hcn
      have Hcn := Lib.hid hcn
      clear hcn
      go_wp2
      go_ret2
      rw [← Hcn.out]
      exact ⟨rfl, hf⟩

theorem check_at (A : Option Addr) (n c : Nat) (l : List Inf) (w : World) (hl : l.length = n) (h : Rows w A 3 (l.map Inf.cells)) (hn : n ≤ 10000000000000) (r : Option Nat) (hr : chk 0 0 l = r) :
    Calls Try.prog 19 #[.slice A n c] w fun e w' => e = .returned (chkV n r) ∧ Fr No w w' := by
  subst hl; exact check_calls A c l w h hn r hr

theorem chk_take {l : List Inf} {k : Nat} (hk : k < l.length) : l.take (k + 1) = l.take k ++ [l[k]] := List.take_succ_eq_append_getElem hk

set_option maxHeartbeats 2000000 in
theorem checks_calls (A : Option Addr) (n c : Nat) (l : List Inf) (w : World) (h : n ≤ 500 → l.length = n ∧ Rows w A 3 (l.map Inf.cells)) (hA : A = none → n = 0 ∧ c = 0) (hn : n ≤ 10000000000000) :
    Calls Try.prog 5 #[.slice A n c] w fun e w' => e = .returned (.bool true) ∧ Fr No w w' := by
  by_cases h5 : n ≤ 500
  rotate_left
  · have h5'' : (500 : Int) < (n : Int) := by omega
    go_enter Try.func5, Try.ntmps5
    go_wp2_with fail
    refine (awake9_calls _).mono ?_
    rintro e w2 ⟨rfl, h2⟩
    go_wp2_with fail
    go_ret
    exact ⟨rfl, h2⟩
  obtain ⟨rfl, hr⟩ := h h5
  have HR := Lib.hid hr
  clear h hr
  have h5'' : ¬ (500 : Int) < (l.length : Int) := by omega
  obtain ⟨i0, hi, hz0, hz1, hz2⟩ := info_parts info31
  go_enter Try.func5, Try.ntmps5
  have hnil := World.ownsRow_made (base := w.heap.size) (e := 31) (size := 3) w #[] 0 (Nat.le_refl _) (by unfold maxLen; omega) rfl
  go_wp2_with (at_builtin; refine wpList_append_any _ rfl (.tmp 13) (.tmp 14) 39 rfl w.heap.size 31 i0 (.agg #[.int .i64 0, .int .i64 0, .bool false]) 3 24 Try.underlying39 hi hz0 hz1 hz2 rfl (by decide) _ 0 [] rfl hnil A l.length c (l.flatMap Inf.cells) rfl hA (inf_flat_len l) (fun ad e => by subst e; exact rows_flat (HR.out.no ((Fr.refl _ _).alloc _))) (inf_ones l) (by unfold maxLen; omega) (by omega) (by simp) ?_)
  intro v1 w1 hown hgrow
  have ho : Own w1 w.heap.size 31 v1 l := by unfold Own; simpa using hown
  have F : Fr No w w1 := Fr.grown ((Fr.refl _ _).alloc _) hgrow (fun k hk hlt => by simp [Value.ownBlock] at hk; omega)
  obtain ⟨A1, c1, rfl, -, hrows⟩ := ho.slice
  clear hown hgrow hnil ho
  obtain ⟨at_, er, hv, hnone, hsome⟩ : ∃ at_ er : Int, chkV l.length (chk 0 0 l) = .tuple #[.int .i64 at_, .int .i64 er] ∧ (chk 0 0 l = none → at_ = l.length ∧ er = 0) ∧ (∀ i, chk 0 0 l = some i → at_ = (i : Int) ∧ er = 90) := by
    cases chk 0 0 l with
    | none => exact ⟨_, _, rfl, fun _ => ⟨rfl, rfl⟩, fun i h => by cases h⟩
    | some i => exact ⟨_, _, rfl, (fun h => by cases h), fun i h => by cases h; exact ⟨rfl, rfl⟩⟩
  have HV := Lib.hid hv
  have HN := Lib.hid hnone
  have HS := Lib.hid hsome
  clear hv hnone hsome
  obtain ⟨j0, hj, hy0, hy1, hy2⟩ := info_parts info30
  go_wp2_with fail
  refine (check_calls A1 c1 l _ hrows hn _ rfl).mono ?_
  rintro e w2 ⟨rfl, h2⟩
  rw [HV.out]
  go_wp2_with fail
  have F2 := F.no h2
  clear hrows F h2
  go_loopw [5, 21] (fun v5 v21 wr => ∃ (k : Nat) (s : Int), k ≤ l.length ∧ v21 = .int .i64 k ∧ Own wr w.heap.size 30 v5 (l.take k) ∧ Good (l.take k) s ∧ Hid (chk 0 0 l = chk s k (l.drop k)) ∧ Fr No w wr) (fun _ i _ => l.length - (intOf i).toNat)
  case atStart => exact ⟨0, 0, Nat.zero_le _, rfl, Own.nil _ _ _, Good.nil, by exact rfl, F2⟩
  case round =>
    obtain ⟨k, s, hk, rfl, ho, hg, hc, hf⟩ := hrel
    have hlen : (l.take k).length = k := by simp; omega
    by_cases hlt : k < l.length
    · obtain ⟨ad, hA', c0, c1, c2⟩ := inf_at (HR.out.no hf) k hlt
      subst hA'
      have hc' := hc.out
      rw [List.drop_eq_getElem_cons hlt, chk] at hc'
      have HT := Lib.hid (chk_take hlt)
      clear hc
      generalize l[k] = p at c0 c1 c2 hc' HT
      have hfol := hg.step p
      obtain ⟨pi, pt, pl⟩ := p
      simp only at c0 c1 c2 hc' hfol
      rw [hlen] at hfol
      obtain ⟨A5, c5, rfl, -, hrows⟩ := ho.slice
      have hrows' := hrows.no ((Fr.refl No wr).alloc (.cells #[.int .i64 pi, .int .i64 pt, .bool pl] 31))
      generalize hd : l.take k = done at *
      have HD := Lib.hid hd
      have HL := Lib.hid hlen
      clear hd hrows
      by_cases hok : canFire s pt = true ∧ pi = k
      · have HC := Lib.hid hok.1
        obtain rfl := hok.2
        rw [if_pos hok] at hc'
        have Hc := Lib.hid hc'
        rw [hok.1] at hfol
        simp at hfol
        have Hfol := Lib.hid hfol
        clear hc' hok hfol hlen
        go_wp2_with fail
        refine (follows_calls A5 c5 done ⟨k, pt, pl⟩ _ hrows' (by have := HL.out; omega) true Hfol.out).mono ?_
        rintro e w3 ⟨rfl, h3⟩
        obtain ⟨z0, z1, z2, zl⟩ := ((Blk.new wr _ _).no h3).three
        have ho3 := ho.no ((((Fr.refl _ _).alloc _).no h3).alloc (.cells #[.int .i64 k, .int .i64 pt, .bool pl] 30))
        have hbase : w.heap.size ≤ w3.heap.size := by have := hf.size; omega
        have hF3 := ((hf.alloc _).no h3).alloc (.cells #[.int .i64 k, .int .i64 pt, .bool pl] 30)
        have hdl : done.length ≤ 500 := by have := HL.out; omega
        go_wp2_with (at_builtin; refine wpList_append_any _ rfl (.tmp 40) (.tmp 42) 26 rfl w.heap.size 30 j0 (.agg #[.int .i64 0, .int .i64 0, .bool false]) 3 24 Try.underlying26 hj hy0 hy1 hy2 rfl (by decide) _ done.length _ rfl ho3 (some ⟨w3.heap.size, 0, none⟩) 1 1 (Inf.cells ⟨k, pt, pl⟩) rfl (fun h => by cases h) rfl (fun ad e => by cases e; exact inf_new w3 ⟨k, pt, pl⟩ 30) (inf_one _) (by unfold maxLen; omega) (by omega) (by simp; omega) ?_)
        intro v5 w5 hown5 hgrow5
        have hG := hg.fire pt pl HC.out
        rw [HL.out] at hG
        have ho5 := Own.push hown5
        have hF5 : Fr No w w5 := hF3.grown hgrow5 (fun k hk _ => by have := ho3.ge k hk; omega)
        clear hown5 hgrow5 ho3 z0 z1 z2 zl c0 c1 c2
        go_wp2
        go_roundw
        case rel =>
          refine ⟨k + 1, _, by omega, by go_num, ?_, ?_, Hc, hF5⟩
          · rw [HT.out]; exact ho5
          · rw [HT.out]; exact hG
        case measure => simp [intOf]; omega
      · have hfol' : follows done ⟨pi, pt, pl⟩ = false := by
          rw [hfol]
          cases hcf : canFire s pt
          · rfl
          · have : ¬ pi = k := fun e => hok ⟨hcf, e⟩
            simpa using this
        rw [if_neg hok] at hc'
        obtain ⟨rfl, rfl⟩ := HS.out _ hc'
        have Hfol := Lib.hid hfol'
        clear hc' hok hfol hfol' hlen
        go_wp2_with fail
        refine (follows_calls A5 c5 done ⟨pi, pt, pl⟩ _ hrows' (by have := HL.out; omega) false Hfol.out).mono ?_
        rintro e w3 ⟨rfl, h3⟩
        go_wp2_with fail
        refine (awake9_calls _).mono ?_
        rintro e w4 ⟨rfl, h4⟩
        go_wp2_with fail
        go_ret
        exact ⟨rfl, ((hf.alloc _).no h3).no h4⟩
    · obtain rfl : k = l.length := by omega
      have hcn := hc.out
      rw [List.drop_length, chk] at hcn
      obtain ⟨rfl, rfl⟩ := HN.out hcn
      clear hcn hc
      go_wp2_with fail
      refine (awake9_calls _).mono ?_
      rintro e w4 ⟨rfl, h4⟩
      go_wp2_with fail
      go_ret
      exact ⟨rfl, hf.no h4⟩
end Go.Proofs.Ythplenfbeknlhaa
