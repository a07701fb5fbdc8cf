/- The walk of TriggerPlays. No condition. -/
import Derived.Test.YthplenfbeknlhaaPlays2
namespace Go.Proofs.Ythplenfbeknlhaa
open Go.RowKit

theorem step_calls (base g b h : Nat) (m : MS) (v : Value) (l : List Inf) (kd nn : Int) (old : Bool) (w : World) (hm : Mac w g b m) (hr : RM w base h m v l) (hpi0 : PInv m l) (hb : base ≤ w.heap.size)
    (hl : (l.length + 1) * 24 ≤ 140737488355328) (hf : m.fresh ≤ 1000000000000000000) (hok : m.s.ok = true) (s : Sp) (hs : m.s = s) :
    Calls Try.prog 29 #[.pointer (some ⟨g, 0, none⟩), .pointer (some ⟨h, 0, none⟩), s.v, .agg #[.int .i64 kd, .int .i64 nn, .bool old]] w (SPost w base g b h m v l) := by
  subst hs
  by_cases h1 : kd = 1
  · subst h1; exact step1 base g b h m v l 1 nn old w hm hr hpi0 hb hl hf hok
  by_cases h2 : kd = 2
  · subst h2; exact step2 base g b h m v l 2 nn old w hm hr hpi0 hb hl hf hok
  by_cases h3 : kd = 3
  · subst h3; exact step3 base g b h m v l 3 nn old w hm hr hpi0 hb hl hf hok
  by_cases h4 : kd = 4
  · subst h4
    cases old
    · exact step4 base g b h m v l 4 nn w hm hr hpi0 hb hl hf hok
    · exact step5 base g b h m v l 4 nn w hm hr hpi0 hb hl hf hok
  · exact step0 base g b h m v l kd nn old w hm hr hpi0 hb hl hf hok (by simpa using h1) (by simpa using h2) (by simpa using h3) (by simpa using h4)

set_option maxHeartbeats 4000000 in
theorem plays_calls (s : Sp) (A : Option Addr) (c : Nat) (ts : List Inf) (w : World) (hr : Rows w A 3 (ts.map Inf.cells)) (hn : ts.length * 24 ≤ 140737488351232) :
    Calls Try.prog 10 #[s.v, .slice A ts.length c] w fun e w' => e = .returned (.bool true) ∧ Fr No w w' := by
  cases hok : s.ok
  · have HOK := Lib.hid hok
    have HOK' := Lib.hid (show (if s.ok then (0 : Int) else 100) = 100 by rw [hok]; rfl)
    clear hok hr
    obtain ⟨e, l, la, acc⟩ := s
    unfold Sp.v
    simp only
    go_enter Try.func10, Try.ntmps10
    go_wp2_with fail
    refine (new21_no ⟨e, l, la, acc⟩ _ HOK.out).mono ?_
    rintro e' w1 ⟨rfl, h1⟩
    obtain ⟨x0, x1, x2, x3, xl⟩ := ((Blk.new w _ _).no h1).four
    go_wp2_with fail
    refine (right27 ⟨e, l, la, acc⟩ _).mono ?_
    rintro e' w2 ⟨rfl, h2⟩
    rw [HOK.out]
    obtain ⟨x0, x1, x2, x3, xl⟩ := (((Blk.new w _ _).no h1).no h2).four
    go_wp2_with fail
    refine (spec_calls ⟨e, l, la, acc⟩ _ _ HOK'.out).mono ?_
    rintro e' w3 ⟨rfl, h3⟩
    go_wp2_with fail
    refine (awake10_calls _).mono ?_
    rintro e' w4 ⟨rfl, h4⟩
    go_wp2_with fail
    go_ret
    exact ⟨rfl, (((((Fr.refl _ _).alloc _).no h1).no h2).no h3).no h4⟩
  have HOK := Lib.hid hok
  have HOK' := Lib.hid (show (if s.ok then (0 : Int) else 100) = 0 by rw [hok]; rfl)
  have HR := Lib.hid hr
  clear hok hr
  obtain ⟨e, l, la, acc⟩ := s
  unfold Sp.v
  simp only
  go_enter Try.func10, Try.ntmps10
  go_wp2_with fail
  refine (new21_yes ⟨e, l, la, acc⟩ _ HOK.out).mono ?_
  rintro e' w1 ⟨g, b, rfl, hg, hb, hm, h1⟩
  have F1 := ((Fr.refl No w).alloc _).no h1
  have hS1 := (Blk.new w _ _).no h1
  simp only [World.size_alloc] at hg hb
  obtain ⟨x0, x1, x2, x3, xl⟩ := hS1.four
  clear h1
  go_wp2_with fail
  refine (right27 ⟨e, l, la, acc⟩ _).mono ?_
  rintro e' w2 ⟨rfl, h2⟩
  rw [HOK.out]
  have F2 := F1.no h2
  have hS2 := hS1.no h2
  have hm2 := hm.no h2
  obtain ⟨x0, x1, x2, x3, xl⟩ := hS2.four
  clear F1 hS1 hm h2
  go_wp2_with fail
  refine (spec_calls ⟨e, l, la, acc⟩ _ _ HOK'.out).mono ?_
  rintro e' w3 ⟨rfl, h3⟩
  have F3 := F2.no h3
  have hS3 := hS2.no h3
  have hm3 := hm2.no h3
  obtain ⟨x0, x1, x2, x3, xl⟩ := hS3.four
  clear F2 hS2 hm2 h3
  go_wp2_with fail
  have hm4 := Lib.hid (hm3.no ((Fr.refl No w3).alloc (.cells #[.int .i64 e, .int .i64 l, .int .i64 la, .bool acc, .slice none 0 0, .int .i64 0, .bool false, .bool false] 66)))
  have hS4 := Lib.hid (hS3.no ((Fr.refl No w3).alloc (.cells #[.int .i64 e, .int .i64 l, .int .i64 la, .bool acc, .slice none 0 0, .int .i64 0, .bool false, .bool false] 66)))
  have F4 := Lib.hid (F3.alloc (.cells #[.int .i64 e, .int .i64 l, .int .i64 la, .bool acc, .slice none 0 0, .int .i64 0, .bool false, .bool false] 66))
  have hr4 := Lib.hid (show RM (w3.alloc (.cells #[.int .i64 e, .int .i64 l, .int .i64 la, .bool acc, .slice none 0 0, .int .i64 0, .bool false, .bool false] 66)) w.heap.size w3.heap.size (MS.new ⟨e, l, la, acc⟩) (.slice none 0 0) [] from ⟨Blk.new w3 _ _, Own.nil _ _ _⟩)
  have HG := Lib.hid (show w.heap.size ≤ g ∧ w.heap.size ≤ b ∧ w.heap.size ≤ w3.heap.size from ⟨by omega, by omega, F3.size⟩)
  obtain ⟨hh, hhh⟩ : ∃ hh, hh = w3.heap.size := ⟨_, rfl⟩
  rw [← hhh] at hr4 HG ⊢
  clear hm3 hS3 F3 hg hb x0 x1 x2 x3 xl hhh
  go_loopw [48] (fun v48 wr => ∃ (k : Nat) (all : List Inf) (m : MS) (v : Value), k ≤ ts.length ∧ v48 = .int .i64 k ∧ Hid (Mac wr g b m) ∧ Hid (RM wr w.heap.size hh m v all) ∧ Hid (PInv m all) ∧ Hid (m.s = ⟨e, l, la, acc⟩) ∧ all.length ≤ k ∧ m.fresh ≤ 2000 * k ∧
    Hid (Blk wr w.heap.size [.int .i64 e, .int .i64 l, .int .i64 la, .bool acc] 48) ∧ Fr No w wr) (fun i _ => ts.length - (intOf i).toNat)
  case atStart => exact ⟨0, [], _, _, Nat.zero_le _, rfl, hm4, hr4, Lib.hid (PInv.new _), by exact rfl, Nat.le_refl _, by simp [MS.new], hS4, F4.out⟩
  case round =>
    obtain ⟨k, all, m, v, hk, rfl, hma, hra, hpi, hms, hal, hfr, hS, hf⟩ := hrel
    clear hm4 hr4 hS4 F4
    by_cases hlt : k < ts.length
    · obtain ⟨ad, hA, c0, c1, c2⟩ := inf_at (HR.out.no hf) k hlt
      subst hA
      generalize ts[k] = op at c0 c1 c2
      obtain ⟨kd, nn, old⟩ := op
      simp only at c0 c1 c2
      obtain ⟨x0, x1, x2, x3, xl⟩ := hS.out.four
      have hfr' : m.fresh ≤ 1000000000000000000 := by omega
      have hbase : w.heap.size ≤ wr.heap.size := hf.size
      have HOP := Lib.hid ((Fr.refl No wr).alloc (.cells #[.int .i64 kd, .int .i64 nn, .bool old] 68))
      have HSK := Lib.hid (show m.s.ok = true by rw [hms.out]; exact HOK.out)
      have HLK := Lib.hid (show (all.length + 1) * 24 ≤ 140737488355328 by omega)
      have HFK := Lib.hid hfr'
      have HBK := Lib.hid (show w.heap.size ≤ (wr.alloc (.cells #[.int .i64 kd, .int .i64 nn, .bool old] 68)).heap.size by rw [World.size_alloc]; omega)
      have HNS := Lib.hid (show ¬ own g b hh v w.heap.size from fun e => by
        rcases e with e | e | e | e
        · exact Blk.ne hS.out hma.out.1 (by decide) e
        · exact Blk.ne hS.out hma.out.2 (by decide) e
        · exact Blk.ne hS.out hra.out.1 (by decide) e
        · exact hra.out.2.ne hS.out (by decide) _ e rfl)
      have HNW := Lib.hid (show ∀ k, k < w.heap.size → ¬ own g b hh v k from fun k hk e => by
        have := HG.out
        rcases e with e | e | e | e
        · omega
        · omega
        · omega
        · have := (hra.out.2.ge k e).1; omega)
      clear hfr'
      go_wp2_with fail
      refine (step_calls w.heap.size g b hh m v all kd nn old _ (hma.out.no HOP.out) (hra.out.no HOP.out) hpi.out HBK.out HLK.out HFK.out HSK.out ⟨e, l, la, acc⟩ hms.out).mono ?_
      rintro e' w5 ⟨rfl, m', v', l', hm5, hr5, hpi5, hs5, hl5, hf5, h5⟩
      have F5 := (hf.alloc (.cells #[.int .i64 kd, .int .i64 nn, .bool old] 68)).trans h5 (fun k hk e => HNW.out k hk e)
      have hS5 := Lib.hid (Blk.fr (hS.out.alloc (.cells #[.int .i64 kd, .int .i64 nn, .bool old] 68)) h5 HNS.out)
      have HM5 := Lib.hid hm5
      have HR5 := Lib.hid hr5
      have HP5 := Lib.hid hpi5
      have HS5 := Lib.hid (hs5.trans hms.out)
      clear hm5 hr5 hpi5 hs5 h5 HBK HLK HFK HSK hma hra hpi hms hS hf c0 c1 c2 x0 x1 x2 x3
      go_wp2_with fail
      go_roundw
      case rel => exact ⟨k + 1, l', m', v', by omega, by go_num, HM5, HR5, HP5, HS5, by omega, by omega, hS5, F5⟩
      case measure => simp [intOf]; omega
    · obtain rfl : k = ts.length := by omega
      clear hlt
      go_wp2_with fail
      refine (join_self g _).mono ?_
      rintro e' w5 ⟨rfl, rfl⟩
      go_wp2_with fail
      refine (awake10_calls _).mono ?_
      rintro e' w6 ⟨rfl, h6⟩
      go_wp2_with fail
      go_ret
      exact ⟨rfl, hf.no h6⟩
end Go.Proofs.Ythplenfbeknlhaa
