/- The walk of TriggerPanes. No condition. -/
import Derived.Test.YthplenfbeknlhaaTrig2
namespace Go.Proofs.Ythplenfbeknlhaa
open Go.RowKit

/-! ### What holds of a machine and of all panes that it has fired -/
def ons (l : List Inf) : Nat := (l.filter fun p => p.t == 1).length
structure PInv (m : MS) (l : List Inf) : Prop where
  inv : m.Inv
  idx : m.next = l.length
  ck : chk 0 0 l = none
  st : m.stage = fin 0 l
  on : ons l = if m.passed then 1 else 0
  cl : m.closed = true → m.fresh = 0

theorem PInv.new (s : Sp) : PInv (MS.new s) [] := ⟨MS.new_inv s, rfl, rfl, rfl, rfl, fun _ => rfl⟩

theorem ons_snoc (l : List Inf) (p : Inf) : ons (l ++ [p]) = ons l + if p.t = 1 then 1 else 0 := by
  unfold ons
  rw [List.filter_append, List.length_append]
  congr 1
  by_cases h : p.t = 1 <;> simp [h]

theorem PInv.fire {s : Sp} {nx : Nat} {st : Int} {pa cl : Bool} {l : List Inf} (t : Int) (b : Bool) (hidx : nx = l.length) (hck : chk 0 0 l = none) (hst : st = fin 0 l) (hcan : canFire st t = true) (ht : 0 ≤ t ∧ t ≤ 2)
    (hon : ons l + (if t = 1 then 1 else 0) = if pa then 1 else 0) (hyoung : pa = false → stageOf t b = 0 ∧ cl = false) (hold : pa = true → stageOf t b ≠ 0) (hover : cl = false → stageOf t b ≠ 3) :
    PInv ⟨s, nx + 1, stageOf t b, 0, pa, cl⟩ (l ++ [⟨nx, t, b⟩]) := by
  subst hidx
  obtain ⟨hk1, hk2⟩ := chk_snoc hck hst t b hcan
  refine ⟨⟨?_, hyoung, hold, hover, Int.le_refl 0⟩, by simp, hk1, hk2, by rw [ons_snoc]; exact hon, fun _ => rfl⟩
  show 0 ≤ stageOf t b ∧ stageOf t b ≤ 3
  unfold stageOf
  split <;> omega

theorem PInv.add {m : MS} {l : List Inf} (h : PInv m l) (n : Int) : PInv (m.add n).1 (l ++ (m.add n).2.1) ∧ (m.add n).2.1.length ≤ 1 ∧ (m.add n).1.fresh ≤ m.fresh + 1000 := by
  have hp := h.inv.pos
  unfold MS.add
  by_cases h1 : 1 ≤ n ∧ n ≤ 1000
  rotate_left
  · rw [if_neg h1]
    exact ⟨by simpa using h, by simp, by simp; omega⟩
  rw [if_pos h1]
  obtain ⟨s, nx, st, fr, pa, cl⟩ := m
  have hidx : nx = l.length := h.idx
  have hst : st = fin 0 l := h.st
  have hon := h.on
  have hyoung := h.inv.young
  have hover := h.inv.over
  simp only at hp hon hyoung hover
  cases cl
  rotate_left
  · exact ⟨by simpa using h, by simp, by simp; omega⟩
  simp only [Bool.false_eq_true, if_false]
  have ho := hover rfl
  by_cases h2 : (MS.mk s nx st fr pa false).lim = 0 ∨ fr + n < (MS.mk s nx st fr pa false).lim
  · rw [if_pos h2]
    refine ⟨⟨⟨h.inv.rng, h.inv.young, h.inv.old, h.inv.over, by show 0 ≤ fr + n; omega⟩, by simpa [MS.plus] using hidx, by simpa using h.ck, by simpa [MS.plus] using hst, by cases pa <;> simpa [MS.plus] using hon, fun e => by simp [MS.plus] at e⟩, by simp, by show fr + n ≤ _; omega⟩
  · rw [if_neg h2]
    refine ⟨?_, by simp [MS.fire], by simp [MS.fire]; omega⟩
    cases pa
    · obtain ⟨hs0, -⟩ := hyoung rfl
      show PInv ⟨s, nx + 1, stageOf 0 false, 0, false, false⟩ (l ++ [⟨nx, 0, false⟩])
      exact PInv.fire 0 false hidx h.ck hst (by rw [hs0]; rfl) (by omega) (by simpa using hon) (by simp [stageOf]) (by simp) (by simp [stageOf])
    · show PInv ⟨s, nx + 1, stageOf 2 false, 0, true, false⟩ (l ++ [⟨nx, 2, false⟩])
      exact PInv.fire 2 false hidx h.ck hst (by simp [canFire, ho]) (by omega) (by simpa using hon) (by simp) (by simp [stageOf]) (by simp [stageOf])

theorem PInv.pass {m : MS} {l : List Inf} (h : PInv m l) : PInv m.pass.1 (l ++ m.pass.2.1) ∧ m.pass.2.1.length ≤ 1 ∧ m.pass.1.fresh ≤ m.fresh + 1000 := by
  have hp := h.inv.pos
  unfold MS.pass
  obtain ⟨s, nx, st, fr, pa, cl⟩ := m
  have hidx : nx = l.length := h.idx
  have hst : st = fin 0 l := h.st
  have hon := h.on
  have hyoung := h.inv.young
  simp only at hp hon hyoung
  cases pa
  · simp only [Bool.false_eq_true, if_false]
    obtain ⟨hs0, -⟩ := hyoung rfl
    refine ⟨?_, by simp, by simp [MS.fire]; omega⟩
    refine PInv.fire 1 _ hidx h.ck hst (by rw [hs0]; rfl) (by omega) (by simpa using hon) (by simp) (fun _ => by unfold stageOf; split <;> omega) (fun hcl => ?_)
    simp only at hcl
    rw [hcl]
    simp [stageOf]
  · exact ⟨by simpa using h, by simp, by simp; omega⟩

theorem PInv.close {m : MS} {l : List Inf} (h : PInv m l) : PInv m.close.1 (l ++ m.close.2.1) ∧ m.close.2.1.length ≤ 1 ∧ m.close.1.fresh ≤ m.fresh + 1000 := by
  have hp := h.inv.pos
  unfold MS.close
  obtain ⟨s, nx, st, fr, pa, cl⟩ := m
  have hidx : nx = l.length := h.idx
  have hst : st = fin 0 l := h.st
  have hon := h.on
  have hold := h.inv.old
  have hover := h.inv.over
  simp only at hp hon hold hover
  cases pa
  · exact ⟨by simpa using h, by simp, by simp; omega⟩
  cases cl
  rotate_left
  · exact ⟨by simpa using h, by simp, by simp; omega⟩
  simp only [Bool.false_eq_true, if_false, if_true]
  have ho := hover rfl
  have hol := hold rfl
  by_cases hf : fr = 0
  · rw [if_pos hf]
    refine ⟨⟨⟨h.inv.rng, by simp, fun _ => hol, by simp, hp⟩, by simpa using hidx, by simpa using h.ck, by simpa using hst, by simpa using hon, fun _ => hf⟩, by simp, by simp; omega⟩
  · rw [if_neg hf]
    refine ⟨?_, by simp, by simp [MS.fire]; omega⟩
    exact PInv.fire 2 true hidx h.ck hst (by simp [canFire, ho]) (by omega) (by simpa using hon) (by simp) (by simp [stageOf]) (by simp)

theorem ons_take (l : List Inf) (k : Nat) (hk : k < l.length) : ons (l.take (k + 1)) = ons (l.take k) + if l[k].t = 1 then 1 else 0 := by
  rw [List.take_succ_eq_append_getElem hk, ons_snoc]
theorem ons_le (l : List Inf) : ons l ≤ l.length := List.length_filter_le _ _

def wq_alloc (w : World) (pi pt : Int) (pl : Bool) : World := w.alloc (.cells #[.int .i64 pi, .int .i64 pt, .bool pl] 31)
theorem Own.nilc {w : World} {base : Nat} {e : TypeId} {A : Option Addr} {n c : Nat} {l : List Inf} (h : Own w base e (.slice A n c) l) : A = none → l.length = 0 ∧ c = 0 := by
  rintro rfl
  rcases h.2 with ⟨h1, h2⟩ | ⟨g, cap, cur, hv, _⟩
  · injection h1 with _ _ h3
    exact ⟨h2, h3⟩
  · cases hv

set_option maxHeartbeats 4000000 in
theorem panes_calls (s : Sp) (A : Option Addr) (c : Nat) (ts : List Inf) (w : World) (hr : Rows w A 3 (ts.map Inf.cells)) (hn : ts.length * 24 ≤ 140737488351232) :
    Calls Try.prog 11 #[s.v, .slice A ts.length c] w fun e w' => e = .returned (.bool true) ∧ Fr No w w' := by
  cases hok : s.ok
  · have HOK := Lib.hid hok
    have HOK' := Lib.hid (show (if s.ok then (0 : Int) else 100) = 100 by rw [hok]; rfl)
    clear hok hr
    obtain ⟨e, l, la, acc⟩ := s
    unfold Sp.v
    simp only
    go_enter Try.func11, Try.ntmps11
    go_wp2_with fail
    refine (new21_no ⟨e, l, la, acc⟩ _ HOK.out).mono ?_
    rintro e' w1 ⟨rfl, h1⟩
    obtain ⟨x0, x1, x2, x3, xl⟩ := ((Blk.new w _ _).no h1).four
    go_wp2_with fail
    refine (spec_calls ⟨e, l, la, acc⟩ _ _ HOK'.out).mono ?_
    rintro e' w2 ⟨rfl, h2⟩
    go_wp2_with fail
    refine (awake10_calls _).mono ?_
    rintro e' w3 ⟨rfl, h3⟩
    go_wp2_with fail
    go_ret
    exact ⟨rfl, ((((Fr.refl _ _).alloc _).no h1).no h2).no h3⟩
  have HOK := Lib.hid hok
  have HR := Lib.hid hr
  clear hok hr
  obtain ⟨e, l, la, acc⟩ := s
  unfold Sp.v
  simp only
  obtain ⟨i0, hi, hz0, hz1, hz2⟩ := info_parts info31
  go_enter Try.func11, Try.ntmps11
  go_wp2_with fail
  refine (new21_yes ⟨e, l, la, acc⟩ _ HOK.out).mono ?_
  rintro e' w1 ⟨g, b, rfl, hg, hb, hm, h1⟩
  simp only [World.size_alloc] at hg hb
  have F1 := ((Fr.refl No w).alloc _).no h1
  clear h1
  go_wp2_with fail
  go_loopw [7, 36] (fun v7 v36 wr => ∃ (k : Nat) (all : List Inf) (m : MS), k ≤ ts.length ∧ v36 = .int .i64 k ∧ Own wr w.heap.size 31 v7 all ∧ Mac wr g b m ∧ Hid (PInv m all) ∧ all.length ≤ k ∧ m.fresh ≤ 1000 * k ∧ Fr No w wr) (fun _ i _ => ts.length - (intOf i).toNat)
  case atStart => exact ⟨0, [], _, Nat.zero_le _, rfl, Own.nil _ _ _, hm, by exact PInv.new _, Nat.le_refl _, by simp [MS.new], F1⟩
  case round =>
    obtain ⟨k, all, m, hk, rfl, ho, hma, hpi, hal, hfr, hf⟩ := hrel
    clear hm F1
    by_cases hlt : k < ts.length
    · obtain ⟨ad, hA, c0, c1, c2⟩ := inf_at (HR.out.no hf) k hlt
      subst hA
      generalize ts[k] = op at c0 c1 c2
      obtain ⟨kd, nn, old⟩ := op
      simp only at c0 c1 c2
      have hnx : m.next < 100000000000000 := by rw [hpi.out.idx]; omega
      have hfr' : m.fresh ≤ 1000000000000000000 := by omega
      have hbase : w.heap.size ≤ wr.heap.size := hf.size
      have hne : ∀ k v, Own wr w.heap.size 31 v all → v.ownBlock = some k → ¬ two g b k := fun k v ho hk e => by
        rcases e with e | e
        · exact ho.ne hma.1 (by decide) k hk e
        · exact ho.ne hma.2 (by decide) k hk e
      have HNE := Lib.hid hne
      clear hne
      have hcase : kd = 1 ∨ ((kd == 1) = false ∧ kd = 2) ∨ ((kd == 1) = false ∧ (kd == 2) = false ∧ kd = 3) ∨ ((kd == 1) = false ∧ (kd == 2) = false ∧ (kd == 3) = false) := by simp; omega
      rcases hcase with h1 | ⟨h1, h2⟩ | ⟨h1, h2, h3⟩ | ⟨h1, h2, h3⟩
      · subst h1
        have HP := Lib.hid (hpi.out.add nn)
        go_wp2_with fail
        refine (add_calls g b m nn _ ⟨hma.1.alloc _, Blk.alloc hma.2 _⟩ hpi.out.inv hnx hfr').mono ?_
        rintro e' w2 ⟨v, rfl, ⟨p, rfl, hp⟩, hma2, h2⟩
        have ho2 := (ho.alloc _).fr h2 (fun k hk => HNE.out k _ ho hk)
        have F2 : Fr No w w2 := (hf.alloc _).trans h2 (fun k hk e => by rcases e with e | e <;> omega)
        have hb2 : w.heap.size ≤ w2.heap.size := F2.size
        obtain ⟨HP1, HP2, HP3⟩ := HP.out
        generalize (m.add nn) = r at HP1 HP2 HP3 hp hma2
        obtain ⟨m2, l2, er2⟩ := r
        simp only at HP1 HP2 HP3 hp hma2
        obtain ⟨A2, c2', rfl, hcl2, hr2⟩ := hp.slice
        have hnil2 : A2 = none → l2.length = 0 ∧ c2' = 0 := hp.nilc
        have HR2 := Lib.hid hr2
        have HPI := Lib.hid HP1
        have HCL := Lib.hid hcl2
        have HN2 := Lib.hid hnil2
        have hll : l2.length ≤ 1 := HP2
        have hfr3 : m2.fresh ≤ 1000 * (k + 1) := by omega
        clear HP HP1 HP2 HP3 hr2 hcl2 hnil2 hp hma ho h2 c0 c1 c2 hf hbase
        obtain ⟨wo, hwo⟩ : ∃ wo : World, wo = w2 := ⟨_, rfl⟩
        clear hwo
        go_wp2_with (at_builtin; refine wpList_append_any _ rfl (.tmp 65) (.tmp 66) 39 rfl w.heap.size 31 i0 (.agg #[.int .i64 0, .int .i64 0, .bool false]) 3 24 Try.underlying39 hi hz0 hz1 hz2 rfl (by decide) _ all.length _ rfl ho2 A2 l2.length c2' (l2.flatMap Inf.cells) rfl HN2.out (inf_flat_len l2) (fun ad e => by subst e; exact rows_flat HR2.out) (inf_ones l2) (by unfold maxLen; omega) (by omega) hb2 ?_)
        intro v3 w3 hown3 hgrow3
        have ho3 : Own w3 w.heap.size 31 v3 (all ++ l2) := Own.append hown3 rfl
        have hma3 : Mac w3 g b m2 := ⟨Blk.grown hma2.1 hgrow3 (fun e => ho2.ne hma2.1 (by decide) _ e.symm rfl), Blk.grown hma2.2 hgrow3 (fun e => ho2.ne hma2.2 (by decide) _ e.symm rfl)⟩
        have F3 : Fr No w w3 := F2.grown hgrow3 (fun k hk _ => by have := ho2.ge k hk; omega)
        clear hown3 hgrow3 ho2 hma2 F2 hb2
        go_wp2_with fail
        go_roundw
        case rel => exact ⟨k + 1, _, m2, by omega, by go_num, ho3, hma3, HPI, by simp; omega, by omega, F3⟩
        case measure => simp [intOf]; omega
      · subst h2
        have HP := Lib.hid (hpi.out.pass)
        go_wp2_with fail
        refine (pass_calls g b m _ ⟨hma.1.alloc _, Blk.alloc hma.2 _⟩ hpi.out.inv hnx).mono ?_
        rintro e' w2 ⟨v, rfl, ⟨p, rfl, hp⟩, hma2, h2⟩
        have ho2 := (ho.alloc _).fr h2 (fun k hk => HNE.out k _ ho hk)
        have F2 : Fr No w w2 := (hf.alloc _).trans h2 (fun k hk e => by rcases e with e | e <;> omega)
        have hb2 : w.heap.size ≤ w2.heap.size := F2.size
        obtain ⟨HP1, HP2, HP3⟩ := HP.out
        generalize (m.pass) = r at HP1 HP2 HP3 hp hma2
        obtain ⟨m2, l2, er2⟩ := r
        simp only at HP1 HP2 HP3 hp hma2
        obtain ⟨A2, c2', rfl, hcl2, hr2⟩ := hp.slice
        have hnil2 : A2 = none → l2.length = 0 ∧ c2' = 0 := hp.nilc
        have HR2 := Lib.hid hr2
        have HPI := Lib.hid HP1
        have HCL := Lib.hid hcl2
        have HN2 := Lib.hid hnil2
        have hll : l2.length ≤ 1 := HP2
        have hfr3 : m2.fresh ≤ 1000 * (k + 1) := by omega
        clear HP HP1 HP2 HP3 hr2 hcl2 hnil2 hp hma ho h2 c0 c1 c2 hf hbase
        obtain ⟨wo, hwo⟩ : ∃ wo : World, wo = w2 := ⟨_, rfl⟩
        clear hwo
        go_wp2_with (at_builtin; refine wpList_append_any _ rfl (.tmp 65) (.tmp 66) 39 rfl w.heap.size 31 i0 (.agg #[.int .i64 0, .int .i64 0, .bool false]) 3 24 Try.underlying39 hi hz0 hz1 hz2 rfl (by decide) _ all.length _ rfl ho2 A2 l2.length c2' (l2.flatMap Inf.cells) rfl HN2.out (inf_flat_len l2) (fun ad e => by subst e; exact rows_flat HR2.out) (inf_ones l2) (by unfold maxLen; omega) (by omega) hb2 ?_)
        intro v3 w3 hown3 hgrow3
        have ho3 : Own w3 w.heap.size 31 v3 (all ++ l2) := Own.append hown3 rfl
        have hma3 : Mac w3 g b m2 := ⟨Blk.grown hma2.1 hgrow3 (fun e => ho2.ne hma2.1 (by decide) _ e.symm rfl), Blk.grown hma2.2 hgrow3 (fun e => ho2.ne hma2.2 (by decide) _ e.symm rfl)⟩
        have F3 : Fr No w w3 := F2.grown hgrow3 (fun k hk _ => by have := ho2.ge k hk; omega)
        clear hown3 hgrow3 ho2 hma2 F2 hb2
        go_wp2_with fail
        go_roundw
        case rel => exact ⟨k + 1, _, m2, by omega, by go_num, ho3, hma3, HPI, by simp; omega, by omega, F3⟩
        case measure => simp [intOf]; omega
      · subst h3
        have HP := Lib.hid (hpi.out.close)
        go_wp2_with fail
        refine (close_calls g b m _ ⟨hma.1.alloc _, Blk.alloc hma.2 _⟩ hpi.out.inv hnx).mono ?_
        rintro e' w2 ⟨v, rfl, ⟨p, rfl, hp⟩, hma2, h2⟩
        have ho2 := (ho.alloc _).fr h2 (fun k hk => HNE.out k _ ho hk)
        have F2 : Fr No w w2 := (hf.alloc _).trans h2 (fun k hk e => by rcases e with e | e <;> omega)
        have hb2 : w.heap.size ≤ w2.heap.size := F2.size
        obtain ⟨HP1, HP2, HP3⟩ := HP.out
        generalize (m.close) = r at HP1 HP2 HP3 hp hma2
        obtain ⟨m2, l2, er2⟩ := r
        simp only at HP1 HP2 HP3 hp hma2
        obtain ⟨A2, c2', rfl, hcl2, hr2⟩ := hp.slice
        have hnil2 : A2 = none → l2.length = 0 ∧ c2' = 0 := hp.nilc
        have HR2 := Lib.hid hr2
        have HPI := Lib.hid HP1
        have HCL := Lib.hid hcl2
        have HN2 := Lib.hid hnil2
        have hll : l2.length ≤ 1 := HP2
        have hfr3 : m2.fresh ≤ 1000 * (k + 1) := by omega
        clear HP HP1 HP2 HP3 hr2 hcl2 hnil2 hp hma ho h2 c0 c1 c2 hf hbase
        obtain ⟨wo, hwo⟩ : ∃ wo : World, wo = w2 := ⟨_, rfl⟩
        clear hwo
        go_wp2_with (at_builtin; refine wpList_append_any _ rfl (.tmp 65) (.tmp 66) 39 rfl w.heap.size 31 i0 (.agg #[.int .i64 0, .int .i64 0, .bool false]) 3 24 Try.underlying39 hi hz0 hz1 hz2 rfl (by decide) _ all.length _ rfl ho2 A2 l2.length c2' (l2.flatMap Inf.cells) rfl HN2.out (inf_flat_len l2) (fun ad e => by subst e; exact rows_flat HR2.out) (inf_ones l2) (by unfold maxLen; omega) (by omega) hb2 ?_)
        intro v3 w3 hown3 hgrow3
        have ho3 : Own w3 w.heap.size 31 v3 (all ++ l2) := Own.append hown3 rfl
        have hma3 : Mac w3 g b m2 := ⟨Blk.grown hma2.1 hgrow3 (fun e => ho2.ne hma2.1 (by decide) _ e.symm rfl), Blk.grown hma2.2 hgrow3 (fun e => ho2.ne hma2.2 (by decide) _ e.symm rfl)⟩
        have F3 : Fr No w w3 := F2.grown hgrow3 (fun k hk _ => by have := ho2.ge k hk; omega)
        clear hown3 hgrow3 ho2 hma2 F2 hb2
        go_wp2_with fail
        go_roundw
        case rel => exact ⟨k + 1, _, m2, by omega, by go_num, ho3, hma3, HPI, by simp; omega, by omega, F3⟩
        case measure => simp [intOf]; omega
      · obtain ⟨A7, c7, hv7, -, -⟩ := ho.slice
        have ho2 := ho.alloc (.cells #[.int .i64 kd, .int .i64 nn, .bool old] 68)
        have hma2 : Mac (wr.alloc (.cells #[.int .i64 kd, .int .i64 nn, .bool old] 68)) g b m := ⟨hma.1.alloc _, Blk.alloc hma.2 _⟩
        have F2 := hf.alloc (.cells #[.int .i64 kd, .int .i64 nn, .bool old] 68)
        have hb2 : w.heap.size ≤ (wr.alloc (.cells #[.int .i64 kd, .int .i64 nn, .bool old] 68)).heap.size := by simp; omega
        clear hv7
        go_wp2_with (at_builtin; refine wpList_append_any _ rfl (.tmp 65) (.tmp 66) 39 rfl w.heap.size 31 i0 (.agg #[.int .i64 0, .int .i64 0, .bool false]) 3 24 Try.underlying39 hi hz0 hz1 hz2 rfl (by decide) _ all.length _ rfl ho2 none 0 0 [] rfl (fun _ => ⟨rfl, rfl⟩) rfl (fun ad e => by cases e) (by simp) (by unfold maxLen; omega) (by omega) hb2 ?_)
        intro v3 w3 hown3 hgrow3
        have ho3 : Own w3 w.heap.size 31 v3 all := by unfold Own; simpa using hown3
        have hma3 : Mac w3 g b m := ⟨Blk.grown hma2.1 hgrow3 (fun e => ho2.ne hma2.1 (by decide) _ e.symm rfl), Blk.grown hma2.2 hgrow3 (fun e => ho2.ne hma2.2 (by decide) _ e.symm rfl)⟩
        have F3 : Fr No w w3 := F2.grown hgrow3 (fun k hk _ => by have := ho2.ge k hk; omega)
        clear hown3 hgrow3 ho2 hma2 F2 hb2
        go_wp2_with fail
        go_roundw
        case rel => exact ⟨k + 1, _, m, by omega, by go_num, ho3, hma3, hpi, by omega, by omega, F3⟩
        case measure => simp [intOf]; omega
    · obtain rfl : k = ts.length := by omega
      obtain ⟨A4, c4, rfl, hcap, hrows⟩ := ho.slice
      have HCAP := Lib.hid hcap
      have HROWS := Lib.hid hrows
      clear hcap hrows hlt
      go_wp2_with fail
      refine (check_calls A4 c4 all _ HROWS.out (by omega) none hpi.out.ck).mono ?_
      rintro e' w2 ⟨rfl, h2⟩
      unfold chkV
      have hma2 := hma.no h2
      have hR2 := Lib.hid (HROWS.out.no h2)
      have F2 := hf.no h2
      clear h2 hma ho hf HROWS
      go_wp2_with fail
      go_loopw [13, 76] (fun v13 v76 wq => ∃ (j o : Nat), j ≤ all.length ∧ v76 = .int .i64 j ∧ v13 = .int .i64 o ∧ o ≤ j ∧ Hid (o = ons (all.take j)) ∧ Hid (Rows wq A4 3 (all.map Inf.cells)) ∧ Mac wq g b m ∧ Fr No w wq) (fun _ i _ => all.length - (intOf i).toNat)
      case atStart => exact ⟨0, 0, Nat.zero_le _, rfl, rfl, Nat.le_refl _, by exact rfl, hR2, hma2, F2⟩
      case round =>
        obtain ⟨j, o, hj, rfl, rfl, hoj, hcnt, hRj, hmj, hfj⟩ := hrel
        clear hma2 F2
        by_cases hjl : j < all.length
        · obtain ⟨ad, hA, d0, d1, d2⟩ := inf_at hRj.out j hjl
          subst hA
          have hon := Lib.hid (ons_take all j hjl)
          generalize all[j] = p at d0 d1 d2 hon
          obtain ⟨pi, pt, pl⟩ := p
          simp only at d0 d1 d2
          have hm3 : Mac (wq_alloc wr pi pt pl) g b m := ⟨hmj.1.alloc _, Blk.alloc hmj.2 _⟩
          have hR3 := Lib.hid (hRj.out.no ((Fr.refl No wr).alloc (.cells #[.int .i64 pi, .int .i64 pt, .bool pl] 31)))
          have F3 := hfj.alloc (.cells #[.int .i64 pi, .int .i64 pt, .bool pl] 31)
          unfold wq_alloc at hm3
          clear hmj hRj hfj
          by_cases ht : pt = 1
          · have hc' := Lib.hid (show o + 1 = ons (all.take (j + 1)) by rw [hon.out, ← hcnt.out]; simp [ht])
            subst ht
            go_wp2_with fail
            go_roundw
            case rel => exact ⟨j + 1, o + 1, by omega, by go_num, by go_num, by omega, hc', hR3, hm3, F3⟩
            case measure => simp [intOf]; omega
          · have hc' := Lib.hid (show o = ons (all.take (j + 1)) by rw [hon.out, ← hcnt.out]; simp [ht])
            have ht' : (pt == 1) = false := by simpa using ht
            clear ht
            go_wp2_with fail
            go_roundw
            case rel => exact ⟨j + 1, o, by omega, by go_num, by go_num, by omega, hc', hR3, hm3, F3⟩
            case measure => simp [intOf]; omega
        · obtain rfl : j = all.length := by omega
          have hcn := hcnt.out
          rw [List.take_length, hpi.out.on] at hcn
          obtain ⟨ms, mn, mst, mf, mp, mc⟩ := m
          have hidx : mn = all.length := hpi.out.idx
          have hcl : mc = true → mf = 0 := hpi.out.cl
          simp only at hcn
          subst hidx
          have HCN := Lib.hid hcn
          have HCL := Lib.hid hcl
          clear hcn hcl hjl
          go_wp2_with fail
          refine (state_calls g b _ _ hmj).mono ?_
          rintro e' w5 ⟨rfl, h5⟩
          unfold MS.v
          simp only
          cases mp
          all_goals
            cases mc
            all_goals
              first | (obtain rfl : mf = 0 := HCL.out rfl) | skip
              first | (obtain rfl : o = 1 := HCN.out) | (obtain rfl : o = 0 := HCN.out)
              go_wp2_with fail
              refine (awake10_calls _).mono ?_
              rintro e' w6 ⟨rfl, h6⟩
              go_wp2_with fail
              go_ret
              exact ⟨rfl, ((hfj.no h5).alloc _).no h6⟩
end Go.Proofs.Ythplenfbeknlhaa
