/- TriggerPlays: one step. Printed by gen_plays.py (own program). No condition. -/
import Derived.Test.YthplenfbeknlhaaPlays1
import Derived.Test.YthplenfbeknlhaaSums
namespace Go.Proofs.Ythplenfbeknlhaa
open Go.RowKit

theorem same_at (A A' : Option Addr) (n c c' : Nat) (l : List Inf) (w : World) (h : Rows w A 3 (l.map Inf.cells)) (h' : Rows w A' 3 (l.map Inf.cells)) (hl : l.length = n) (hn : n ≤ 1000000000000000) :
    Calls Try.prog 37 #[.slice A n c, .slice A' n c'] w fun e w' => e = .returned (.bool true) ∧ ∃ n, w' = w.drewN n := by
  subst hl; exact same_calls A A' c c' l w h h' hn

def own (g b h : Nat) (v : Value) : Nat → Prop := fun k => k = g ∨ k = b ∨ rown h v k

theorem MS.add_s (m : MS) (n : Int) : (m.add n).1.s = m.s := by
  unfold MS.add
  split
  · split
    · rfl
    · split <;> rfl
  · rfl
theorem MS.pass_s (m : MS) : m.pass.1.s = m.s := by
  unfold MS.pass
  split <;> rfl
theorem MS.close_s (m : MS) : m.close.1.s = m.s := by
  unfold MS.close
  split
  · split
    · rfl
    · split <;> rfl
  · rfl

theorem PInv.young_eq {m : MS} {l : List Inf} (h : PInv m l) : young m = !(m.passed || decide (l.length > 0)) := by
  unfold young
  rw [h.idx]
  cases m.passed
  · cases l <;> simp
  · rfl
theorem PInv.join {m : MS} {l : List Inf} (h : PInv m l) (hy : young m = true) (f : Int) (hf : 0 ≤ f) : PInv (m.plus f) l := by
  have hp := h.inv.pos
  have hpa : m.passed = false := by unfold young at hy; cases hp : m.passed <;> simp_all
  have hcl := (h.inv.young hpa).2
  exact ⟨⟨h.inv.rng, h.inv.young, h.inv.old, h.inv.over, by show 0 ≤ m.fresh + f; omega⟩, h.idx, h.ck, h.st, h.on, fun e => by
    have : m.closed = true := e
    rw [hcl] at this
    cases this⟩

theorem RM.down {w : World} {base base' h : Nat} {m : MS} {v : Value} {l : List Inf} (hr : RM w base h m v l) (hb : base' ≤ base) : RM w base' h m v l := ⟨hr.1, hr.2.base hb⟩
theorem b_of_false {x : Bool} (h : false = !x) : x = true := by cases x <;> simp_all
theorem b_of_true {x : Bool} (h : true = !x) : x = false := by cases x <;> simp_all
theorem MS.pass_passed (m : MS) : m.pass.1.passed = true := by
  unfold MS.pass
  cases h : m.passed
  · rfl
  · exact h

def SPost (w : World) (base g b h : Nat) (m : MS) (v : Value) (l : List Inf) (e : Ending) (w' : World) : Prop :=
  e = .returned (.bool true) ∧ ∃ m' v' l', Mac w' g b m' ∧ RM w' base h m' v' l' ∧ PInv m' l' ∧ m'.s = m.s ∧ l'.length ≤ l.length + 1 ∧ m'.fresh ≤ m.fresh + 2000 ∧ Fr (own g b h v) w w'

set_option maxHeartbeats 8000000 in
theorem step1 (base g b h : Nat) (m : MS) (v : Value) (l : List Inf) (kd nn : Int) (old : Bool) (w : World) (hm : Mac w g b m) (hr : RM w base h m v l) (hpi0 : PInv m l) (hb : base ≤ w.heap.size)
    (hl : (l.length + 1) * 24 ≤ 140737488355328) (hf : m.fresh ≤ 1000000000000000000) (hok : m.s.ok = true) :
    Calls Try.prog 29 #[.pointer (some ⟨g, 0, none⟩), .pointer (some ⟨h, 0, none⟩), m.s.v, .agg #[.int .i64 1, .int .i64 nn, .bool old]] w (SPost w base g b h m v l) := by
  have hpi := Lib.hid hpi0
  have HL := Lib.hid hl
  have HFR := Lib.hid hf
  have HOK := Lib.hid hok
  have HNX := Lib.hid (show m.next < 100000000000000 by rw [hpi0.idx]; omega)
  have HSP0 := Lib.hid (show 0 ≤ m.s.e ∧ 0 ≤ m.s.l by simp [Sp.ok] at hok; omega)
  have G1 := Lib.hid (((Fr.refl No w).alloc (.cells #[.int .i64 m.s.e, .int .i64 m.s.l, .int .i64 m.s.la, .bool m.s.acc] 48)).alloc (.cells #[.int .i64 1, .int .i64 nn, .bool old] 68))
  have HM1 := Lib.hid (hm.no G1.out)
  have HR1 := Lib.hid (hr.no G1.out)
  have HO := Lib.hid (Blk.new_at (w.alloc (.cells #[.int .i64 m.s.e, .int .i64 m.s.l, .int .i64 m.s.la, .bool m.s.acc] 48)) #[.int .i64 1, .int .i64 nn, .bool old] 68 (g := w.heap.size + 1) (by simp))
  have HS := Lib.hid (Blk.new w #[.int .i64 m.s.e, .int .i64 m.s.l, .int .i64 m.s.la, .bool m.s.acc] 48 |>.alloc (.cells #[.int .i64 1, .int .i64 nn, .bool old] 68))
  have HF1 := Lib.hid (((Fr.refl (own g b h v) w).alloc (.cells #[.int .i64 m.s.e, .int .i64 m.s.l, .int .i64 m.s.la, .bool m.s.acc] 48)).alloc (.cells #[.int .i64 1, .int .i64 nn, .bool old] 68))
  have HB := Lib.hid hb
  have HN1 := Lib.hid (show ¬ two g b h ∧ ∀ k, v.ownBlock = some k → ¬ two g b k from ⟨fun e => by
    rcases e with e | e
    · exact Blk.ne hr.1 hm.1 (by decide) e
    · exact Blk.ne hr.1 hm.2 (by decide) e, fun k hk e => by
    rcases e with e | e
    · exact hr.2.ne hm.1 (by decide) k hk e
    · exact hr.2.ne hm.2 (by decide) k hk e⟩)
  have HN2 := Lib.hid (show ¬ two g b (w.heap.size + 1) from fun e => by
    have i1 := hm.1.lt
    have i2 := Blk.lt hm.2
    rcases e with e | e <;> omega)
  have HN3 := Lib.hid (show ¬ rown h v g ∧ ¬ rown h v b from ⟨fun e => by
    rcases e with e | e
    · exact Blk.ne hr.1 hm.1 (by decide) e.symm
    · exact hr.2.ne hm.1 (by decide) _ e rfl, fun e => by
    rcases e with e | e
    · exact Blk.ne hr.1 hm.2 (by decide) e.symm
    · exact hr.2.ne hm.2 (by decide) _ e rfl⟩)
  clear hm hr hpi0 hl hf hok hb G1
  unfold SPost Sp.v
  go_enter Try.func29, Try.ntmps29
  go_wp2_with fail

  have HP := Lib.hid (hpi.out.add nn)
  refine (add_calls g b m nn _ HM1.out hpi.out.inv HNX.out HFR.out).mono ?_
  rintro e' w2 ⟨v2, rfl, ⟨p2, rfl, hp2⟩, hm2, h2⟩
  have hr2 := HR1.out.fr h2 HN1.out.1 HN1.out.2
  have hO2 := HO.out.fr h2 HN2.out
  have HF2 := Lib.hid (HF1.out.trans h2 (fun k _ e => by rcases e with e | e <;> simp [own, e]))
  have hb2 : base ≤ w2.heap.size := Nat.le_trans HB.out HF2.out.size
  have HC := Lib.hid ((radd_calls base h m v l nn w2 hr2 hb2 HL.out hpi.out.idx HSP0.out hpi.out.inv.pos HFR.out))
  have HPS := Lib.hid (show (m.add nn).1.s = m.s by exact MS.add_s m nn)
  obtain ⟨o0, o1, o2, ol⟩ := hO2.three
  clear h2
  generalize (m.add nn) = r at HP hp2 hm2 HC HPS
  obtain ⟨mt, lq, er⟩ := r
  obtain ⟨HPt', hlq1, hfq⟩ := HP.out
  have HPt := Lib.hid HPt'
  clear HP HPt'
  simp only at hp2 hm2 hlq1 hfq HPS
  obtain ⟨Aq, cq, hv2, -, -⟩ := hp2.slice
  subst hv2
  go_wp2_with fail
  refine HC.out.mono ?_
  rintro e' w3 ⟨vp, v3, rfl, hp3, hr3, h3⟩
  clear HC
  obtain ⟨Aq', cq', hv3, -, hrow3⟩ := hp3.slice
  subst hv3
  simp only at hr3 hrow3
  have hp3' := hp2.fr h3 (fun k hk e => by
    have h4 := hp2.ge k hk
    rcases e with e | e
    · have := HR1.out.1.lt; omega
    · have := (HR1.out.2.ge k e).2; omega)
  obtain ⟨Ax, cx, hvx, -, hrow2⟩ := hp3'.slice
  injection hvx with hx1 hx2 hx3
  subst hx1 hx3
  have HMt := Lib.hid (hm2.fr h3 HN3.out.1 HN3.out.2)
  have HFt := Lib.hid (HF2.out.trans h3 (fun k _ e => .inr (.inr e)))
  have HRt := Lib.hid hr3
  have HSt := Lib.hid hrow2
  have HSt' := Lib.hid hrow3
  have HLq' := Lib.hid (show lq.length ≤ 1000000000000000 by omega)
  have HLt := Lib.hid (show (l ++ lq).length ≤ l.length + 1 by rw [List.length_append]; omega)
  have HLt' := Lib.hid (show (l ++ lq).length ≤ 1000000000000000 by have := HL.out; rw [List.length_append]; omega)
  have HSP := Lib.hid (show mt.s = m.s from HPS.out)
  have HFr := Lib.hid (show mt.fresh ≤ m.fresh + 2000 by omega)
  clear hp2 hp3 hp3' hm2 hr2 hO2 o0 o1 o2 ol h3 HF2 hr3 hrow2 hrow3 hlq1 hfq HPS
  generalize l ++ lq = lt at HPt HRt HLt HLt'

  obtain ⟨Av, cv, rfl, -, hrv⟩ := HRt.out.2.slice
  have HV := Lib.hid (show mt.v = .agg #[.int .i64 lt.length, .int .i64 mt.stage, .int .i64 mt.fresh, .bool mt.passed, .bool mt.closed] by unfold MS.v; rw [HPt.out.idx])
  go_wp2_with fail
  refine (state_calls g b mt _ HMt.out).mono ?_
  rintro e' w8 ⟨rfl, h8⟩
  rw [HV.out]
  have F9 := Lib.hid (h8.alloc (.cells #[.int .i64 lt.length, .int .i64 mt.stage, .int .i64 mt.fresh, .bool mt.passed, .bool mt.closed] 56))
  have HM9 := Lib.hid (HMt.out.no F9.out)
  have HR9 := Lib.hid (HRt.out.no F9.out)
  have HS9 := Lib.hid (HSt.out.no F9.out)
  have HS9' := Lib.hid (HSt'.out.no F9.out)
  have HF9 := Lib.hid (HFt.out.no F9.out)
  have HRV := Lib.hid (hrv.no F9.out)
  obtain ⟨c0, c1, c2, c3, c4, c5, c6, c7, hg9⟩ := HR9.out.1.eight
  clear c0 c1 c2 c3 h8 hrv F9 HMt HRt HSt HSt' HFt
  go_wp2_with fail
  go_quiet (first
    | (go_at_call 37; exact Calls.quiet_of (same_at _ _ _ _ _ lq _ (HS9.out.no ((Fr.refl No _).drewN _)) (HS9'.out.no ((Fr.refl No _).drewN _)) rfl HLq'.out))
    | (go_at_call 18; exact Calls.quiet_of_same (still_calls (stage9_at _ _ _ lt mt.stage _ (HRV.out.no ((Fr.refl No _).drewN _)) rfl HLt'.out HPt.out.stage9))))
  go_wp2_with fail
  go_ret
  exact ⟨rfl, mt, _, lt, HM9.out.no ((Fr.refl No _).drewN _), HR9.out.no ((Fr.refl No _).drewN _), HPt.out, HSP.out, HLt.out, HFr.out, HF9.out.drewN _⟩

set_option maxHeartbeats 8000000 in
theorem step2 (base g b h : Nat) (m : MS) (v : Value) (l : List Inf) (kd nn : Int) (old : Bool) (w : World) (hm : Mac w g b m) (hr : RM w base h m v l) (hpi0 : PInv m l) (hb : base ≤ w.heap.size)
    (hl : (l.length + 1) * 24 ≤ 140737488355328) (hf : m.fresh ≤ 1000000000000000000) (hok : m.s.ok = true) :
    Calls Try.prog 29 #[.pointer (some ⟨g, 0, none⟩), .pointer (some ⟨h, 0, none⟩), m.s.v, .agg #[.int .i64 2, .int .i64 nn, .bool old]] w (SPost w base g b h m v l) := by
  have hpi := Lib.hid hpi0
  have HL := Lib.hid hl
  have HFR := Lib.hid hf
  have HOK := Lib.hid hok
  have HNX := Lib.hid (show m.next < 100000000000000 by rw [hpi0.idx]; omega)
  have HSP0 := Lib.hid (show 0 ≤ m.s.e ∧ 0 ≤ m.s.l by simp [Sp.ok] at hok; omega)
  have G1 := Lib.hid (((Fr.refl No w).alloc (.cells #[.int .i64 m.s.e, .int .i64 m.s.l, .int .i64 m.s.la, .bool m.s.acc] 48)).alloc (.cells #[.int .i64 2, .int .i64 nn, .bool old] 68))
  have HM1 := Lib.hid (hm.no G1.out)
  have HR1 := Lib.hid (hr.no G1.out)
  have HO := Lib.hid (Blk.new_at (w.alloc (.cells #[.int .i64 m.s.e, .int .i64 m.s.l, .int .i64 m.s.la, .bool m.s.acc] 48)) #[.int .i64 2, .int .i64 nn, .bool old] 68 (g := w.heap.size + 1) (by simp))
  have HS := Lib.hid (Blk.new w #[.int .i64 m.s.e, .int .i64 m.s.l, .int .i64 m.s.la, .bool m.s.acc] 48 |>.alloc (.cells #[.int .i64 2, .int .i64 nn, .bool old] 68))
  have HF1 := Lib.hid (((Fr.refl (own g b h v) w).alloc (.cells #[.int .i64 m.s.e, .int .i64 m.s.l, .int .i64 m.s.la, .bool m.s.acc] 48)).alloc (.cells #[.int .i64 2, .int .i64 nn, .bool old] 68))
  have HB := Lib.hid hb
  have HN1 := Lib.hid (show ¬ two g b h ∧ ∀ k, v.ownBlock = some k → ¬ two g b k from ⟨fun e => by
    rcases e with e | e
    · exact Blk.ne hr.1 hm.1 (by decide) e
    · exact Blk.ne hr.1 hm.2 (by decide) e, fun k hk e => by
    rcases e with e | e
    · exact hr.2.ne hm.1 (by decide) k hk e
    · exact hr.2.ne hm.2 (by decide) k hk e⟩)
  have HN2 := Lib.hid (show ¬ two g b (w.heap.size + 1) from fun e => by
    have i1 := hm.1.lt
    have i2 := Blk.lt hm.2
    rcases e with e | e <;> omega)
  have HN3 := Lib.hid (show ¬ rown h v g ∧ ¬ rown h v b from ⟨fun e => by
    rcases e with e | e
    · exact Blk.ne hr.1 hm.1 (by decide) e.symm
    · exact hr.2.ne hm.1 (by decide) _ e rfl, fun e => by
    rcases e with e | e
    · exact Blk.ne hr.1 hm.2 (by decide) e.symm
    · exact hr.2.ne hm.2 (by decide) _ e rfl⟩)
  clear hm hr hpi0 hl hf hok hb G1
  unfold SPost Sp.v
  go_enter Try.func29, Try.ntmps29
  go_wp2_with fail

  have HP := Lib.hid (hpi.out.pass)
  refine (pass_calls g b m _ HM1.out hpi.out.inv HNX.out).mono ?_
  rintro e' w2 ⟨v2, rfl, ⟨p2, rfl, hp2⟩, hm2, h2⟩
  have hr2 := HR1.out.fr h2 HN1.out.1 HN1.out.2
  have hO2 := HO.out.fr h2 HN2.out
  have HF2 := Lib.hid (HF1.out.trans h2 (fun k _ e => by rcases e with e | e <;> simp [own, e]))
  have hb2 : base ≤ w2.heap.size := Nat.le_trans HB.out HF2.out.size
  have HC := Lib.hid ((rpass_calls base h m v l  w2 hr2 hb2 HL.out hpi.out.idx (fun e => (hpi.out.inv.young e).2)))
  have HPS := Lib.hid (show (m.pass).1.s = m.s by exact MS.pass_s m)
  obtain ⟨o0, o1, o2, ol⟩ := hO2.three
  clear h2
  generalize (m.pass) = r at HP hp2 hm2 HC HPS
  obtain ⟨mt, lq, er⟩ := r
  obtain ⟨HPt', hlq1, hfq⟩ := HP.out
  have HPt := Lib.hid HPt'
  clear HP HPt'
  simp only at hp2 hm2 hlq1 hfq HPS
  obtain ⟨Aq, cq, hv2, -, -⟩ := hp2.slice
  subst hv2
  go_wp2_with fail
  refine HC.out.mono ?_
  rintro e' w3 ⟨vp, v3, rfl, hp3, hr3, h3⟩
  clear HC
  obtain ⟨Aq', cq', hv3, -, hrow3⟩ := hp3.slice
  subst hv3
  simp only at hr3 hrow3
  have hp3' := hp2.fr h3 (fun k hk e => by
    have h4 := hp2.ge k hk
    rcases e with e | e
    · have := HR1.out.1.lt; omega
    · have := (HR1.out.2.ge k e).2; omega)
  obtain ⟨Ax, cx, hvx, -, hrow2⟩ := hp3'.slice
  injection hvx with hx1 hx2 hx3
  subst hx1 hx3
  have HMt := Lib.hid (hm2.fr h3 HN3.out.1 HN3.out.2)
  have HFt := Lib.hid (HF2.out.trans h3 (fun k _ e => .inr (.inr e)))
  have HRt := Lib.hid hr3
  have HSt := Lib.hid hrow2
  have HSt' := Lib.hid hrow3
  have HLq' := Lib.hid (show lq.length ≤ 1000000000000000 by omega)
  have HLt := Lib.hid (show (l ++ lq).length ≤ l.length + 1 by rw [List.length_append]; omega)
  have HLt' := Lib.hid (show (l ++ lq).length ≤ 1000000000000000 by have := HL.out; rw [List.length_append]; omega)
  have HSP := Lib.hid (show mt.s = m.s from HPS.out)
  have HFr := Lib.hid (show mt.fresh ≤ m.fresh + 2000 by omega)
  clear hp2 hp3 hp3' hm2 hr2 hO2 o0 o1 o2 ol h3 HF2 hr3 hrow2 hrow3 hlq1 hfq HPS
  generalize l ++ lq = lt at HPt HRt HLt HLt'

  obtain ⟨Av, cv, rfl, -, hrv⟩ := HRt.out.2.slice
  have HV := Lib.hid (show mt.v = .agg #[.int .i64 lt.length, .int .i64 mt.stage, .int .i64 mt.fresh, .bool mt.passed, .bool mt.closed] by unfold MS.v; rw [HPt.out.idx])
  go_wp2_with fail
  refine (state_calls g b mt _ HMt.out).mono ?_
  rintro e' w8 ⟨rfl, h8⟩
  rw [HV.out]
  have F9 := Lib.hid (h8.alloc (.cells #[.int .i64 lt.length, .int .i64 mt.stage, .int .i64 mt.fresh, .bool mt.passed, .bool mt.closed] 56))
  have HM9 := Lib.hid (HMt.out.no F9.out)
  have HR9 := Lib.hid (HRt.out.no F9.out)
  have HS9 := Lib.hid (HSt.out.no F9.out)
  have HS9' := Lib.hid (HSt'.out.no F9.out)
  have HF9 := Lib.hid (HFt.out.no F9.out)
  have HRV := Lib.hid (hrv.no F9.out)
  obtain ⟨c0, c1, c2, c3, c4, c5, c6, c7, hg9⟩ := HR9.out.1.eight
  clear c0 c1 c2 c3 h8 hrv F9 HMt HRt HSt HSt' HFt
  go_wp2_with fail
  go_quiet (first
    | (go_at_call 37; exact Calls.quiet_of (same_at _ _ _ _ _ lq _ (HS9.out.no ((Fr.refl No _).drewN _)) (HS9'.out.no ((Fr.refl No _).drewN _)) rfl HLq'.out))
    | (go_at_call 18; exact Calls.quiet_of_same (still_calls (stage9_at _ _ _ lt mt.stage _ (HRV.out.no ((Fr.refl No _).drewN _)) rfl HLt'.out HPt.out.stage9))))
  go_wp2_with fail
  go_ret
  exact ⟨rfl, mt, _, lt, HM9.out.no ((Fr.refl No _).drewN _), HR9.out.no ((Fr.refl No _).drewN _), HPt.out, HSP.out, HLt.out, HFr.out, HF9.out.drewN _⟩

set_option maxHeartbeats 8000000 in
theorem step3 (base g b h : Nat) (m : MS) (v : Value) (l : List Inf) (kd nn : Int) (old : Bool) (w : World) (hm : Mac w g b m) (hr : RM w base h m v l) (hpi0 : PInv m l) (hb : base ≤ w.heap.size)
    (hl : (l.length + 1) * 24 ≤ 140737488355328) (hf : m.fresh ≤ 1000000000000000000) (hok : m.s.ok = true) :
    Calls Try.prog 29 #[.pointer (some ⟨g, 0, none⟩), .pointer (some ⟨h, 0, none⟩), m.s.v, .agg #[.int .i64 3, .int .i64 nn, .bool old]] w (SPost w base g b h m v l) := by
  have hpi := Lib.hid hpi0
  have HL := Lib.hid hl
  have HFR := Lib.hid hf
  have HOK := Lib.hid hok
  have HNX := Lib.hid (show m.next < 100000000000000 by rw [hpi0.idx]; omega)
  have HSP0 := Lib.hid (show 0 ≤ m.s.e ∧ 0 ≤ m.s.l by simp [Sp.ok] at hok; omega)
  have G1 := Lib.hid (((Fr.refl No w).alloc (.cells #[.int .i64 m.s.e, .int .i64 m.s.l, .int .i64 m.s.la, .bool m.s.acc] 48)).alloc (.cells #[.int .i64 3, .int .i64 nn, .bool old] 68))
  have HM1 := Lib.hid (hm.no G1.out)
  have HR1 := Lib.hid (hr.no G1.out)
  have HO := Lib.hid (Blk.new_at (w.alloc (.cells #[.int .i64 m.s.e, .int .i64 m.s.l, .int .i64 m.s.la, .bool m.s.acc] 48)) #[.int .i64 3, .int .i64 nn, .bool old] 68 (g := w.heap.size + 1) (by simp))
  have HS := Lib.hid (Blk.new w #[.int .i64 m.s.e, .int .i64 m.s.l, .int .i64 m.s.la, .bool m.s.acc] 48 |>.alloc (.cells #[.int .i64 3, .int .i64 nn, .bool old] 68))
  have HF1 := Lib.hid (((Fr.refl (own g b h v) w).alloc (.cells #[.int .i64 m.s.e, .int .i64 m.s.l, .int .i64 m.s.la, .bool m.s.acc] 48)).alloc (.cells #[.int .i64 3, .int .i64 nn, .bool old] 68))
  have HB := Lib.hid hb
  have HN1 := Lib.hid (show ¬ two g b h ∧ ∀ k, v.ownBlock = some k → ¬ two g b k from ⟨fun e => by
    rcases e with e | e
    · exact Blk.ne hr.1 hm.1 (by decide) e
    · exact Blk.ne hr.1 hm.2 (by decide) e, fun k hk e => by
    rcases e with e | e
    · exact hr.2.ne hm.1 (by decide) k hk e
    · exact hr.2.ne hm.2 (by decide) k hk e⟩)
  have HN2 := Lib.hid (show ¬ two g b (w.heap.size + 1) from fun e => by
    have i1 := hm.1.lt
    have i2 := Blk.lt hm.2
    rcases e with e | e <;> omega)
  have HN3 := Lib.hid (show ¬ rown h v g ∧ ¬ rown h v b from ⟨fun e => by
    rcases e with e | e
    · exact Blk.ne hr.1 hm.1 (by decide) e.symm
    · exact hr.2.ne hm.1 (by decide) _ e rfl, fun e => by
    rcases e with e | e
    · exact Blk.ne hr.1 hm.2 (by decide) e.symm
    · exact hr.2.ne hm.2 (by decide) _ e rfl⟩)
  clear hm hr hpi0 hl hf hok hb G1
  unfold SPost Sp.v
  go_enter Try.func29, Try.ntmps29
  go_wp2_with fail

  have HP := Lib.hid (hpi.out.close)
  refine (close_calls g b m _ HM1.out hpi.out.inv HNX.out).mono ?_
  rintro e' w2 ⟨v2, rfl, ⟨p2, rfl, hp2⟩, hm2, h2⟩
  have hr2 := HR1.out.fr h2 HN1.out.1 HN1.out.2
  have hO2 := HO.out.fr h2 HN2.out
  have HF2 := Lib.hid (HF1.out.trans h2 (fun k _ e => by rcases e with e | e <;> simp [own, e]))
  have hb2 : base ≤ w2.heap.size := Nat.le_trans HB.out HF2.out.size
  have HC := Lib.hid ((rclose_calls base h m v l  w2 hr2 hb2 HL.out hpi.out.idx hpi.out.inv.pos))
  have HPS := Lib.hid (show (m.close).1.s = m.s by exact MS.close_s m)
  obtain ⟨o0, o1, o2, ol⟩ := hO2.three
  clear h2
  generalize (m.close) = r at HP hp2 hm2 HC HPS
  obtain ⟨mt, lq, er⟩ := r
  obtain ⟨HPt', hlq1, hfq⟩ := HP.out
  have HPt := Lib.hid HPt'
  clear HP HPt'
  simp only at hp2 hm2 hlq1 hfq HPS
  obtain ⟨Aq, cq, hv2, -, -⟩ := hp2.slice
  subst hv2
  go_wp2_with fail
  refine HC.out.mono ?_
  rintro e' w3 ⟨vp, v3, rfl, hp3, hr3, h3⟩
  clear HC
  obtain ⟨Aq', cq', hv3, -, hrow3⟩ := hp3.slice
  subst hv3
  simp only at hr3 hrow3
  have hp3' := hp2.fr h3 (fun k hk e => by
    have h4 := hp2.ge k hk
    rcases e with e | e
    · have := HR1.out.1.lt; omega
    · have := (HR1.out.2.ge k e).2; omega)
  obtain ⟨Ax, cx, hvx, -, hrow2⟩ := hp3'.slice
  injection hvx with hx1 hx2 hx3
  subst hx1 hx3
  have HMt := Lib.hid (hm2.fr h3 HN3.out.1 HN3.out.2)
  have HFt := Lib.hid (HF2.out.trans h3 (fun k _ e => .inr (.inr e)))
  have HRt := Lib.hid hr3
  have HSt := Lib.hid hrow2
  have HSt' := Lib.hid hrow3
  have HLq' := Lib.hid (show lq.length ≤ 1000000000000000 by omega)
  have HLt := Lib.hid (show (l ++ lq).length ≤ l.length + 1 by rw [List.length_append]; omega)
  have HLt' := Lib.hid (show (l ++ lq).length ≤ 1000000000000000 by have := HL.out; rw [List.length_append]; omega)
  have HSP := Lib.hid (show mt.s = m.s from HPS.out)
  have HFr := Lib.hid (show mt.fresh ≤ m.fresh + 2000 by omega)
  clear hp2 hp3 hp3' hm2 hr2 hO2 o0 o1 o2 ol h3 HF2 hr3 hrow2 hrow3 hlq1 hfq HPS
  generalize l ++ lq = lt at HPt HRt HLt HLt'

  obtain ⟨Av, cv, rfl, -, hrv⟩ := HRt.out.2.slice
  have HV := Lib.hid (show mt.v = .agg #[.int .i64 lt.length, .int .i64 mt.stage, .int .i64 mt.fresh, .bool mt.passed, .bool mt.closed] by unfold MS.v; rw [HPt.out.idx])
  go_wp2_with fail
  refine (state_calls g b mt _ HMt.out).mono ?_
  rintro e' w8 ⟨rfl, h8⟩
  rw [HV.out]
  have F9 := Lib.hid (h8.alloc (.cells #[.int .i64 lt.length, .int .i64 mt.stage, .int .i64 mt.fresh, .bool mt.passed, .bool mt.closed] 56))
  have HM9 := Lib.hid (HMt.out.no F9.out)
  have HR9 := Lib.hid (HRt.out.no F9.out)
  have HS9 := Lib.hid (HSt.out.no F9.out)
  have HS9' := Lib.hid (HSt'.out.no F9.out)
  have HF9 := Lib.hid (HFt.out.no F9.out)
  have HRV := Lib.hid (hrv.no F9.out)
  obtain ⟨c0, c1, c2, c3, c4, c5, c6, c7, hg9⟩ := HR9.out.1.eight
  clear c0 c1 c2 c3 h8 hrv F9 HMt HRt HSt HSt' HFt
  go_wp2_with fail
  go_quiet (first
    | (go_at_call 37; exact Calls.quiet_of (same_at _ _ _ _ _ lq _ (HS9.out.no ((Fr.refl No _).drewN _)) (HS9'.out.no ((Fr.refl No _).drewN _)) rfl HLq'.out))
    | (go_at_call 18; exact Calls.quiet_of_same (still_calls (stage9_at _ _ _ lt mt.stage _ (HRV.out.no ((Fr.refl No _).drewN _)) rfl HLt'.out HPt.out.stage9))))
  go_wp2_with fail
  go_ret
  exact ⟨rfl, mt, _, lt, HM9.out.no ((Fr.refl No _).drewN _), HR9.out.no ((Fr.refl No _).drewN _), HPt.out, HSP.out, HLt.out, HFr.out, HF9.out.drewN _⟩

set_option maxHeartbeats 8000000 in
theorem step0 (base g b h : Nat) (m : MS) (v : Value) (l : List Inf) (kd nn : Int) (old : Bool) (w : World) (hm : Mac w g b m) (hr : RM w base h m v l) (hpi0 : PInv m l) (hb : base ≤ w.heap.size)
    (hl : (l.length + 1) * 24 ≤ 140737488355328) (hf : m.fresh ≤ 1000000000000000000) (hok : m.s.ok = true) (k1 : (kd == 1) = false) (k2 : (kd == 2) = false) (k3 : (kd == 3) = false) (k4 : (kd == 4) = false) :
    Calls Try.prog 29 #[.pointer (some ⟨g, 0, none⟩), .pointer (some ⟨h, 0, none⟩), m.s.v, .agg #[.int .i64 kd, .int .i64 nn, .bool old]] w (SPost w base g b h m v l) := by
  have hpi := Lib.hid hpi0
  have HL := Lib.hid hl
  have HFR := Lib.hid hf
  have HOK := Lib.hid hok
  have HNX := Lib.hid (show m.next < 100000000000000 by rw [hpi0.idx]; omega)
  have HSP0 := Lib.hid (show 0 ≤ m.s.e ∧ 0 ≤ m.s.l by simp [Sp.ok] at hok; omega)
  have G1 := Lib.hid (((Fr.refl No w).alloc (.cells #[.int .i64 m.s.e, .int .i64 m.s.l, .int .i64 m.s.la, .bool m.s.acc] 48)).alloc (.cells #[.int .i64 kd, .int .i64 nn, .bool old] 68))
  have HM1 := Lib.hid (hm.no G1.out)
  have HR1 := Lib.hid (hr.no G1.out)
  have HO := Lib.hid (Blk.new_at (w.alloc (.cells #[.int .i64 m.s.e, .int .i64 m.s.l, .int .i64 m.s.la, .bool m.s.acc] 48)) #[.int .i64 kd, .int .i64 nn, .bool old] 68 (g := w.heap.size + 1) (by simp))
  have HS := Lib.hid (Blk.new w #[.int .i64 m.s.e, .int .i64 m.s.l, .int .i64 m.s.la, .bool m.s.acc] 48 |>.alloc (.cells #[.int .i64 kd, .int .i64 nn, .bool old] 68))
  have HF1 := Lib.hid (((Fr.refl (own g b h v) w).alloc (.cells #[.int .i64 m.s.e, .int .i64 m.s.l, .int .i64 m.s.la, .bool m.s.acc] 48)).alloc (.cells #[.int .i64 kd, .int .i64 nn, .bool old] 68))
  have HB := Lib.hid hb
  have HN1 := Lib.hid (show ¬ two g b h ∧ ∀ k, v.ownBlock = some k → ¬ two g b k from ⟨fun e => by
    rcases e with e | e
    · exact Blk.ne hr.1 hm.1 (by decide) e
    · exact Blk.ne hr.1 hm.2 (by decide) e, fun k hk e => by
    rcases e with e | e
    · exact hr.2.ne hm.1 (by decide) k hk e
    · exact hr.2.ne hm.2 (by decide) k hk e⟩)
  have HN2 := Lib.hid (show ¬ two g b (w.heap.size + 1) from fun e => by
    have i1 := hm.1.lt
    have i2 := Blk.lt hm.2
    rcases e with e | e <;> omega)
  have HN3 := Lib.hid (show ¬ rown h v g ∧ ¬ rown h v b from ⟨fun e => by
    rcases e with e | e
    · exact Blk.ne hr.1 hm.1 (by decide) e.symm
    · exact hr.2.ne hm.1 (by decide) _ e rfl, fun e => by
    rcases e with e | e
    · exact Blk.ne hr.1 hm.2 (by decide) e.symm
    · exact hr.2.ne hm.2 (by decide) _ e rfl⟩)
  clear hm hr hpi0 hl hf hok hb G1
  unfold SPost Sp.v
  have HMt := HM1
  have HFt := HF1
  have HRt := HR1
  have HPt := hpi
  have HSt := Lib.hid (Rows.nil ((w.alloc (.cells #[.int .i64 m.s.e, .int .i64 m.s.l, .int .i64 m.s.la, .bool m.s.acc] 48)).alloc (.cells #[.int .i64 kd, .int .i64 nn, .bool old] 68)) none 3)
  have HSt' := HSt
  obtain ⟨mt, lt, hmt, hlt, HMt, HRt, HPt⟩ : ∃ mt lt, mt = m ∧ lt = l ∧ Hid (Mac ((w.alloc (.cells #[.int .i64 m.s.e, .int .i64 m.s.l, .int .i64 m.s.la, .bool m.s.acc] 48)).alloc (.cells #[.int .i64 kd, .int .i64 nn, .bool old] 68)) g b mt) ∧ Hid (RM ((w.alloc (.cells #[.int .i64 m.s.e, .int .i64 m.s.l, .int .i64 m.s.la, .bool m.s.acc] 48)).alloc (.cells #[.int .i64 kd, .int .i64 nn, .bool old] 68)) base h mt v lt) ∧ Hid (PInv mt lt) := ⟨m, l, rfl, rfl, HM1, HR1, hpi⟩

  have HLq' := Lib.hid (show 0 ≤ 1000000000000000 by omega)
  have HLt := Lib.hid (show lt.length ≤ l.length + 1 by rw [hlt]; omega)
  have HLt' := Lib.hid (show lt.length ≤ 1000000000000000 by have := HL.out; rw [hlt]; omega)

  have HSP := Lib.hid (show mt.s = m.s by rw [hmt])
  have HFr := Lib.hid (show mt.fresh ≤ m.fresh + 2000 by rw [hmt]; omega)
  clear hmt hlt

  go_enter Try.func29, Try.ntmps29
  go_wp2_with fail

  obtain ⟨Av, cv, rfl, -, hrv⟩ := HRt.out.2.slice
  have HV := Lib.hid (show mt.v = .agg #[.int .i64 lt.length, .int .i64 mt.stage, .int .i64 mt.fresh, .bool mt.passed, .bool mt.closed] by unfold MS.v; rw [HPt.out.idx])
  go_wp2_with fail
  refine (state_calls g b mt _ HMt.out).mono ?_
  rintro e' w8 ⟨rfl, h8⟩
  rw [HV.out]
  have F9 := Lib.hid (h8.alloc (.cells #[.int .i64 lt.length, .int .i64 mt.stage, .int .i64 mt.fresh, .bool mt.passed, .bool mt.closed] 56))
  have HM9 := Lib.hid (HMt.out.no F9.out)
  have HR9 := Lib.hid (HRt.out.no F9.out)
  have HS9 := Lib.hid (HSt.out.no F9.out)
  have HS9' := Lib.hid (HSt'.out.no F9.out)
  have HF9 := Lib.hid (HFt.out.no F9.out)
  have HRV := Lib.hid (hrv.no F9.out)
  obtain ⟨c0, c1, c2, c3, c4, c5, c6, c7, hg9⟩ := HR9.out.1.eight
  clear c0 c1 c2 c3 h8 hrv F9 HMt HRt HSt HSt' HFt
  go_wp2_with fail
  go_quiet (first
    | (go_at_call 37; exact Calls.quiet_of (same_at _ _ _ _ _ [] _ (HS9.out.no ((Fr.refl No _).drewN _)) (HS9'.out.no ((Fr.refl No _).drewN _)) rfl HLq'.out))
    | (go_at_call 18; exact Calls.quiet_of_same (still_calls (stage9_at _ _ _ lt mt.stage _ (HRV.out.no ((Fr.refl No _).drewN _)) rfl HLt'.out HPt.out.stage9))))
  go_wp2_with fail
  go_ret
  exact ⟨rfl, mt, _, lt, HM9.out.no ((Fr.refl No _).drewN _), HR9.out.no ((Fr.refl No _).drewN _), HPt.out, HSP.out, HLt.out, HFr.out, HF9.out.drewN _⟩

set_option maxHeartbeats 8000000 in
theorem step4 (base g b h : Nat) (m : MS) (v : Value) (l : List Inf) (kd nn : Int) (w : World) (hm : Mac w g b m) (hr : RM w base h m v l) (hpi0 : PInv m l) (hb : base ≤ w.heap.size)
    (hl : (l.length + 1) * 24 ≤ 140737488355328) (hf : m.fresh ≤ 1000000000000000000) (hok : m.s.ok = true) :
    Calls Try.prog 29 #[.pointer (some ⟨g, 0, none⟩), .pointer (some ⟨h, 0, none⟩), m.s.v, .agg #[.int .i64 4, .int .i64 nn, .bool false]] w (SPost w base g b h m v l) := by
  have hpi := Lib.hid hpi0
  have HL := Lib.hid hl
  have HFR := Lib.hid hf
  have HOK := Lib.hid hok
  have HNX := Lib.hid (show m.next < 100000000000000 by rw [hpi0.idx]; omega)
  have HSP0 := Lib.hid (show 0 ≤ m.s.e ∧ 0 ≤ m.s.l by simp [Sp.ok] at hok; omega)
  have G1 := Lib.hid (((Fr.refl No w).alloc (.cells #[.int .i64 m.s.e, .int .i64 m.s.l, .int .i64 m.s.la, .bool m.s.acc] 48)).alloc (.cells #[.int .i64 4, .int .i64 nn, .bool false] 68))
  have HM1 := Lib.hid (hm.no G1.out)
  have HR1 := Lib.hid (hr.no G1.out)
  have HO := Lib.hid (Blk.new_at (w.alloc (.cells #[.int .i64 m.s.e, .int .i64 m.s.l, .int .i64 m.s.la, .bool m.s.acc] 48)) #[.int .i64 4, .int .i64 nn, .bool false] 68 (g := w.heap.size + 1) (by simp))
  have HS := Lib.hid (Blk.new w #[.int .i64 m.s.e, .int .i64 m.s.l, .int .i64 m.s.la, .bool m.s.acc] 48 |>.alloc (.cells #[.int .i64 4, .int .i64 nn, .bool false] 68))
  have HF1 := Lib.hid (((Fr.refl (own g b h v) w).alloc (.cells #[.int .i64 m.s.e, .int .i64 m.s.l, .int .i64 m.s.la, .bool m.s.acc] 48)).alloc (.cells #[.int .i64 4, .int .i64 nn, .bool false] 68))
  have HB := Lib.hid hb
  have HN1 := Lib.hid (show ¬ two g b h ∧ ∀ k, v.ownBlock = some k → ¬ two g b k from ⟨fun e => by
    rcases e with e | e
    · exact Blk.ne hr.1 hm.1 (by decide) e
    · exact Blk.ne hr.1 hm.2 (by decide) e, fun k hk e => by
    rcases e with e | e
    · exact hr.2.ne hm.1 (by decide) k hk e
    · exact hr.2.ne hm.2 (by decide) k hk e⟩)
  have HN2 := Lib.hid (show ¬ two g b (w.heap.size + 1) from fun e => by
    have i1 := hm.1.lt
    have i2 := Blk.lt hm.2
    rcases e with e | e <;> omega)
  have HN3 := Lib.hid (show ¬ rown h v g ∧ ¬ rown h v b from ⟨fun e => by
    rcases e with e | e
    · exact Blk.ne hr.1 hm.1 (by decide) e.symm
    · exact hr.2.ne hm.1 (by decide) _ e rfl, fun e => by
    rcases e with e | e
    · exact Blk.ne hr.1 hm.2 (by decide) e.symm
    · exact hr.2.ne hm.2 (by decide) _ e rfl⟩)
  clear hm hr hpi0 hl hf hok hb G1
  unfold SPost Sp.v
  go_enter Try.func29, Try.ntmps29
  go_wp2_with fail

  refine (new21_yes m.s _ HOK.out).mono ?_
  rintro e' w2 ⟨gn, bn, rfl, hgn, hbn, hmn2, h2⟩
  have hgn2 := hmn2.1.lt
  have hbn2 := Blk.lt hmn2.2
  have HM2 := Lib.hid (HM1.out.no h2)
  have HR2 := Lib.hid (HR1.out.no h2)
  have HO2 := Lib.hid (HO.out.no h2)
  have HF2 := Lib.hid (HF1.out.no h2)
  have HLT := Lib.hid (show g < gn ∧ b < gn ∧ h < gn ∧ w.heap.size + 1 < gn ∧ g < bn ∧ b < bn ∧ h < bn ∧ w.heap.size + 1 < bn ∧ (∀ k, v.ownBlock = some k → k < gn ∧ k < bn) ∧ gn < w2.heap.size ∧ bn < w2.heap.size ∧ w.heap.size < gn ∧ w.heap.size < bn from by
    have i1 := HM1.out.1.lt
    have i2 := Blk.lt HM1.out.2
    have i3 := HR1.out.1.lt
    have i4 := HO.out.lt
    refine ⟨by omega, by omega, by omega, by omega, by omega, by omega, by omega, by omega, fun k hk => ?_, by omega, by omega, by omega, by omega⟩
    have := (HR1.out.2.ge k hk).2
    omega)
  have HRN := Lib.hid (show ∀ k, rown h v k → k < gn ∧ k < bn ∧ k < w2.heap.size from fun k e => by
    have i1 := HLT.out
    rcases e with e | e
    · omega
    · have := i1.2.2.2.2.2.2.2.2.1 k e
      omega)
  have HMN2 := Lib.hid hmn2
  have HB2 := Lib.hid (show base ≤ w2.heap.size from Nat.le_trans HB.out HF2.out.size)
  obtain ⟨c0, c1, c2, c3, c4, c5, c6, c7, hg2⟩ := HR2.out.1.eight
  obtain ⟨o0, o1, o2, ol⟩ := HO2.out.three
  clear c4 c5 c6 c7 h2 hgn hbn hmn2 hgn2 hbn2 HM1 HR1 HO HF1
  go_wp2_with fail
  have HP := Lib.hid ((PInv.new m.s).add nn)
  have HSN := Lib.hid (MS.add_s (MS.new m.s) nn)
  have GY := Lib.hid ((Fr.refl No w2).alloc (.cells #[.int .i64 m.s.e, .int .i64 m.s.l, .int .i64 m.s.la, .bool m.s.acc, .slice none 0 0, .int .i64 0, .bool false, .bool false] 66))
  have HY := Lib.hid (show RM (w2.alloc (.cells #[.int .i64 m.s.e, .int .i64 m.s.l, .int .i64 m.s.la, .bool m.s.acc, .slice none 0 0, .int .i64 0, .bool false, .bool false] 66)) w2.heap.size w2.heap.size (MS.new m.s) (.slice none 0 0) [] from ⟨Blk.new w2 _ _, Own.nil _ _ _⟩)
  refine (add_calls gn bn (MS.new m.s) nn _ (HMN2.out.no GY.out) (MS.new_inv _) (by simp [MS.new]) (by simp [MS.new])).mono ?_
  rintro e' w3 ⟨va, rfl, ⟨pa, rfl, -⟩, hmn3, h3⟩
  have hY3 : RM w3 w2.heap.size w2.heap.size (MS.new m.s) (.slice none 0 0) [] := HY.out.fr h3 (fun e => by have := HLT.out; rcases e with e | e <;> omega) (fun k hk e => by cases hk)
  have HM3 := Lib.hid ((HM2.out.no GY.out).fr h3 (fun e => by have := HLT.out; rcases e with e | e <;> omega) (fun e => by have := HLT.out; rcases e with e | e <;> omega))
  have HR3 := Lib.hid ((HR2.out.no GY.out).fr h3 (fun e => by have := HLT.out; rcases e with e | e <;> omega) (fun k hk e => by have := HLT.out.2.2.2.2.2.2.2.2.1 k hk; rcases e with e | e <;> omega))
  have hO3 := Blk.fr (HO2.out.no GY.out) h3 (fun e => by have := HLT.out; rcases e with e | e <;> omega)
  have HF3 := Lib.hid (show Fr (own g b h v) w w3 from (HF2.out.no GY.out).trans h3 (fun k hk e => by have := HLT.out; rcases e with e | e <;> omega))
  have HSZ := Lib.hid (show w2.heap.size < w3.heap.size by have := h3.size; rw [World.size_alloc] at this; omega)
  have HC := Lib.hid (radd_calls w2.heap.size w2.heap.size (MS.new m.s) (.slice none 0 0) [] nn w3 hY3 (by have := HSZ.out; omega) (by simp) rfl HSP0.out (by simp [MS.new]) (by simp [MS.new]))
  obtain ⟨o0, o1, o2, ol⟩ := hO3.three
  have HO3 := Lib.hid hO3
  clear hY3 hO3 h3 HM2 HR2 HO2 HF2 HMN2 HY GY
  generalize (MS.new m.s).add nn = r at HP HSN HC hmn3
  obtain ⟨mn, ln, ern⟩ := r
  obtain ⟨hpn, hln, hfn⟩ := HP.out
  simp only [List.nil_append, MS.new] at hpn hln hfn hmn3 HSN
  have HPN := Lib.hid hpn
  have HSN := Lib.hid (show mn.s = m.s from HSN.out)
  have HMN := Lib.hid hmn3
  have HFN := Lib.hid (show mn.fresh ≤ 2000 by omega)
  have HLN := Lib.hid (show ln.length ≤ 1 from hln)
  clear hpn hln hfn hmn3 HP
  go_wp2_with fail
  refine HC.out.mono ?_
  rintro e' w4 ⟨vp, vy, rfl, -, hy4, h4⟩
  simp only [List.nil_append] at hy4
  clear HC
  have HRW := Lib.hid (show ∀ k, rown w2.heap.size (.slice none 0 0) k → k = w2.heap.size from fun k e => by
    rcases e with e | e
    · exact e
    · cases e)
  have HM4 := Lib.hid (HM3.out.fr h4 (fun e => by have := HRW.out _ e; have := HLT.out; omega) (fun e => by have := HRW.out _ e; have := HLT.out; omega))
  have HMN4 := Lib.hid (HMN.out.fr h4 (fun e => by have := HRW.out _ e; have := HLT.out; omega) (fun e => by have := HRW.out _ e; have := HLT.out; omega))
  have HR4 := Lib.hid (HR3.out.fr h4 (fun e => by have := HRW.out _ e; have := HLT.out; omega) (fun k hk e => by have := HRW.out _ e; have := HLT.out; have := HLT.out.2.2.2.2.2.2.2.2.1 k hk; omega))
  have hO4 := Blk.fr HO3.out h4 (fun e => by have := HRW.out _ e; have := HLT.out; omega)
  have HF4 := Lib.hid (show Fr (own g b h v) w w4 from HF3.out.trans h4 (fun k hk e => by have := HRW.out _ e; have := HLT.out; omega))
  have HY4 := Lib.hid hy4
  have HSZ := Lib.hid (show w2.heap.size < w4.heap.size from Nat.lt_of_lt_of_le HSZ.out h4.size)
  obtain ⟨o0, o1, o2, ol⟩ := hO4.three
  clear hO4 hy4 h4 HM3 HMN HR3 HO3 HF3

  have HYE := Lib.hid (show (young m && young mn) = !(m.passed || mn.passed || decide (l.length > 0) || decide (ln.length > 0)) by
    rw [hpi.out.young_eq, HPN.out.young_eq]
    cases m.passed <;> cases mn.passed <;> cases decide (l.length > 0) <;> cases decide (ln.length > 0) <;> rfl)
  cases hyo : (young m && young mn)
  · have HYN := Lib.hid hyo
    have HYR := Lib.hid (show (m.passed || mn.passed || decide (l.length > 0) || decide (ln.length > 0)) = true by have := HYE.out; rw [hyo] at this; exact b_of_false this)
    clear hyo
    go_wp2_with fail

    refine (join_no g b gn bn m mn _ HM4.out HMN4.out (by have := HLT.out; omega) HYN.out).mono ?_
    rintro e' w5 ⟨rfl, rfl⟩
    go_wp2_with fail
    refine (rjoin_no base h w2.heap.size m mn v vy l ln _ HR4.out (RM.down HY4.out HB2.out) HYR.out).mono ?_
    rintro e' w6 ⟨rfl, rfl⟩
    have HMt := HM4
    have HRt := HR4
    have HFt := HF4
    have HPt := hpi
    have HMNJ := HMN4
    have HYJ := HY4
    obtain ⟨mt, hmt⟩ : ∃ mt, mt = m := ⟨_, rfl⟩
    rw [← hmt] at HMt HRt HPt
    have HSP := Lib.hid (show mt.s = m.s by rw [hmt])
    have HFr := Lib.hid (show mt.fresh ≤ m.fresh + 2000 by rw [hmt]; omega)
    clear hmt HM4 HR4 HF4 HMN4 HY4 c0 c1 c2 c3 o0 o1 o2

    obtain ⟨-, -, -, -, -, y5, -, -, yl⟩ := HYJ.out.1.eight
    have hfld := field56
    go_wp2_with fail
    go_region_with ((go_at_call 25; refine (state_calls gn bn mn _ ?_).mono ?_; exact HMNJ.out.no ((Fr.refl No _).drew); unfold MS.v; rintro e8 w7 ⟨rfl, h7⟩; have y5 := (((HYJ.out.no ((Fr.refl No _).drew)).no h7).1.cell 5); simp only [List.getElem?_cons_succ, List.getElem?_cons_zero] at y5))
    all_goals
      clear y5 hfld
      have HMt := Lib.hid ((HMt.out.no ((Fr.refl No _).drew)).no h7)
      have HRt := Lib.hid ((HRt.out.no ((Fr.refl No _).drew)).no h7)
      have HFt := Lib.hid ((HFt.out.drew).no h7)
      have HSt := Lib.hid (Rows.nil w7 none 3)
      have HSt' := HSt
      clear HMNJ HYJ h7
      obtain ⟨lt, hlt⟩ : ∃ lt, lt = l := ⟨_, rfl⟩
      rw [← hlt] at HRt HPt
      have HLq' := Lib.hid (show 0 ≤ 1000000000000000 by omega)
      have HLt := Lib.hid (show lt.length ≤ l.length + 1 by rw [hlt]; omega)
      have HLt' := Lib.hid (show lt.length ≤ 1000000000000000 by have := HL.out; rw [hlt]; omega)
      clear hlt
      obtain ⟨Av, cv, rfl, -, hrv⟩ := HRt.out.2.slice
      have HV := Lib.hid (show mt.v = .agg #[.int .i64 lt.length, .int .i64 mt.stage, .int .i64 mt.fresh, .bool mt.passed, .bool mt.closed] by unfold MS.v; rw [HPt.out.idx])
      go_wp2_with fail
      refine (state_calls g b mt _ HMt.out).mono ?_
      rintro e' w8 ⟨rfl, h8⟩
      rw [HV.out]
      have F9 := Lib.hid (h8.alloc (.cells #[.int .i64 lt.length, .int .i64 mt.stage, .int .i64 mt.fresh, .bool mt.passed, .bool mt.closed] 56))
      have HM9 := Lib.hid (HMt.out.no F9.out)
      have HR9 := Lib.hid (HRt.out.no F9.out)
      have HS9 := Lib.hid (HSt.out.no F9.out)
      have HS9' := Lib.hid (HSt'.out.no F9.out)
      have HF9 := Lib.hid (HFt.out.no F9.out)
      have HRV := Lib.hid (hrv.no F9.out)
      obtain ⟨c0, c1, c2, c3, c4, c5, c6, c7, hg9⟩ := HR9.out.1.eight
      clear c0 c1 c2 c3 h8 hrv F9 HMt HRt HSt HSt' HFt
      go_wp2_with fail
      go_quiet (first
        | (go_at_call 37; exact Calls.quiet_of (same_at _ _ _ _ _ [] _ (HS9.out.no ((Fr.refl No _).drewN _)) (HS9'.out.no ((Fr.refl No _).drewN _)) rfl HLq'.out))
        | (go_at_call 18; exact Calls.quiet_of_same (still_calls (stage9_at _ _ _ lt mt.stage _ (HRV.out.no ((Fr.refl No _).drewN _)) rfl HLt'.out HPt.out.stage9))))
      go_wp2_with fail
      go_ret
      exact ⟨rfl, mt, _, lt, HM9.out.no ((Fr.refl No _).drewN _), HR9.out.no ((Fr.refl No _).drewN _), HPt.out, HSP.out, HLt.out, HFr.out, HF9.out.drewN _⟩
  · have HYN := Lib.hid hyo
    have HYR := Lib.hid (show (m.passed || mn.passed || decide (l.length > 0) || decide (ln.length > 0)) = false by have := HYE.out; rw [hyo] at this; exact b_of_true this)
    clear hyo
    go_wp2_with fail

    refine (join_yes g b gn bn m mn _ HM4.out HMN4.out (by have := HLT.out; omega) HYN.out ⟨hpi.out.inv.pos, HFR.out⟩ ⟨HPN.out.inv.pos, by have := HFN.out; omega⟩).mono ?_
    rintro e' w5 ⟨rfl, hm5, h5⟩
    have HMN5 := Lib.hid (HMN4.out.fr h5 (fun e => by have := HLT.out; rcases e with e | e <;> omega) (fun e => by have := HLT.out; rcases e with e | e <;> omega))
    have HY5 := Lib.hid (HY4.out.fr h5 (fun e => by have := HLT.out; rcases e with e | e <;> omega) (fun k hk e => by have := (HY4.out.2.ge k hk).1; have := HLT.out; rcases e with e | e <;> omega))
    have HR5 := Lib.hid (HR4.out.fr h5 HN1.out.1 HN1.out.2)
    have HF5 := Lib.hid (HF4.out.trans h5 (fun k _ e => by rcases e with e | e <;> simp [own, e]))
    clear h5 HMN4 HY4 HR4 HF4 HM4 c0 c1 c2 c3 o0 o1 o2
    go_wp2_with fail
    refine (rjoin_yes base h w2.heap.size m mn v vy l ln _ HR5.out (RM.down HY5.out HB2.out) (by have := HLT.out; omega) HYR.out ⟨hpi.out.inv.pos, HFR.out⟩ ⟨HPN.out.inv.pos, by have := HFN.out; omega⟩).mono ?_
    rintro e' w6 ⟨rfl, hr6, h6⟩
    have HMt := Lib.hid (hm5.fr h6 HN3.out.1 HN3.out.2)
    have HMNJ := Lib.hid (HMN5.out.fr h6 (fun e => by have := HRN.out _ e; omega) (fun e => by have := HRN.out _ e; omega))
    have HYJ := Lib.hid (HY5.out.fr h6 (fun e => by have := HRN.out _ e; omega) (fun k hk e => by have := (HY5.out.2.ge k hk).1; have := HRN.out _ e; omega))
    have HRt := Lib.hid hr6
    have HFt := Lib.hid (HF5.out.trans h6 (fun k _ e => .inr (.inr e)))
    have HPt := Lib.hid (hpi.out.join (by have := HYN.out; simp at this; exact this.1) mn.fresh HPN.out.inv.pos)
    obtain ⟨mt, hmt⟩ : ∃ mt, mt = m.plus mn.fresh := ⟨_, rfl⟩
    rw [← hmt] at HMt HRt HPt
    have HSP := Lib.hid (show mt.s = m.s by rw [hmt]; rfl)
    have HFr := Lib.hid (show mt.fresh ≤ m.fresh + 2000 by rw [hmt]; have := HFN.out; show m.fresh + mn.fresh ≤ _; omega)
    clear hmt HMN5 HY5 HR5 HF5 hm5 hr6 h6

    obtain ⟨-, -, -, -, -, y5, -, -, yl⟩ := HYJ.out.1.eight
    have hfld := field56
    go_wp2_with fail
    go_region_with ((go_at_call 25; refine (state_calls gn bn mn _ ?_).mono ?_; exact HMNJ.out.no ((Fr.refl No _).drew); unfold MS.v; rintro e8 w7 ⟨rfl, h7⟩; have y5 := (((HYJ.out.no ((Fr.refl No _).drew)).no h7).1.cell 5); simp only [List.getElem?_cons_succ, List.getElem?_cons_zero] at y5))
    all_goals
      clear y5 hfld
      have HMt := Lib.hid ((HMt.out.no ((Fr.refl No _).drew)).no h7)
      have HRt := Lib.hid ((HRt.out.no ((Fr.refl No _).drew)).no h7)
      have HFt := Lib.hid ((HFt.out.drew).no h7)
      have HSt := Lib.hid (Rows.nil w7 none 3)
      have HSt' := HSt
      clear HMNJ HYJ h7
      obtain ⟨lt, hlt⟩ : ∃ lt, lt = l := ⟨_, rfl⟩
      rw [← hlt] at HRt HPt
      have HLq' := Lib.hid (show 0 ≤ 1000000000000000 by omega)
      have HLt := Lib.hid (show lt.length ≤ l.length + 1 by rw [hlt]; omega)
      have HLt' := Lib.hid (show lt.length ≤ 1000000000000000 by have := HL.out; rw [hlt]; omega)
      clear hlt
      obtain ⟨Av, cv, rfl, -, hrv⟩ := HRt.out.2.slice
      have HV := Lib.hid (show mt.v = .agg #[.int .i64 lt.length, .int .i64 mt.stage, .int .i64 mt.fresh, .bool mt.passed, .bool mt.closed] by unfold MS.v; rw [HPt.out.idx])
      go_wp2_with fail
      refine (state_calls g b mt _ HMt.out).mono ?_
      rintro e' w8 ⟨rfl, h8⟩
      rw [HV.out]
      have F9 := Lib.hid (h8.alloc (.cells #[.int .i64 lt.length, .int .i64 mt.stage, .int .i64 mt.fresh, .bool mt.passed, .bool mt.closed] 56))
      have HM9 := Lib.hid (HMt.out.no F9.out)
      have HR9 := Lib.hid (HRt.out.no F9.out)
      have HS9 := Lib.hid (HSt.out.no F9.out)
      have HS9' := Lib.hid (HSt'.out.no F9.out)
      have HF9 := Lib.hid (HFt.out.no F9.out)
      have HRV := Lib.hid (hrv.no F9.out)
      obtain ⟨c0, c1, c2, c3, c4, c5, c6, c7, hg9⟩ := HR9.out.1.eight
      clear c0 c1 c2 c3 h8 hrv F9 HMt HRt HSt HSt' HFt
      go_wp2_with fail
      go_quiet (first
        | (go_at_call 37; exact Calls.quiet_of (same_at _ _ _ _ _ [] _ (HS9.out.no ((Fr.refl No _).drewN _)) (HS9'.out.no ((Fr.refl No _).drewN _)) rfl HLq'.out))
        | (go_at_call 18; exact Calls.quiet_of_same (still_calls (stage9_at _ _ _ lt mt.stage _ (HRV.out.no ((Fr.refl No _).drewN _)) rfl HLt'.out HPt.out.stage9))))
      go_wp2_with fail
      go_ret
      exact ⟨rfl, mt, _, lt, HM9.out.no ((Fr.refl No _).drewN _), HR9.out.no ((Fr.refl No _).drewN _), HPt.out, HSP.out, HLt.out, HFr.out, HF9.out.drewN _⟩

set_option maxHeartbeats 8000000 in
theorem step5 (base g b h : Nat) (m : MS) (v : Value) (l : List Inf) (kd nn : Int) (w : World) (hm : Mac w g b m) (hr : RM w base h m v l) (hpi0 : PInv m l) (hb : base ≤ w.heap.size)
    (hl : (l.length + 1) * 24 ≤ 140737488355328) (hf : m.fresh ≤ 1000000000000000000) (hok : m.s.ok = true) :
    Calls Try.prog 29 #[.pointer (some ⟨g, 0, none⟩), .pointer (some ⟨h, 0, none⟩), m.s.v, .agg #[.int .i64 4, .int .i64 nn, .bool true]] w (SPost w base g b h m v l) := by
  have hpi := Lib.hid hpi0
  have HL := Lib.hid hl
  have HFR := Lib.hid hf
  have HOK := Lib.hid hok
  have HNX := Lib.hid (show m.next < 100000000000000 by rw [hpi0.idx]; omega)
  have HSP0 := Lib.hid (show 0 ≤ m.s.e ∧ 0 ≤ m.s.l by simp [Sp.ok] at hok; omega)
  have G1 := Lib.hid (((Fr.refl No w).alloc (.cells #[.int .i64 m.s.e, .int .i64 m.s.l, .int .i64 m.s.la, .bool m.s.acc] 48)).alloc (.cells #[.int .i64 4, .int .i64 nn, .bool true] 68))
  have HM1 := Lib.hid (hm.no G1.out)
  have HR1 := Lib.hid (hr.no G1.out)
  have HO := Lib.hid (Blk.new_at (w.alloc (.cells #[.int .i64 m.s.e, .int .i64 m.s.l, .int .i64 m.s.la, .bool m.s.acc] 48)) #[.int .i64 4, .int .i64 nn, .bool true] 68 (g := w.heap.size + 1) (by simp))
  have HS := Lib.hid (Blk.new w #[.int .i64 m.s.e, .int .i64 m.s.l, .int .i64 m.s.la, .bool m.s.acc] 48 |>.alloc (.cells #[.int .i64 4, .int .i64 nn, .bool true] 68))
  have HF1 := Lib.hid (((Fr.refl (own g b h v) w).alloc (.cells #[.int .i64 m.s.e, .int .i64 m.s.l, .int .i64 m.s.la, .bool m.s.acc] 48)).alloc (.cells #[.int .i64 4, .int .i64 nn, .bool true] 68))
  have HB := Lib.hid hb
  have HN1 := Lib.hid (show ¬ two g b h ∧ ∀ k, v.ownBlock = some k → ¬ two g b k from ⟨fun e => by
    rcases e with e | e
    · exact Blk.ne hr.1 hm.1 (by decide) e
    · exact Blk.ne hr.1 hm.2 (by decide) e, fun k hk e => by
    rcases e with e | e
    · exact hr.2.ne hm.1 (by decide) k hk e
    · exact hr.2.ne hm.2 (by decide) k hk e⟩)
  have HN2 := Lib.hid (show ¬ two g b (w.heap.size + 1) from fun e => by
    have i1 := hm.1.lt
    have i2 := Blk.lt hm.2
    rcases e with e | e <;> omega)
  have HN3 := Lib.hid (show ¬ rown h v g ∧ ¬ rown h v b from ⟨fun e => by
    rcases e with e | e
    · exact Blk.ne hr.1 hm.1 (by decide) e.symm
    · exact hr.2.ne hm.1 (by decide) _ e rfl, fun e => by
    rcases e with e | e
    · exact Blk.ne hr.1 hm.2 (by decide) e.symm
    · exact hr.2.ne hm.2 (by decide) _ e rfl⟩)
  clear hm hr hpi0 hl hf hok hb G1
  unfold SPost Sp.v
  go_enter Try.func29, Try.ntmps29
  go_wp2_with fail

  refine (new21_yes m.s _ HOK.out).mono ?_
  rintro e' w2 ⟨gn, bn, rfl, hgn, hbn, hmn2, h2⟩
  have hgn2 := hmn2.1.lt
  have hbn2 := Blk.lt hmn2.2
  have HM2 := Lib.hid (HM1.out.no h2)
  have HR2 := Lib.hid (HR1.out.no h2)
  have HO2 := Lib.hid (HO.out.no h2)
  have HF2 := Lib.hid (HF1.out.no h2)
  have HLT := Lib.hid (show g < gn ∧ b < gn ∧ h < gn ∧ w.heap.size + 1 < gn ∧ g < bn ∧ b < bn ∧ h < bn ∧ w.heap.size + 1 < bn ∧ (∀ k, v.ownBlock = some k → k < gn ∧ k < bn) ∧ gn < w2.heap.size ∧ bn < w2.heap.size ∧ w.heap.size < gn ∧ w.heap.size < bn from by
    have i1 := HM1.out.1.lt
    have i2 := Blk.lt HM1.out.2
    have i3 := HR1.out.1.lt
    have i4 := HO.out.lt
    refine ⟨by omega, by omega, by omega, by omega, by omega, by omega, by omega, by omega, fun k hk => ?_, by omega, by omega, by omega, by omega⟩
    have := (HR1.out.2.ge k hk).2
    omega)
  have HRN := Lib.hid (show ∀ k, rown h v k → k < gn ∧ k < bn ∧ k < w2.heap.size from fun k e => by
    have i1 := HLT.out
    rcases e with e | e
    · omega
    · have := i1.2.2.2.2.2.2.2.2.1 k e
      omega)
  have HMN2 := Lib.hid hmn2
  have HB2 := Lib.hid (show base ≤ w2.heap.size from Nat.le_trans HB.out HF2.out.size)
  obtain ⟨c0, c1, c2, c3, c4, c5, c6, c7, hg2⟩ := HR2.out.1.eight
  obtain ⟨o0, o1, o2, ol⟩ := HO2.out.three
  clear c4 c5 c6 c7 h2 hgn hbn hmn2 hgn2 hbn2 HM1 HR1 HO HF1
  go_wp2_with fail
  have HP := Lib.hid ((PInv.new m.s).add nn)
  have HSN := Lib.hid (MS.add_s (MS.new m.s) nn)
  have GY := Lib.hid ((Fr.refl No w2).alloc (.cells #[.int .i64 m.s.e, .int .i64 m.s.l, .int .i64 m.s.la, .bool m.s.acc, .slice none 0 0, .int .i64 0, .bool false, .bool false] 66))
  have HY := Lib.hid (show RM (w2.alloc (.cells #[.int .i64 m.s.e, .int .i64 m.s.l, .int .i64 m.s.la, .bool m.s.acc, .slice none 0 0, .int .i64 0, .bool false, .bool false] 66)) w2.heap.size w2.heap.size (MS.new m.s) (.slice none 0 0) [] from ⟨Blk.new w2 _ _, Own.nil _ _ _⟩)
  refine (add_calls gn bn (MS.new m.s) nn _ (HMN2.out.no GY.out) (MS.new_inv _) (by simp [MS.new]) (by simp [MS.new])).mono ?_
  rintro e' w3 ⟨va, rfl, ⟨pa, rfl, -⟩, hmn3, h3⟩
  have hY3 : RM w3 w2.heap.size w2.heap.size (MS.new m.s) (.slice none 0 0) [] := HY.out.fr h3 (fun e => by have := HLT.out; rcases e with e | e <;> omega) (fun k hk e => by cases hk)
  have HM3 := Lib.hid ((HM2.out.no GY.out).fr h3 (fun e => by have := HLT.out; rcases e with e | e <;> omega) (fun e => by have := HLT.out; rcases e with e | e <;> omega))
  have HR3 := Lib.hid ((HR2.out.no GY.out).fr h3 (fun e => by have := HLT.out; rcases e with e | e <;> omega) (fun k hk e => by have := HLT.out.2.2.2.2.2.2.2.2.1 k hk; rcases e with e | e <;> omega))
  have hO3 := Blk.fr (HO2.out.no GY.out) h3 (fun e => by have := HLT.out; rcases e with e | e <;> omega)
  have HF3 := Lib.hid (show Fr (own g b h v) w w3 from (HF2.out.no GY.out).trans h3 (fun k hk e => by have := HLT.out; rcases e with e | e <;> omega))
  have HSZ := Lib.hid (show w2.heap.size < w3.heap.size by have := h3.size; rw [World.size_alloc] at this; omega)
  have HC := Lib.hid (radd_calls w2.heap.size w2.heap.size (MS.new m.s) (.slice none 0 0) [] nn w3 hY3 (by have := HSZ.out; omega) (by simp) rfl HSP0.out (by simp [MS.new]) (by simp [MS.new]))
  obtain ⟨o0, o1, o2, ol⟩ := hO3.three
  have HO3 := Lib.hid hO3
  clear hY3 hO3 h3 HM2 HR2 HO2 HF2 HMN2 HY GY
  generalize (MS.new m.s).add nn = r at HP HSN HC hmn3
  obtain ⟨mn, ln, ern⟩ := r
  obtain ⟨hpn, hln, hfn⟩ := HP.out
  simp only [List.nil_append, MS.new] at hpn hln hfn hmn3 HSN
  have HPN := Lib.hid hpn
  have HSN := Lib.hid (show mn.s = m.s from HSN.out)
  have HMN := Lib.hid hmn3
  have HFN := Lib.hid (show mn.fresh ≤ 2000 by omega)
  have HLN := Lib.hid (show ln.length ≤ 1 from hln)
  clear hpn hln hfn hmn3 HP
  go_wp2_with fail
  refine HC.out.mono ?_
  rintro e' w4 ⟨vp, vy, rfl, -, hy4, h4⟩
  simp only [List.nil_append] at hy4
  clear HC
  have HRW := Lib.hid (show ∀ k, rown w2.heap.size (.slice none 0 0) k → k = w2.heap.size from fun k e => by
    rcases e with e | e
    · exact e
    · cases e)
  have HM4 := Lib.hid (HM3.out.fr h4 (fun e => by have := HRW.out _ e; have := HLT.out; omega) (fun e => by have := HRW.out _ e; have := HLT.out; omega))
  have HMN4 := Lib.hid (HMN.out.fr h4 (fun e => by have := HRW.out _ e; have := HLT.out; omega) (fun e => by have := HRW.out _ e; have := HLT.out; omega))
  have HR4 := Lib.hid (HR3.out.fr h4 (fun e => by have := HRW.out _ e; have := HLT.out; omega) (fun k hk e => by have := HRW.out _ e; have := HLT.out; have := HLT.out.2.2.2.2.2.2.2.2.1 k hk; omega))
  have hO4 := Blk.fr HO3.out h4 (fun e => by have := HRW.out _ e; have := HLT.out; omega)
  have HF4 := Lib.hid (show Fr (own g b h v) w w4 from HF3.out.trans h4 (fun k hk e => by have := HRW.out _ e; have := HLT.out; omega))
  have HY4 := Lib.hid hy4
  have HSZ := Lib.hid (show w2.heap.size < w4.heap.size from Nat.lt_of_lt_of_le HSZ.out h4.size)
  obtain ⟨o0, o1, o2, ol⟩ := hO4.three
  clear hO4 hy4 h4 HM3 HMN HR3 HO3 HF3

  go_wp2_with fail
  have HP := Lib.hid HPN.out.pass
  have HPS := Lib.hid (MS.pass_s mn)
  have HPP := Lib.hid (MS.pass_passed mn)
  refine (pass_calls gn bn mn _ HMN4.out HPN.out.inv (by rw [HPN.out.idx]; have := HLN.out; omega)).mono ?_
  rintro e' wa ⟨vb, rfl, ⟨pb, rfl, -⟩, hmna, ha⟩
  have HMa := Lib.hid (HM4.out.fr ha (fun e => by have := HLT.out; rcases e with e | e <;> omega) (fun e => by have := HLT.out; rcases e with e | e <;> omega))
  have HRa := Lib.hid (HR4.out.fr ha (fun e => by have := HLT.out; rcases e with e | e <;> omega) (fun k hk e => by have := HLT.out.2.2.2.2.2.2.2.2.1 k hk; rcases e with e | e <;> omega))
  have hYa := HY4.out.fr ha (fun e => by have := HLT.out; rcases e with e | e <;> omega) (fun k hk e => by have := (HY4.out.2.ge k hk).1; have := HLT.out; rcases e with e | e <;> omega)
  have HFa := Lib.hid (show Fr (own g b h v) w wa from HF4.out.trans ha (fun k hk e => by have := HLT.out; rcases e with e | e <;> omega))
  have HSZ := Lib.hid (show w2.heap.size < wa.heap.size from Nat.lt_of_lt_of_le HSZ.out ha.size)
  have HC := Lib.hid (rpass_calls w2.heap.size w2.heap.size mn vy ln wa hYa (by have := HSZ.out; omega) (by have := HLN.out; omega) HPN.out.idx (fun e => (HPN.out.inv.young e).2))
  have HVY := Lib.hid (show ∀ k, rown w2.heap.size vy k → w2.heap.size ≤ k from fun k e => by
    rcases e with e | e
    · omega
    · exact (HY4.out.2.ge k e).1)
  clear hYa ha HM4 HR4 HY4 HF4 HMN4 o0 o1 o2
  generalize mn.pass = r at HP HPS HPP hmna HC
  obtain ⟨mo, lo, ero⟩ := r
  obtain ⟨hpo, hlo, hfo⟩ := HP.out
  simp only at hpo hlo hfo hmna HPS HPP
  have HPN2 := Lib.hid hpo
  have HMNa := Lib.hid hmna
  have HFN2 := Lib.hid (show mo.fresh ≤ 3000 by have := HFN.out; omega)
  clear HP hpo hlo hfo hmna
  go_wp2_with fail
  refine HC.out.mono ?_
  rintro e' w4 ⟨vp, vz, rfl, -, hy4, h4⟩
  clear HC
  simp only at hy4
  have HM4 := Lib.hid (HMa.out.fr h4 (fun e => by have := HVY.out _ e; have := HLT.out; omega) (fun e => by have := HVY.out _ e; have := HLT.out; omega))
  have HMN4 := Lib.hid (HMNa.out.fr h4 (fun e => by have := HVY.out _ e; have := HLT.out; omega) (fun e => by have := HVY.out _ e; have := HLT.out; omega))
  have HR4 := Lib.hid (HRa.out.fr h4 (fun e => by have := HVY.out _ e; have := HLT.out; omega) (fun k hk e => by have := HVY.out _ e; have := HLT.out; have := HLT.out.2.2.2.2.2.2.2.2.1 k hk; omega))
  have HF4 := Lib.hid (show Fr (own g b h v) w w4 from HFa.out.trans h4 (fun k hk e => by have := HVY.out _ e; have := HLT.out; omega))
  have HY4 := Lib.hid hy4
  clear hy4 h4 HMa HMNa HRa HFa
  have HPN := HPN2
  generalize ln ++ lo = lm at HPN HY4
  have HYN := Lib.hid (show (young m && young mo) = false by unfold young; rw [HPP.out]; simp)
  have HYR := Lib.hid (show (m.passed || mo.passed || decide (l.length > 0) || decide (lm.length > 0)) = true by rw [HPP.out]; simp)
  go_wp2_with fail

  refine (join_no g b gn bn m mo _ HM4.out HMN4.out (by have := HLT.out; omega) HYN.out).mono ?_
  rintro e' w5 ⟨rfl, rfl⟩
  go_wp2_with fail
  refine (rjoin_no base h w2.heap.size m mo v vz l lm _ HR4.out (RM.down HY4.out HB2.out) HYR.out).mono ?_
  rintro e' w6 ⟨rfl, rfl⟩
  have HMt := HM4
  have HRt := HR4
  have HFt := HF4
  have HPt := hpi
  have HMNJ := HMN4
  have HYJ := HY4
  obtain ⟨mt, hmt⟩ : ∃ mt, mt = m := ⟨_, rfl⟩
  rw [← hmt] at HMt HRt HPt
  have HSP := Lib.hid (show mt.s = m.s by rw [hmt])
  have HFr := Lib.hid (show mt.fresh ≤ m.fresh + 2000 by rw [hmt]; omega)
  clear hmt HM4 HR4 HF4 HMN4 HY4 c0 c1 c2 c3 o0 o1 o2

  obtain ⟨-, -, -, -, -, y5, -, -, yl⟩ := HYJ.out.1.eight
  have hfld := field56
  go_wp2_with fail
  go_region_with ((go_at_call 25; refine (state_calls gn bn mo _ ?_).mono ?_; exact HMNJ.out.no ((Fr.refl No _).drew); unfold MS.v; rintro e8 w7 ⟨rfl, h7⟩; have y5 := (((HYJ.out.no ((Fr.refl No _).drew)).no h7).1.cell 5); simp only [List.getElem?_cons_succ, List.getElem?_cons_zero] at y5))
  all_goals
    clear y5 hfld
    have HMt := Lib.hid ((HMt.out.no ((Fr.refl No _).drew)).no h7)
    have HRt := Lib.hid ((HRt.out.no ((Fr.refl No _).drew)).no h7)
    have HFt := Lib.hid ((HFt.out.drew).no h7)
    have HSt := Lib.hid (Rows.nil w7 none 3)
    have HSt' := HSt
    clear HMNJ HYJ h7
    obtain ⟨lt, hlt⟩ : ∃ lt, lt = l := ⟨_, rfl⟩
    rw [← hlt] at HRt HPt
    have HLq' := Lib.hid (show 0 ≤ 1000000000000000 by omega)
    have HLt := Lib.hid (show lt.length ≤ l.length + 1 by rw [hlt]; omega)
    have HLt' := Lib.hid (show lt.length ≤ 1000000000000000 by have := HL.out; rw [hlt]; omega)
    clear hlt
    obtain ⟨Av, cv, rfl, -, hrv⟩ := HRt.out.2.slice
    have HV := Lib.hid (show mt.v = .agg #[.int .i64 lt.length, .int .i64 mt.stage, .int .i64 mt.fresh, .bool mt.passed, .bool mt.closed] by unfold MS.v; rw [HPt.out.idx])
    go_wp2_with fail
    refine (state_calls g b mt _ HMt.out).mono ?_
    rintro e' w8 ⟨rfl, h8⟩
    rw [HV.out]
    have F9 := Lib.hid (h8.alloc (.cells #[.int .i64 lt.length, .int .i64 mt.stage, .int .i64 mt.fresh, .bool mt.passed, .bool mt.closed] 56))
    have HM9 := Lib.hid (HMt.out.no F9.out)
    have HR9 := Lib.hid (HRt.out.no F9.out)
    have HS9 := Lib.hid (HSt.out.no F9.out)
    have HS9' := Lib.hid (HSt'.out.no F9.out)
    have HF9 := Lib.hid (HFt.out.no F9.out)
    have HRV := Lib.hid (hrv.no F9.out)
    obtain ⟨c0, c1, c2, c3, c4, c5, c6, c7, hg9⟩ := HR9.out.1.eight
    clear c0 c1 c2 c3 h8 hrv F9 HMt HRt HSt HSt' HFt
    go_wp2_with fail
    go_quiet (first
      | (go_at_call 37; exact Calls.quiet_of (same_at _ _ _ _ _ [] _ (HS9.out.no ((Fr.refl No _).drewN _)) (HS9'.out.no ((Fr.refl No _).drewN _)) rfl HLq'.out))
      | (go_at_call 18; exact Calls.quiet_of_same (still_calls (stage9_at _ _ _ lt mt.stage _ (HRV.out.no ((Fr.refl No _).drewN _)) rfl HLt'.out HPt.out.stage9))))
    go_wp2_with fail
    go_ret
    exact ⟨rfl, mt, _, lt, HM9.out.no ((Fr.refl No _).drewN _), HR9.out.no ((Fr.refl No _).drewN _), HPt.out, HSP.out, HLt.out, HFr.out, HF9.out.drewN _⟩

end Go.Proofs.Ythplenfbeknlhaa
