/- What the reference's machine does. No condition. -/
import Derived.Test.YthplenfbeknlhaaPanes
import Derived.Deep.RegionLaw
namespace Go.Proofs.Ythplenfbeknlhaa
open Go.RowKit

/-- The reference's machine: its block, and its panes. -/
def RM (w : World) (base h : Nat) (m : MS) (v : Value) (l : List Inf) : Prop :=
  Blk w h [.int .i64 m.s.e, .int .i64 m.s.l, .int .i64 m.s.la, .bool m.s.acc, v, .int .i64 m.fresh, .bool m.passed, .bool m.closed] 66 ∧ Own w base 30 v l
def rown (h : Nat) (v : Value) : Nat → Prop := fun k => k = h ∨ v.ownBlock = some k

theorem RM.no {w w' : World} {base h : Nat} {m : MS} {v : Value} {l : List Inf} (hr : RM w base h m v l) (hf : Fr No w w') : RM w' base h m v l := ⟨Blk.no hr.1 hf, hr.2.no hf⟩
theorem RM.fr {w w' : World} {S : Nat → Prop} {base h : Nat} {m : MS} {v : Value} {l : List Inf} (hr : RM w base h m v l) (hf : Fr S w w') (h1 : ¬ S h) (h2 : ∀ k, v.ownBlock = some k → ¬ S k) : RM w' base h m v l := ⟨Blk.fr hr.1 hf h1, hr.2.fr hf h2⟩
theorem RM.fresh0 {w : World} {base h : Nat} {m : MS} {v : Value} {l : List Inf} {f : Int} (hr : RM w base h m v l) : RM w base h { m with fresh := m.fresh } v l := hr

/-- What a call on the reference's machine leaves. -/
def RPost (w : World) (base h : Nat) (v : Value) (l : List Inf) (r : MS × List Inf × Int) (e : Ending) (w' : World) : Prop :=
  ∃ vp v', e = .returned (.tuple #[vp, .int .i64 r.2.2]) ∧ Own w' w.heap.size 30 vp r.2.1 ∧ RM w' base h r.1 v' (l ++ r.2.1) ∧ Fr (rown h v) w w'

set_option maxHeartbeats 2000000 in
theorem rfire_calls (base h : Nat) (m : MS) (v : Value) (l : List Inf) (t : Int) (b : Bool) (w : World) (hr : RM w base h m v l) (hb : base ≤ w.heap.size) (hl : (l.length + 1) * 24 ≤ 140737488355328) :
    Calls Try.prog 38 #[.pointer (some ⟨h, 0, none⟩), .int .i64 t, .bool b] w fun e w' => ∃ vp v', e = .returned vp ∧ Own w' w.heap.size 30 vp [⟨l.length, t, b⟩] ∧
      RM w' base h { m with fresh := 0 } v' (l ++ [⟨l.length, t, b⟩]) ∧ Fr (rown h v) w w' := by
  obtain ⟨hm, ho⟩ := hr
  obtain ⟨i0, hi, hz0, hz1, hz2⟩ := info_parts info30
  obtain ⟨c0, c1, c2, c3, c4, c5, c6, c7, hg⟩ := hm.eight
  obtain ⟨A, c, rfl, hcap, -⟩ := ho.slice
  have hne := Lib.hid (ho.ne hm (by decide))
  have F1 := Lib.hid ((((Fr.refl No w).alloc (.cells #[.int .i64 l.length, .int .i64 t, .bool b] 30)).alloc (.cells #[.int .i64 l.length, .int .i64 t, .bool b] 30)).drew)
  have HM := Lib.hid (hm.no F1.out)
  have hoo := Lib.hid ho
  have ho1 := Lib.hid (ho.no F1.out)
  have hP := Lib.hid (Blk.new w #[.int .i64 l.length, .int .i64 t, .bool b] 30)
  have hgt := hm.lt
  have hge := Lib.hid ho.ge
  have hnew := Lib.hid (inf_new (w.alloc (.cells #[.int .i64 l.length, .int .i64 t, .bool b] 30)) ⟨l.length, t, b⟩ 30)
  rw [World.size_alloc] at hnew
  clear hm hcap c0 c1 c2 c3 c5 c6 c7 ho
  go_enter Try.func38, Try.ntmps38
  go_wp2_with fail
  go_region_law (refine step_append_any rfl (.tmp 20) (.tmp 22) 26 rfl base 30 i0 (.agg #[.int .i64 0, .int .i64 0, .bool false]) 3 24 Try.underlying26 hi hz0 hz1 hz2 rfl (by decide) _ l.length _ rfl ho1.out (some ⟨w.heap.size + 1, 0, none⟩) 1 1 (Inf.cells ⟨l.length, t, b⟩) rfl (fun h => by cases h) rfl (fun ad e => by cases e; exact hnew.out) (inf_one _) (by unfold maxLen; omega) (by omega) (by show _ ≤ ((w.alloc _).alloc _).heap.size; simp; omega) ?_; intro v1 w1 hown1 hgrow1; have hm1 := Blk.grown HM.out hgrow1 (fun e => hne.out _ e.symm rfl); have c4' := hm1.cell 4; have f4' := hm1.frozen 4; have ho2 := Lib.hid (Own.push hown1); have hg1 := Lib.hid hgrow1; have hm2 := Lib.hid hm1; obtain ⟨A1, cp1, rfl, -, -⟩ := ho2.out.slice; clear hown1 hgrow1 hm1)
  all_goals
    have hp1 := Blk.grown (((hP.out.alloc (.cells #[.int .i64 l.length, .int .i64 t, .bool b] 30)).drew)) hg1.out (fun e => by have := hge.out _ e.symm; omega)
    obtain ⟨p0, p1, p2, hpl⟩ := hp1.three
    have hh1 := hm2.out.lt
    have f5 := hm2.out.frozen 5
    have c5 := hm2.out.cell 5
    simp only [List.getElem?_cons_succ, List.getElem?_cons_zero] at c5
    go_wp2_with fail
    go_ret
    have hs := hg1.out.size
    simp only [World.size_drew, World.size_alloc] at hs
    have F2 : Fr (rown h (.slice A l.length c)) w w1 := (F1.out.mono (fun _ _ e => e.elim)).grown hg1.out (fun k hk _ => .inr hk)
    have ho3 : Own w1 base 30 (.slice A1 (l.length + 1) cp1) (l ++ [⟨l.length, t, b⟩]) := by have := ho2.out; rw [List.length_append] at this; exact this
    refine ⟨_, .slice A1 (l.length + 1) cp1, rfl, Own.one_at _ _ _ ⟨l.length, t, b⟩ (by simp [World.setCell]) (by simp [World.setCell]; omega), ⟨?_, ?_⟩, ((F2.setAt (b := h) (.inl rfl) _).setAt (b := h) (.inl rfl) _).alloc _⟩
    · exact (Blk.put (Blk.put hm2.out 4 _ rfl) 5 _ rfl).alloc _
    · have F3 := ((((Fr.refl (fun k => k = h) w1).setAt (b := h) (i := 4) rfl (.slice A1 (l.length + 1) cp1)).setAt (b := h) (i := 5) rfl (.int .i64 0)).alloc (.cells #[.int .i64 l.length, .int .i64 t, .bool b] 30))
      exact ho3.fr F3 (fun k hk e => ho3.ne hm2.out (by decide) k hk e)

theorem MS.add_of {m : MS} {n : Int} (h : 1 ≤ n ∧ n ≤ 1000) (hc : m.closed = false) : m.add n = if m.lim = 0 ∨ m.fresh + n < m.lim then (m.plus n, [], 0) else (((m.plus n).fire m.tim false).1, ((m.plus n).fire m.tim false).2, 0) := by
  unfold MS.add
  rw [if_pos h, hc]
  rfl

set_option maxHeartbeats 2000000 in
theorem radd_calls (base h : Nat) (m : MS) (v : Value) (l : List Inf) (n : Int) (w : World) (hr : RM w base h m v l) (hb : base ≤ w.heap.size) (hl : (l.length + 1) * 24 ≤ 140737488355328)
    (hix : m.next = l.length) (hsp : 0 ≤ m.s.e ∧ 0 ≤ m.s.l) (hf0 : 0 ≤ m.fresh) (hf1 : m.fresh ≤ 1000000000000000000) :
    Calls Try.prog 33 #[.pointer (some ⟨h, 0, none⟩), .int .i64 n] w (RPost w base h v l (m.add n)) := by
  have HR := Lib.hid hr
  obtain ⟨c0, c1, c2, c3, c4, c5, c6, c7, hg⟩ := hr.1.eight
  have f5 := hr.1.frozen 5
  have HIX := Lib.hid hix
  clear hr hix
  unfold RPost
  by_cases hn : 1 ≤ n ∧ n ≤ 1000
  rotate_left
  · have he := Lib.hid (show m.add n = (m, [], 100) by unfold MS.add; rw [if_neg hn])
    have hc : decide (n < 1) = true ∨ (decide (n < 1) = false ∧ decide (n > 1000) = true) := by simp; omega
    clear hn
    rcases hc with h1 | ⟨h1, h2⟩
    all_goals
      go_enter Try.func33, Try.ntmps33
      go_wp2_with fail
      go_ret2
      rw [he.out]
      exact ⟨_, _, rfl, Own.nil _ _ _, by rw [List.append_nil]; exact HR.out, Fr.refl _ _⟩
  have hn1 : decide (n < 1) = false := by simp; omega
  have hn2 : decide (n > 1000) = false := by simp; omega
  cases hcl : m.closed
  rotate_left
  · have he := Lib.hid (show m.add n = (m, [], 200) by unfold MS.add; rw [if_pos hn, hcl]; rfl)
    rw [hcl] at c7
    clear hn hcl
    go_enter Try.func33, Try.ntmps33
    go_wp2_with fail
    go_ret2
    rw [he.out]
    exact ⟨_, _, rfl, Own.nil _ _ _, by rw [List.append_nil]; exact HR.out, Fr.refl _ _⟩
  have he := Lib.hid (MS.add_of hn hcl)
  have hn3 := hn.1
  have hn4 := hn.2
  rw [hcl] at c7
  clear hn hcl
  have HR1 := Lib.hid (show RM (w.setCell ⟨h, 5, none⟩ (.int .i64 (m.fresh + n))) base h (m.plus n) v l from ⟨Blk.put HR.out.1 5 _ rfl, HR.out.2.fr ((Fr.refl (fun k => k = h) w).setAt (b := h) rfl _) (fun k hk e => HR.out.2.ne HR.out.1 (by decide) k hk e)⟩)
  have HF1 := Lib.hid ((Fr.refl (rown h v) w).setAt (b := h) (i := 5) (.inl rfl) (.int .i64 (m.fresh + n)))
  by_cases hlim : m.lim = 0 ∨ m.fresh + n < m.lim
  · rw [if_pos hlim] at he
    have hp : (m.passed = false ∧ decide (m.s.e > 0) = false) ∨ (m.passed = false ∧ decide (m.s.e > 0) = true ∧ decide (m.fresh + n ≥ m.s.e) = false) ∨
        (m.passed = true ∧ decide (m.s.l > 0) = false) ∨ (m.passed = true ∧ decide (m.s.l > 0) = true ∧ decide (m.fresh + n ≥ m.s.l) = false) := by
      unfold MS.lim at hlim
      cases hpa : m.passed <;> simp [hpa] at hlim ⊢ <;> omega
    clear hlim hsp
    rcases hp with ⟨hpa, h1⟩ | ⟨hpa, h1, h2⟩ | ⟨hpa, h1⟩ | ⟨hpa, h1, h2⟩
    all_goals
      rw [hpa] at c6
      clear hpa
      go_enter Try.func33, Try.ntmps33
      go_wp2_with fail
      go_quiet (fail)
      go_wp2_with fail
      go_quiet (fail)
      go_wp2_with fail
      go_ret2
      rw [he.out]
      exact ⟨_, v, rfl, Own.nil _ _ _, by rw [List.append_nil]; exact (HR1.out.no ((Fr.refl No _).drewN _)).no ((Fr.refl No _).drewN _), (HF1.out.drewN _).drewN _⟩
  · rw [if_neg hlim] at he
    have hp : (m.passed = false ∧ m.tim = 0 ∧ decide (m.s.e > 0) = true ∧ decide (m.fresh + n ≥ m.s.e) = true) ∨ (m.passed = true ∧ m.tim = 2 ∧ decide (m.s.l > 0) = true ∧ decide (m.fresh + n ≥ m.s.l) = true) := by
      unfold MS.lim at hlim
      unfold MS.tim
      cases hpa : m.passed <;> simp [hpa] at hlim ⊢ <;> omega
    clear hlim hsp
    rcases hp with ⟨hpa, ht, h1, h2⟩ | ⟨hpa, ht, h1, h2⟩
    · rw [ht] at he
      rw [hpa] at c6
      clear hpa ht
      go_enter Try.func33, Try.ntmps33
      go_wp2_with fail
      go_quiet (fail)
      go_wp2_with fail
      refine (rfire_calls base h (m.plus n) v l 0 false _ (HR1.out.no ((Fr.refl No _).drewN _)) (by simpa using hb) hl).mono ?_
      rintro e w2 ⟨vp, v', rfl, ho, hrm, h2⟩
      go_wp2_with fail
      go_ret2
      rw [he.out]
      refine ⟨_, v', rfl, ?_, ?_, (HF1.out.drewN _).same h2⟩
      · show Own _ _ _ _ [⟨m.next, 0, false⟩]
        rw [HIX.out]
        exact ho.base (by simp)
      · show RM _ _ _ _ _ (l ++ [⟨m.next, 0, false⟩])
        rw [HIX.out]
        exact hrm
    · rw [ht] at he
      rw [hpa] at c6
      clear hpa ht
      go_enter Try.func33, Try.ntmps33
      go_wp2_with fail
      go_quiet (fail)
      go_wp2_with fail
      go_quiet (fail)
      go_wp2_with fail
      refine (rfire_calls base h (m.plus n) v l 2 false _ (HR1.out.no ((Fr.refl No _).drewN _)) (by simpa using hb) hl).mono ?_
      rintro e w2 ⟨vp, v', rfl, ho, hrm, h2⟩
      go_wp2_with fail
      go_ret2
      rw [he.out]
      refine ⟨_, v', rfl, ?_, ?_, (HF1.out.drewN _).same h2⟩
      · show Own _ _ _ _ [⟨m.next, 2, false⟩]
        rw [HIX.out]
        exact ho.base (by simp)
      · show RM _ _ _ _ _ (l ++ [⟨m.next, 2, false⟩])
        rw [HIX.out]
        exact hrm

set_option maxHeartbeats 2000000 in
theorem rpass_calls (base h : Nat) (m : MS) (v : Value) (l : List Inf) (w : World) (hr : RM w base h m v l) (hb : base ≤ w.heap.size) (hl : (l.length + 1) * 24 ≤ 140737488355328)
    (hix : m.next = l.length) (hcl : m.passed = false → m.closed = false) :
    Calls Try.prog 34 #[.pointer (some ⟨h, 0, none⟩)] w (RPost w base h v l m.pass) := by
  have HR := Lib.hid hr
  obtain ⟨c0, c1, c2, c3, c4, c5, c6, c7, hg⟩ := hr.1.eight
  have f6 := hr.1.frozen 6
  have f7 := hr.1.frozen 7
  have HIX := Lib.hid hix
  clear hr hix
  unfold RPost
  cases hpa : m.passed
  rotate_left
  · have he := Lib.hid (show m.pass = (m, [], 200) by unfold MS.pass; rw [hpa]; rfl)
    rw [hpa] at c6
    clear hpa hcl
    go_enter Try.func34, Try.ntmps34
    go_wp2_with fail
    go_ret2
    rw [he.out]
    exact ⟨_, _, rfl, Own.nil _ _ _, by rw [List.append_nil]; exact HR.out, Fr.refl _ _⟩
  have HCL := Lib.hid (hcl hpa)
  have HR1 := Lib.hid (show RM (w.setCell ⟨h, 6, none⟩ (.bool true)) base h { m with passed := true } v l from ⟨Blk.put HR.out.1 6 _ rfl, HR.out.2.fr ((Fr.refl (fun k => k = h) w).setAt (b := h) rfl _) (fun k hk e => HR.out.2.ne HR.out.1 (by decide) k hk e)⟩)
  have HF1 := Lib.hid ((Fr.refl (rown h v) w).setAt (b := h) (i := 6) (.inl rfl) (.bool true))
  have he := Lib.hid (show m.pass = (({ m with passed := true, closed := decide (m.s.la = 0) }.fire 1 (decide (m.s.la = 0))).1, [⟨m.next, 1, decide (m.s.la = 0)⟩], 0) by unfold MS.pass; rw [hpa]; rfl)
  rw [hpa] at c6
  clear hpa hcl
  by_cases hla : m.s.la = 0
  · have HLA := Lib.hid (show decide (m.s.la = 0) = true by simpa using hla)
    have HR2 := Lib.hid (show RM ((w.setCell ⟨h, 6, none⟩ (.bool true)).setCell ⟨h, 7, none⟩ (.bool true)) base h { m with passed := true, closed := true } v l from ⟨Blk.put HR1.out.1 7 _ rfl, HR1.out.2.fr ((Fr.refl (fun k => k = h) _).setAt (b := h) rfl _) (fun k hk e => HR1.out.2.ne HR1.out.1 (by decide) k hk e)⟩)
    rw [hla] at c2
    clear hla
    go_enter Try.func34, Try.ntmps34
    go_wp2_with fail
    refine (rfire_calls base h _ v l 1 true _ HR2.out (by simpa using hb) hl).mono ?_
    rintro e w2 ⟨vp, v', rfl, ho, hrm, h2⟩
    go_wp2_with fail
    go_ret2
    rw [he.out, HLA.out]
    refine ⟨_, v', rfl, ?_, ?_, (HF1.out.setAt (b := h) (.inl rfl) _).same h2⟩
    · show Own _ _ _ _ [⟨m.next, 1, true⟩]
      rw [HIX.out]
      exact ho.base (by simp)
    · show RM _ _ _ _ _ (l ++ [⟨m.next, 1, true⟩])
      rw [HIX.out]
      exact hrm
  · have HLA := Lib.hid (show decide (m.s.la = 0) = false by simpa using hla)
    have hla' : (m.s.la == 0) = false := by simpa using hla
    clear hla
    go_enter Try.func34, Try.ntmps34
    go_wp2_with fail
    refine (rfire_calls base h _ v l 1 false _ HR1.out (by simpa using hb) hl).mono ?_
    rintro e w2 ⟨vp, v', rfl, ho, hrm, h2⟩
    go_wp2_with fail
    go_ret2
    rw [he.out, HLA.out]
    refine ⟨_, v', rfl, ?_, ?_, HF1.out.same h2⟩
    · show Own _ _ _ _ [⟨m.next, 1, false⟩]
      rw [HIX.out]
      exact ho.base (by simp)
    · show RM _ _ _ _ _ (l ++ [⟨m.next, 1, false⟩])
      rw [HIX.out]
      have := hrm
      unfold RM at this ⊢
      rw [HCL.out] at this
      exact this

set_option maxHeartbeats 2000000 in
theorem rclose_calls (base h : Nat) (m : MS) (v : Value) (l : List Inf) (w : World) (hr : RM w base h m v l) (hb : base ≤ w.heap.size) (hl : (l.length + 1) * 24 ≤ 140737488355328)
    (hix : m.next = l.length) (hf0 : 0 ≤ m.fresh) :
    Calls Try.prog 35 #[.pointer (some ⟨h, 0, none⟩)] w (RPost w base h v l m.close) := by
  have HR := Lib.hid hr
  obtain ⟨c0, c1, c2, c3, c4, c5, c6, c7, hg⟩ := hr.1.eight
  have f7 := hr.1.frozen 7
  have HIX := Lib.hid hix
  clear hr hix
  unfold RPost
  cases hpa : m.passed
  · have he := Lib.hid (show m.close = (m, [], 100) by unfold MS.close; rw [hpa]; rfl)
    rw [hpa] at c6
    clear hpa
    go_enter Try.func35, Try.ntmps35
    go_wp2_with fail
    go_ret2
    rw [he.out]
    exact ⟨_, _, rfl, Own.nil _ _ _, by rw [List.append_nil]; exact HR.out, Fr.refl _ _⟩
  cases hcl : m.closed
  rotate_left
  · have he := Lib.hid (show m.close = (m, [], 200) by unfold MS.close; rw [hpa, hcl]; rfl)
    rw [hpa] at c6
    rw [hcl] at c7
    clear hpa hcl
    go_enter Try.func35, Try.ntmps35
    go_wp2_with fail
    go_ret2
    rw [he.out]
    exact ⟨_, _, rfl, Own.nil _ _ _, by rw [List.append_nil]; exact HR.out, Fr.refl _ _⟩
  have HR1 := Lib.hid (show RM (w.setCell ⟨h, 7, none⟩ (.bool true)) base h { m with closed := true } v l from ⟨Blk.put HR.out.1 7 _ rfl, HR.out.2.fr ((Fr.refl (fun k => k = h) w).setAt (b := h) rfl _) (fun k hk e => HR.out.2.ne HR.out.1 (by decide) k hk e)⟩)
  have HF1 := Lib.hid ((Fr.refl (rown h v) w).setAt (b := h) (i := 7) (.inl rfl) (.bool true))
  by_cases hf : m.fresh = 0
  · have he := Lib.hid (show m.close = ({ m with closed := true }, [], 0) by unfold MS.close; rw [hpa, hcl, if_pos hf]; rfl)
    have hf' : decide (m.fresh > 0) = false := by simp [hf]
    rw [hpa] at c6
    rw [hcl] at c7
    clear hpa hcl hf
    go_enter Try.func35, Try.ntmps35
    go_wp2_with fail
    go_ret2
    rw [he.out]
    exact ⟨_, v, rfl, Own.nil _ _ _, by rw [List.append_nil]; exact HR1.out, HF1.out⟩
  · have he := Lib.hid (show m.close = (({ m with closed := true }.fire 2 true).1, [⟨m.next, 2, true⟩], 0) by unfold MS.close; rw [hpa, hcl, if_neg hf]; rfl)
    have hf' : decide (m.fresh > 0) = true := by simp; omega
    rw [hpa] at c6
    rw [hcl] at c7
    clear hpa hcl hf
    go_enter Try.func35, Try.ntmps35
    go_wp2_with fail
    refine (rfire_calls base h _ v l 2 true _ HR1.out (by simpa using hb) hl).mono ?_
    rintro e w2 ⟨vp, v', rfl, ho, hrm, h2⟩
    go_wp2_with fail
    go_ret2
    rw [he.out]
    refine ⟨_, v', rfl, ?_, ?_, HF1.out.same h2⟩
    · show Own _ _ _ _ [⟨m.next, 2, true⟩]
      rw [HIX.out]
      exact ho.base (by simp)
    · show RM _ _ _ _ _ (l ++ [⟨m.next, 2, true⟩])
      rw [HIX.out]
      exact hrm

theorem rjoin_no (base h h' : Nat) (m m' : MS) (v v' : Value) (l l' : List Inf) (w : World) (hr : RM w base h m v l) (hr' : RM w base h' m' v' l')
    (hy : (m.passed || m'.passed || decide (l.length > 0) || decide (l'.length > 0)) = true) :
    Calls Try.prog 36 #[.pointer (some ⟨h, 0, none⟩), .pointer (some ⟨h', 0, none⟩)] w fun e w' => e = .returned (.int .i64 100) ∧ w = w' := by
  obtain ⟨A, c, rfl, -, -⟩ := hr.2.slice
  obtain ⟨A', c', rfl, -, -⟩ := hr'.2.slice
  obtain ⟨c0, c1, c2, c3, c4, c5, c6, c7, hg⟩ := hr.1.eight
  obtain ⟨d0, d1, d2, d3, d4, d5, d6, d7, hg'⟩ := hr'.1.eight
  clear hr hr'
  generalize l.length = n1 at c4 hy
  generalize l'.length = n2 at d4 hy
  have hc : (m.passed = true) ∨ (m.passed = false ∧ m'.passed = true) ∨ (m.passed = false ∧ m'.passed = false ∧ 0 < n1) ∨ (m.passed = false ∧ m'.passed = false ∧ n1 = 0 ∧ 0 < n2) := by
    cases h1 : m.passed
    · cases h2 : m'.passed
      · rw [h1, h2] at hy
        rcases Nat.eq_zero_or_pos n1 with h3 | h3
        · refine .inr (.inr (.inr ⟨rfl, rfl, h3, ?_⟩))
          rw [h3] at hy
          simpa using hy
        · exact .inr (.inr (.inl ⟨rfl, rfl, h3⟩))
      · exact .inr (.inl ⟨rfl, rfl⟩)
    · exact .inl rfl
  clear hy
  rcases hc with h1 | ⟨h1, h2⟩ | ⟨h1, h2, h3⟩ | ⟨h1, h2, rfl, h4⟩
  all_goals
    rw [h1] at c6
    try rw [h2] at d6
    clear h1
    try clear h2
    go_enter Try.func36, Try.ntmps36
    go_wp2_with fail
    go_ret
    exact ⟨rfl, rfl⟩

set_option maxHeartbeats 2000000 in
theorem rjoin_yes (base h h' : Nat) (m m' : MS) (v v' : Value) (l l' : List Inf) (w : World) (hr : RM w base h m v l) (hr' : RM w base h' m' v' l') (hh : h ≠ h')
    (hy : (m.passed || m'.passed || decide (l.length > 0) || decide (l'.length > 0)) = false) (hf : 0 ≤ m.fresh ∧ m.fresh ≤ 1000000000000000000) (hf' : 0 ≤ m'.fresh ∧ m'.fresh ≤ 1000000000000000000) :
    Calls Try.prog 36 #[.pointer (some ⟨h, 0, none⟩), .pointer (some ⟨h', 0, none⟩)] w fun e w' => e = .returned (.int .i64 0) ∧ RM w' base h (m.plus m'.fresh) v l ∧ Fr (rown h v) w w' := by
  obtain ⟨A, c, rfl, -, -⟩ := hr.2.slice
  obtain ⟨A', c', rfl, -, -⟩ := hr'.2.slice
  have HR := Lib.hid hr
  have HR' := Lib.hid hr'
  obtain ⟨c0, c1, c2, c3, c4, c5, c6, c7, hg⟩ := hr.1.eight
  obtain ⟨d0, d1, d2, d3, d4, d5, d6, d7, hg'⟩ := hr'.1.eight
  simp only [Bool.or_eq_false_iff] at hy
  obtain ⟨⟨⟨h1, h2⟩, h3⟩, h4⟩ := hy
  obtain rfl : l = [] := by simpa using h3
  obtain rfl : l' = [] := by simpa using h4
  rw [h1] at c6
  rw [h2] at d6
  obtain ⟨hf1, hf2⟩ := hf
  obtain ⟨hf3, hf4⟩ := hf'
  clear h1 h2 h3 h4 hr hr'
  go_enter Try.func36, Try.ntmps36
  go_wp2_with fail
  refine wp_region_tail 11 (by kernel_rfl) (by kernel_rfl) ?_
  intro w1 hw1
  have hF := Lib.hid ((Fr.refl (rown h (.slice A 0 c)) w).drew)
  have hm := Lib.hid (HR.out.no ((Fr.refl No w).drew))
  have hm' := Lib.hid (HR'.out.no ((Fr.refl No w).drew))
  rw [hw1] at hF hm hm'
  clear hw1 HR HR' c0 c1 c2 c3 c4 c5 c6 c7 d0 d1 d2 d3 d4 d5 d6 d7 hg hg'
  obtain ⟨c0, c1, c2, c3, c4, c5, c6, c7, hg⟩ := hm.out.1.eight
  obtain ⟨d0, d1, d2, d3, d4, d5, d6, d7, hg'⟩ := hm'.out.1.eight
  have f5 := hm.out.1.frozen 5
  simp only [List.take_succ_cons, List.take_zero, List.drop_succ_cons, List.drop_zero]
  repeat still_step
  refine wpStill_nil ?_
  go_wp2
  go_ret
  exact ⟨rfl, ⟨Blk.put hm.out.1 5 _ rfl, hm.out.2.fr ((Fr.refl (fun k => k = h) _).setAt (b := h) rfl _) (fun k hk e => hm.out.2.ne hm.out.1 (by decide) k hk e)⟩, hF.out.setAt (.inl rfl) _⟩
end Go.Proofs.Ythplenfbeknlhaa
