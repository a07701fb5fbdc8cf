/- Machines as plain data, and what trigger's functions do. No condition. -/
import Derived.Test.YthplenfbeknlhaaCheck9
import Derived.Deep.RegionWith
import Derived.Deep.QuietTactic
import Derived.BigQuiet
namespace Go.Proofs.Ythplenfbeknlhaa
open Go.RowKit

structure Sp where
  e : Int
  l : Int
  la : Int
  acc : Bool

/-- Is a spec right? -/
def Sp.ok (s : Sp) : Bool := decide (0 ≤ s.e ∧ s.e ≤ 1000 ∧ 0 ≤ s.l ∧ s.l ≤ 1000 ∧ 0 ≤ s.la ∧ s.la ≤ 1048576 ∧ (s.la = 0 → s.l ≤ 0))
def Sp.v (s : Sp) : Value := .agg #[.int .i64 s.e, .int .i64 s.l, .int .i64 s.la, .bool s.acc]

/-- A machine. -/
structure MS where
  s : Sp
  next : Nat
  stage : Int
  fresh : Int
  passed : Bool
  closed : Bool

def Mac (w : World) (g b : Nat) (m : MS) : Prop :=
  Blk w g [.int .i64 m.s.e, .int .i64 m.s.l, .int .i64 m.s.la, .bool m.s.acc, .pointer (some ⟨b, 0, none⟩), .int .i64 m.fresh, .bool m.passed, .bool m.closed] 74 ∧ Line w b m.next m.stage

def MS.fire (m : MS) (t : Int) (l : Bool) : MS × List Inf := ({ m with next := m.next + 1, stage := stageOf t l, fresh := 0 }, [⟨m.next, t, l⟩])
def MS.lim (m : MS) : Int := if m.passed then m.s.l else m.s.e
def MS.tim (m : MS) : Int := if m.passed then 2 else 0
def MS.plus (m : MS) (n : Int) : MS := { m with fresh := m.fresh + n }
def MS.add (m : MS) (n : Int) : MS × List Inf × Int :=
  if 1 ≤ n ∧ n ≤ 1000 then
    if m.closed then (m, [], 200)
    else if m.lim = 0 ∨ m.fresh + n < m.lim then (m.plus n, [], 0)
    else (((m.plus n).fire m.tim false).1, ((m.plus n).fire m.tim false).2, 0)
  else (m, [], 100)
def MS.pass (m : MS) : MS × List Inf × Int :=
  if m.passed then (m, [], 200)
  else (({ m with passed := true, closed := decide (m.s.la = 0) }.fire 1 (decide (m.s.la = 0))).1, [⟨m.next, 1, decide (m.s.la = 0)⟩], 0)
def MS.close (m : MS) : MS × List Inf × Int :=
  if m.passed then
    if m.closed then (m, [], 200)
    else if m.fresh = 0 then ({ m with closed := true }, [], 0)
    else (({ m with closed := true }.fire 2 true).1, [⟨m.next, 2, true⟩], 0)
  else (m, [], 100)

/-- What is so of every machine. -/
structure MS.Inv (m : MS) : Prop where
  rng : 0 ≤ m.stage ∧ m.stage ≤ 3
  young : m.passed = false → m.stage = 0 ∧ m.closed = false
  old : m.passed = true → m.stage ≠ 0
  over : m.closed = false → m.stage ≠ 3
  pos : 0 ≤ m.fresh

theorem between_at (n lo hi : Int) (b : Bool) (h : decide (lo ≤ n ∧ n ≤ hi) = b) (w : World) : Calls Try.prog 30 #[.int .i64 n, .int .i64 lo, .int .i64 hi] w fun e w' => e = .returned (.bool b) ∧ w = w' := by
  cases b
  · have h' : (decide (lo ≤ n) = false) ∨ (decide (lo ≤ n) = true ∧ decide (n ≤ hi) = false) := by simp at h ⊢; omega
    clear h
    rcases h' with h1 | ⟨h1, h2⟩
    all_goals
      go_enter Try.func30, Try.ntmps30
      go_wp2
      go_ret
      exact ⟨rfl, rfl⟩
  · have h' : decide (lo ≤ n) = true ∧ decide (n ≤ hi) = true := by simpa using h
    obtain ⟨h1, h2⟩ := h'
    clear h
    go_enter Try.func30, Try.ntmps30
    go_wp2
    go_ret
    exact ⟨rfl, rfl⟩

theorem Blk.eight {w : World} {g : Nat} {t : TypeId} {a0 a1 a2 a3 a4 a5 a6 a7 : Value} (h : Blk w g [a0, a1, a2, a3, a4, a5, a6, a7] t) :
    w.cell? ⟨g, 0, none⟩ = some a0 ∧ w.cell? ⟨g, 1, none⟩ = some a1 ∧ w.cell? ⟨g, 2, none⟩ = some a2 ∧ w.cell? ⟨g, 3, none⟩ = some a3 ∧ w.cell? ⟨g, 4, none⟩ = some a4 ∧ w.cell? ⟨g, 5, none⟩ = some a5 ∧
      w.cell? ⟨g, 6, none⟩ = some a6 ∧ w.cell? ⟨g, 7, none⟩ = some a7 ∧ g < w.heap.size :=
  ⟨h.cell 0, h.cell 1, h.cell 2, h.cell 3, h.cell 4, h.cell 5, h.cell 6, h.cell 7, h.lt⟩

set_option maxHeartbeats 1000000 in
theorem spec_calls (s : Sp) (w : World) (r : Int) (hr : (if s.ok then 0 else 100) = r) :
    Calls Try.prog 28 #[s.v] w fun e w' => e = .returned (.int .i64 r) ∧ Fr No w w' := by
  obtain ⟨e, l, la, acc⟩ := s
  unfold Sp.v
  simp only
  have HR := Lib.hid hr
  clear hr
  cases h1 : decide (0 ≤ e ∧ e ≤ 1000)
  · have hr : r = 100 := by rw [← HR.out, if_neg]; simp [Sp.ok] at h1 ⊢; omega
    subst hr
    have H1 := Lib.hid h1
    clear h1
    go_enter Try.func28, Try.ntmps28
    go_wp2_with fail
    refine (between_at _ _ _ _ H1.out _).mono ?_
    rintro e w' ⟨rfl, rfl⟩
    go_wp2_with fail
    go_ret
    exact ⟨rfl, (Fr.refl _ _).alloc _⟩
  · cases h2 : decide (0 ≤ l ∧ l ≤ 1000)
    · have hr : r = 100 := by rw [← HR.out, if_neg]; simp [Sp.ok] at h1 h2 ⊢; omega
      subst hr
      have H1 := Lib.hid h1
      have H2 := Lib.hid h2
      clear h1 h2
      go_enter Try.func28, Try.ntmps28
      go_wp2_with fail
      refine (between_at _ _ _ _ H1.out _).mono ?_
      rintro e w' ⟨rfl, rfl⟩
      go_wp2_with fail
      refine (between_at _ _ _ _ H2.out _).mono ?_
      rintro e w' ⟨rfl, rfl⟩
      go_wp2_with fail
      go_ret
      exact ⟨rfl, (Fr.refl _ _).alloc _⟩
    · cases h3 : decide (0 ≤ la ∧ la ≤ 1048576)
      · have hr : r = 100 := by rw [← HR.out, if_neg]; simp [Sp.ok] at h1 h2 h3 ⊢; omega
        subst hr
        have H1 := Lib.hid h1
        have H2 := Lib.hid h2
        have H3 := Lib.hid h3
        clear h1 h2 h3
        go_enter Try.func28, Try.ntmps28
        go_wp2_with fail
        refine (between_at _ _ _ _ H1.out _).mono ?_
        rintro e w' ⟨rfl, rfl⟩
        go_wp2_with fail
        refine (between_at _ _ _ _ H2.out _).mono ?_
        rintro e w' ⟨rfl, rfl⟩
        go_wp2_with fail
        refine (between_at _ _ _ _ H3.out _).mono ?_
        rintro e w' ⟨rfl, rfl⟩
        go_wp2_with fail
        go_ret
        exact ⟨rfl, (Fr.refl _ _).alloc _⟩
      · have H1 := Lib.hid h1
        have H2 := Lib.hid h2
        have H3 := Lib.hid h3
        have hc : ((la == 0) = false ∧ r = 0) ∨ (la = 0 ∧ ¬ 0 < l ∧ r = 0) ∨ (la = 0 ∧ 0 < l ∧ r = 100) := by
          have := HR.out
          simp [Sp.ok] at h1 h2 h3 this ⊢
          split at this <;> omega
        clear h1 h2 h3
        rcases hc with ⟨h4, rfl⟩ | ⟨rfl, h4, rfl⟩ | ⟨rfl, h4, rfl⟩
        all_goals
          go_enter Try.func28, Try.ntmps28
          go_wp2_with fail
          refine (between_at _ _ _ _ H1.out _).mono ?_
          rintro e w' ⟨rfl, rfl⟩
          go_wp2_with fail
          refine (between_at _ _ _ _ H2.out _).mono ?_
          rintro e w' ⟨rfl, rfl⟩
          go_wp2_with fail
          refine (between_at _ _ _ _ H3.out _).mono ?_
          rintro e w' ⟨rfl, rfl⟩
          go_wp2_with fail
          go_ret
          exact ⟨rfl, (Fr.refl _ _).alloc _⟩

/-- A machine as New makes it. -/
def MS.new (s : Sp) : MS := ⟨s, 0, 0, 0, false, false⟩
theorem MS.new_inv (s : Sp) : (MS.new s).Inv := ⟨by simp [MS.new], by simp [MS.new], by simp [MS.new], by simp [MS.new], by simp [MS.new]⟩

set_option maxHeartbeats 1000000 in
theorem new21_no (s : Sp) (w : World) (h : s.ok = false) : Calls Try.prog 21 #[s.v] w fun e w' => e = .returned (.tuple #[.pointer none, .int .i64 100]) ∧ Fr No w w' := by
  have H := Lib.hid (show (if s.ok then (0 : Int) else 100) = 100 by rw [h]; rfl)
  clear h
  obtain ⟨e, l, la, acc⟩ := s
  unfold Sp.v
  simp only
  go_enter Try.func21, Try.ntmps21
  go_wp2_with fail
  refine (spec_calls ⟨e, l, la, acc⟩ _ _ H.out).mono ?_
  rintro e w1 ⟨rfl, h1⟩
  go_wp2_with fail
  go_ret2
  exact ⟨rfl, ((Fr.refl _ _).alloc _).no h1⟩

set_option maxHeartbeats 1000000 in
theorem new21_yes (s : Sp) (w : World) (h : s.ok = true) : Calls Try.prog 21 #[s.v] w fun e w' => ∃ g b, e = .returned (.tuple #[.pointer (some ⟨g, 0, none⟩), .int .i64 0]) ∧ w.heap.size ≤ g ∧ w.heap.size ≤ b ∧ Mac w' g b (MS.new s) ∧ Fr No w w' := by
  have H := Lib.hid (show (if s.ok then (0 : Int) else 100) = 0 by rw [h]; rfl)
  clear h
  obtain ⟨e, l, la, acc⟩ := s
  unfold Sp.v
  simp only
  go_enter Try.func21, Try.ntmps21
  go_wp2_with fail
  refine (spec_calls ⟨e, l, la, acc⟩ _ _ H.out).mono ?_
  rintro e w1 ⟨rfl, h1⟩
  obtain ⟨x0, x1, x2, x3, xl⟩ := ((Blk.new w _ _).no h1).four
  go_wp2_with fail
  go_region_with ((go_at_call 12; refine (new_calls _).mono ?_; rintro e w' ⟨rfl, rfl⟩))
  all_goals
    go_wp2
    go_ret2
    have hs := h1.size
    simp only [World.size_alloc] at hs
    exact ⟨w1.heap.size + 1, w1.heap.size, rfl, by omega, by omega, ⟨(Blk.new_at (w1.alloc (.cells #[.int .i64 0, .int .i64 0] 72)) _ _ (by simp)).drew, ((Blk.new w1 _ _).alloc _).drew⟩, (((((Fr.refl _ _).alloc _).no h1).alloc _).alloc _).drew⟩

theorem Own.base {w : World} {base base' : Nat} {e : TypeId} {v : Value} {l : List Inf} (h : Own w base e v l) (hb : base' ≤ base) : Own w base' e v l := by
  refine ⟨h.1, ?_⟩
  rcases h.2 with h2 | ⟨g, cap, cur, hv, hg, r⟩
  · exact .inl h2
  · exact .inr ⟨g, cap, cur, hv, Nat.le_trans hb hg, r⟩

theorem Own.one_at (w : World) (base : Nat) (e : TypeId) (p : Inf) {g : Nat} (hg : g = w.heap.size) (hb : base ≤ w.heap.size) :
    Own (w.alloc (.cells #[.int .i64 p.i, .int .i64 p.t, .bool p.l] e)) base e (.slice (some ⟨g, 0, none⟩) 1 1) [p] := by
  subst hg
  refine ⟨rfl, .inr ⟨_, 1, _, rfl, hb, heap_alloc_new w _, Nat.le_refl _, by unfold maxLen; omega, rfl, rfl⟩⟩

def two (g b : Nat) : Nat → Prop := fun k => k = g ∨ k = b

/-- What a call on a machine tells: panes, an error's number. -/
def Told (w : World) (B : Nat) (e : TypeId) (l : List Inf) (er : Int) (v : Value) : Prop := ∃ p, v = .tuple #[p, .int .i64 er] ∧ Own w B e p l

set_option maxHeartbeats 1000000 in
theorem mfire_calls (g b : Nat) (m : MS) (t : Int) (l : Bool) (w : World) (h : Mac w g b m) (hc : canFire m.stage t = true) (hn : m.next < 100000000000000) :
    Calls Try.prog 31 #[.pointer (some ⟨g, 0, none⟩), .int .i64 t, .bool l] w fun e w' => ∃ v, e = .returned v ∧ Told w' w.heap.size 31 (m.fire t l).2 0 v ∧ Mac w' g b (m.fire t l).1 ∧ Fr (two g b) w w' := by
  obtain ⟨hm, hl⟩ := h
  have hne := Blk.ne hm hl (by decide)
  obtain ⟨c0, c1, c2, c3, c4, c5, c6, c7, hg⟩ := hm.eight
  have hbl := Blk.lt hl
  clear c0 c1 c2 c3 c5 c6 c7
  go_enter Try.func31, Try.ntmps31
  go_wp2_with fail
  refine (fire_yes _ _ _ t l _ hl hc (by omega) (by omega)).mono ?_
  rintro e w1 ⟨rfl, h1, hl1⟩
  unfold firedV
  have hm1 := hm.fr h1 hne
  obtain ⟨c0, c1, c2, c3, c4, c5, c6, c7, hg1⟩ := hm1.eight
  have f5 := hm1.frozen 5
  clear c0 c1 c2 c3 c6 c7
  go_wp2_with fail
  go_ret2
  have hs := h1.size
  refine ⟨_, rfl, ⟨_, rfl, ?_⟩, ⟨?_, ?_⟩, ?_⟩
  · exact Own.one_at _ _ _ ⟨m.next, t, l⟩ (by simp) (by simp; omega)
  · exact ((Blk.put hm1 5 _ rfl).alloc _).alloc _
  · exact ((Blk.far hl1 (by exact fun e => hne e.symm) _).alloc _).alloc _
  · exact (((h1.mono (fun k _ e => .inr e)).setAt (.inl rfl) _).alloc _).alloc _

theorem Mac.no {w w' : World} {g b : Nat} {m : MS} (h : Mac w g b m) (hf : Fr No w w') : Mac w' g b m := ⟨Blk.no h.1 hf, Blk.no h.2 hf⟩
theorem Mac.fr {w w' : World} {S : Nat → Prop} {g b : Nat} {m : MS} (h : Mac w g b m) (hf : Fr S w w') (h1 : ¬ S g) (h2 : ¬ S b) : Mac w' g b m := ⟨Blk.fr h.1 hf h1, Blk.fr h.2 hf h2⟩

set_option maxHeartbeats 2000000 in
theorem add_calls (g b : Nat) (m : MS) (n : Int) (w : World) (h : Mac w g b m) (hi : m.Inv) (hn : m.next < 100000000000000) (hfr : m.fresh ≤ 1000000000000000000) :
    Calls Try.prog 22 #[.pointer (some ⟨g, 0, none⟩), .int .i64 n] w fun e w' => ∃ v, e = .returned v ∧ Told w' w.heap.size 31 (m.add n).2.1 (m.add n).2.2 v ∧ Mac w' g b (m.add n).1 ∧ Fr (two g b) w w' := by
  have hp := hi.pos
  have hyoung := Lib.hid hi.young
  have hold := Lib.hid hi.old
  have hover := Lib.hid hi.over
  have hrng := hi.rng
  clear hi
  cases hb : decide ((1 : Int) ≤ n ∧ n ≤ 1000)
  · have he := Lib.hid (show m.add n = (m, [], 100) by unfold MS.add; rw [if_neg (by simpa using hb)])
    have HB := Lib.hid hb
    clear hb
    go_enter Try.func22, Try.ntmps22
    go_wp2_with fail
    refine (between_at _ _ _ _ HB.out _).mono ?_
    rintro e w' ⟨rfl, rfl⟩
    go_wp2_with fail
    go_ret2
    rw [he.out]
    exact ⟨_, rfl, ⟨_, rfl, Own.nil _ _ _⟩, h, Fr.refl _ _⟩
  have hb' : 1 ≤ n ∧ n ≤ 1000 := by simpa using hb
  have HB := Lib.hid hb
  have HB' := Lib.hid hb'
  obtain ⟨hm, hl⟩ := h
  have hne := Blk.ne hm hl (by decide)
  obtain ⟨c0, c1, c2, c3, c4, c5, c6, c7, hg⟩ := hm.eight
  have f5 := hm.frozen 5
  obtain ⟨hb1, hb2⟩ := hb'
  clear hb
  cases hcl : m.closed
  rotate_left
  · have he := Lib.hid (show m.add n = (m, [], 200) by unfold MS.add; rw [if_pos HB'.out, hcl]; simp)
    rw [hcl] at c7
    have HCL := Lib.hid hcl
    clear hcl hb1 hb2 hp hfr hn hrng
    go_enter Try.func22, Try.ntmps22
    go_wp2_with fail
    refine (between_at _ _ _ _ HB.out _).mono ?_
    rintro e w' ⟨rfl, rfl⟩
    go_wp2_with fail
    go_ret2
    rw [he.out]
    exact ⟨_, rfl, ⟨_, rfl, Own.nil _ _ _⟩, ⟨hm, hl⟩, Fr.refl _ _⟩
  rw [hcl] at c7
  have HCL := Lib.hid hcl
  have hst3 := hover.out hcl
  clear hcl
  have hm' : Mac (w.setCell ⟨g, 5, none⟩ (.int .i64 (m.fresh + n))) g b (m.plus n) := ⟨Blk.put hm 5 _ rfl, Blk.far hl (by exact fun e => hne e.symm) _⟩
  by_cases hlim : m.lim = 0 ∨ m.fresh + n < m.lim
  · have he := Lib.hid (show m.add n = (m.plus n, [], 0) by unfold MS.add; rw [if_pos HB'.out, HCL.out]; simp [hlim])
    have hlim' : (m.lim == 0) = true ∨ ((m.lim == 0) = false ∧ decide (m.fresh + n < m.lim) = true) := by simp; omega
    have HM' := Lib.hid hm'
    clear hlim hm' hrng hst3
    cases hpa : m.passed
    · rw [hpa] at c6
      rw [show m.lim = m.s.e by unfold MS.lim; rw [hpa]; rfl] at hlim'
      clear hpa
      rcases hlim' with h0 | ⟨h0, h1⟩
      all_goals
        go_enter Try.func22, Try.ntmps22
        go_wp2_with fail
        refine (between_at _ _ _ _ HB.out _).mono ?_
        rintro e w' ⟨rfl, rfl⟩
        go_wp2_with fail
        go_ret2
        rw [he.out]
        exact ⟨_, rfl, ⟨_, rfl, Own.nil _ _ _⟩, HM'.out, (Fr.refl _ _).setAt (.inl rfl) _⟩
    · rw [hpa] at c6
      rw [show m.lim = m.s.l by unfold MS.lim; rw [hpa]; rfl] at hlim'
      clear hpa
      rcases hlim' with h0 | ⟨h0, h1⟩
      all_goals
        go_enter Try.func22, Try.ntmps22
        go_wp2_with fail
        refine (between_at _ _ _ _ HB.out _).mono ?_
        rintro e w' ⟨rfl, rfl⟩
        go_wp2_with fail
        go_ret2
        rw [he.out]
        exact ⟨_, rfl, ⟨_, rfl, Own.nil _ _ _⟩, HM'.out, (Fr.refl _ _).setAt (.inl rfl) _⟩
  · have he := Lib.hid (show m.add n = (((m.plus n).fire m.tim false).1, ((m.plus n).fire m.tim false).2, 0) by unfold MS.add; rw [if_pos HB'.out, HCL.out]; simp [hlim])
    have hlim' : (m.lim == 0) = false ∧ decide (m.fresh + n < m.lim) = false := by simp; omega
    have hcan : canFire (m.plus n).stage m.tim = true := by
      show canFire m.stage m.tim = true
      unfold MS.tim
      cases hpa : m.passed
      · simp [canFire, (hyoung.out hpa).1]
      · simp [canFire, hst3]
    have HM' := Lib.hid hm'
    have HC := Lib.hid hcan
    clear hlim hm' hrng hst3 hcan
    obtain ⟨h0, h1⟩ := hlim'
    cases hpa : m.passed
    · rw [hpa] at c6
      rw [show m.lim = m.s.e by unfold MS.lim; rw [hpa]; rfl] at h0 h1
      have HT := Lib.hid (show m.tim = 0 by unfold MS.tim; rw [hpa]; rfl)
      clear hpa
      go_enter Try.func22, Try.ntmps22
      go_wp2_with fail
      refine (between_at _ _ _ _ HB.out _).mono ?_
      rintro e w' ⟨rfl, rfl⟩
      go_wp2_with fail
      have hc := HC.out
      rw [HT.out] at hc
      refine (mfire_calls g b (m.plus n) 0 false _ HM'.out hc hn).mono ?_
      rintro e w1 ⟨v, rfl, ⟨p, rfl, ho⟩, hm1, h1⟩
      clear hc
      go_wp2_with fail
      go_ret2
      rw [he.out, HT.out]
      exact ⟨_, rfl, ⟨_, rfl, ho.base (by simp [World.setCell])⟩, hm1, ((Fr.refl _ _).setAt (.inl rfl) _).same h1⟩
    · rw [hpa] at c6
      rw [show m.lim = m.s.l by unfold MS.lim; rw [hpa]; rfl] at h0 h1
      have HT := Lib.hid (show m.tim = 2 by unfold MS.tim; rw [hpa]; rfl)
      clear hpa
      go_enter Try.func22, Try.ntmps22
      go_wp2_with fail
      refine (between_at _ _ _ _ HB.out _).mono ?_
      rintro e w' ⟨rfl, rfl⟩
      go_wp2_with fail
      have hc := HC.out
      rw [HT.out] at hc
      refine (mfire_calls g b (m.plus n) 2 false _ HM'.out hc hn).mono ?_
      rintro e w1 ⟨v, rfl, ⟨p, rfl, ho⟩, hm1, h1⟩
      clear hc
      go_wp2_with fail
      go_ret2
      rw [he.out, HT.out]
      exact ⟨_, rfl, ⟨_, rfl, ho.base (by simp [World.setCell])⟩, hm1, ((Fr.refl _ _).setAt (.inl rfl) _).same h1⟩

set_option maxHeartbeats 2000000 in
theorem pass_calls (g b : Nat) (m : MS) (w : World) (h : Mac w g b m) (hi : m.Inv) (hn : m.next < 100000000000000) :
    Calls Try.prog 23 #[.pointer (some ⟨g, 0, none⟩)] w fun e w' => ∃ v, e = .returned v ∧ Told w' w.heap.size 31 m.pass.2.1 m.pass.2.2 v ∧ Mac w' g b m.pass.1 ∧ Fr (two g b) w w' := by
  have hyoung := Lib.hid hi.young
  clear hi
  obtain ⟨hm, hl⟩ := h
  have hne := Blk.ne hm hl (by decide)
  obtain ⟨c0, c1, c2, c3, c4, c5, c6, c7, hg⟩ := hm.eight
  have f6 := hm.frozen 6
  have f7 := hm.frozen 7
  cases hpa : m.passed
  rotate_left
  · have he := Lib.hid (show m.pass = (m, [], 200) by unfold MS.pass; rw [hpa]; simp)
    rw [hpa] at c6
    clear hpa
    go_enter Try.func23, Try.ntmps23
    go_wp2_with fail
    go_ret2
    rw [he.out]
    exact ⟨_, rfl, ⟨_, rfl, Own.nil _ _ _⟩, ⟨hm, hl⟩, Fr.refl _ _⟩
  have hst := (hyoung.out hpa).1
  have he := Lib.hid (show m.pass = (({ m with passed := true, closed := decide (m.s.la = 0) }.fire 1 (decide (m.s.la = 0))).1, [⟨m.next, 1, decide (m.s.la = 0)⟩], 0) by unfold MS.pass; rw [hpa]; simp)
  rw [hpa] at c6
  obtain ⟨cb, hcb⟩ : ∃ cb, decide (m.s.la = 0) = cb := ⟨_, rfl⟩
  have hm' : Mac ((w.setCell ⟨g, 6, none⟩ (.bool true)).setCell ⟨g, 7, none⟩ (.bool cb)) g b { m with passed := true, closed := decide (m.s.la = 0) } :=
    ⟨by rw [hcb]; exact Blk.put (Blk.put hm 6 _ rfl) 7 _ rfl, Blk.far (Blk.far hl (by exact fun e => hne e.symm) _) (by exact fun e => hne e.symm) _⟩
  have HM' := Lib.hid hm'
  have HC := Lib.hid (show canFire m.stage 1 = true by rw [hst]; rfl)
  rw [hcb] at he HM'
  have hcb' : (m.s.la == 0) = cb := by rw [← hcb]; exact (Bool.beq_eq_decide_eq _ _)
  clear hpa hst hm' hcb
  go_enter Try.func23, Try.ntmps23
  go_wp2_with fail
  refine (mfire_calls g b _ 1 cb _ HM'.out HC.out hn).mono ?_
  rintro e w1 ⟨v, rfl, ⟨p, rfl, ho⟩, hm1, h1⟩
  go_wp2_with fail
  go_ret2
  rw [he.out]
  exact ⟨_, rfl, ⟨_, rfl, ho.base (by simp [World.setCell])⟩, hm1, (((Fr.refl _ _).setAt (.inl rfl) _).setAt (.inl rfl) _).same h1⟩

set_option maxHeartbeats 2000000 in
theorem close_calls (g b : Nat) (m : MS) (w : World) (h : Mac w g b m) (hi : m.Inv) (hn : m.next < 100000000000000) :
    Calls Try.prog 26 #[.pointer (some ⟨g, 0, none⟩)] w fun e w' => ∃ v, e = .returned v ∧ Told w' w.heap.size 31 m.close.2.1 m.close.2.2 v ∧ Mac w' g b m.close.1 ∧ Fr (two g b) w w' := by
  have hover := Lib.hid hi.over
  have hrng := Lib.hid hi.rng
  clear hi
  obtain ⟨hm, hl⟩ := h
  have hne := Blk.ne hm hl (by decide)
  obtain ⟨c0, c1, c2, c3, c4, c5, c6, c7, hg⟩ := hm.eight
  have f7 := hm.frozen 7
  cases hpa : m.passed
  · have he := Lib.hid (show m.close = (m, [], 100) by unfold MS.close; rw [hpa]; simp)
    rw [hpa] at c6
    clear hpa
    go_enter Try.func26, Try.ntmps26
    go_wp2_with fail
    go_ret2
    rw [he.out]
    exact ⟨_, rfl, ⟨_, rfl, Own.nil _ _ _⟩, ⟨hm, hl⟩, Fr.refl _ _⟩
  cases hcl : m.closed
  rotate_left
  · have he := Lib.hid (show m.close = (m, [], 200) by unfold MS.close; rw [hpa, hcl]; simp)
    rw [hpa] at c6
    rw [hcl] at c7
    clear hpa hcl
    go_enter Try.func26, Try.ntmps26
    go_wp2_with fail
    go_ret2
    rw [he.out]
    exact ⟨_, rfl, ⟨_, rfl, Own.nil _ _ _⟩, ⟨hm, hl⟩, Fr.refl _ _⟩
  have hst3 := hover.out hcl
  have hm' : Mac (w.setCell ⟨g, 7, none⟩ (.bool true)) g b { m with closed := true } := ⟨Blk.put hm 7 _ rfl, Blk.far hl (by exact fun e => hne e.symm) _⟩
  have HM' := Lib.hid hm'
  clear hm'
  by_cases hf : m.fresh = 0
  · have he := Lib.hid (show m.close = ({ m with closed := true }, [], 0) by unfold MS.close; rw [hpa, hcl]; simp [hf])
    rw [hpa] at c6
    rw [hcl] at c7
    rw [hf] at c5
    clear hpa hcl hf hst3
    go_enter Try.func26, Try.ntmps26
    go_wp2_with fail
    go_ret2
    rw [he.out]
    exact ⟨_, rfl, ⟨_, rfl, Own.nil _ _ _⟩, HM'.out, (Fr.refl _ _).setAt (.inl rfl) _⟩
  · have he := Lib.hid (show m.close = (({ m with closed := true }.fire 2 true).1, [⟨m.next, 2, true⟩], 0) by unfold MS.close; rw [hpa, hcl]; simp [hf])
    have hf' : (m.fresh == 0) = false := by simpa using hf
    rw [hpa] at c6
    rw [hcl] at c7
    have HC := Lib.hid (show canFire m.stage 2 = true by simp [canFire, hst3])
    clear hpa hcl hf hst3
    go_enter Try.func26, Try.ntmps26
    go_wp2_with fail
    refine (mfire_calls g b _ 2 true _ HM'.out HC.out hn).mono ?_
    rintro e w1 ⟨v, rfl, ⟨p, rfl, ho⟩, hm1, h1⟩
    go_wp2_with fail
    go_ret2
    rw [he.out]
    exact ⟨_, rfl, ⟨_, rfl, ho.base (by simp [World.setCell])⟩, hm1, ((Fr.refl _ _).setAt (.inl rfl) _).same h1⟩

def young (m : MS) : Bool := !m.passed && decide (m.next = 0)

set_option maxHeartbeats 1000000 in
theorem young_calls (g b : Nat) (m : MS) (w : World) (h : Mac w g b m) (y : Bool) (hy : young m = y) :
    Calls Try.prog 32 #[.pointer (some ⟨g, 0, none⟩)] w fun e w' => e = .returned (.bool y) ∧ w = w' := by
  obtain ⟨hm, hl⟩ := h
  obtain ⟨c0, c1, c2, c3, c4, c5, c6, c7, hg⟩ := hm.eight
  cases hpa : m.passed
  rotate_left
  · obtain rfl : y = false := by rw [← hy]; simp [young, hpa]
    rw [hpa] at c6
    clear hpa hy
    go_enter Try.func32, Try.ntmps32
    go_wp2_with fail
    go_ret
    exact ⟨rfl, rfl⟩
  rw [hpa] at c6
  by_cases hn : m.next = 0
  · obtain rfl : y = true := by rw [← hy]; simp [young, hpa, hn]
    have hn' : ((m.next : Int) == 0) = true := by simp [hn]
    clear hpa hy hn
    go_enter Try.func32, Try.ntmps32
    go_wp2_with (go_at_call 16; refine (next_calls _ _ _ _ hl).mono ?_; rintro e w' ⟨rfl, rfl⟩)
    go_ret
    exact ⟨rfl, rfl⟩
  · obtain rfl : y = false := by rw [← hy]; simp [young, hn]
    have hn' : ((m.next : Int) == 0) = false := by simp [hn]
    clear hpa hy hn
    go_enter Try.func32, Try.ntmps32
    go_wp2_with (go_at_call 16; refine (next_calls _ _ _ _ hl).mono ?_; rintro e w' ⟨rfl, rfl⟩)
    go_ret
    exact ⟨rfl, rfl⟩
end Go.Proofs.Ythplenfbeknlhaa
