/- Panes as plain data; rows of cells; what owns a row; plain laws on panes. No condition. -/
import Derived.Test.YthplenfbeknlhaaBase
import Derived.Laws.AppendOwnNone
namespace Go.Proofs.Ythplenfbeknlhaa
open Go.RowKit

structure Inf where
  i : Int
  t : Int
  l : Bool

def Inf.cells (p : Inf) : List Value := [.int .i64 p.i, .int .i64 p.t, .bool p.l]
def Inf.v (p : Inf) : Value := .agg #[.int .i64 p.i, .int .i64 p.t, .bool p.l]

theorem add_add (a : Addr) (m n : Nat) : (a.add m).add n = a.add (m + n) := by
  unfold Addr.add
  by_cases hm : m = 0
  · simp [hm]
  · by_cases hn : n = 0
    · simp [hn]
    · simp [hm, hn, Nat.add_assoc]

/-- The elements of a slice at A, k cells each. -/
def Rows (w : World) (A : Option Addr) (k : Nat) (xs : List (List Value)) : Prop :=
  ∀ i cs, xs[i]? = some cs → ∃ ad, A = some ad ∧ ∀ j u, cs[j]? = some u → w.cell? ((ad.add (i * k)).add j) = some u

theorem Rows.no {w w' : World} {A : Option Addr} {k : Nat} {xs : List (List Value)} (h : Rows w A k xs) (hf : Fr No w w') : Rows w' A k xs := by
  intro i cs hi
  obtain ⟨ad, hA, hc⟩ := h i cs hi
  exact ⟨ad, hA, fun j u hu => hf.cell (hc j u hu) (fun h => h)⟩

theorem Rows.nil (w : World) (A : Option Addr) (k : Nat) : Rows w A k [] := fun i cs h => by simp at h

theorem inf_at {w : World} {A : Option Addr} {l : List Inf} (h : Rows w A 3 (l.map Inf.cells)) (i : Nat) (hi : i < l.length) :
    ∃ ad, A = some ad ∧ w.cell? (ad.add (i * 3)) = some (.int .i64 l[i].i) ∧ w.cell? ⟨(ad.add (i * 3)).block, (ad.add (i * 3)).off + 1, none⟩ = some (.int .i64 l[i].t) ∧
      w.cell? ⟨(ad.add (i * 3)).block, (ad.add (i * 3)).off + 2, none⟩ = some (.bool l[i].l) := by
  obtain ⟨ad, hA, hc⟩ := h i l[i].cells (by simp [hi])
  exact ⟨ad, hA, hc 0 _ rfl, hc 1 _ rfl, hc 2 _ rfl⟩

/-- v is a slice of the call's own whose elements (of type e) are these panes. -/
def Own (w : World) (base : Nat) (e : TypeId) (v : Value) (l : List Inf) : Prop := w.ownsRow base e 3 v l.length (l.flatMap Inf.cells)

theorem flat_get (l : List Inf) (i j : Nat) (hj : j < 3) : (l.flatMap Inf.cells)[i * 3 + j]? = (l[i]?).bind (fun p => p.cells[j]?) := by
  induction l generalizing i with
  | nil => simp
  | cons p l ih =>
    cases i with
    | zero =>
      simp only [List.flatMap_cons, Nat.zero_mul, Nat.zero_add]
      rw [List.getElem?_append_left (by simp [Inf.cells]; omega)]
      simp
    | succ i =>
      simp only [List.flatMap_cons]
      rw [List.getElem?_append_right (by simp [Inf.cells]; omega)]
      rw [show (i + 1) * 3 + j - p.cells.length = i * 3 + j from by simp [Inf.cells]; omega, ih]
      simp

theorem Own.nil (w : World) (base : Nat) (e : TypeId) : Own w base e (.slice none 0 0) [] := World.ownsRow_nil w base e 3

theorem Own.slice {w : World} {base : Nat} {e : TypeId} {v : Value} {l : List Inf} (h : Own w base e v l) : ∃ A c, v = .slice A l.length c ∧ l.length ≤ c ∧ Rows w A 3 (l.map Inf.cells) := by
  have hc := @World.ownsRow.cells w base e 3 v l.length (l.flatMap Inf.cells) h
  rcases h.2 with ⟨rfl, h0⟩ | ⟨g, cap, cur, rfl, hg, hb, hn, hm, hs, ht⟩
  · have : l = [] := List.eq_nil_of_length_eq_zero h0
    subst this
    exact ⟨none, 0, rfl, by simp, Rows.nil _ _ _⟩
  · refine ⟨_, cap, rfl, hn, ?_⟩
    intro i cs hi
    refine ⟨_, rfl, ?_⟩
    intro j u hu
    rw [add_add]
    simp only [List.getElem?_map, Option.map_eq_some_iff] at hi
    obtain ⟨p, hp, rfl⟩ := hi
    have hj : j < 3 := (List.getElem?_eq_some_iff.1 hu).1
    exact hc (g := g) rfl _ u (by rw [flat_get l i j hj, hp]; exact hu)

theorem Own.fr {w w' : World} {S : Nat → Prop} {base : Nat} {e : TypeId} {v : Value} {l : List Inf} (h : Own w base e v l) (hf : Fr S w w') (hn : ∀ k, v.ownBlock = some k → ¬ S k) : Own w' base e v l := by
  refine ⟨h.1, ?_⟩
  rcases h.2 with h2 | ⟨g, cap, cur, hv, hg, hh, r⟩
  · exact .inl h2
  · subst hv
    exact .inr ⟨g, cap, cur, rfl, hg, (hf.block g (Array.getElem?_eq_some_iff.1 hh).1 (hn g rfl)).trans hh, r⟩
theorem Own.no {w w' : World} {base : Nat} {e : TypeId} {v : Value} {l : List Inf} (h : Own w base e v l) (hf : Fr No w w') : Own w' base e v l := h.fr hf (fun _ _ h => h)
theorem Own.alloc {w : World} {base : Nat} {e : TypeId} {v : Value} {l : List Inf} (h : Own w base e v l) (o : Obj) : Own (w.alloc o) base e v l := h.no ((Fr.refl _ _).alloc o)
theorem Own.ne {w : World} {base : Nat} {e : TypeId} {v : Value} {l : List Inf} (h : Own w base e v l) {g : Nat} {cs : List Value} {t : TypeId} (hb : Blk w g cs t) (ht : e ≠ t) : ∀ k, v.ownBlock = some k → k ≠ g := by
  rintro k hk rfl
  rcases h.2 with ⟨rfl, h0⟩ | ⟨g', cap, cur, rfl, hg, hh, r⟩
  · simp [Value.ownBlock] at hk
  · simp [Value.ownBlock] at hk
    subst hk
    have := hh.symm.trans hb
    simp at this
    exact ht this.2
theorem Own.ge {w : World} {base : Nat} {e : TypeId} {v : Value} {l : List Inf} (h : Own w base e v l) : ∀ k, v.ownBlock = some k → base ≤ k ∧ k < w.heap.size := fun k hk => World.ownsRow.lt h k hk

theorem Own.push {w : World} {base : Nat} {e : TypeId} {v : Value} {l : List Inf} {p : Inf} (h : w.ownsRow base e 3 v (l.length + 1) (l.flatMap Inf.cells ++ p.cells)) : Own w base e v (l ++ [p]) := by
  unfold Own
  simpa using h
theorem inf_one (p : Inf) : ∀ u ∈ p.cells, u.oneCell' = true := by
  intro u hu
  simp only [Inf.cells, List.mem_cons, List.not_mem_nil, or_false] at hu
  rcases hu with rfl | rfl | rfl <;> rfl
theorem inf_new (w : World) (p : Inf) (e : TypeId) : ∀ (j : Nat) (u : Value), p.cells[j]? = some u → (w.alloc (.cells #[.int .i64 p.i, .int .i64 p.t, .bool p.l] e)).cell? ((⟨w.heap.size, 0, none⟩ : Addr).add j) = some u := by
  intro j u hu
  have hb := Blk.new w #[.int .i64 p.i, .int .i64 p.t, .bool p.l] e
  have hj : j < 3 := (List.getElem?_eq_some_iff.1 hu).1
  have hadd : (⟨w.heap.size, 0, none⟩ : Addr).add j = ⟨w.heap.size, j, none⟩ := by unfold Addr.add; split <;> simp_all
  rw [hadd, hb.cell j]
  exact hu

theorem rows_flat {w : World} {ad : Addr} {l : List Inf} (h : Rows w (some ad) 3 (l.map Inf.cells)) : ∀ (j : Nat) (u : Value), (l.flatMap Inf.cells)[j]? = some u → w.cell? (ad.add j) = some u := by
  intro j u hu
  have hj : j = (j / 3) * 3 + j % 3 := by omega
  rw [hj, flat_get l _ _ (by omega), Option.bind_eq_some_iff] at hu
  obtain ⟨p, hp, hu⟩ := hu
  obtain ⟨ad', hA, hc⟩ := h (j / 3) p.cells (by simp [hp])
  obtain rfl := Option.some.inj hA
  have := hc (j % 3) u hu
  rw [add_add, ← hj] at this
  exact this
theorem inf_ones (l : List Inf) : ∀ u ∈ l.flatMap Inf.cells, u.oneCell' = true := by
  intro u hu
  obtain ⟨p, _, hp⟩ := List.mem_flatMap.1 hu
  exact inf_one p u hp
theorem inf_flat_len (l : List Inf) : (l.flatMap Inf.cells).length = l.length * 3 := by
  induction l with
  | nil => rfl
  | cons p l ih => rw [List.flatMap_cons, List.length_append, ih]; simp [Inf.cells]; omega
theorem Own.append {w : World} {base : Nat} {e : TypeId} {v : Value} {l l' : List Inf} {n : Nat} (h : w.ownsRow base e 3 v n (l.flatMap Inf.cells ++ l'.flatMap Inf.cells)) (hn : n = l.length + l'.length) : Own w base e v (l ++ l') := by
  subst hn
  unfold Own
  rw [List.length_append, List.flatMap_append]
  exact h

/-- 'append(v, x...)', v the call's own, x nil or not. -/
theorem wpList_append_any {P : Program} (w : World) {ops : Array Oper} {rest : List Oper} {o : Oper} {a : Act} {Q : Exit → Act → World → Prop} (hgd : o.guard = none) (s x : Operand) (t : TypeId)
    (ho : o.op = .call { callee := .builtin .append, args := #[s, x], argTypes := #[t, t] })
    (base : Nat) (e : TypeId) (i : TypeInfo) (z : Value) (size bytes : Nat) (ht : P.underlying t = some (.slice e)) (hi : P.info? e = some i) (hz : i.zero = some z)
    (hsize : i.size = size) (hby : i.bytes = bytes) (hzs : z.cells.size = size) (hsz : 0 < size)
    (v : Value) (n : Nat) (xs : List Value) (hs : a.eval s = v) (hown : w.ownsRow base e size v n xs)
    (A : Option Addr) (m c : Nat) (news : List Value) (hx : a.eval x = .slice A m c) (hA : A = none → m = 0 ∧ c = 0) (hl : news.length = m * size)
    (hnews : ∀ ad, A = some ad → ∀ j u, news[j]? = some u → w.cell? (ad.add j) = some u) (h1 : ∀ u ∈ news, u.oneCell' = true)
    (h63 : n + m ≤ maxLen) (hbytes : (n + m) * bytes ≤ 140737488355328) (hbase : base ≤ w.heap.size)
    (h : ∀ v' w', w'.ownsRow base e size v' (n + m) (xs ++ news) → w.grownBy w' v.ownBlock → wpList P ops Q rest (a.put o.dst v') w') : wpList P ops Q (o :: rest) a w := by
  cases A with
  | some ad => exact wpList_append_own w hgd s x t ho base e i z size bytes ht hi hz hsize hby hzs hsz v n xs hs hown ad m c news hx hl (hnews ad rfl) h1 h63 hbytes hbase (fun v' w' a b _ => h v' w' a b)
  | none =>
    obtain ⟨rfl, rfl⟩ := hA rfl
    have hnil : news = [] := List.eq_nil_of_length_eq_zero (by simpa using hl)
    subst hnil
    exact wpList_append_own_none hgd s x t ho base e i size ht hi v n xs hs hown hx (h v w (by simpa using hown) ⟨rfl, rfl, rfl, Nat.le_refl _, fun _ _ _ => rfl⟩)

/-- The same as one step of a region that draws. -/
theorem step_append_any {P : Program} {w : World} {ops : Array Oper} {o : Oper} {a : Act} {K : Act → World → Prop} {Q : Exit → Act → World → Prop} {E : Prop} (hgd : o.guard = none) (s x : Operand) (t : TypeId)
    (ho : o.op = .call { callee := .builtin .append, args := #[s, x], argTypes := #[t, t] })
    (base : Nat) (e : TypeId) (i : TypeInfo) (z : Value) (size bytes : Nat) (ht : P.underlying t = some (.slice e)) (hi : P.info? e = some i) (hz : i.zero = some z)
    (hsize : i.size = size) (hby : i.bytes = bytes) (hzs : z.cells.size = size) (hsz : 0 < size)
    (v : Value) (n : Nat) (xs : List Value) (hs : a.eval s = v) (hown : w.ownsRow base e size v n xs)
    (A : Option Addr) (m c : Nat) (news : List Value) (hx : a.eval x = .slice A m c) (hA : A = none → m = 0 ∧ c = 0) (hl : news.length = m * size)
    (hnews : ∀ ad, A = some ad → ∀ j u, news[j]? = some u → w.cell? (ad.add j) = some u) (h1 : ∀ u ∈ news, u.oneCell' = true)
    (h63 : n + m ≤ maxLen) (hbytes : (n + m) * bytes ≤ 140737488355328) (hbase : base ≤ w.heap.size)
    (h : ∀ v' w', w'.ownsRow base e size v' (n + m) (xs ++ news) → w.grownBy w' v.ownBlock → K (a.put o.dst v') w') :
    if Region.wanted o (yielded ops a.tmps) = true then Oper.wp P o a w K Q else E := by
  have hw : Region.wanted o (yielded ops a.tmps) = true := by simp [Region.wanted, hgd]
  rw [if_pos hw]
  cases A with
  | some ad => exact wp_append_own w s x t ho base e i z size bytes ht hi hz hsize hby hzs hsz v n xs hs hown ad m c news hx hl (hnews ad rfl) h1 h63 hbytes hbase (fun v' w' a b _ => h v' w' a b)
  | none =>
    obtain ⟨rfl, rfl⟩ := hA rfl
    have hnil : news = [] := List.eq_nil_of_length_eq_zero (by simpa using hl)
    subst hnil
    have hrun := run_append_owned_none (P := P) (w := w) base t o.type e i size ht hi v n xs hown
    unfold Oper.wp
    simp [execOp, ho, resolve, invoke, builtin, hs, hx, hrun, Result.andThen]
    exact h v w (by simpa using hown) ⟨rfl, rfl, rfl, Nat.le_refl _, fun _ _ _ => rfl⟩

/-! ### The plain side -/

/-- May p stand behind these? (the document's words) -/
def bad (q p : Inf) : Bool := q.l || (decide (p.t = 0) && decide (q.t ≠ 0)) || (decide (p.t = 1) && decide (q.t ≠ 0))
def follows (l : List Inf) (p : Inf) : Bool := decide (p.i = l.length) && decide (0 ≤ p.t) && decide (p.t ≤ 2) && l.all (fun q => !bad q p)
def stStep (n : Int) (q : Inf) : Int := if q.l then 3 else if q.t > n ∧ n < 3 then q.t else n
def stage9 (l : List Inf) : Int := l.foldl stStep 0

def canFire (s t : Int) : Bool := (decide (t = 0 ∨ t = 1) && decide (s = 0)) || (decide (t = 2) && decide (s ≠ 3))
def stageOf (t : Int) (l : Bool) : Int := if l then 3 else t

/-- What is so of panes that a line has fired, and of its stage. -/
structure Good (l : List Inf) (s : Int) : Prop where
  st : s = stage9 l
  rng : 0 ≤ s ∧ s ≤ 3
  zero : s = 0 → ∀ q ∈ l, q.l = false ∧ q.t = 0
  mid : s ≠ 3 → ∀ q ∈ l, q.l = false
  some_ : s ≠ 0 → ∃ q ∈ l, q.l = true ∨ q.t ≠ 0
  over : s = 3 → ∃ q ∈ l, q.l = true

theorem Good.nil : Good [] 0 := ⟨rfl, by omega, by simp, by simp, by simp, by simp⟩

theorem Good.follows {l : List Inf} {s : Int} (h : Good l s) (t : Int) (b : Bool) : follows l ⟨l.length, t, b⟩ = canFire s t := by
  have hr := h.rng
  unfold Ythplenfbeknlhaa.follows canFire
  rw [Bool.eq_iff_iff]
  simp only [Bool.and_eq_true, Bool.or_eq_true, decide_eq_true_eq, List.all_eq_true, bad, Bool.not_eq_true', Bool.or_eq_false_iff, Bool.and_eq_false_iff, decide_eq_false_iff_not, ne_eq, Classical.not_not]
  constructor
  · rintro ⟨⟨⟨_, h0⟩, h2⟩, ha⟩
    by_cases hs : s = 0
    · by_cases ht : t = 2
      · exact .inr ⟨ht, by omega⟩
      · exact .inl ⟨by omega, hs⟩
    · obtain ⟨q, hq, hq'⟩ := h.some_ hs
      obtain ⟨⟨h1, h3⟩, h4⟩ := ha q hq
      rcases hq' with hq' | hq'
      · rw [h1] at hq'; simp at hq'
      · right
        refine ⟨by omega, fun hs3 => ?_⟩
        obtain ⟨q, hq, hl⟩ := h.over hs3
        have := (ha q hq).1.1
        rw [this] at hl
        simp at hl
  · rintro (⟨ht, hs⟩ | ⟨ht, hs⟩)
    · refine ⟨⟨⟨trivial, by omega⟩, by omega⟩, fun q hq => ?_⟩
      obtain ⟨h1, h2⟩ := h.zero hs q hq
      exact ⟨⟨h1, .inr h2⟩, .inr h2⟩
    · refine ⟨⟨⟨trivial, by omega⟩, by omega⟩, fun q hq => ?_⟩
      exact ⟨⟨h.mid hs q hq, .inl (by omega)⟩, .inl (by omega)⟩

theorem Good.fire {l : List Inf} {s : Int} (h : Good l s) (t : Int) (b : Bool) (hc : canFire s t = true) : Good (l ++ [⟨l.length, t, b⟩]) (stageOf t b) := by
  have hr := h.rng
  have hc' : ((t = 0 ∨ t = 1) ∧ s = 0) ∨ (t = 2 ∧ s ≠ 3) := by simpa [canFire] using hc
  have hmid := h.mid
  have hzero := h.zero
  refine ⟨?_, ?_, ?_, ?_, ?_, ?_⟩
  · unfold stage9
    rw [List.foldl_append]
    simp only [List.foldl_cons, List.foldl_nil]
    rw [show l.foldl stStep 0 = s from h.st.symm]
    unfold stStep stageOf
    cases b
    · simp only [Bool.false_eq_true, if_false]
      by_cases h3 : t > s ∧ s < 3
      · rw [if_pos h3]
      · rw [if_neg h3]; omega
    · simp
  · unfold stageOf
    split <;> omega
  · intro hs q hq
    unfold stageOf at hs
    have hb : b = false := by cases b <;> simp_all
    subst hb
    simp at hs
    subst hs
    have hs0 : s = 0 := by omega
    simp only [List.mem_append, List.mem_singleton] at hq
    rcases hq with hq | rfl
    · exact hzero hs0 q hq
    · exact ⟨rfl, rfl⟩
  · intro hs q hq
    have hb : b = false := by cases b <;> simp_all [stageOf]
    subst hb
    simp only [List.mem_append, List.mem_singleton] at hq
    rcases hq with hq | rfl
    · exact hmid (by omega) q hq
    · rfl
  · intro hs
    refine ⟨_, List.mem_append_right _ (List.mem_singleton.2 rfl), ?_⟩
    cases b
    · right; simpa [stageOf] using hs
    · left; rfl
  · intro hs
    refine ⟨_, List.mem_append_right _ (List.mem_singleton.2 rfl), ?_⟩
    cases b
    · simp [stageOf] at hs; omega
    · rfl

/-- Where panes first don't follow one another, from a stage and an index on. -/
def chk (s : Int) (i : Nat) : List Inf → Option Nat
  | [] => none
  | p :: ps => if canFire s p.t = true ∧ p.i = i then chk (stageOf p.t p.l) (i + 1) ps else some i

/-- The stage behind panes. -/
def fin (s : Int) (l : List Inf) : Int := l.foldl (fun _ p => stageOf p.t p.l) s

theorem chk_append {s : Int} {i : Nat} {a b : List Inf} (h : chk s i a = none) : chk s i (a ++ b) = chk (fin s a) (i + a.length) b := by
  induction a generalizing s i with
  | nil => rfl
  | cons p a ih =>
    rw [List.cons_append, chk]
    rw [chk] at h
    by_cases hp : canFire s p.t = true ∧ p.i = i
    · rw [if_pos hp] at h ⊢
      rw [ih h]
      unfold fin
      simp only [List.foldl_cons, List.length_cons]
      congr 1
      omega
    · rw [if_neg hp] at h
      cases h

theorem chk_left {s : Int} {i : Nat} {a b : List Inf} (h : chk s i (a ++ b) = none) : chk s i a = none := by
  induction a generalizing s i with
  | nil => rfl
  | cons p a ih =>
    rw [List.cons_append, chk] at h
    rw [chk]
    by_cases hp : canFire s p.t = true ∧ p.i = i
    · rw [if_pos hp] at h ⊢
      exact ih h
    · rw [if_neg hp] at h
      cases h

theorem chk_idx {s : Int} {i : Nat} {l : List Inf} (h : chk s i l = none) (j : Nat) (hj : j < l.length) : l[j].i = ((i + j : Nat) : Int) := by
  induction l generalizing s i j with
  | nil => simp at hj
  | cons p l ih =>
    rw [chk] at h
    by_cases hp : canFire s p.t = true ∧ p.i = i
    · rw [if_pos hp] at h
      cases j with
      | zero => simpa using hp.2
      | succ j =>
        have := ih h j (by simpa using hj)
        simp only [List.getElem_cons_succ]
        rw [this]
        congr 1
        omega
    · rw [if_neg hp] at h
      cases h

/-- With one pane left out the ones behind it stand wrong. -/
theorem chk_out {l : List Inf} (h : chk 0 0 l = none) (j : Nat) (hj : j + 1 < l.length) : chk 0 0 (l.take j ++ l.drop (j + 1)) = some j := by
  have h1 : chk 0 0 (l.take j) = none := chk_left (b := l.drop j) (by rw [List.take_append_drop]; exact h)
  rw [chk_append h1, List.drop_eq_getElem_cons hj, chk, if_neg]
  · simp; omega
  · intro hp
    have := chk_idx h (j + 1) hj
    have h2 := hp.2
    rw [this] at h2
    simp at h2
    omega

theorem chk_snoc {l : List Inf} {s : Int} (h : chk 0 0 l = none) (hs : s = fin 0 l) (t : Int) (b : Bool) (hc : canFire s t = true) :
    chk 0 0 (l ++ [⟨l.length, t, b⟩]) = none ∧ stageOf t b = fin 0 (l ++ [⟨l.length, t, b⟩]) := by
  constructor
  · rw [chk_append h, chk, if_pos]
    · rfl
    · exact ⟨by rw [← hs]; exact hc, by simp⟩
  · unfold fin
    rw [List.foldl_append]
    rfl

theorem Good.step {l : List Inf} {s : Int} (h : Good l s) (p : Inf) : Ythplenfbeknlhaa.follows l p = (canFire s p.t && decide (p.i = l.length)) := by
  by_cases hp : p.i = l.length
  · have := h.follows p.t p.l
    rw [show p = ⟨l.length, p.t, p.l⟩ by rw [← hp]]
    simp [this]
  · simp [Ythplenfbeknlhaa.follows, hp]

theorem follows_idx {l : List Inf} {p : Inf} (h : p.i ≠ l.length) : follows l p = false := by simp [follows, h]
end Go.Proofs.Ythplenfbeknlhaa
