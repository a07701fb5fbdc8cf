/- The arguments' element types opened: panes to be fired. No condition. -/
import Derived.Test.YthplenfbeknlhaaOpen
import Derived.Test.YthplenfbeknlhaaFires
namespace Go.Proofs.Ythplenfbeknlhaa
open Go.ChangeShapes Go.WideShapes Go.ChangeAt Go.RowKit
section
variable {H : Type} {enc : TypeId × Value → H} {W : World} {base : Nat} {spare : Nat → Bool} {held : Bool}
theorem cells28 : Try.prog.cellsOf 28 = 2 := by kernel_rfl

theorem tr_cells {cs : List Value} {fuel : Nat} {x : DataW H × List MemPlace} (h : DataW.trod enc Try.prog W base spare held fuel 28 cs = some x) : ∃ p : Tr, cs = p.cells := by
  obtain ⟨y0, y1, n, _, hl, h0, h1⟩ := trod_struct2 Try.underlying28 h
  rw [cells28] at hl
  match cs, hl with
  | [c0, c1], _ =>
    have e3 : Try.prog.cellsOf 3 = 1 := by kernel_rfl
    have e4 : Try.prog.cellsOf 4 = 1 := by kernel_rfl
    simp only [e3, e4] at h0 h1
    obtain ⟨t, ht, _⟩ := DataW.trod_int Try.underlying3 h0
    obtain ⟨l, hl, _⟩ := DataW.trod_bool Try.underlying4 h1
    simp at ht hl
    subst ht; subst hl
    exact ⟨⟨t, l⟩, rfl⟩

theorem all_map {α β : Type} {f : β → α} : ∀ {xs : List α}, (∀ x ∈ xs, ∃ p, x = f p) → ∃ l : List β, xs = l.map f
  | [], _ => ⟨[], rfl⟩
  | x :: xs, h => by
    obtain ⟨p, rfl⟩ := h x (List.mem_cons_self ..)
    obtain ⟨l, rfl⟩ := all_map (fun y hy => h y (List.mem_cons_of_mem _ hy))
    exact ⟨p :: l, rfl⟩

theorem cells31 : Try.prog.cellsOf 31 = 3 := by kernel_rfl
theorem trod_struct3 {P : Program} {t : TypeId} {f0 f1 f2 : Field} {fuel : Nat} {cs : List Value} {x : DataW H × List MemPlace} (ht : P.underlying t = some (.struct #[f0, f1, f2])) (h : DataW.trod enc P W base spare held fuel t cs = some x) :
    ∃ y0 y1 y2 n, cs.length = P.cellsOf t ∧ DataW.trod enc P W base spare held n f0.type ((cs.drop f0.offset).take (P.cellsOf f0.type)) = some y0 ∧
      DataW.trod enc P W base spare held n f1.type ((cs.drop f1.offset).take (P.cellsOf f1.type)) = some y1 ∧ DataW.trod enc P W base spare held n f2.type ((cs.drop f2.offset).take (P.cellsOf f2.type)) = some y2 := by
  obtain ⟨xs, n, _, rfl, hl, hlen, hf⟩ := DataW.trod_struct ht h
  match xs, hlen with
  | [y0, y1, y2], _ => exact ⟨y0, y1, y2, n, hl, by simpa using hf 0 f0 rfl, by simpa using hf 1 f1 rfl, by simpa using hf 2 f2 rfl⟩
theorem inf_cells {cs : List Value} {fuel : Nat} {x : DataW H × List MemPlace} (h : DataW.trod enc Try.prog W base spare held fuel 31 cs = some x) : ∃ p : Inf, cs = p.cells := by
  obtain ⟨y0, y1, y2, n, hl, h0, h1, h2⟩ := trod_struct3 Try.underlying31 h
  rw [cells31] at hl
  match cs, hl with
  | [c0, c1, c2], _ =>
    have e3 : Try.prog.cellsOf 3 = 1 := by kernel_rfl
    have e4 : Try.prog.cellsOf 4 = 1 := by kernel_rfl
    simp only [e3, e4] at h0 h1 h2
    obtain ⟨i, hi, _⟩ := DataW.trod_int Try.underlying3 h0
    obtain ⟨t, ht, _⟩ := DataW.trod_int Try.underlying3 h1
    obtain ⟨l, hl, _⟩ := DataW.trod_bool Try.underlying4 h2
    simp at hi ht hl
    subst hi; subst ht; subst hl
    exact ⟨⟨i, t, l⟩, rfl⟩
theorem open_inf {a : Option Addr} {len cap : Nat} {d : DataW H} {ps : List MemPlace} (h : DataW.Trod enc Try.prog W base spare held 39 (.slice a len cap) d ps) :
    ∃ ts : List Inf, ts.length = len ∧ Rows W a 3 (ts.map Inf.cells) := by
  obtain ⟨xs, hl, hr, hx⟩ := open_rows Try.underlying39 h
  obtain ⟨ts, rfl⟩ := all_map (f := Inf.cells) (fun cs hcs => by obtain ⟨_, fuel, x, hf⟩ := hx cs hcs; exact inf_cells hf)
  rw [cells31] at hr
  exact ⟨ts, by simpa using hl, hr⟩

theorem open_tr {a : Option Addr} {len cap : Nat} {d : DataW H} {ps : List MemPlace} (h : DataW.Trod enc Try.prog W base spare held 22 (.slice a len cap) d ps) :
    ∃ ts : List Tr, ts.length = len ∧ Rows W a 2 (ts.map Tr.cells) := by
  obtain ⟨xs, hl, hr, hx⟩ := open_rows Try.underlying22 h
  obtain ⟨ts, rfl⟩ := all_map (f := Tr.cells) (fun cs hcs => by obtain ⟨_, fuel, x, hf⟩ := hx cs hcs; exact tr_cells hf)
  rw [cells28] at hr
  exact ⟨ts, by simpa using hl, hr⟩
end
end Go.Proofs.Ythplenfbeknlhaa
