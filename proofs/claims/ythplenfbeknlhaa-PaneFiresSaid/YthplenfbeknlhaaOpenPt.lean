/- The arguments' element types opened: panes to be fired. No condition. -/
import Derived.Test.YthplenfbeknlhaaOpen
import Derived.Test.YthplenfbeknlhaaFires
namespace Go.Proofs.Ythplenfbeknlhaa
open Go.ChangeShapes Go.WideShapes Go.ChangeAt Go.RowKit
section
variable {H : Type} {enc : TypeId × Value → H} {W : World} {base : Nat} {spare : Nat → Bool} {held : Bool}
theorem cells28 : Try.prog.cellsOf 28 = 2 := by kernel_rfl

theorem tr_cells {cs : List Value} {fuel : Nat} {x : DataW H × List MemPlace} (h : DataW.trod enc Try.prog W base spare held fuel 28 cs = some x) : ∃ p : Tr, cs = p.cells := by
  obtain ⟨y0, y1, n, _, hl, h0, h1⟩ := trod_struct2 Try.underlying28 h
  rw [cells28] at hl
  match cs, hl with
  | [c0, c1], _ =>
    have e3 : Try.prog.cellsOf 3 = 1 := by kernel_rfl
    have e4 : Try.prog.cellsOf 4 = 1 := by kernel_rfl
    simp only [e3, e4] at h0 h1
    obtain ⟨t, ht, _⟩ := DataW.trod_int Try.underlying3 h0
    obtain ⟨l, hl, _⟩ := DataW.trod_bool Try.underlying4 h1
    simp at ht hl
    subst ht; subst hl
    exact ⟨⟨t, l⟩, rfl⟩

theorem all_map {α β : Type} {f : β → α} : ∀ {xs : List α}, (∀ x ∈ xs, ∃ p, x = f p) → ∃ l : List β, xs = l.map f
  | [], _ => ⟨[], rfl⟩
  | x :: xs, h => by
    obtain ⟨p, rfl⟩ := h x (List.mem_cons_self ..)
    obtain ⟨l, rfl⟩ := all_map (fun y hy => h y (List.mem_cons_of_mem _ hy))
    exact ⟨p :: l, rfl⟩

theorem open_tr {a : Option Addr} {len cap : Nat} {d : DataW H} {ps : List MemPlace} (h : DataW.Trod enc Try.prog W base spare held 22 (.slice a len cap) d ps) :
    ∃ ts : List Tr, ts.length = len ∧ Rows W a 2 (ts.map Tr.cells) := by
  obtain ⟨xs, hl, hr, hx⟩ := open_rows Try.underlying22 h
  obtain ⟨ts, rfl⟩ := all_map (f := Tr.cells) (fun cs hcs => by obtain ⟨_, fuel, x, hf⟩ := hx cs hcs; exact tr_cells hf)
  rw [cells28] at hr
  exact ⟨ts, by simpa using hl, hr⟩
end
end Go.Proofs.Ythplenfbeknlhaa
