/- The arguments of the laws on triggers opened: a spec, whole numbers, calls. No condition. -/
import Derived.Test.YthplenfbeknlhaaOpenPt
import Derived.Test.YthplenfbeknlhaaSums
import Derived.Lib.SmallJoins
namespace Go.Proofs.Ythplenfbeknlhaa
open Go.ChangeShapes Go.WideShapes Go.ChangeAt Go.RowKit Go.Joins
section
variable {H : Type} {enc : TypeId × Value → H} {W : World} {base : Nat} {spare : Nat → Bool} {held : Bool}

theorem open_sp {r : Reach} {b0 : Nat} {v : Value} {d : DataW H} {p : List MemPlace} (hv : Value.okWide Try.prog W r b0 48 v) (h : DataW.Trod enc Try.prog W base spare held 48 v d p) : ∃ s : Sp, v = s.v := by
  obtain ⟨v0, v1, v2, v3, y0, y1, y2, y3, n, rfl, _, _, h0, h1, h2, h3⟩ := open_agg4 Try.underlying48 (by kernel_rfl) (by kernel_rfl) hv h
  obtain ⟨e, he, _⟩ := DataW.trod_int Try.underlying3 h0
  obtain ⟨l, hl, _⟩ := DataW.trod_int Try.underlying3 h1
  obtain ⟨la, hla, _⟩ := DataW.trod_int Try.underlying3 h2
  obtain ⟨a, ha, _⟩ := DataW.trod_bool Try.underlying4 h3
  simp at he hl hla ha
  subst he; subst hl; subst hla; subst ha
  exact ⟨⟨e, l, la, a⟩, rfl⟩

theorem cells3 : Try.prog.cellsOf 3 = 1 := by kernel_rfl
theorem open_nums {a : Option Addr} {len cap : Nat} {d : DataW H} {ps : List MemPlace} (h : DataW.Trod enc Try.prog W base spare held 53 (.slice a len cap) d ps) :
    ∃ ns : List Int, ns.length = len ∧ ints W a ns := by
  obtain ⟨xs, hl, hr, hx⟩ := open_rows Try.underlying53 h
  obtain ⟨ns, rfl⟩ := all_map (f := fun n : Int => [Value.int .i64 n]) (fun cs hcs => by
    obtain ⟨_, fuel, x, hf⟩ := hx cs hcs
    obtain ⟨n, hn, _⟩ := DataW.trod_int Try.underlying3 hf
    exact ⟨n, hn⟩)
  rw [cells3] at hr
  exact ⟨ns, by simpa using hl, hr⟩

theorem cells68 : Try.prog.cellsOf 68 = 3 := by kernel_rfl
theorem op_cells {cs : List Value} {fuel : Nat} {x : DataW H × List MemPlace} (h : DataW.trod enc Try.prog W base spare held fuel 68 cs = some x) : ∃ p : Inf, cs = p.cells := by
  obtain ⟨y0, y1, y2, n, hl, h0, h1, h2⟩ := trod_struct3 Try.underlying68 h
  rw [cells68] at hl
  match cs, hl with
  | [c0, c1, c2], _ =>
    have e3 : Try.prog.cellsOf 3 = 1 := by kernel_rfl
    have e4 : Try.prog.cellsOf 4 = 1 := by kernel_rfl
    simp only [e3, e4] at h0 h1 h2
    obtain ⟨i, hi, _⟩ := DataW.trod_int Try.underlying3 h0
    obtain ⟨t, ht, _⟩ := DataW.trod_int Try.underlying3 h1
    obtain ⟨l, hl, _⟩ := DataW.trod_bool Try.underlying4 h2
    simp at hi ht hl
    subst hi; subst ht; subst hl
    exact ⟨⟨i, t, l⟩, rfl⟩
theorem open_ops {a : Option Addr} {len cap : Nat} {d : DataW H} {ps : List MemPlace} (h : DataW.Trod enc Try.prog W base spare held 60 (.slice a len cap) d ps) :
    ∃ ts : List Inf, ts.length = len ∧ Rows W a 3 (ts.map Inf.cells) := by
  obtain ⟨xs, hl, hr, hx⟩ := open_rows Try.underlying60 h
  obtain ⟨ts, rfl⟩ := all_map (f := Inf.cells) (fun cs hcs => by obtain ⟨_, fuel, x, hf⟩ := hx cs hcs; exact op_cells hf)
  rw [cells68] at hr
  exact ⟨ts, by simpa using hl, hr⟩
end
end Go.Proofs.Ythplenfbeknlhaa
