/- Arguments opened: a slice's elements as rows of cells, each read by its type; the length's bound. No condition. -/
import Derived.Test.YthplenfbeknlhaaInf
import Derived.ProofKit
import Derived.OpenShut
import Derived.ShutString
import Derived.ChangeOld
import Derived.SizedLaws
import Derived.Deep.Slices
namespace Go.Proofs.Ythplenfbeknlhaa
open Go.ChangeShapes Go.WideShapes Go.ChangeAt Go.RowKit

section
variable {H : Type} {enc : TypeId × Value → H} {P : Program} {W : World} {base : Nat} {spare : Nat → Bool} {held : Bool}

theorem open_rows {t e : TypeId} {a : Option Addr} {len cap : Nat} {d : DataW H} {ps : List MemPlace} (ht : P.underlying t = some (.slice e))
    (h : DataW.Trod enc P W base spare held t (.slice a len cap) d ps) :
    ∃ xs : List (List Value), xs.length = len ∧ Rows W a (P.cellsOf e) xs ∧ (∀ cs ∈ xs, cs.length = P.cellsOf e ∧ ∃ fuel x, DataW.trod enc P W base spare held fuel e cs = some x) := by
  obtain ⟨fuel, hf⟩ := h
  rcases DataW.trod_slice ht hf with ⟨hcs, _⟩ | ⟨ad, l, c, elems, rest, n, _, hcs, hx, hb, hl, hm, hel, hi, _⟩
  · simp [Value.cells] at hcs
    obtain ⟨rfl, rfl, rfl⟩ := hcs
    exact ⟨[], rfl, Rows.nil _ _ _, by simp⟩
  · simp [Value.cells] at hcs
    obtain ⟨rfl, rfl, rfl⟩ := hcs
    have each : ∀ i, i < len → ∃ cs, W.cells? base (ad.add (i * P.cellsOf e)) (P.cellsOf e) = some cs ∧ ∃ x, DataW.trod enc P W base spare held n e cs = some x := by
      intro i hlt
      have := hi i hlt
      rw [List.getElem?_eq_getElem (by omega), Option.bind_eq_some_iff] at this
      obtain ⟨cs, h1, h2⟩ := this
      exact ⟨cs, h1, _, h2⟩
    obtain ⟨f, hfn⟩ := Go.Deep.choose_lt each
    refine ⟨(List.range len).map f, by simp, ?_, ?_⟩
    · intro i cs hics
      simp only [List.getElem?_map, Option.map_eq_some_iff] at hics
      obtain ⟨j, hj, rfl⟩ := hics
      have hj' := List.getElem?_eq_some_iff.1 hj
      obtain ⟨hlt, rfl⟩ := hj'
      simp at hlt
      simp only [List.getElem_range]
      obtain ⟨_, hlen, hc⟩ := World.cells?_some (hfn i hlt).1
      refine ⟨ad, rfl, ?_⟩
      intro j u hu
      have hjl := (List.getElem?_eq_some_iff.1 hu).1
      rw [hc j (by omega), hu]
    · intro cs hcs
      simp only [List.mem_map, List.mem_range] at hcs
      obtain ⟨i, hlt, rfl⟩ := hcs
      obtain ⟨_, hlen, _⟩ := World.cells?_some (hfn i hlt).1
      exact ⟨hlen, _, (hfn i hlt).2⟩

theorem nil_rows {t e : TypeId} {a : Option Addr} {len cap : Nat} {d : DataW H} {ps : List MemPlace} (ht : P.underlying t = some (.slice e))
    (h : DataW.Trod enc P W base spare held t (.slice a len cap) d ps) : a = none → len = 0 ∧ cap = 0 := by
  rintro rfl
  obtain ⟨fuel, hf⟩ := h
  rcases DataW.trod_slice ht hf with ⟨hcs, _⟩ | ⟨ad, l, c, elems, rest, n, _, hcs, _⟩
  · simp [Value.cells] at hcs
    exact hcs
  · simp [Value.cells] at hcs

theorem sized_rows {t e : TypeId} {a : Option Addr} {len cap : Nat} {d : DataW H} {ps : List MemPlace} {ts : List TypeId} {ds : List (DataW H)} {j : Nat}
    (hsz : (DataW.weightsEach P ts ds).all (· ≤ reachBytes) = true) (ht : ts[j]? = some t) (hd : ds[j]? = some d) (hu : P.underlying t = some (.slice e)) {B : Nat} (hB : P.bytesOf e = B)
    (h : DataW.Trod enc P W base spare held t (.slice a len cap) d ps) : len * B ≤ 140737488351232 := by
  obtain ⟨fuel, hf⟩ := h
  rcases DataW.trod_slice hu hf with ⟨hcs, _⟩ | ⟨ad, l, c, elems, rest, n, _, hcs, hx, hb, hl, hm, hel, hi, _⟩
  · simp [Value.cells] at hcs
    obtain ⟨rfl, rfl, rfl⟩ := hcs
    simp
  · simp [Value.cells] at hcs
    obtain ⟨rfl, rfl, rfl⟩ := hcs
    obtain ⟨hx, _⟩ := Prod.mk.inj hx
    subst hx
    have z := sized_slice hsz ht hd hu
    rw [hB] at z
    refine Nat.le_trans (Nat.mul_le_mul_right B ?_) z
    simp
    omega
end
end Go.Proofs.Ythplenfbeknlhaa
