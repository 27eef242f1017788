/- Balance: the reference's replace (one chunk by one). -/
import Derived.Test.YtimhokilicogdaaBal31
import Derived.Laws.OwnMore
import Derived.Deep.AppendLies
namespace Go.Proofs.Ytimhokilicogdaa
open Go.ChangeShapes Go.WideShapes Go.ChangeAt Go.RowKit Go.Deep
set_option linter.unusedVariables false
set_option linter.unusedSimpArgs false
def chv (cs : List Ch) : List Value := cs.flatMap Ch.cells
theorem chv_length : ∀ cs : List Ch, (chv cs).length = cs.length * 5
  | [] => rfl
  | c :: l => by
    have := chv_length l
    simp only [chv, List.flatMap_cons, List.length_append, List.length_cons] at *
    rw [this, show c.cells.length = 5 from rfl]; omega
theorem chv_append (a b : List Ch) : chv (a ++ b) = chv a ++ chv b := by simp [chv]
theorem chv_get : ∀ (cs : List Ch) (k j : Nat) (h : k < cs.length), j < 5 → (chv cs)[k * 5 + j]? = cs[k].cells[j]?
  | c :: l, 0, j, h, hj => by
    show (c.cells ++ chv l)[0 * 5 + j]? = _
    rw [List.getElem?_append_left (by show _ < 5; omega)]
    simp
  | c :: l, k + 1, j, h, hj => by
    show (c.cells ++ chv l)[(k + 1) * 5 + j]? = _
    rw [List.getElem?_append_right (by show 5 ≤ _; omega), show (k + 1) * 5 + j - c.cells.length = k * 5 + j from by show _ - 5 = _; omega]
    exact chv_get l k j (by simpa using h) hj
theorem chv_one : ∀ (cs : List Ch), ∀ u ∈ chv cs, u.oneCell' = true := by
  intro cs u hu
  simp only [chv, List.mem_flatMap, Ch.cells] at hu
  obtain ⟨c, _, hu⟩ := hu
  simp at hu
  rcases hu with rfl | rfl | rfl | rfl | rfl <;> rfl
/-- the cells of some chunks, read one by one -/
theorem chv_cells {w : World} {B x : Nat} {cs : List Ch} (h : ∀ j (h : j < cs.length), w.rangeAt B (x + j * 5) cs[j].cells) : ∀ j u, (chv cs)[j]? = some u → w.cell? ((⟨B, x, none⟩ : Addr).add j) = some u := by
  intro j u hu
  have hj : j < (chv cs).length := (List.getElem?_eq_some_iff.1 hu).1
  rw [chv_length] at hj
  have e : j = j / 5 * 5 + j % 5 := by omega
  have hk : j / 5 < cs.length := by omega
  rw [e, chv_get cs (j / 5) (j % 5) hk (by omega)] at hu
  have := h (j / 5) hk (j % 5) u hu
  rw [addr_add]
  rw [show x + j = x + j / 5 * 5 + j % 5 from by omega]
  exact this
/-- chunks that a call has made -/
def OwnC (w : World) (b0 g cap : Nat) (cs : List Ch) : Prop := w.ownsRow b0 47 5 (.slice (some ⟨g, 0, none⟩) cs.length cap) cs.length (chv cs)
theorem OwnC.chs {w : World} {b0 g cap : Nat} {cs : List Ch} (h : OwnC w b0 g cap cs) (hl : cs.length ≤ 9223372036854775807) : ChsIn w (.slice (some ⟨g, 0, none⟩) cs.length cap) cs := by
  by_cases h0 : cs.length = 0
  · exact .inl ⟨List.eq_nil_of_length_eq_zero h0, _, _, by rw [h0]⟩
  · refine .inr ⟨g, 0, cap, rfl, (h.lt g rfl).2, by omega, hl, fun j hj i u hu => ?_⟩
    have hi : i < 5 := (List.getElem?_eq_some_iff.1 hu).1
    have := h.cellAt (j * 5 + i) (by omega)
    rw [Nat.zero_add, this, chv_get cs j i hj hi, hu]
theorem OwnC.le {w : World} {b0 g cap : Nat} {cs : List Ch} (h : OwnC w b0 g cap cs) : cs.length ≤ cap := by
  rcases h.2 with ⟨h1, _⟩ | ⟨g', cap', cur, h1, _, _, h2, _⟩
  · simp at h1
  · injection h1 with _ _ h3
    omega
theorem info47 : (Try.prog.info? 47).map (fun i => (i.zero.map (·.cells.size), i.size, i.bytes)) = some (some 5, 5, 56) := by kernel_rfl
end Go.Proofs.Ytimhokilicogdaa
