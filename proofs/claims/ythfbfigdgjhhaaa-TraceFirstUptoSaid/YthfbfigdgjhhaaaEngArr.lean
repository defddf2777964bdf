/- Arrays in what a row hands to a law, opened. -/
import Derived.Test.YthfbfigdgjhhaaaEngRow
import Derived.OpenShut
set_option linter.all false
namespace Go.Eng
open Go Go.RowKit
/-- A field for an array's element. -/
def arrF (e o : Nat) : Field := { name := "", type := e, offset := o, embedded := false, tag := "", pkgPath := "", byteOffset := 0 }
/-- An array is opened as a record whose fields are its elements. -/
theorem opens_arr {P : Program} {α : Type} {E : Sh α} {t e : TypeId} {n s tot : Nat} (ht : P.underlying t = some (.array n e)) (hc : P.cellsOf t = tot) (hs : P.cellsOf e = s) (fs : List Field) (hl : fs.length = n) (hfs : ∀ (i : Nat) (f : Field), fs[i]? = some f → f.type = e ∧ f.offset = i * s) (h : OpensS P E fs 0 tot) : Opens P E t tot := by
  intro H enc w base spare held fuel cs x hx
  obtain ⟨xs, m, _, rfl, hcl, hxs, hf⟩ := DataW.trod_array ht hx
  obtain ⟨a, h1, h2, h3, h4⟩ := h H enc w base spare held m cs xs (hcl.trans hc) (by omega) fun i f hi => by
    obtain ⟨q1, q2⟩ := hfs i f hi
    have hlt := (List.getElem?_eq_some_iff.1 hi).1
    have := hf i (by omega)
    rw [q1, q2, ← hs]; exact this
  refine ⟨a, by simpa using h1, h2, by simpa using h3, fun B hB => Nat.le_trans (h4 B hB) ?_⟩
  have := hB.agg (xs.map (·.1))
  rw [List.map_map] at this
  exact this
end Go.Eng
