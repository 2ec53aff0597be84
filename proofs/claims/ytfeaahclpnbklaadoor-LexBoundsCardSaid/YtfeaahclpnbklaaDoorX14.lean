/- Loops over functions, deferred blocks shut: in terms of owned parts. -/
import Derived.Test.YtfeaahclpnbklaaDoorX13
set_option linter.unusedVariables false
set_option linter.unusedSimpArgs false
namespace Go.X
section
variable {w w' : World} {L : List Assn} {l n : Nat} {r : Loop}
theorem Sep.loop (h : Sep w (loopA l r :: L)) : LoopIs w l r := h.at0.choose_spec.1
theorem Sep.setLoop (h : Sep w (loopA l r :: L)) (r' : Loop) : Sep (X.setLoop w l r') (loopA l r' :: L) := by
  obtain ⟨G, hG, hA, hr⟩ := h.use
  exact hr _ (loopA l r') ((Fr.setLoop w l r').mono fun b _ e => e ▸ hA.2) ⟨hA.1.setLoop r', .inl hA.2⟩
theorem Sep.newLoop (h : Sep w L) (r : Loop) : Sep ((w.alloc (.deferred (some []))).alloc (.loop r)) (loopA (w.heap.size + 1) r :: L) := by
  have h1 := h.ext (fun D => Fr.alloc D w (.deferred (some [])))
  refine h1.add (fun D => Fr.alloc D _ _) ⟨?_, by simp⟩
  have := LoopIs.new (w.alloc (.deferred (some []))) r
  simpa using this
theorem ShutD.ex {w0 : World} (hs : ShutD n w w') (he : Ex w0 w) (hn : w0.heap.size ≤ n) : Ex w0 w' :=
  fun D => (he D).trans hs.fr' (fun _ _ h => h) (fun b hb hb' => by have hb' : n ≤ b := hb'; omega)
theorem Ex.size (h : Ex w w') : w.heap.size ≤ w'.heap.size := (h (fun _ => False)).size
theorem Ex.sep (h : Ex w w') (hs : Sep w L) : Sep w' L := hs.ext h
end
end Go.X
