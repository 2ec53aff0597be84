/- The sync seat: the document's New. -/
import Derived.Test.YthegnnifbgikmaaR12
set_option linter.unusedVariables false
set_option linter.unusedSimpArgs false
namespace Go.Proofs.Ythegnnifbgikmaa
open Go.X

def RR.new (m c : Int) (rooms : List Int) : RR := ⟨List.replicate m.toNat (-1), List.replicate c.toNat [], rooms, List.replicate rooms.length [], List.replicate rooms.length 0⟩
def RR.zero : RR := ⟨[], [], [], [], []⟩
/-- a state in the making, in box d; the result's box is empty yet -/
structure NI (w u : World) (rb d : Nat) (z' : S5) (R' : RR) (g : Nat → Nat) (qc qs : List Sl) : Prop where
  dst : Blk u d z'.cells 53
  res : Blk u rb zero5 53
  own : RefOwn u z' R' g qc qs
  dz : g d = 0
  rz : g rb = 0
  old : ∀ b, b < w.heap.size → g b = 0
  dw : w.heap.size ≤ d
  rw_ : w.heap.size ≤ rb
  ne : d ≠ rb
  fr : ∀ D, Fr D w u
section
variable {w u u' : World} {rb d : Nat} {z' : S5} {R' R2 : RR} {g g' : Nat → Nat} {qc qs qc' qs' : List Sl}
theorem NI.turn (h : NI w u rb d z' R' g qc qs) (hf : Fr (fun b => g b ≠ 0) u u') (hg : ∀ b, b < u.heap.size → g' b = g b) {z2 : S5} (hown : RefOwn u' z2 R2 g' qc' qs') {u2 : World} (hd : Blk u2 d z2.cells 53) (hf2 : Fr (fun b => b = d) u' u2) : NI w u2 rb d z2 R2 g' qc' qs' := by
  have e1 := (h.fr (fun _ => False)).size
  have e2 := hf.size
  have hgd : g' d = 0 := by rw [hg _ h.dst.lt]; exact h.dz
  exact { dst := hd, res := hf2.blk (hf.blk h.res (fun e => e h.rz)) (fun e => h.ne e.symm), own := hown.frame hf2 (fun b e => by subst e; omega), dz := hgd, rz := by rw [hg _ h.res.lt]; exact h.rz
          old := fun b hb => by rw [hg b (by omega)]; exact h.old b hb, dw := h.dw, rw_ := h.rw_, ne := h.ne
          fr := fun D => ((h.fr D).trans hf (fun _ _ h => h) (fun b hb e => absurd (h.old b hb) e)).trans hf2 (fun _ _ h => h) (fun b hb e => by have := h.dw; omega) }
end
end Go.Proofs.Ythegnnifbgikmaa
