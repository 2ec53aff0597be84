/- The sync seat: a copy of the document's state: what its steps keep. -/
import Derived.Test.YthegnnifbgikmaaR1
set_option linter.unusedVariables false
set_option linter.unusedSimpArgs false
namespace Go.Proofs.Ythegnnifbgikmaa
open Go.X

theorem T50 : SlT Try.prog 50 29 1 24 [.slice none 0 0] := ⟨by kernel_rfl, by kernel_rfl⟩
theorem T51 : SlT Try.prog 51 28 1 24 [.slice none 0 0] := ⟨by kernel_rfl, by kernel_rfl⟩
/-- nothing is too long to be appended to -/
structure RR.small (R : RR) : Prop where
  o : R.owners.length ≤ 1000000
  c : R.conds.length ≤ 1000000
  r : R.rooms.length ≤ 1000000
  s : R.sent.length ≤ 1000000
  t : R.taken.length ≤ 1000000
  ci : ∀ xs ∈ R.conds, xs.length ≤ 1000000
  si : ∀ xs ∈ R.sent, xs.length ≤ 1000000
def zero5 : List Value := [.slice none 0 0, .slice none 0 0, .slice none 0 0, .slice none 0 0, .slice none 0 0]
/-- what stands around the copy: the state in its box, the result's box -/
structure CBase (w0 w : World) (pb rb : Nat) (z : S5) (R : RR) (G : Nat → Prop) (g : Nat → Nat) : Prop where
  box : Blk w pb z.cells 53
  bt : g pb = 0
  res : Blk w rb zero5 53
  rt : g rb = 0
  ne : pb ≠ rb
  ref : RefAt w z R G
  gl : ∀ b, G b → b < w0.heap.size
  old : ∀ b, b < w0.heap.size → g b = 0
  sup : ∀ b, w.heap.size ≤ b → g b = 0
  fr : ∀ D, Fr D w0 w
theorem CBase.step {w0 w w' : World} {pb rb : Nat} {z : S5} {R : RR} {G : Nat → Prop} {g : Nat → Nat} (h : CBase w0 w pb rb z R G g) {k : Nat} (hk : k ≠ 0) (hf : Fr (g · = k) w w') : CBase w0 w' pb rb z R G (retag g w.heap.size w'.heap.size k) where
  box := hf.blk h.box (fun e => by have := h.bt; have e : g pb = k := e; omega)
  bt := by rw [retag_old h.box.lt]; exact h.bt
  res := hf.blk h.res (fun e => by have := h.rt; have e : g rb = k := e; omega)
  rt := by rw [retag_old h.res.lt]; exact h.rt
  ne := h.ne
  ref := h.ref.frame hf (fun b hb e => by have := h.old b (h.gl b hb); have e : g b = k := e; omega)
  gl := h.gl
  old := fun b hb => by rw [retag_old (Nat.lt_of_lt_of_le hb (h.fr (fun _ => False)).size)]; exact h.old b hb
  sup := fun b hb => retag_sup hf.size hb
  fr := fun D => (h.fr D).trans hf (fun _ _ h => h) (fun b hb e => by have := h.old b hb; have e : g b = k := e; omega)
theorem CBase.frame {w0 w w' : World} {pb rb : Nat} {z : S5} {R : RR} {G : Nat → Prop} {g : Nat → Nat} (h : CBase w0 w pb rb z R G g) {D : Nat → Prop} (hf : Fr D w w') (hd : ∀ b, D b → w0.heap.size ≤ b ∧ b ≠ pb ∧ b ≠ rb) : CBase w0 w' pb rb z R G g where
  box := hf.blk h.box (fun e => (hd _ e).2.1 rfl)
  bt := h.bt
  res := hf.blk h.res (fun e => (hd _ e).2.2 rfl)
  rt := h.rt
  ne := h.ne
  ref := h.ref.frame hf (fun b hb e => by have := h.gl b hb; have := (hd b e).1; omega)
  gl := h.gl
  old := h.old
  sup := fun b hb => h.sup b (Nat.le_trans hf.size hb)
  fr := fun D' => (h.fr D').trans hf (fun _ _ h => h) (fun b hb e => by have := (hd b e).1; omega)
structure CInv (w0 w : World) (pb rb : Nat) (z : S5) (R : RR) (G : Nat → Prop) (g : Nat → Nat) (fa fb fc : Option (Sl × List Int)) (fd : Option Nat) : Prop where
  base : CBase w0 w pb rb z R G g
  a : ∀ s xs, fa = some (s, xs) → OwnI w 3 s xs (g · = 2)
  b : ∀ s xs, fb = some (s, xs) → OwnI w 3 s xs (g · = 4)
  c : ∀ s xs, fc = some (s, xs) → OwnI w 3 s xs (g · = 6)
  d : ∀ k, fd = some k → Blk w k zero5 53 ∧ g k = 1
section
variable {w0 w w' : World} {pb rb : Nat} {z : S5} {R : RR} {G : Nat → Prop} {g : Nat → Nat} {fa fb fc : Option (Sl × List Int)} {fd : Option Nat} {s' : Sl} {xs' : List Int}
theorem own_new {j : Nat} {t : TypeId} (hf : Fr (g · = j) w w') (ho : OwnI w' t s' xs' (fun b => g b = j ∨ w.heap.size ≤ b)) : OwnI w' t s' xs' (retag g w.heap.size w'.heap.size j · = j) :=
  ho.mono (fun b hb hh => by
    show retag g _ _ _ b = j
    rcases Nat.lt_or_ge b w.heap.size with h | h
    · rw [retag_old h]; rcases hh with hh | hh; exact hh; omega
    · rw [retag_new h hb])
theorem CInv.stepA (h : CInv w0 w pb rb z R G g fa fb fc fd) (hf : Fr (g · = 2) w w') (ho : OwnI w' 3 s' xs' (fun b => g b = 2 ∨ w.heap.size ≤ b)) : CInv w0 w' pb rb z R G (retag g w.heap.size w'.heap.size 2) (some (s', xs')) fb fc fd where
  base := h.base.step (by decide) hf
  a := fun s xs e => by cases e; exact own_new hf ho
  b := fun s xs e => Own.retag (h.b s xs e) hf (fun b hb e => by omega)
  c := fun s xs e => Own.retag (h.c s xs e) hf (fun b hb e => by omega)
  d := fun k e => by obtain ⟨h1, h2⟩ := h.d k e; exact ⟨hf.blk h1 (fun e => by have e : g k = 2 := e; omega), by rw [retag_old h1.lt]; exact h2⟩
theorem CInv.stepB (h : CInv w0 w pb rb z R G g fa fb fc fd) (hf : Fr (g · = 4) w w') (ho : OwnI w' 3 s' xs' (fun b => g b = 4 ∨ w.heap.size ≤ b)) : CInv w0 w' pb rb z R G (retag g w.heap.size w'.heap.size 4) fa (some (s', xs')) fc fd where
  base := h.base.step (by decide) hf
  b := fun s xs e => by cases e; exact own_new hf ho
  a := fun s xs e => Own.retag (h.a s xs e) hf (fun b hb e => by omega)
  c := fun s xs e => Own.retag (h.c s xs e) hf (fun b hb e => by omega)
  d := fun k e => by obtain ⟨h1, h2⟩ := h.d k e; exact ⟨hf.blk h1 (fun e => by have e : g k = 4 := e; omega), by rw [retag_old h1.lt]; exact h2⟩
theorem CInv.stepC (h : CInv w0 w pb rb z R G g fa fb fc fd) (hf : Fr (g · = 6) w w') (ho : OwnI w' 3 s' xs' (fun b => g b = 6 ∨ w.heap.size ≤ b)) : CInv w0 w' pb rb z R G (retag g w.heap.size w'.heap.size 6) fa fb (some (s', xs')) fd where
  base := h.base.step (by decide) hf
  c := fun s xs e => by cases e; exact own_new hf ho
  a := fun s xs e => Own.retag (h.a s xs e) hf (fun b hb e => by omega)
  b := fun s xs e => Own.retag (h.b s xs e) hf (fun b hb e => by omega)
  d := fun k e => by obtain ⟨h1, h2⟩ := h.d k e; exact ⟨hf.blk h1 (fun e => by have e : g k = 6 := e; omega), by rw [retag_old h1.lt]; exact h2⟩
theorem CInv.stepD (h : CInv w0 w pb rb z R G g fa fb fc fd) : CInv w0 (w.alloc (.cells #[.slice none 0 0, .slice none 0 0, .slice none 0 0, .slice none 0 0, .slice none 0 0] 53)) pb rb z R G
    (retag g w.heap.size (w.alloc (.cells #[.slice none 0 0, .slice none 0 0, .slice none 0 0, .slice none 0 0, .slice none 0 0] 53)).heap.size 1) fa fb fc (some w.heap.size) := by
  have hf : Fr (g · = 1) w (w.alloc (.cells #[.slice none 0 0, .slice none 0 0, .slice none 0 0, .slice none 0 0, .slice none 0 0] 53)) := Fr.alloc _ _ _
  have hb : Blk (w.alloc (.cells #[.slice none 0 0, .slice none 0 0, .slice none 0 0, .slice none 0 0, .slice none 0 0] 53)) w.heap.size zero5 53 := Blk.new w _ _
  exact {
    base := h.base.step (by decide) hf
    a := fun s xs e => Own.retag (h.a s xs e) hf (fun b hb e => by omega)
    b := fun s xs e => Own.retag (h.b s xs e) hf (fun b hb e => by omega)
    c := fun s xs e => Own.retag (h.c s xs e) hf (fun b hb e => by omega)
    d := fun k e => by cases e; exact ⟨hb, retag_new (Nat.le_refl _) hb.lt⟩ }

/-- one more list of waiting threads -/
theorem RefOwn.addCond {w2 w4 : World} {z : S5} {R : RR} {qc qs : List Sl} (h : RefOwn w z R g qc qs) {q : Sl} {xs : List Int} {a' : Option Addr} {l' c' : Nat} (hf1 : ∀ D, Fr D w w2) (hq : OwnI w2 3 q xs (fun b => w.heap.size ≤ b))
    (ho : Own w4 1 29 a' l' c' (qc.map Sl.v ++ [q.v]) (fun b => (g b = 3 ∧ b < w.heap.size) ∨ w2.heap.size ≤ b)) (hf2 : Fr (fun b => g b = 3 ∧ b < w.heap.size) w2 w4) :
    RefOwn w4 { z with c := ⟨a', l', c'⟩ } { R with conds := R.conds ++ [xs] } (retag (retag g w.heap.size w2.heap.size (7 + 2 * qc.length)) w2.heap.size w4.heap.size 3) (qc ++ [q]) qs := by
  have e1 := (hf1 (fun _ => False)).size
  have e2 := hf2.size
  have tag : ∀ b, b < w.heap.size → retag (retag g w.heap.size w2.heap.size (7 + 2 * qc.length)) w2.heap.size w4.heap.size 3 b = g b := fun b hb => by rw [retag_old (by omega), retag_old hb]
  have keep : ∀ {z : Nat} {t : TypeId} {a : Option Addr} {l c : Nat} {cs : List Value} {j : Nat}, j ≠ 3 → Own w z t a l c cs (g · = j) → Own w4 z t a l c cs (retag (retag g w.heap.size w2.heap.size (7 + 2 * qc.length)) w2.heap.size w4.heap.size 3 · = j) := by
    intro z t a l c cs j hj ho
    have h1 := ho.mono (G' := fun b => g b = j ∧ b < w.heap.size) (fun b hb hg => ⟨hg, hb⟩)
    exact ((h1.frame (hf1 (fun _ => False)) (fun _ _ h => h)).frame hf2 (fun b hb e => by omega)).mono (fun b _ hb => by rw [tag b hb.2]; exact hb.1)
  exact {
    o := keep (by decide) h.o
    c := by
      have := ho.mono (G' := fun b => retag (retag g w.heap.size w2.heap.size (7 + 2 * qc.length)) w2.heap.size w4.heap.size 3 b = 3) (fun b hb hh => by
        rcases hh with hh | hh
        · rw [tag b hh.2]; exact hh.1
        · exact retag_new hh hb)
      simpa using this
    r := keep (by decide) h.r
    s := keep (by decide) h.s
    t := keep (by decide) h.t
    nc := by simp [h.nc]
    ns := h.ns
    ci := fun i s xs' hs hx => by
      by_cases hi : i < qc.length
      · rw [List.getElem?_append_left hi] at hs
        rw [List.getElem?_append_left (by rw [← h.nc]; exact hi)] at hx
        exact keep (by omega) (h.ci i s xs' hs hx)
      · have he : i = qc.length := by
          have := (List.getElem?_eq_some_iff.1 hs).1
          simp at this; omega
        subst he
        rw [List.getElem?_append_right (Nat.le_refl _)] at hs
        rw [List.getElem?_append_right (by rw [h.nc]; exact Nat.le_refl _)] at hx
        simp [h.nc] at hs hx
        subst hs; subst hx
        have h1 := hq.mono (G' := fun b => w.heap.size ≤ b ∧ b < w2.heap.size) (fun b hb hg => ⟨hg, hb⟩)
        exact (Own.frame h1 hf2 (fun b hb e => by omega)).mono (fun b _ hb => by rw [retag_old hb.2, retag_new hb.1 hb.2])
    si := fun i s xs' hs hx => keep (by omega) (h.si i s xs' hs hx)
    sup := fun b hb => retag_sup e2 hb }
/-- one more list of values -/
theorem RefOwn.addSent {w2 w4 : World} {z : S5} {R : RR} {qc qs : List Sl} (h : RefOwn w z R g qc qs) {q : Sl} {xs : List Int} {a' : Option Addr} {l' c' : Nat} (hf1 : ∀ D, Fr D w w2) (hq : OwnI w2 2 q xs (fun b => w.heap.size ≤ b))
    (ho : Own w4 1 28 a' l' c' (qs.map Sl.v ++ [q.v]) (fun b => (g b = 5 ∧ b < w.heap.size) ∨ w2.heap.size ≤ b)) (hf2 : Fr (fun b => g b = 5 ∧ b < w.heap.size) w2 w4) :
    RefOwn w4 { z with s := ⟨a', l', c'⟩ } { R with sent := R.sent ++ [xs] } (retag (retag g w.heap.size w2.heap.size (8 + 2 * qs.length)) w2.heap.size w4.heap.size 5) qc (qs ++ [q]) := by
  have e1 := (hf1 (fun _ => False)).size
  have e2 := hf2.size
  have tag : ∀ b, b < w.heap.size → retag (retag g w.heap.size w2.heap.size (8 + 2 * qs.length)) w2.heap.size w4.heap.size 5 b = g b := fun b hb => by rw [retag_old (by omega), retag_old hb]
  have keep : ∀ {z : Nat} {t : TypeId} {a : Option Addr} {l c : Nat} {cs : List Value} {j : Nat}, j ≠ 5 → Own w z t a l c cs (g · = j) → Own w4 z t a l c cs (retag (retag g w.heap.size w2.heap.size (8 + 2 * qs.length)) w2.heap.size w4.heap.size 5 · = j) := by
    intro z t a l c cs j hj ho
    have h1 := ho.mono (G' := fun b => g b = j ∧ b < w.heap.size) (fun b hb hg => ⟨hg, hb⟩)
    exact ((h1.frame (hf1 (fun _ => False)) (fun _ _ h => h)).frame hf2 (fun b hb e => by omega)).mono (fun b _ hb => by rw [tag b hb.2]; exact hb.1)
  exact {
    o := keep (by decide) h.o
    s := by
      have := ho.mono (G' := fun b => retag (retag g w.heap.size w2.heap.size (8 + 2 * qs.length)) w2.heap.size w4.heap.size 5 b = 5) (fun b hb hh => by
        rcases hh with hh | hh
        · rw [tag b hh.2]; exact hh.1
        · exact retag_new hh hb)
      simpa using this
    r := keep (by decide) h.r
    c := keep (by decide) h.c
    t := keep (by decide) h.t
    ns := by simp [h.ns]
    nc := h.nc
    si := fun i s xs' hs hx => by
      by_cases hi : i < qs.length
      · rw [List.getElem?_append_left hi] at hs
        rw [List.getElem?_append_left (by rw [← h.ns]; exact hi)] at hx
        exact keep (by omega) (h.si i s xs' hs hx)
      · have he : i = qs.length := by
          have := (List.getElem?_eq_some_iff.1 hs).1
          simp at this; omega
        subst he
        rw [List.getElem?_append_right (Nat.le_refl _)] at hs
        rw [List.getElem?_append_right (by rw [h.ns]; exact Nat.le_refl _)] at hx
        simp [h.ns] at hs hx
        subst hs; subst hx
        have h1 := hq.mono (G' := fun b => w.heap.size ≤ b ∧ b < w2.heap.size) (fun b hb hg => ⟨hg, hb⟩)
        exact (Own.frame h1 hf2 (fun b hb e => by omega)).mono (fun b _ hb => by rw [retag_old hb.2, retag_new hb.1 hb.2])
    ci := fun i s xs' hs hx => keep (by omega) (h.ci i s xs' hs hx)
    sup := fun b hb => retag_sup e2 hb }
end
end Go.Proofs.Ythegnnifbgikmaa
