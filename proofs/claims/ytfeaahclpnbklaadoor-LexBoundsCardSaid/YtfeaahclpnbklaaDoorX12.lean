/- What is read as data: numbers, texts, structs, slices of them. -/
import Derived.Test.YtfeaahclpnbklaaDoorX11
set_option linter.unusedVariables false
set_option linter.unusedSimpArgs false
namespace Go.X

/-- cells that stand for a datum -/
structure Rep (α : Type) where
  z : Nat
  p : World → (Nat → Prop) → List Value → α → Prop
  len : ∀ {w : World} {G : Nat → Prop} {cs : List Value} {x : α}, p w G cs x → cs.length = z
  frame : ∀ {w w' : World} {G D : Nat → Prop} {cs : List Value} {x : α}, p w G cs x → Fr D w w' → (∀ b, G b → ¬ D b) → p w' G cs x
  mono : ∀ {w : World} {G G' : Nat → Prop} {cs : List Value} {x : α}, p w G cs x → (∀ b, b < w.heap.size → G b → G' b) → p w G' cs x
def Rep.int (k : IntKind) : Rep Int where
  z := 1
  p := fun _ _ cs x => cs = [.int k x]
  len := fun h => by subst h; rfl
  frame := fun h _ _ => h
  mono := fun h _ => h
def Rep.str : Rep ByteArray where
  z := 1
  p := fun _ _ cs x => cs = [.string x]
  len := fun h => by subst h; rfl
  frame := fun h _ _ => h
  mono := fun h _ => h
def Rep.bool : Rep Bool where
  z := 1
  p := fun _ _ cs x => cs = [.bool x]
  len := fun h => by subst h; rfl
  frame := fun h _ _ => h
  mono := fun h _ => h
/-- a slice that reads -/
def SlR {α : Type} (R : Rep α) (w : World) (G : Nat → Prop) (s : Sl) (xs : List α) : Prop :=
  s.l = xs.length ∧ s.l ≤ s.c ∧ ∃ rows : List (List Value), rows.length = xs.length ∧ Rd w s.a rows.flatten G ∧ ∀ (i : Nat) (row : List Value) (x : α), rows[i]? = some row → xs[i]? = some x → R.p w G row x
section
variable {α : Type} {R : Rep α} {w w' : World} {G G' D : Nat → Prop} {s : Sl} {xs : List α}
theorem SlR.frame (h : SlR R w G s xs) (hf : Fr D w w') (hd : ∀ b, G b → ¬ D b) : SlR R w' G s xs := by
  obtain ⟨h1, h2, rows, h3, h4, h5⟩ := h
  exact ⟨h1, h2, rows, h3, h4.frame hf hd, fun i row x hr hx => R.frame (h5 i row x hr hx) hf hd⟩
theorem SlR.mono (h : SlR R w G s xs) (hm : ∀ b, b < w.heap.size → G b → G' b) : SlR R w G' s xs := by
  obtain ⟨h1, h2, rows, h3, h4, h5⟩ := h
  exact ⟨h1, h2, rows, h3, h4.mono hm, fun i row x hr hx => R.mono (h5 i row x hr hx) hm⟩
theorem SlR.old (h : SlR R w G s xs) (hf : ∀ D, Fr D w w') : SlR R w' (fun _ => True) s xs :=
  ((h.mono (G' := fun b => b < w.heap.size) (fun b hb _ => hb)).frame (hf (fun _ => False)) (fun _ _ h => h)).mono (fun _ _ _ => trivial)
theorem SlR.len (h : SlR R w G s xs) : s.l = xs.length := h.1
theorem SlR.nil (w : World) (G : Nat → Prop) : SlR R w G ⟨none, 0, 0⟩ [] := ⟨rfl, Nat.le_refl _, [], rfl, .inl rfl, fun i row x hr => by simp at hr⟩
theorem flatten_get : ∀ {rows : List (List Value)} {z : Nat}, (∀ row ∈ rows, row.length = z) → ∀ {i j : Nat} {row : List Value} {v : Value}, rows[i]? = some row → row[j]? = some v → rows.flatten[i * z + j]? = some v
  | r0 :: rows, z, hz, 0, j, row, v, h, hv => by
    simp at h; subst h
    rw [List.flatten_cons, Nat.zero_mul, Nat.zero_add, List.getElem?_append_left (List.getElem?_eq_some_iff.1 hv).1]; exact hv
  | r0 :: rows, z, hz, i + 1, j, row, v, h, hv => by
    have h0 := hz r0 (by simp)
    rw [List.flatten_cons, List.getElem?_append_right (by rw [h0, Nat.add_mul]; omega), h0, show (i + 1) * z + j - z = i * z + j by rw [Nat.add_mul]; omega]
    exact flatten_get (fun row hr => hz row (by simp [hr])) (by simpa using h) hv
  | [], _, _, _, _, _, _, h, _ => by simp at h
theorem cellsAt_of {w : World} {p : Addr} : ∀ {row : List Value} {i : Nat}, (∀ j v, row[j]? = some v → w.cell? (p.add (i + j)) = some v) → cellsAt w p i row
  | [], _, _ => trivial
  | v :: r, i, h => ⟨by have := h 0 v rfl; simpa using this, cellsAt_of fun j u hu => by have := h (j + 1) u (by simpa using hu); rwa [show i + (j + 1) = i + 1 + j by omega] at this⟩
theorem addr_add (p : Addr) (a b : Nat) : (p.add a).add b = p.add (a + b) := by
  unfold Addr.add
  rcases p with ⟨blk, off, sp⟩
  cases sp with
  | none => simp only; split <;> split <;> (try split) <;> simp_all [Nat.add_assoc] <;> omega
  | some q => simp only; split <;> split <;> (try split) <;> simp_all [Nat.add_assoc] <;> omega
/-- the i-th element -/
theorem SlR.nth (h : SlR R w G s xs) {i : Nat} {x : α} (hx : xs[i]? = some x) (hz : 0 < R.z) : ∃ p row, s.a = some p ∧ R.p w G row x ∧ cellsAt w (p.add (i * R.z)) 0 row := by
  obtain ⟨h1, h2, rows, h3, h4, h5⟩ := h
  have hi : i < rows.length := by rw [h3]; exact (List.getElem?_eq_some_iff.1 hx).1
  have hrow := h5 i _ x (List.getElem?_eq_getElem hi) hx
  have hall : ∀ row ∈ rows, row.length = R.z := fun row hr => by
    obtain ⟨j, hj, rfl⟩ := List.getElem_of_mem hr
    exact R.len (h5 j _ (xs[j]'(by omega)) (List.getElem?_eq_getElem hj) (List.getElem?_eq_getElem (by omega)))
  have hl := R.len hrow
  obtain ⟨p, hp, -, -⟩ := h4.isSome (flatten_get hall (List.getElem?_eq_getElem hi) (List.getElem?_eq_getElem (show 0 < rows[i].length by omega)))
  rw [hp] at h4
  refine ⟨p, rows[i], hp, hrow, cellsAt_of fun j v hv => ?_⟩
  rw [Nat.zero_add, addr_add]
  exact h4.cell (flatten_get hall (List.getElem?_eq_getElem hi) hv)
end
/-- a slice, as a datum -/
def Rep.slice {α : Type} (R : Rep α) : Rep (List α) where
  z := 1
  p := fun w G cs xs => ∃ s : Sl, cs = [s.v] ∧ SlR R w G s xs
  len := fun ⟨s, h, _⟩ => by subst h; rfl
  frame := fun ⟨s, h, hs⟩ hf hd => ⟨s, h, hs.frame hf hd⟩
  mono := fun ⟨s, h, hs⟩ hm => ⟨s, h, hs.mono hm⟩
theorem SlR.int {k : IntKind} {w : World} {G : Nat → Prop} {s : Sl} {xs : List Int} (h : SlR (.int k) w G s xs) {i : Nat} (hi : i < xs.length) : ∃ p, s.a = some p ∧ w.cell? (p.add i) = some (.int k xs[i]) := by
  obtain ⟨p, row, hp, hr, hc⟩ := h.nth (List.getElem?_eq_getElem hi) (Nat.le_refl 1)
  have hr : row = [.int k xs[i]] := hr
  subst hr
  refine ⟨p, hp, ?_⟩
  have := hc.1
  rw [show (Rep.int k).z = 1 from rfl, Nat.mul_one, addr_add, Nat.add_zero] at this
  exact this
theorem flatten_ints : ∀ xs : List Int, (xs.map fun x => [Value.int .i64 x]).flatten = ints xs
  | [] => rfl
  | x :: r => by rw [List.map_cons, List.flatten_cons, flatten_ints r]; rfl
/-- numbers of an owned row read -/
theorem SlR.of_ints {w : World} {t : TypeId} {s : Sl} {xs : List Int} {G : Nat → Prop} (h : OwnI w t s xs G) : SlR (.int .i64) w G s xs := by
  refine ⟨h.len, h.2.1, xs.map fun x => [.int .i64 x], by simp, ?_, fun i row x hr hx => ?_⟩
  · rw [flatten_ints]; exact h.rd
  · simp only [List.getElem?_map, hx, Option.map_some, Option.some.injEq] at hr
    exact hr.symm
/-! ### nothing old has changed -/
abbrev Ex (w u : World) : Prop := ∀ D, Fr D w u
theorem Ex.refl (w : World) : Ex w w := fun D => Fr.refl D w
theorem Ex.trans {w u v : World} (h : Ex w u) (h' : Ex u v) : Ex w v := fun D => (h D).trans (h' D) (fun _ _ h => h) (fun _ _ h => h)
theorem Ex.drew (w : World) : Ex w w.drew := fun D => Fr.drew D w
theorem Ex.alloc (w : World) (o : Obj) : Ex w (w.alloc o) := fun D => Fr.alloc D w o
theorem Ex.cell {w u : World} (h : Ex w u) {p : Addr} {v : Value} (hc : w.cell? p = some v) : u.cell? p = some v := (h (fun _ => False)).cell hc (fun h => h)
theorem Ex.blk {w u : World} (h : Ex w u) {b : Nat} {B : List Value} {t : TypeId} (hb : Blk w b B t) : Blk u b B t := (h (fun _ => False)).blk hb (fun h => h)
theorem Ex.cells {w u : World} (h : Ex w u) {p : Addr} : ∀ {i : Nat} {vs : List Value}, cellsAt w p i vs → cellsAt u p i vs
  | _, [], _ => trivial
  | i, v :: r, hc => ⟨h.cell hc.1, h.cells hc.2⟩
theorem Ex.rep {α : Type} {R : Rep α} {w u : World} (h : Ex w u) {G : Nat → Prop} {cs : List Value} {x : α} (hr : R.p w G cs x) : R.p u (fun _ => True) cs x :=
  R.mono (R.frame (R.mono (G' := fun b => b < w.heap.size) hr (fun b hb _ => hb)) (h (fun _ => False)) (fun _ _ h => h)) (fun _ _ _ => trivial)
theorem Sep.ex {w w0 : World} {L : List Assn} (h : Sep w L) (i : Nat) (hi : L[i]? = some (oldA w0)) : Ex w0 w := h.old i hi
end Go.X
