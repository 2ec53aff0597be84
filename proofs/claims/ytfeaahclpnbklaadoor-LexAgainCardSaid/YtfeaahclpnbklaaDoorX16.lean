/- Owned parts by their places in the list; a loop whose measure is not to be read from the world. -/
import Derived.Test.YtfeaahclpnbklaaDoorX14
set_option linter.unusedVariables false
set_option linter.unusedSimpArgs false
namespace Go.X
theorem insert_erase {α : Type} (x : α) : ∀ (L : List α) (i : Nat), i < L.length → (L.eraseIdx i).insertIdx i x = L.set i x
  | [], i, h => by simp at h
  | a :: L, 0, _ => by simp
  | a :: L, i + 1, h => by simp [insert_erase x L i (by simpa using h)]
section
variable {w : World} {L : List Assn}
/-- part i is worked on: it comes to the front, and goes back changed -/
theorem Sep.back (i : Nat) {A A' : Assn} (hi : L[i]? = some A) {w' : World} (h : Sep w' (A' :: L.eraseIdx i)) : Sep w' (L.set i A') := by
  have hl : i < L.length := (List.getElem?_eq_some_iff.1 hi).1
  have := h.behind i (by rw [List.length_eraseIdx]; split <;> omega)
  rwa [insert_erase _ _ _ hl] at this
theorem Sep.blkAt (h : Sep w L) (i : Nat) {b : Nat} {V : List Value} {t : TypeId} (hi : L[i]? = some (bx b V t)) : Blk w b V t := (h.at_ i hi).choose_spec.1
theorem Sep.putAt (h : Sep w L) (i : Nat) {b : Nat} {V : List Value} {t : TypeId} (hi : L[i]? = some (bx b V t)) {o : Nat} {v : Value} (ho : o < V.length) {K : World → Prop}
    (hK : ∀ w', w'.heap.size = w.heap.size → Sep w' (L.set i (bx b (V.set o v) t)) → K w') : storeP w ⟨b, o, none⟩ v K :=
  (h.front i hi).put ho fun w' hs h' => hK w' hs (h'.back i hi)
theorem Sep.rowPutAt (h : Sep w L) (i : Nat) {z : Nat} {t : TypeId} {s : Sl} {cs : List Value} (hi : L[i]? = some (row z t s cs)) {j : Nat} {v : Value} (hj : j < cs.length) {p : Addr} (hp : s.a = some p) {K : World → Prop}
    (hK : ∀ w', w'.heap.size = w.heap.size → Sep w' (L.set i (row z t s (cs.set j v))) → K w') : storeP w (p.add j) v K :=
  (h.front i hi).rowPut hj hp fun w' hs h' => hK w' hs (h'.back i hi)
theorem Sep.rowAt (h : Sep w L) (i : Nat) {z : Nat} {t : TypeId} {s : Sl} {cs : List Value} (hi : L[i]? = some (row z t s cs)) : ∃ G, Rd w s.a cs G ∧ s.l ≤ s.c ∧ cs.length = s.l * z := (h.front i hi).rowRd
theorem Sep.rowCellAt (h : Sep w L) (i : Nat) {z : Nat} {t : TypeId} {s : Sl} {cs : List Value} (hi : L[i]? = some (row z t s cs)) {j : Nat} {v : Value} (hv : cs[j]? = some v) : ∃ p, s.a = some p ∧ w.cell? (p.add j) = some v := by
  obtain ⟨G, hr, _, _⟩ := h.rowAt i hi
  obtain ⟨p, hp, _, hc⟩ := hr.isSome hv
  exact ⟨p, hp, hc⟩
theorem Sep.loopAt (h : Sep w L) (i : Nat) {l : Nat} {r : Loop} (hi : L[i]? = some (loopA l r)) : LoopIs w l r := (h.front i hi).loop
theorem Sep.setLoopAt (h : Sep w L) (i : Nat) {l : Nat} {r : Loop} (hi : L[i]? = some (loopA l r)) (r' : Loop) : Sep (X.setLoop w l r') (L.set i (loopA l r')) :=
  ((h.front i hi).setLoop r').back i hi
theorem Sep.persAt (h : Sep w L) (i : Nat) {Γ : List Assn} (hi : L[i]? = some (pers Γ)) : ∃ G, (pers Γ).p w G := h.at_ i hi
theorem Sep.persAt' (h : Sep w L) (i : Nat) {Γ : List Assn} (hi : L[i]? = some (pers Γ)) {A : Assn} (j : Nat) (hj : Γ[j]? = some A) : ∃ G, A.p w G := by
  obtain ⟨G, hG⟩ := h.at_ i hi; exact ⟨G, hG j A hj⟩
theorem Sep.persBlk (h : Sep w L) (i : Nat) {Γ : List Assn} (hi : L[i]? = some (pers Γ)) {b : Nat} {V : List Value} {t : TypeId} (j : Nat) (hj : Γ[j]? = some (bx b V t)) : Blk w b V t := (h.persAt' i hi j hj).choose_spec.1
/-- the head is kept for good, with what is kept at place i -/
theorem Sep.keepAt {A : Assn} (h : Sep w (A :: L)) (i : Nat) {Γ : List Assn} (hi : L[i]? = some (pers Γ)) : Sep w (L.set i (pers (A :: Γ))) := by
  have h1 : Sep w (pers Γ :: A :: L.eraseIdx i) := h.front (i + 1) (by simpa using hi)
  exact h1.to1.keep.back i hi
theorem Sep.forgetAt (h : Sep w L) (i : Nat) {Γ Γ' : List Assn} (hi : L[i]? = some (pers Γ)) (hs : ∀ (i : Nat) (A : Assn), Γ'[i]? = some A → ∃ j : Nat, Γ[j]? = some A) : Sep w (L.set i (pers Γ')) :=
  ((h.front i hi).forget hs).back i hi
theorem Sep.toEnd {A : Assn} (h : Sep w (A :: L)) : Sep w (L ++ [A]) := by
  have := h.behind L.length (Nat.le_refl _)
  rwa [show L.insertIdx L.length A = L ++ [A] from by simp] at this
theorem Sep.dropAt (h : Sep w L) (i : Nat) {A : Assn} (hi : L[i]? = some A) : Sep w (L.eraseIdx i) := (h.front i hi).tail
end
theorem least_nat {p : Nat → Prop} (h : ∃ n, p n) : ∃ n, p n ∧ ∀ m, p m → n ≤ m := by
  classical
  obtain ⟨n, hn⟩ := h
  induction n using Nat.strongRecOn with
  | _ n ih =>
    by_cases hm : ∃ m, m < n ∧ p m
    · obtain ⟨m, hm, hp⟩ := hm; exact ih m hm hp
    · exact ⟨n, hn, fun m hp => by
        rcases Nat.lt_or_ge m n with h | h
        · exact absurd ⟨m, h, hp⟩ hm
        · exact h⟩
/-- a loop that comes down, by a number that the world need not tell -/
theorem ghost_loop {P : World → Nat → Prop} {w : World} {n0 : Nat} {H : (World → Prop) → (World → Nat) → World → Prop} (h0 : P w n0)
    (step : ∀ (I : World → Prop) (μ : World → Nat) (u : World) (n : Nat), P u n → (∀ u' n', P u' n' → n' < n → I u' ∧ μ u' < μ u) → H I μ u) :
    ∃ (I : World → Prop) (μ : World → Nat), I w ∧ ∀ u, I u → H I μ u := by
  classical
  let μ : World → Nat := fun u => if h : ∃ n, P u n then (least_nat h).choose else 0
  have hμ : ∀ u, (∃ n, P u n) → P u (μ u) ∧ ∀ m, P u m → μ u ≤ m := fun u h => by
    have := (least_nat h).choose_spec
    simp only [μ, dif_pos h]
    exact this
  refine ⟨fun u => ∃ n, P u n, μ, ⟨n0, h0⟩, fun u hu => step _ μ u (μ u) (hμ u hu).1 fun u' n' hp hn => ⟨⟨n', hp⟩, Nat.lt_of_le_of_lt ((hμ u' ⟨n', hp⟩).2 n' hp) hn⟩⟩
end Go.X
