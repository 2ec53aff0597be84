/- Memory as a list of owned parts, apart from one another: what a step does to one of them leaves the others. -/
import Derived.Test.YtfeaahclpnbklaaDoorX9
set_option linter.unusedVariables false
set_option linter.unusedSimpArgs false
namespace Go.X

/-- a part of memory: what holds of a world, seen from the blocks G alone -/
structure Assn where
  p : World → (Nat → Prop) → Prop
  frame : ∀ {w w' : World} {G D : Nat → Prop}, p w G → Fr D w w' → (∀ b, G b → ¬ D b) → p w' G
  mono : ∀ {w : World} {G G' : Nat → Prop}, p w G → (∀ b, b < w.heap.size → G b → G' b) → p w G'
/-- the parts lie apart -/
def Sep (w : World) (L : List Assn) : Prop :=
  ∃ g : Nat → Nat, (∀ b, w.heap.size ≤ b → g b = 0) ∧ ∀ (i : Nat) (A : Assn), L[i]? = some A → A.p w (fun b => g b = i + 1)

/-- a block known whole -/
def bx (b : Nat) (B : List Value) (t : TypeId) : Assn where
  p := fun w G => Blk w b B t ∧ G b
  frame := fun h hf hd => ⟨hf.blk h.1 (hd _ h.2), h.2⟩
  mono := fun h hm => ⟨h.1, hm _ h.1.lt h.2⟩
/-- a row that is owned -/
def row (z : Nat) (t : TypeId) (s : Sl) (cs : List Value) : Assn where
  p := fun w G => Own w z t s.a s.l s.c cs G
  frame := fun h hf hd => Own.frame h hf hd
  mono := fun h hm => Own.mono h hm
/-- a row that reads -/
def rdA (s : Sl) (cs : List Value) : Assn where
  p := fun w G => Rd w s.a cs G
  frame := fun h hf hd => Rd.frame h hf hd
  mono := fun h hm => Rd.mono h hm
/-- things that are read, from the same blocks maybe -/
def pers (Γ : List Assn) : Assn where
  p := fun w G => ∀ (i : Nat) (A : Assn), Γ[i]? = some A → A.p w G
  frame := fun h hf hd i A hA => A.frame (h i A hA) hf hd
  mono := fun h hm i A hA => A.mono (h i A hA) hm
def loopA (l : Nat) (r : Loop) : Assn where
  p := fun w G => LoopIs w l r ∧ G l
  frame := fun h hf hd => ⟨hf.loop h.1 (hd _ h.2), h.2⟩
  mono := fun h hm => ⟨h.1, hm _ h.1.lt h.2⟩
def nilA : Assn where
  p := fun _ _ => True
  frame := fun _ _ _ => trivial
  mono := fun _ _ => trivial

section
variable {w w' : World} {A A' B B' C D E F : Assn} {L L' : List Assn}
theorem Sep.nil (w : World) : Sep w [] := ⟨fun _ => 0, fun _ _ => rfl, fun i A h => by simp at h⟩
/-- other parts, of the same list -/
theorem Sep.sub (h : Sep w L) (f : Nat → Nat) (hf : ∀ i A, L'[i]? = some A → L[f i]? = some A) (inj : ∀ i j, i < L'.length → j < L'.length → f i = f j → i = j) : Sep w L' := by
  classical
  obtain ⟨g, hg, hh⟩ := h
  refine ⟨fun b => if hx : ∃ i, i < L'.length ∧ g b = f i + 1 then hx.choose + 1 else 0, fun b hb => ?_, fun i A hA => ?_⟩
  · have : ¬ ∃ i, i < L'.length ∧ g b = f i + 1 := by
      rintro ⟨i, hi, e⟩
      rw [hg b hb] at e; omega
    simp [this]
  · have hi : i < L'.length := (List.getElem?_eq_some_iff.1 hA).1
    refine A.mono (hh _ A (hf i A hA)) fun b _ hb => ?_
    have hx : ∃ i, i < L'.length ∧ g b = f i + 1 := ⟨i, hi, hb⟩
    simp only [dif_pos hx]
    have := hx.choose_spec
    have e := inj _ _ this.1 hi (by omega)
    omega
def nodupB : List Nat → Bool
  | [] => true
  | x :: r => !memN x r && nodupB r
theorem memN_of_mem : ∀ {x : Nat} {l : List Nat}, x ∈ l → memN x l = true
  | x, y :: r, h => by
    rcases List.mem_cons.1 h with h | h
    · subst h; simp [memN]
    · simp [memN, memN_of_mem h]
theorem nodupB_inj : ∀ {l : List Nat}, nodupB l = true → ∀ i j, i < l.length → j < l.length → l.getD i 0 = l.getD j 0 → i = j
  | [], _, i, j, hi, _, _ => by simp at hi
  | x :: r, h, i, j, hi, hj, e => by
    simp only [nodupB, Bool.and_eq_true, Bool.not_eq_true'] at h
    cases i with
    | zero => cases j with
      | zero => rfl
      | succ j =>
        simp only [List.length_cons] at hj
        have : x ∈ r := by
          have e' : x = r.getD j 0 := by simpa using e
          rw [e', List.getD_eq_getElem?_getD, List.getElem?_eq_getElem (by omega)]
          exact List.getElem_mem _
        rw [memN_of_mem this] at h; cases h.1
    | succ i => cases j with
      | zero =>
        simp only [List.length_cons] at hi
        have : x ∈ r := by
          have e' : r.getD i 0 = x := by simpa using e
          rw [← e', List.getD_eq_getElem?_getD, List.getElem?_eq_getElem (by omega)]
          exact List.getElem_mem _
        rw [memN_of_mem this] at h; cases h.1
      | succ j =>
        simp only [List.length_cons] at hi hj
        have := nodupB_inj h.2 i j (by omega) (by omega) (by simpa using e)
        omega
/-- the parts of these numbers, in this order -/
theorem Sep.pick (h : Sep w L) (idx : List Nat) (hl : idx.map (fun i => L[i]?) = L'.map some) (hn : nodupB idx = true) : Sep w L' := by
  have hlen : idx.length = L'.length := by have := congrArg List.length hl; simpa using this
  refine h.sub (fun i => idx.getD i 0) (fun i A hA => ?_) fun i j hi hj e => nodupB_inj hn i j (by omega) (by omega) e
  have hi : i < idx.length := by rw [hlen]; exact (List.getElem?_eq_some_iff.1 hA).1
  have := congrArg (fun l => l[i]?) hl
  simp only [List.getElem?_map, hA, Option.map_some, List.getElem?_eq_getElem hi] at this
  rw [List.getD_eq_getElem?_getD, List.getElem?_eq_getElem hi, Option.getD_some]
  injection this
/-- the head's blocks, and what may be done to them -/
theorem Sep.use (h : Sep w (A :: L)) : ∃ G : Nat → Prop, (∀ b, G b → b < w.heap.size) ∧ A.p w G ∧
    ∀ (w' : World) (A' : Assn), Fr G w w' → A'.p w' (fun b => G b ∨ w.heap.size ≤ b) → Sep w' (A' :: L) := by
  obtain ⟨g, hg, hh⟩ := h
  have hlt : ∀ b, g b ≠ 0 → b < w.heap.size := fun b hb => by
    rcases Nat.lt_or_ge b w.heap.size with h | h
    · exact h
    · exact absurd (hg b h) hb
  refine ⟨fun b => g b = 1, fun b hb => hlt b (by have hb : g b = 1 := hb; omega), hh 0 A rfl, fun w' A' hf hA' => ?_⟩
  refine ⟨fun b => if b < w.heap.size then g b else if b < w'.heap.size then 1 else 0, fun b hb => ?_, fun i C hC => ?_⟩
  · have := hf.size
    simp [Nat.not_lt.2 hb, show ¬ b < w.heap.size by omega]
  · cases i with
    | zero =>
      simp at hC; subst hC
      refine A'.mono hA' fun b hb hG => ?_
      by_cases hbw : b < w.heap.size
      · simp only [if_pos hbw]; rcases hG with h | h
        · exact h
        · omega
      · simp [hbw, hb]
    | succ i =>
      have h1 := hh (i + 1) C hC
      have h2 := C.frame h1 hf (fun b hb e => by have e : g b = 1 := e; omega)
      refine C.mono h2 fun b hb hG => ?_
      have hbw := hlt b (by omega)
      simp only [if_pos hbw]; exact hG
/-- two heads -/
theorem Sep.use2 (h : Sep w (A :: B :: L)) : ∃ G H : Nat → Prop, (∀ b, G b → b < w.heap.size) ∧ (∀ b, H b → b < w.heap.size) ∧ (∀ b, G b → ¬ H b) ∧ A.p w G ∧ B.p w H ∧
    ∀ (w' : World) (A' B' : Assn) (G' H' : Nat → Prop), Fr (fun b => G b ∨ H b) w w' → (∀ b, G' b → ¬ H' b) → (∀ b, G' b → G b ∨ H b ∨ w.heap.size ≤ b) → (∀ b, H' b → G b ∨ H b ∨ w.heap.size ≤ b) → A'.p w' G' → B'.p w' H' → Sep w' (A' :: B' :: L) := by
  classical
  obtain ⟨g, hg, hh⟩ := h
  have hlt : ∀ b, g b ≠ 0 → b < w.heap.size := fun b hb => by
    rcases Nat.lt_or_ge b w.heap.size with h | h
    · exact h
    · exact absurd (hg b h) hb
  refine ⟨fun b => g b = 1, fun b => g b = 2, fun b hb => hlt b (by have hb : g b = 1 := hb; omega), fun b hb => hlt b (by have hb : g b = 2 := hb; omega), fun b h1 h2 => by have h1 : g b = 1 := h1; have h2 : g b = 2 := h2; omega, hh 0 A rfl, hh 1 B rfl, fun w' A' B' G' H' hf hd hG' hH' hA' hB' => ?_⟩
  refine ⟨fun b => if w'.heap.size ≤ b then 0 else if G' b then 1 else if H' b then 2 else if g b = 1 ∨ g b = 2 then 0 else g b, fun b hb => by simp [hb], fun i C hC => ?_⟩
  match i, hC with
  | 0, hC =>
    simp at hC; subst hC
    exact A'.mono hA' fun b hb hG => by simp [Nat.not_le.2 hb, hG]
  | 1, hC =>
    simp at hC; subst hC
    exact B'.mono hB' fun b hb hH => by
      have : ¬ G' b := fun h => hd b h hH
      simp [Nat.not_le.2 hb, hH, this]
  | i + 2, hC =>
    have h1 := hh (i + 2) C hC
    have h2 := C.frame h1 hf (fun b hb e => by have e : g b = 1 ∨ g b = 2 := e; omega)
    refine C.mono h2 fun b hb hG => ?_
    have hG : g b = i + 2 + 1 := hG
    have hbw := hlt b (by omega)
    have n1 : ¬ G' b := fun h => by have : g b = 1 ∨ g b = 2 ∨ w.heap.size ≤ b := hG' b h; omega
    have n2 : ¬ H' b := fun h => by have : g b = 1 ∨ g b = 2 ∨ w.heap.size ≤ b := hH' b h; omega
    simp only [Nat.not_le.2 hb, n1, n2, if_false, hG, show ¬ (i + 2 + 1 = 1 ∨ i + 2 + 1 = 2) by omega]
/-- nothing of what lies has changed -/
theorem Sep.ext (h : Sep w L) (hf : ∀ D, Fr D w w') : Sep w' L := by
  have h0 : Sep w (nilA :: L) := by
    obtain ⟨g, hg, hh⟩ := h
    refine ⟨fun b => if g b = 0 then 0 else g b + 1, fun b hb => by simp [hg b hb], fun i C hC => ?_⟩
    cases i with
    | zero => simp at hC; subst hC; trivial
    | succ i => exact C.mono (hh i C hC) fun b _ hb => by have hb : g b = i + 1 := hb; simp [hb]
  obtain ⟨G, _, _, hr⟩ := h0.use
  have := hr w' nilA (hf _) trivial
  exact this.sub (fun i => i + 1) (fun i A hA => by simpa using hA) (fun i j _ _ e => by omega)
/-- something new -/
theorem Sep.add (h : Sep w L) (hf : ∀ D, Fr D w w') (hA : A.p w' (fun b => w.heap.size ≤ b)) : Sep w' (A :: L) := by
  have h0 : Sep w (nilA :: L) := by
    obtain ⟨g, hg, hh⟩ := h
    refine ⟨fun b => if g b = 0 then 0 else g b + 1, fun b hb => by simp [hg b hb], fun i C hC => ?_⟩
    cases i with
    | zero => simp at hC; subst hC; trivial
    | succ i => exact C.mono (hh i C hC) fun b _ hb => by have hb : g b = i + 1 := hb; simp [hb]
  obtain ⟨G, _, _, hr⟩ := h0.use
  exact hr w' A (hf _) (A.mono hA fun b _ hb => .inr hb)
theorem Sep.drew (h : Sep w L) : Sep w.drew L := h.ext (fun D => Fr.drew D w)
/-- the head read otherwise -/
theorem Sep.imp (h : Sep w (A :: L)) (hi : ∀ w G, A.p w G → A'.p w G) : Sep w (A' :: L) := by
  obtain ⟨G, _, hA, hr⟩ := h.use
  exact hr w A' (Fr.refl _ _) (A'.mono (hi _ _ hA) fun b _ hb => .inl hb)
theorem Sep.at0 (h : Sep w (A :: L)) : ∃ G, A.p w G := ⟨_, (h.choose_spec.2 0 A rfl)⟩
theorem Sep.at1 (h : Sep w (A :: B :: L)) : ∃ G, B.p w G := ⟨_, (h.choose_spec.2 1 B rfl)⟩
theorem Sep.at2 (h : Sep w (A :: B :: C :: L)) : ∃ G, C.p w G := ⟨_, (h.choose_spec.2 2 C rfl)⟩
theorem Sep.at3 (h : Sep w (A :: B :: C :: D :: L)) : ∃ G, D.p w G := ⟨_, (h.choose_spec.2 3 D rfl)⟩
theorem Sep.at4 (h : Sep w (A :: B :: C :: D :: E :: L)) : ∃ G, E.p w G := ⟨_, (h.choose_spec.2 4 E rfl)⟩
theorem Sep.at5 (h : Sep w (A :: B :: C :: D :: E :: F :: L)) : ∃ G, F.p w G := ⟨_, (h.choose_spec.2 5 F rfl)⟩
theorem Sep.at_ (h : Sep w L) (i : Nat) (hi : L[i]? = some A) : ∃ G, A.p w G := ⟨_, (h.choose_spec.2 i A hi)⟩
/-- part i to the front -/
theorem Sep.to1 (h : Sep w (A :: B :: L)) : Sep w (B :: A :: L) := h.sub (fun i => if i = 0 then 1 else if i = 1 then 0 else i) (fun i X hX => by rcases i with _ | _ | i <;> simpa using hX)
  (fun i j _ _ e => by split at e <;> split at e <;> (try split at e) <;> (try split at e) <;> omega)
theorem Sep.to2 (h : Sep w (A :: B :: C :: L)) : Sep w (C :: A :: B :: L) := h.sub (fun i => if i = 0 then 2 else if i = 1 then 0 else if i = 2 then 1 else i) (fun i X hX => by rcases i with _ | _ | _ | i <;> simpa using hX)
  (fun i j _ _ e => by split at e <;> split at e <;> (try split at e) <;> (try split at e) <;> (try split at e) <;> (try split at e) <;> omega)
theorem Sep.to3 (h : Sep w (A :: B :: C :: D :: L)) : Sep w (D :: A :: B :: C :: L) := h.sub (fun i => if i = 0 then 3 else if i = 1 then 0 else if i = 2 then 1 else if i = 3 then 2 else i) (fun i X hX => by rcases i with _ | _ | _ | _ | i <;> simpa using hX)
  (fun i j _ _ e => by split at e <;> split at e <;> (try split at e) <;> (try split at e) <;> (try split at e) <;> (try split at e) <;> (try split at e) <;> (try split at e) <;> omega)
theorem Sep.back1 (h : Sep w (B :: A :: L)) : Sep w (A :: B :: L) := h.to1
theorem Sep.back2 (h : Sep w (C :: A :: B :: L)) : Sep w (A :: B :: C :: L) := h.to2.to2
theorem Sep.back3 (h : Sep w (D :: A :: B :: C :: L)) : Sep w (A :: B :: C :: D :: L) := h.to3.to3.to3
theorem Sep.tail (h : Sep w (A :: L)) : Sep w L := h.sub (fun i => i + 1) (fun i A hA => by simpa using hA) (fun i j _ _ e => by omega)

/-! ### boxes -/
theorem Sep.bx0 {b : Nat} {V : List Value} {t : TypeId} (h : Sep w (bx b V t :: L)) : Blk w b V t := h.at0.choose_spec.1
theorem Sep.bx1 {b : Nat} {V : List Value} {t : TypeId} (h : Sep w (A :: bx b V t :: L)) : Blk w b V t := h.at1.choose_spec.1
theorem Sep.bx2 {b : Nat} {V : List Value} {t : TypeId} (h : Sep w (A :: B :: bx b V t :: L)) : Blk w b V t := h.at2.choose_spec.1
theorem Sep.bx3 {b : Nat} {V : List Value} {t : TypeId} (h : Sep w (A :: B :: C :: bx b V t :: L)) : Blk w b V t := h.at3.choose_spec.1
theorem Sep.bx4 {b : Nat} {V : List Value} {t : TypeId} (h : Sep w (A :: B :: C :: D :: bx b V t :: L)) : Blk w b V t := h.at4.choose_spec.1
theorem Sep.bx5 {b : Nat} {V : List Value} {t : TypeId} (h : Sep w (A :: B :: C :: D :: E :: bx b V t :: L)) : Blk w b V t := h.at5.choose_spec.1
/-- a cell of a block known whole -/
theorem Blk.ld {b : Nat} {V : List Value} {t : TypeId} (h : Blk w b V t) {o : Nat} {v : Value} (hv : V[o]? = some v) : w.cell? (Addr.add ⟨b, 0, none⟩ o) = some v := by
  rw [add_lit, h.cell, Nat.zero_add]; exact hv
theorem Blk.ld' {b : Nat} {V : List Value} {t : TypeId} (h : Blk w b V t) {o : Nat} {v : Value} (hv : V[o]? = some v) : w.cell? ⟨b, o, none⟩ = some v := by
  rw [h.cell]; exact hv
/-- a new box -/
theorem Sep.new (h : Sep w L) {V : Array Value} {t : TypeId} {Q : World → Addr → Prop} (hQ : ∀ (b : Nat) (w' : World), w.heap.size = b → w'.heap.size = b + 1 → Sep w' (bx b V.toList t :: L) → Q w' ⟨b, 0, none⟩) :
    Q (w.alloc (.cells V t)) ⟨w.heap.size, 0, none⟩ :=
  hQ _ _ rfl (by simp) (h.add (fun D => Fr.alloc D w _) ⟨Blk.new w V t, Nat.le_refl _⟩)
theorem Sep.put {b : Nat} {V : List Value} {t : TypeId} (h : Sep w (bx b V t :: L)) {o : Nat} {v : Value} (ho : o < V.length) {K : World → Prop} (hK : ∀ w', w'.heap.size = w.heap.size → Sep w' (bx b (V.set o v) t :: L) → K w') : storeP w ⟨b, o, none⟩ v K := by
  obtain ⟨G, hG, hA, hr⟩ := h.use
  exact storeP_blk hA.1 ho fun w' hb' hf hs => hK w' hs (hr w' (bx b (V.set o v) t) (hf.mono fun k _ e => e ▸ hA.2) ⟨hb', .inl hA.2⟩)
theorem Sep.puts {b : Nat} {V : List Value} {t : TypeId} (h : Sep w (bx b V t :: L)) {o : Nat} {vs : List Value} (ho : o + vs.length ≤ V.length) {K : World → Prop} (hK : ∀ w', w'.heap.size = w.heap.size → Sep w' (bx b (V.take o ++ vs ++ V.drop (o + vs.length)) t :: L) → K w') : storesAt ⟨b, o, none⟩ 0 vs w K := by
  obtain ⟨G, hG, hA, hr⟩ := h.use
  exact storesAt_blk vs 0 w V hA.1 (by omega) fun w' hb' hf hs => hK w' hs (hr w' _ (hf.mono fun k _ e => e ▸ hA.2) ⟨hb', .inl hA.2⟩)
/-- a box filled anew -/
theorem Sep.fill {b : Nat} {V : List Value} {t : TypeId} (h : Sep w (bx b V t :: L)) {vs : List Value} (ho : vs.length = V.length) {K : World → Prop} (hK : ∀ w', w'.heap.size = w.heap.size → Sep w' (bx b vs t :: L) → K w') : storesAt ⟨b, 0, none⟩ 0 vs w K :=
  h.puts (by omega) fun w' hs h' => hK w' hs (by
    rw [show V.take 0 ++ vs ++ V.drop (0 + vs.length) = vs from by simp [ho]] at h'
    exact h')
theorem Sep.fill1 {b : Nat} {V : List Value} {t : TypeId} (h : Sep w (A :: bx b V t :: L)) {vs : List Value} (ho : vs.length = V.length) {K : World → Prop} (hK : ∀ w', w'.heap.size = w.heap.size → Sep w' (A :: bx b vs t :: L) → K w') : storesAt ⟨b, 0, none⟩ 0 vs w K :=
  h.to1.fill ho fun w' hs h' => hK w' hs h'.to1
theorem Sep.fill2 {b : Nat} {V : List Value} {t : TypeId} (h : Sep w (A :: B :: bx b V t :: L)) {vs : List Value} (ho : vs.length = V.length) {K : World → Prop} (hK : ∀ w', w'.heap.size = w.heap.size → Sep w' (A :: B :: bx b vs t :: L) → K w') : storesAt ⟨b, 0, none⟩ 0 vs w K :=
  h.to2.fill ho fun w' hs h' => hK w' hs h'.back2
theorem Sep.fill3 {b : Nat} {V : List Value} {t : TypeId} (h : Sep w (A :: B :: C :: bx b V t :: L)) {vs : List Value} (ho : vs.length = V.length) {K : World → Prop} (hK : ∀ w', w'.heap.size = w.heap.size → Sep w' (A :: B :: C :: bx b vs t :: L) → K w') : storesAt ⟨b, 0, none⟩ 0 vs w K :=
  h.to3.fill ho fun w' hs h' => hK w' hs h'.back3
theorem cellsAt_blk0 {w : World} {b : Nat} {t : TypeId} : ∀ {V vs : List Value} {o : Nat}, Blk w b V t → (∀ i, i < vs.length → V[o + i]? = vs[i]?) → ∀ i, cellsAt w ⟨b, o, none⟩ i (vs.drop i)
  | V, vs, o, hb, hv => fun i => by
    induction hn : vs.length - i generalizing i with
    | zero => rw [List.drop_eq_nil_of_le (by omega)]; trivial
    | succ n ih =>
      have hi : i < vs.length := by omega
      rw [List.drop_eq_getElem_cons hi]
      refine ⟨?_, ih (i + 1) (by omega)⟩
      rw [add_lit, hb.cell, hv i hi, List.getElem?_eq_getElem hi]
/-- the cells of a block -/
theorem Blk.lds {b : Nat} {V : List Value} {t : TypeId} (h : Blk w b V t) : cellsAt w ⟨b, 0, none⟩ 0 V := by
  have := cellsAt_blk0 (vs := V) (o := 0) h (fun i hi => by simp) 0
  simpa using this

/-! ### what is read for good -/
theorem Sep.keep {Γ : List Assn} (h : Sep w (A :: pers Γ :: L)) : Sep w (pers (A :: Γ) :: L) := by
  obtain ⟨G, H, hG, hH, hd, hA, hB, hr⟩ := h.use2
  have := hr w (pers (A :: Γ)) nilA (fun b => G b ∨ H b) (fun _ => False) (Fr.refl _ _) (fun b _ h => h) (fun b hb => by rcases hb with h | h; exact .inl h; exact .inr (.inl h)) (fun b hb => hb.elim)
    (fun i C hC => by
      cases i with
      | zero => simp at hC; subst hC; exact A.mono hA fun b _ hb => .inl hb
      | succ i => exact C.mono (hB i C (by simpa using hC)) fun b _ hb => .inr hb) trivial
  exact Sep.tail (Sep.to1 this)
/-- what is read for good grows -/
theorem Sep.grow {Γ : List Assn} (h : Sep w (pers Γ :: L)) {A : Assn} (i : Nat) (hA : Γ[i]? = some A) : ∃ G, A.p w G ∧ ∀ (w' : World) (A' : Assn), (∀ D, Fr D w w') → A'.p w' (fun b => G b ∨ w.heap.size ≤ b) → Sep w' (pers (A' :: Γ) :: L) := by
  obtain ⟨G, hG, hp, hr⟩ := h.use
  refine ⟨G, hp i A hA, fun w' A' hf hA' => hr w' (pers (A' :: Γ)) (hf G) fun j C hC => ?_⟩
  cases j with
  | zero => simp at hC; subst hC; exact hA'
  | succ j => exact C.mono (C.frame (D := fun _ => False) (hp j C (by simpa using hC)) (hf _) (fun _ _ h => h)) fun b _ hb => .inl hb
theorem Sep.grow2 {Γ : List Assn} (h : Sep w (pers Γ :: L)) {A : Assn} (i : Nat) (hA : Γ[i]? = some A) : ∃ G, A.p w G ∧ ∀ (w' : World) (A' A2 : Assn), (∀ D, Fr D w w') → A'.p w' (fun b => G b ∨ w.heap.size ≤ b) → A2.p w' (fun b => G b ∨ w.heap.size ≤ b) → Sep w' (pers (A' :: A2 :: Γ) :: L) := by
  obtain ⟨G, hG, hp, hr⟩ := h.use
  refine ⟨G, hp i A hA, fun w' A' A2 hf hA' hA2 => hr w' (pers (A' :: A2 :: Γ)) (hf G) fun j C hC => ?_⟩
  rcases j with _ | _ | j
  · simp at hC; subst hC; exact hA'
  · simp at hC; subst hC; exact hA2
  · exact C.mono (C.frame (D := fun _ => False) (hp j C (by simpa using hC)) (hf _) (fun _ _ h => h)) fun b _ hb => .inl hb
theorem Sep.known {A : Assn} {Γ : List Assn} (h : Sep w (pers Γ :: L)) (i : Nat) (hA : Γ[i]? = some A) : ∃ G, A.p w G := by
  obtain ⟨G, hG⟩ := h.at0; exact ⟨G, hG i A hA⟩
theorem Sep.forget {Γ Γ' : List Assn} (h : Sep w (pers Γ :: L)) (hs : ∀ (i : Nat) (A : Assn), Γ'[i]? = some A → ∃ j : Nat, Γ[j]? = some A) : Sep w (pers Γ' :: L) :=
  h.imp fun w G hG i A hA => by obtain ⟨j, hj⟩ := hs i A hA; exact hG j A hj
/-- but for the second -/
theorem Sep.drop1 {A B : Assn} {Γ : List Assn} (h : Sep w (pers (A :: B :: Γ) :: L)) : Sep w (pers (A :: Γ) :: L) :=
  h.forget fun i C hC => by
    cases i with
    | zero => exact ⟨0, hC⟩
    | succ i => exact ⟨i + 2, hC⟩
theorem Sep.drop0 {A : Assn} {Γ : List Assn} (h : Sep w (pers (A :: Γ) :: L)) : Sep w (pers Γ :: L) := h.forget fun i C hC => ⟨i + 1, hC⟩


/-! ### moving parts -/
theorem Sep.front (h : Sep w L) (i : Nat) (hi : L[i]? = some A) : Sep w (A :: L.eraseIdx i) :=
  h.sub (fun j => if j = 0 then i else if j ≤ i then j - 1 else j) (fun j X hX => by
    cases j with
    | zero => simp at hX; subst hX; simpa using hi
    | succ j =>
      rw [List.getElem?_cons_succ, List.getElem?_eraseIdx] at hX
      by_cases hj : j < i
      · rw [if_pos hj] at hX; simpa [show j + 1 ≤ i by omega] using hX
      · rw [if_neg hj] at hX; simpa [show ¬ j + 1 ≤ i by omega] using hX) (fun a b _ _ e => by
    split at e <;> split at e <;> (try split at e) <;> (try split at e) <;> omega)
theorem Sep.behind (h : Sep w (A :: L)) (i : Nat) (hi : i ≤ L.length) : Sep w (L.insertIdx i A) :=
  h.sub (fun j => if j < i then j + 1 else if j = i then 0 else j) (fun j X hX => by
    rw [List.getElem?_insertIdx] at hX
    by_cases hj : j < i
    · rw [if_pos hj] at hX; simpa [hj] using hX
    · rw [if_neg hj] at hX
      by_cases he : j = i
      · subst he; rw [if_pos rfl, if_pos hi] at hX; simpa using hX
      · rw [if_neg he] at hX
        obtain ⟨k, rfl⟩ : ∃ k, j = k + 1 := ⟨j - 1, by omega⟩
        simpa [hj, he] using hX) (fun a b _ _ e => by
    split at e <;> split at e <;> (try split at e) <;> (try split at e) <;> omega)
theorem Sep.to4 {A B C D E : Assn} (h : Sep w (A :: B :: C :: D :: E :: L)) : Sep w (E :: A :: B :: C :: D :: L) := h.front 4 rfl
theorem Sep.back4 {A B C D E : Assn} (h : Sep w (E :: A :: B :: C :: D :: L)) : Sep w (A :: B :: C :: D :: E :: L) := h.behind 4 (by simp)
theorem Sep.fill4 {A B C D : Assn} {b : Nat} {V : List Value} {t : TypeId} (h : Sep w (A :: B :: C :: D :: bx b V t :: L)) {vs : List Value} (ho : vs.length = V.length) {K : World → Prop} (hK : ∀ w', w'.heap.size = w.heap.size → Sep w' (A :: B :: C :: D :: bx b vs t :: L) → K w') : storesAt ⟨b, 0, none⟩ 0 vs w K :=
  h.to4.fill ho fun w' hs h' => hK w' hs h'.back4
theorem Sep.to5 {A B C D E F : Assn} (h : Sep w (A :: B :: C :: D :: E :: F :: L)) : Sep w (F :: A :: B :: C :: D :: E :: L) := h.front 5 rfl
theorem Sep.back5 {A B C D E F : Assn} (h : Sep w (F :: A :: B :: C :: D :: E :: L)) : Sep w (A :: B :: C :: D :: E :: F :: L) := h.behind 5 (by simp)
theorem Sep.fill5 {A B C D E : Assn} {b : Nat} {V : List Value} {t : TypeId} (h : Sep w (A :: B :: C :: D :: E :: bx b V t :: L)) {vs : List Value} (ho : vs.length = V.length) {K : World → Prop} (hK : ∀ w', w'.heap.size = w.heap.size → Sep w' (A :: B :: C :: D :: E :: bx b vs t :: L) → K w') : storesAt ⟨b, 0, none⟩ 0 vs w K :=
  h.to5.fill ho fun w' hs h' => hK w' hs h'.back5
theorem Sep.to6 {A B C D E F A1 : Assn} (h : Sep w (A :: B :: C :: D :: E :: F :: A1 :: L)) : Sep w (A1 :: A :: B :: C :: D :: E :: F :: L) := h.front 6 rfl
theorem Sep.back6 {A B C D E F A1 : Assn} (h : Sep w (A1 :: A :: B :: C :: D :: E :: F :: L)) : Sep w (A :: B :: C :: D :: E :: F :: A1 :: L) := h.behind 6 (by simp)
theorem Sep.fill6 {A B C D E F : Assn} {b : Nat} {V : List Value} {t : TypeId} (h : Sep w (A :: B :: C :: D :: E :: F :: bx b V t :: L)) {vs : List Value} (ho : vs.length = V.length) {K : World → Prop} (hK : ∀ w', w'.heap.size = w.heap.size → Sep w' (A :: B :: C :: D :: E :: F :: bx b vs t :: L) → K w') : storesAt ⟨b, 0, none⟩ 0 vs w K :=
  h.to6.fill ho fun w' hs h' => hK w' hs h'.back6
theorem Sep.bx6 {A B C D E F : Assn} {b : Nat} {V : List Value} {t : TypeId} (h : Sep w (A :: B :: C :: D :: E :: F :: bx b V t :: L)) : Blk w b V t := (h.at_ 6 rfl).choose_spec.1
theorem Sep.to7 {A B C D E F A1 A2 : Assn} (h : Sep w (A :: B :: C :: D :: E :: F :: A1 :: A2 :: L)) : Sep w (A2 :: A :: B :: C :: D :: E :: F :: A1 :: L) := h.front 7 rfl
theorem Sep.back7 {A B C D E F A1 A2 : Assn} (h : Sep w (A2 :: A :: B :: C :: D :: E :: F :: A1 :: L)) : Sep w (A :: B :: C :: D :: E :: F :: A1 :: A2 :: L) := h.behind 7 (by simp)
theorem Sep.fill7 {A B C D E F A1 : Assn} {b : Nat} {V : List Value} {t : TypeId} (h : Sep w (A :: B :: C :: D :: E :: F :: A1 :: bx b V t :: L)) {vs : List Value} (ho : vs.length = V.length) {K : World → Prop} (hK : ∀ w', w'.heap.size = w.heap.size → Sep w' (A :: B :: C :: D :: E :: F :: A1 :: bx b vs t :: L) → K w') : storesAt ⟨b, 0, none⟩ 0 vs w K :=
  h.to7.fill ho fun w' hs h' => hK w' hs h'.back7
theorem Sep.bx7 {A B C D E F A1 : Assn} {b : Nat} {V : List Value} {t : TypeId} (h : Sep w (A :: B :: C :: D :: E :: F :: A1 :: bx b V t :: L)) : Blk w b V t := (h.at_ 7 rfl).choose_spec.1
theorem Sep.to8 {A B C D E F A1 A2 A3 : Assn} (h : Sep w (A :: B :: C :: D :: E :: F :: A1 :: A2 :: A3 :: L)) : Sep w (A3 :: A :: B :: C :: D :: E :: F :: A1 :: A2 :: L) := h.front 8 rfl
theorem Sep.back8 {A B C D E F A1 A2 A3 : Assn} (h : Sep w (A3 :: A :: B :: C :: D :: E :: F :: A1 :: A2 :: L)) : Sep w (A :: B :: C :: D :: E :: F :: A1 :: A2 :: A3 :: L) := h.behind 8 (by simp)
theorem Sep.fill8 {A B C D E F A1 A2 : Assn} {b : Nat} {V : List Value} {t : TypeId} (h : Sep w (A :: B :: C :: D :: E :: F :: A1 :: A2 :: bx b V t :: L)) {vs : List Value} (ho : vs.length = V.length) {K : World → Prop} (hK : ∀ w', w'.heap.size = w.heap.size → Sep w' (A :: B :: C :: D :: E :: F :: A1 :: A2 :: bx b vs t :: L) → K w') : storesAt ⟨b, 0, none⟩ 0 vs w K :=
  h.to8.fill ho fun w' hs h' => hK w' hs h'.back8
theorem Sep.bx8 {A B C D E F A1 A2 : Assn} {b : Nat} {V : List Value} {t : TypeId} (h : Sep w (A :: B :: C :: D :: E :: F :: A1 :: A2 :: bx b V t :: L)) : Blk w b V t := (h.at_ 8 rfl).choose_spec.1
/-- one thing twice -/
theorem Sep.dup {A : Assn} {Γ : List Assn} (h : Sep w (pers (A :: Γ) :: L)) : Sep w (pers (A :: A :: Γ) :: L) := h.forget fun i C hC => by
  cases i with
  | zero => exact ⟨0, hC⟩
  | succ i => exact ⟨i, hC⟩
/-- a new box, as a walk finds it -/
theorem Sep.box (h : Sep w L) (V : Array Value) (t : TypeId) : Sep (w.alloc (.cells V t)) (bx w.heap.size V.toList t :: L) := h.add (fun D => Fr.alloc D w _) ⟨Blk.new w V t, Nat.le_refl _⟩
theorem Sep.rid1 (h : Sep w (A :: B :: L)) : Sep w (A :: L) := h.to1.tail
/-! ### all that lay at first -/
def oldA (w0 : World) : Assn where
  p := fun w G => w0.heap.size ≤ w.heap.size ∧ ∀ b, b < w0.heap.size → G b ∧ w.heap[b]? = w0.heap[b]?
  frame := fun h hf hd => ⟨Nat.le_trans h.1 hf.size, fun b hb => ⟨(h.2 b hb).1, (hf.at_ b (Nat.lt_of_lt_of_le hb h.1) (hd b (h.2 b hb).1)).trans (h.2 b hb).2⟩⟩
  mono := fun h hm => ⟨h.1, fun b hb => ⟨hm b (Nat.lt_of_lt_of_le hb h.1) (h.2 b hb).1, (h.2 b hb).2⟩⟩
theorem Sep.begin (w : World) : Sep w [oldA w] := by
  refine ⟨fun b => if b < w.heap.size then 1 else 0, fun b hb => by simp [Nat.not_lt.2 hb], fun i A hA => ?_⟩
  cases i with
  | zero => simp at hA; subst hA; exact ⟨Nat.le_refl _, fun b hb => ⟨by simp [hb], rfl⟩⟩
  | succ i => simp at hA
theorem Sep.old (h : Sep w L) (i : Nat) {w0 : World} (hi : L[i]? = some (oldA w0)) : ∀ D, Fr D w0 w := fun D => by
  obtain ⟨G, hG⟩ := h.at_ i hi
  exact ⟨hG.1, fun b hb _ => (hG.2 b hb).2⟩
/-- known by itself, and kept for good -/
theorem Sep.pers1 (h : Sep w (A :: L)) : Sep w (pers [A] :: L) := h.imp fun w G hA i C hC => by
  cases i with
  | zero => simp at hC; subst hC; exact hA
  | succ i => simp at hC
/-- what is apart from all that lay at first is new -/
theorem Sep.fresh (h : Sep w L) (i j : Nat) {w0 : World} (hi : L[i]? = some A) (hj : L[j]? = some (oldA w0)) (hij : i ≠ j) : A.p w (fun b => w0.heap.size ≤ b) := by
  obtain ⟨g, hg, hh⟩ := h
  refine A.mono (hh i A hi) fun b _ hb => ?_
  rcases Nat.lt_or_ge b w0.heap.size with h1 | h1
  · have e : g b = j + 1 := ((hh j _ hj).2 b h1).1
    have hb : g b = i + 1 := hb
    omega
  · exact h1
end
end Go.X
