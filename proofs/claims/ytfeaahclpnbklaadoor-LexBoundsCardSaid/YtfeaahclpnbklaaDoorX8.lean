/- Heap reasoning: blocks known whole, what may have changed, slices that read, slices that are owned; the rules for append, make, build. -/
import Derived.Test.YtfeaahclpnbklaaDoorX7
import Derived.Laws.AppendOwn
import Derived.Laws.MakeOwn
set_option linter.unusedVariables false
set_option linter.unusedSimpArgs false
namespace Go.X

theorem size_of_some {w : World} {b : Nat} {o : Obj} (h : w.heap[b]? = some o) : b < w.heap.size := (Array.getElem?_eq_some_iff.1 h).1

/-! ### blocks -/
/-- block b is known whole -/
def Blk (w : World) (b : Nat) (B : List Value) (t : TypeId) : Prop := w.heap[b]? = some (.cells B.toArray t (0, 0))
theorem Blk.lt {w : World} {b : Nat} {B : List Value} {t : TypeId} (h : Blk w b B t) : b < w.heap.size := size_of_some h
theorem Blk.cell {w : World} {b : Nat} {B : List Value} {t : TypeId} (h : Blk w b B t) (o : Nat) : w.cell? ⟨b, o, none⟩ = B[o]? := by
  unfold Blk at h; simp [World.cell?, h]
theorem Blk.frozen {w : World} {b : Nat} {B : List Value} {t : TypeId} (h : Blk w b B t) (o : Nat) (s) : w.frozen? ⟨b, o, s⟩ = false := by
  unfold Blk at h; simp [World.frozen?, h]
theorem Blk.drew {w : World} {b : Nat} {B : List Value} {t : TypeId} (h : Blk w b B t) : Blk w.drew b B t := h
theorem Blk.of_eq {w w' : World} {b : Nat} {B : List Value} {t : TypeId} (h : Blk w b B t) (he : w'.heap[b]? = w.heap[b]?) : Blk w' b B t := he.trans h
theorem Blk.new (w : World) (A : Array Value) (t : TypeId) : Blk (w.alloc (.cells A t)) w.heap.size A.toList t := by
  unfold Blk; rw [heap_alloc_new, Array.toArray_toList]

/-! ### what may have changed: blocks in D, and what is new -/
structure Fr (D : Nat → Prop) (w w' : World) : Prop where
  size : w.heap.size ≤ w'.heap.size
  at_ : ∀ b, b < w.heap.size → ¬ D b → w'.heap[b]? = w.heap[b]?
theorem Fr.refl (D : Nat → Prop) (w : World) : Fr D w w := ⟨Nat.le_refl _, fun _ _ _ => rfl⟩
theorem Fr.drew (D : Nat → Prop) (w : World) : Fr D w w.drew := ⟨Nat.le_refl _, fun _ _ _ => rfl⟩
theorem Fr.trans {D D1 D2 : Nat → Prop} {w w1 w2 : World} (h1 : Fr D1 w w1) (h2 : Fr D2 w1 w2) (i1 : ∀ b, b < w.heap.size → D1 b → D b) (i2 : ∀ b, b < w.heap.size → D2 b → D b) : Fr D w w2 :=
  ⟨Nat.le_trans h1.size h2.size, fun b hb hd => (h2.at_ b (Nat.lt_of_lt_of_le hb h1.size) (fun h => hd (i2 b hb h))).trans (h1.at_ b hb (fun h => hd (i1 b hb h)))⟩
theorem Fr.mono {D D1 : Nat → Prop} {w w1 : World} (h1 : Fr D1 w w1) (i1 : ∀ b, b < w.heap.size → D1 b → D b) : Fr D w w1 :=
  ⟨h1.size, fun b hb hd => h1.at_ b hb (fun h => hd (i1 b hb h))⟩
theorem Fr.alloc (D : Nat → Prop) (w : World) (o : Obj) : Fr D w (w.alloc o) := ⟨by simp, fun b hb _ => by
  show (w.heap.push o)[b]? = w.heap[b]?
  rw [Array.getElem?_push, if_neg (Nat.ne_of_lt hb)]⟩
theorem Fr.blk {D : Nat → Prop} {w w' : World} (h : Fr D w w') {b : Nat} {B : List Value} {t : TypeId} (hb : Blk w b B t) (hd : ¬ D b) : Blk w' b B t :=
  hb.of_eq (h.at_ b hb.lt hd)
theorem Fr.cell {D : Nat → Prop} {w w' : World} (h : Fr D w w') {p : Addr} {v : Value} (hb : w.cell? p = some v) (hd : ¬ D p.block) : w'.cell? p = some v :=
  (World.cell?_of_block (h.at_ p.block (World.block_lt_of_cell? w p hb) hd)).trans hb

/-! ### rows that read -/
/-- from p on the cells cs lie, in blocks of G -/
def Rd (w : World) (a : Option Addr) (cs : List Value) (G : Nat → Prop) : Prop :=
  cs = [] ∨ ∃ p, a = some p ∧ G p.block ∧ ∀ (i : Nat) (v : Value), cs[i]? = some v → w.cell? (p.add i) = some v
theorem add_block (p : Addr) (i : Nat) : (p.add i).block = p.block := by unfold Addr.add; split <;> rfl
theorem Rd.frame {D G : Nat → Prop} {w w' : World} {a : Option Addr} {cs : List Value} (h : Rd w a cs G) (hf : Fr D w w') (hd : ∀ b, G b → ¬ D b) : Rd w' a cs G := by
  rcases h with h | ⟨p, hp, hg, h⟩
  · exact .inl h
  · exact .inr ⟨p, hp, hg, fun i v hv => hf.cell (h i v hv) (by rw [add_block]; exact hd _ hg)⟩
theorem Rd.mono {G G' : Nat → Prop} {w : World} {a : Option Addr} {cs : List Value} (h : Rd w a cs G) (hd : ∀ b, b < w.heap.size → G b → G' b) : Rd w a cs G' := by
  rcases h with h | ⟨p, hp, hg, h⟩
  · exact .inl h
  · cases cs with
    | nil => exact .inl rfl
    | cons c r => exact .inr ⟨p, hp, hd _ (by have := World.block_lt_of_cell? w _ (h 0 c rfl); rwa [add_block] at this) hg, h⟩
theorem Rd.cell {G : Nat → Prop} {w : World} {p : Addr} {cs : List Value} (h : Rd w (some p) cs G) {i : Nat} {v : Value} (hv : cs[i]? = some v) : w.cell? (p.add i) = some v := by
  rcases h with h | ⟨q, hp, hg, h⟩
  · subst h; simp at hv
  · cases hp; exact h i v hv
theorem Rd.isSome {G : Nat → Prop} {w : World} {a : Option Addr} {cs : List Value} (h : Rd w a cs G) {i : Nat} {v : Value} (hv : cs[i]? = some v) : ∃ p, a = some p ∧ G p.block ∧ w.cell? (p.add i) = some v := by
  rcases h with h | ⟨q, hp, hg, h⟩
  · subst h; simp at hv
  · exact ⟨q, hp, hg, h i v hv⟩

/-! ### rows that are owned: the room behind them too -/
def Own (w : World) (z : Nat) (t : TypeId) (a : Option Addr) (l c : Nat) (cs : List Value) (G : Nat → Prop) : Prop :=
  cs.length = l * z ∧ l ≤ c ∧ ((a = none ∧ c = 0) ∨ ∃ b o B, a = some ⟨b, o, none⟩ ∧ G b ∧ Blk w b B t ∧ o + c * z ≤ B.length ∧ ∀ (i : Nat) (v : Value), cs[i]? = some v → B[o + i]? = some v)
theorem Own.length {w : World} {z : Nat} {t : TypeId} {a : Option Addr} {l c : Nat} {cs : List Value} {G : Nat → Prop} (h : Own w z t a l c cs G) : cs.length = l * z := h.1
theorem Own.rd {w : World} {z : Nat} {t : TypeId} {a : Option Addr} {l c : Nat} {cs : List Value} {G : Nat → Prop} (h : Own w z t a l c cs G) : Rd w a cs G := by
  obtain ⟨h1, h2, h | ⟨b, o, B, ha, hg, hb, hl, hv⟩⟩ := h
  · left; obtain ⟨_, hc⟩ := h; have : l = 0 := by omega
    subst this; simpa using h1
  · right; refine ⟨_, ha, hg, fun i v hi => ?_⟩
    rw [Addr.add_lit, hb.cell]; exact hv i v hi
theorem Own.frame {D G : Nat → Prop} {w w' : World} {z : Nat} {t : TypeId} {a : Option Addr} {l c : Nat} {cs : List Value} (h : Own w z t a l c cs G) (hf : Fr D w w') (hd : ∀ b, G b → ¬ D b) : Own w' z t a l c cs G := by
  obtain ⟨h1, h2, h | ⟨b, o, B, ha, hg, hb, hl, hv⟩⟩ := h
  · exact ⟨h1, h2, .inl h⟩
  · exact ⟨h1, h2, .inr ⟨b, o, B, ha, hg, hf.blk hb (hd _ hg), hl, hv⟩⟩
theorem Own.mono {G G' : Nat → Prop} {w : World} {z : Nat} {t : TypeId} {a : Option Addr} {l c : Nat} {cs : List Value} (h : Own w z t a l c cs G) (hd : ∀ b, b < w.heap.size → G b → G' b) : Own w z t a l c cs G' := by
  obtain ⟨h1, h2, h | ⟨b, o, B, ha, hg, hb, hl, hv⟩⟩ := h
  · exact ⟨h1, h2, .inl h⟩
  · exact ⟨h1, h2, .inr ⟨b, o, B, ha, hd _ hb.lt hg, hb, hl, hv⟩⟩
theorem Own.none (w : World) (z : Nat) (t : TypeId) (G : Nat → Prop) : Own w z t none 0 0 [] G := ⟨by simp, Nat.le_refl _, .inl ⟨rfl, rfl⟩⟩
/-- a row of a block known whole -/
theorem Own.of_blk {w : World} {z : Nat} {t : TypeId} {b o l c : Nat} {B cs : List Value} {G : Nat → Prop} (hb : Blk w b B t) (hg : G b) (hc : cs.length = l * z) (hlc : l ≤ c) (hl : o + c * z ≤ B.length)
    (hv : ∀ (i : Nat) (v : Value), cs[i]? = some v → B[o + i]? = some v) : Own w z t (some ⟨b, o, .none⟩) l c cs G := ⟨hc, hlc, .inr ⟨b, o, B, rfl, hg, hb, hl, hv⟩⟩
theorem Own.drew {w : World} {z : Nat} {t : TypeId} {a : Option Addr} {l c : Nat} {cs : List Value} {G : Nat → Prop} (h : Own w z t a l c cs G) : Own w.drew z t a l c cs G := h
theorem Rd.drew {w : World} {a : Option Addr} {cs : List Value} {G : Nat → Prop} (h : Rd w a cs G) : Rd w.drew a cs G := h

/-! ### storing -/
theorem Blk.setCell {w : World} {b : Nat} {B : List Value} {t : TypeId} (h : Blk w b B t) (o : Nat) (v : Value) : Blk (w.setCell ⟨b, o, none⟩ v) b (B.set o v) t := by
  have hlt := h.lt
  unfold Blk at *
  have hv : w.heap[b] = .cells B.toArray t (0, 0) := (Array.getElem?_eq_some_iff.1 h).2
  unfold World.setCell
  rw [Array.getElem?_eq_getElem (by simpa using hlt), Array.getElem_modify]
  simp [hv]
theorem Fr.setCell (w : World) (p : Addr) (v : Value) : Fr (fun b => b = p.block) w (w.setCell p v) :=
  ⟨by simp, fun b _ hb => by simp [World.setCell, Array.getElem?_modify, Ne.symm hb]⟩
/-- what a store into a block known whole leaves -/
theorem storeP_blk {w : World} {b o : Nat} {B : List Value} {t : TypeId} {v : Value} {K : World → Prop} (hb : Blk w b B t) (ho : o < B.length)
    (h : ∀ w', Blk w' b (B.set o v) t → Fr (fun x => x = b) w w' → w'.heap.size = w.heap.size → K w') : storeP w ⟨b, o, none⟩ v K :=
  ⟨⟨B[o], by rw [hb.cell, List.getElem?_eq_getElem ho]⟩, hb.frozen _ _, h _ (hb.setCell _ _) (Fr.setCell w ⟨b, o, none⟩ v) (by simp)⟩
theorem storesAt_blk {b o : Nat} {t : TypeId} {K : World → Prop} : ∀ (vs : List Value) (i : Nat) (w : World) (B : List Value), Blk w b B t → o + i + vs.length ≤ B.length →
    (∀ w', Blk w' b (B.take (o + i) ++ vs ++ B.drop (o + i + vs.length)) t → Fr (fun x => x = b) w w' → w'.heap.size = w.heap.size → K w') → storesAt ⟨b, o, none⟩ i vs w K
  | [], i, w, B, hb, hl, h => by
    refine h w ?_ (Fr.refl _ _) rfl
    simpa using hb
  | v :: vs, i, w, B, hb, hl, h => by
    simp only [List.length_cons] at hl
    show storeP w (Addr.add ⟨b, o, none⟩ i) v _
    rw [Addr.add_lit]
    refine storeP_blk hb (by omega) fun w1 hb1 hf1 hs1 => ?_
    refine storesAt_blk vs (i + 1) w1 _ hb1 (by simp; omega) fun w2 hb2 hf2 hs2 => ?_
    refine h w2 ?_ (hf1.trans hf2 (fun _ _ h => h) (fun _ _ h => h)) (hs2.trans hs1)
    have : (B.set (o + i) v).take (o + (i + 1)) ++ vs ++ (B.set (o + i) v).drop (o + (i + 1) + vs.length) = B.take (o + i) ++ (v :: vs) ++ B.drop (o + i + (v :: vs).length) := by
      rw [List.drop_set_of_lt (by omega), List.take_set]
      have e1 : o + (i + 1) = o + i + 1 := by omega
      have : (B[o + i]?).toList = [B[o + i]'(by omega)] := by rw [List.getElem?_eq_getElem (by omega)]; rfl
      have hm : o + i - min (o + i) B.length = 0 := by omega
      rw [e1, List.take_add_one, this, List.set_append]
      have hm2 : ¬ (o + i < min (o + i) B.length) := by omega
      simp [hm, hm2, Nat.add_assoc, Nat.add_comm 1]
    rwa [this] at hb2

/-! ### slices' types -/
/-- t is a slice of e; an element takes z cells, so many bytes; its zero value's cells are zc -/
def SlT (P : Program) (t e : TypeId) (z bytes : Nat) (zc : List Value) : Prop :=
  P.underlying t = some (.slice e) ∧ (P.info? e).map (fun i => (i.zero.map (·.cells.toList), i.size, i.bytes)) = some (some zc, z, bytes)
theorem SlT.get {P : Program} {t e : TypeId} {z bytes : Nat} {zc : List Value} (h : SlT P t e z bytes zc) :
    ∃ i v, P.info? e = some i ∧ i.zero = some v ∧ i.size = z ∧ i.bytes = bytes ∧ v.cells = zc.toArray := by
  obtain ⟨_, h⟩ := h
  cases hi : P.info? e with
  | none => simp [hi] at h
  | some i =>
    simp only [hi, Option.map_some, Option.some.injEq, Prod.mk.injEq] at h
    obtain ⟨h1, h2, h3⟩ := h
    cases hz : i.zero with
    | none => simp [hz] at h1
    | some v => simp only [hz, Option.map_some, Option.some.injEq] at h1; exact ⟨i, v, rfl, hz, h2, h3, by rw [← h1]⟩

theorem run_firstCells_rd {P : Program} {w : World} {a : Option Addr} {n l c z : Nat} {xs : List Value} {G : Nat → Prop} (h : Rd w a xs G) (hl : xs.length = n * z) :
    (Builtin.firstCells z n (.slice a l c)).run P w = .ok xs.toArray w := by
  cases a with
  | none =>
    have : xs = [] := by rcases h with h | ⟨p, hp, _⟩; exact h; cases hp
    subst this; simp [Builtin.firstCells]
  | some p => exact run_firstCells_some w z n p l c xs hl (fun j v hv => h.cell hv)

theorem KeepsD.setRow {w : World} {g : Nat} {cur : Array Value} {t : TypeId} (hg : w.heap[g]? = some (.cells cur t (0, 0))) (cs : Array Value) : KeepsD w (w.setRow g cs) := by
  refine ⟨rfl, rfl, rfl, by simp [World.setRow], fun r hr => ?_⟩
  by_cases h : r = g
  · subst h; rw [hg] at hr; cases hr
  · rw [setRow_other w g r cs h]; exact hr

theorem xr_append {P : Program} {t ty e : TypeId} {z bytes : Nat} {zc : List Value} (hT : SlT P t e z bytes zc) (hzl : zc.length = z) {w : World} {a : Option Addr} {l c : Nat} {cs : List Value} {G : Nat → Prop}
    (ho : Own w z e a l c cs G) {xa : Option Addr} {xl xc : Nat} {xs : List Value} {X : Nat → Prop} (hx : Rd w xa xs X) (hxl : xs.length = xl * z) (h1 : ∀ u ∈ xs, u.oneCell' = true)
    (hb : (l + xl) * bytes ≤ 140737488355328) (hb2 : l + xl ≤ 140737488355328) {K : Value → World → Prop}
    (h : ∀ a' c' w', Own w' z e a' (l + xl) c' (cs ++ xs) (fun b => G b ∨ w.heap.size ≤ b) → Fr G w w' → KeepsD w w' → K (.slice a' (l + xl) c') w') :
    XRun P (Builtin.append_ #[t, t] ty (List.toArray [.slice a l c, .slice xa xl xc])) w K := by
  obtain ⟨i, v, hi, hz, rfl, rfl, hv⟩ := hT.get
  have ht := hT.1
  have hlen : (cs ++ xs).length = (l + xl) * i.size := by rw [List.length_append, ho.1, hxl, Nat.add_mul]
  by_cases hroom : l + xl ≤ c
  · have hf := run_firstCells_rd (P := P) (l := xl) (c := xc) hx hxl
    obtain ⟨hcl, hlc, ⟨rfl, rfl⟩ | ⟨b, o, B, rfl, hg, hbk, hfit, hcs⟩⟩ := ho
    · have hl0 : l = 0 := by omega
      have hx0 : xl = 0 := by omega
      subst hl0; subst hx0
      have : (Builtin.append_ #[t, t] ty (List.toArray [.slice none 0 0, .slice xa 0 xc])).run P w = .ok (.slice none 0 0) w := by
        simp [Builtin.append_, run_underlying ht, sizeOf, typeInfo, hi, Builtin.lenOf, hf]
      unfold XRun; rw [this]
      refine ⟨KeepsD.refl _, h none 0 w ⟨hlen, by omega, .inl ⟨rfl, rfl⟩⟩ (Fr.refl _ _) (KeepsD.refl _)⟩
    · have hsp : o + l * i.size + xs.length ≤ B.length := by
        have : (l + xl) * i.size ≤ c * i.size := Nat.mul_le_mul_right _ hroom
        rw [Nat.add_mul] at this; omega
      have hst := run_storeCells_at P b (o + l * i.size) e xs 0 B.toArray w hbk (by simpa using hsp) h1
      simp only [Nat.add_zero] at hst
      have : (Builtin.append_ #[t, t] ty (List.toArray [.slice (some ⟨b, o, none⟩) l c, .slice xa xl xc])).run P w =
          .ok (.slice (some ⟨b, o, none⟩) (l + xl) c) (w.setRow b (B.take (o + l * i.size) ++ xs ++ B.drop (o + l * i.size + xs.length)).toArray) := by
        simp [Builtin.append_, run_underlying ht, sizeOf, typeInfo, hi, Builtin.lenOf, hf, hroom, Addr.add_lit] at hst ⊢
        simp [hst]
      unfold XRun; rw [this]
      have hnew : Blk (w.setRow b (B.take (o + l * i.size) ++ xs ++ B.drop (o + l * i.size + xs.length)).toArray) b (B.take (o + l * i.size) ++ xs ++ B.drop (o + l * i.size + xs.length)) e := setRow_heap w b _ _ e _ hbk
      refine ⟨KeepsD.setRow hbk _, h _ c _ (Own.of_blk hnew (.inl hg) hlen hroom (by simp only [List.length_append, List.length_take, List.length_drop]; omega) ?_) ⟨by simp [World.setRow], fun k hk hd => setRow_other w b k _ (fun e => hd (e ▸ hg))⟩ (KeepsD.setRow hbk _)⟩
      intro j u hu
      have hlt : j < (cs ++ xs).length := (List.getElem?_eq_some_iff.1 hu).1
      rw [List.append_assoc]
      by_cases hj : j < cs.length
      · rw [List.getElem?_append_left hj] at hu
        have := hcs j u hu
        rw [List.getElem?_append_left (by simp only [List.length_take]; omega), List.getElem?_take]
        rw [if_pos (by omega)]; exact this
      · rw [List.getElem?_append_right (by omega)] at hu
        rw [List.getElem?_append_right (by simp only [List.length_take]; omega)]
        have e1 : o + j - (List.take (o + l * i.size) B).length = j - cs.length := by simp only [List.length_take]; omega
        rw [e1, List.getElem?_append_left (by simp only [List.length_append] at hlt; omega)]; exact hu
  · have hcap := Nat.lt_of_not_le hroom
    have hfx := run_firstCells_rd (P := P) (l := xl) (c := xc) (hx.drew) hxl
    have hfo := run_firstCells_rd (P := P) (l := l) (c := c) ((ho.rd).drew) ho.1
    have hn : ¬ (l + xl ≤ c) := hroom
    have h63' : ¬ (9223372036854775807 < ((l : Int) + (xl : Int))) := by omega
    have h48' : ¬ (281474976710656 < Builtin.nextslicecap (l + xl) c * i.bytes) := by have := growslice_fits hcap hb; omega
    have hge := grownCap_ge w (l + xl) c e
    have hrun : (Builtin.append_ #[t, t] ty (List.toArray [.slice a l c, .slice xa xl xc])).run P w =
        .ok (.slice (some ⟨w.heap.size, 0, none⟩) (l + xl) (grownCap w (l + xl) c e))
          (w.drew.alloc (.cells (cs ++ (xs ++ (Builtin.zeroCells v.cells (grownCap w (l + xl) c e - (l + xl))).toList)).toArray e)) := by
      simp [Builtin.append_, run_underlying ht, sizeOf, typeInfo, zeroValue, hi, hz, Builtin.lenOf, hn, h63', h48', Question.forced, hfx, hfo, newRow, grownCap]
      congr 2
      apply Array.ext'
      simp [List.append_assoc]
    unfold XRun; rw [hrun]
    have hk : KeepsD w (w.drew.alloc (.cells (cs ++ (xs ++ (Builtin.zeroCells v.cells (grownCap w (l + xl) c e - (l + xl))).toList)).toArray e)) := (KeepsD.drew w).trans (KeepsD.alloc _ _)
    refine ⟨hk, h _ _ _ (Own.of_blk (Blk.new w.drew _ e) (.inr (Nat.le_refl _)) hlen hge ?_ ?_) ((Fr.drew G w).trans (Fr.alloc G w.drew _) (fun _ _ h => h) (fun _ _ h => h)) hk⟩
    · have hzs : (Builtin.zeroCells v.cells (grownCap w (l + xl) c e - (l + xl))).size = (grownCap w (l + xl) c e - (l + xl)) * i.size := by rw [size_zeroCells, hv]; simp [hzl]
      simp only [List.length_append, Array.length_toList, hzs, ho.1, hxl, ← Nat.add_mul, Nat.zero_add]
      exact Nat.mul_le_mul_right _ (by omega)
    · intro j u hu
      have hlt : j < (cs ++ xs).length := (List.getElem?_eq_some_iff.1 hu).1
      show (cs ++ (xs ++ _))[0 + j]? = some u
      rw [Nat.zero_add, ← List.append_assoc, List.getElem?_append_left hlt]; exact hu
