/- Heap reasoning, second part: the rules for make, for a slice built of its elements, for appending one element. -/
import Derived.Test.YtfeaahclpnbklaaDoorX8
set_option linter.unusedVariables false
set_option linter.unusedSimpArgs false
namespace Go.X

/-- a row laid anew -/
theorem Own.new {w : World} {z : Nat} {t : TypeId} {l c : Nat} {A : Array Value} {cs : List Value} {G : Nat → Prop} (hg : G w.heap.size) (hc : cs.length = l * z) (hlc : l ≤ c) (hl : c * z ≤ A.size)
    (hv : ∀ (i : Nat) (v : Value), cs[i]? = some v → A.toList[i]? = some v) : Own (w.alloc (.cells A t)) z t (some ⟨w.heap.size, 0, .none⟩) l c cs G :=
  Own.of_blk (Blk.new w A t) hg hc hlc (by simpa using hl : 0 + c * z ≤ A.toList.length) (fun i v h => by rw [Nat.zero_add]; exact hv i v h)

/-- the zero elements' cells -/
def madeL (zc : List Value) (m : Nat) : List Value := (List.range m).map fun i => (zc[i % zc.length]?).getD (.bool false)

theorem xr_build {P : Program} {t e : TypeId} {z bytes : Nat} {zc : List Value} (hT : SlT P t e z bytes zc) {w : World} {n : Nat} {parts : List (Nat × Value)} {cs : List Value}
    (hzl : zc.length = z) (hf : fillL (fun i => some (i * z, z)) (madeL zc (n * z)) parts = some cs)
    (hl : cs.length = n * z) (hn : n * z ≤ 2 ^ 24) {K : Value → World → Prop}
    (h : ∀ w', Own w' z e (some ⟨w.heap.size, 0, none⟩) n n cs (fun b => b = w.heap.size) → (∀ D, Fr D w w') → KeepsD w w' → K (.slice (some ⟨w.heap.size, 0, none⟩) n n) w') :
    XRun P (Instr.buildSlice t n (List.toArray parts)) w K := by
  obtain ⟨i, v, hi, hz, rfl, rfl, hv⟩ := hT.get
  have ht := hT.1
  have hrun : (Instr.buildSlice t n (List.toArray parts)).run P w = .ok (.slice (some ⟨w.heap.size, 0, none⟩) n n) (w.alloc (.cells cs.toArray e)) := by
    replace hf : Instr.fill (fun j => some (j * i.size, i.size)) ((Array.range (n * i.size)).map ((if n * i.size = 0 then (#[] : Array Value) else zc.toArray)[· % (if n * i.size = 0 then (#[] : Array Value) else zc.toArray).size]!)) parts = some cs.toArray := by
      apply fillL_run
      rw [← hf]
      congr 1
      simp only [Array.toList_map, Array.toList_range, madeL]
      apply List.map_congr_left
      intro j hj
      rw [List.mem_range] at hj
      rw [if_neg (by omega)]
      have hz0 : 0 < zc.length := by
        rcases Nat.eq_zero_or_pos zc.length with h | h
        · rw [← hzl, h] at hj; simp at hj
        · exact h
      have hm : j % zc.length < zc.length := Nat.mod_lt _ hz0
      simp [List.getElem?_eq_getElem hm, hm]
    by_cases h0 : n * i.size = 0
    · rw [if_pos h0] at hf
      have h0' : n = 0 ∨ i.size = 0 := Nat.mul_eq_zero.1 h0
      simp only [h0] at hf
      simp at hf
      simp [Instr.buildSlice, run_underlying ht, sizeOf, typeInfo, hi, hf, newRow, h0, h0']
    · have hn' : ¬ (2 ^ 24 < n * i.size) := by omega
      rw [if_neg h0] at hf
      have h0' : ¬ (n = 0 ∨ i.size = 0) := fun hh => h0 (Nat.mul_eq_zero.2 hh)
      simp at hn'
      simp at hf
      simp [Instr.buildSlice, run_underlying ht, sizeOf, typeInfo, zeroValue, hi, hz, hv, hf, newRow, h0, Nat.not_lt.2 hn']
  unfold XRun; rw [hrun]
  exact ⟨KeepsD.alloc _ _, h _ (Own.new rfl hl (Nat.le_refl _) (by simp [hl]) (fun i v h => by simpa using h)) (fun D => Fr.alloc D w _) (KeepsD.alloc _ _)⟩

theorem xr_make {P : Program} {t e : TypeId} {z bytes : Nat} {zc : List Value} (hT : SlT P t e z bytes zc) (hzl : zc.length = z) {w : World} {kl kc : IntKind} {l c : Int} (h0 : 0 ≤ l) (hlc : l ≤ c) (hb : (bytes : Int) * c ≤ 281474976710656) (h63 : c ≤ 9223372036854775807)
    {cs : List Value} (hcl : cs.length = l.toNat * z) (hcs : ∀ i, i < l.toNat * z → cs[i]? = zc[i % z]?) {K : Value → World → Prop}
    (h : ∀ w', Own w' z e (some ⟨w.heap.size, 0, none⟩) l.toNat c.toNat cs (fun b => b = w.heap.size) → (∀ D, Fr D w w') → KeepsD w w' → K (.slice (some ⟨w.heap.size, 0, none⟩) l.toNat c.toNat) w') :
    XRun P (Instr.makeSlice t (.int kl l) (.int kc c)) w K := by
  obtain ⟨i, v, hi, hz, rfl, rfl, hv⟩ := hT.get
  have hrun := run_make w t e i v hT.1 hi hz kl kc l c h0 hlc hb h63
  unfold XRun; rw [hrun]
  refine ⟨KeepsD.alloc _ _, h _ (Own.new rfl hcl (by omega) (by rw [size_madeCells]; exact Nat.le_refl _) ?_) (fun D => Fr.alloc D w _) (KeepsD.alloc _ _)⟩
  intro j u hu
  have hj : j < l.toNat * i.size := by have := (List.getElem?_eq_some_iff.1 hu).1; omega
  have hjc : j < c.toNat * i.size := Nat.lt_of_lt_of_le hj (Nat.mul_le_mul_right _ (by omega))
  have hz0 : 0 < i.size := by
    rcases Nat.eq_zero_or_pos i.size with h | h
    · rw [h] at hj; simp at hj
    · exact h
  rw [hcs j hj] at hu
  have hm : j % i.size < zc.length := by rw [hzl]; exact Nat.mod_lt _ hz0
  rw [List.getElem?_eq_getElem hm] at hu
  injection hu with hu
  rw [hzl] at hm
  simp [madeCells, hjc, hv, hzl]
  rw [List.getElem?_eq_getElem (by omega), hu]; rfl

/-- append(l, x): one element, built as a slice of its own -/
theorem xr_push {P : Program} {t ty e : TypeId} {z bytes : Nat} {zc : List Value} (hT : SlT P t e z bytes zc) (hzl : zc.length = z) {w : World} {x : Value} {xs : List Value}
    (hf : fillL (fun i => some (i * z, z)) (madeL zc (1 * z)) [(0, x)] = some xs)
    (hxl : xs.length = z) (hz24 : z ≤ 2 ^ 24) (h1 : ∀ u ∈ xs, u.oneCell' = true)
    {a : Option Addr} {l c : Nat} {cs : List Value} {G : Nat → Prop} (ho : Own w z e a l c cs G)
    (hb : (l + 1) * bytes ≤ 140737488355328) (hb2 : l + 1 ≤ 140737488355328) {K : Option Addr → Nat → Nat → World → Prop}
    (h : ∀ a' c' w', Own w' z e a' (l + 1) c' (cs ++ xs) (fun b => G b ∨ w.heap.size ≤ b) → Fr G w w' → KeepsD w w' → K a' (l + 1) c' w') :
    XRun P (Instr.buildSlice t 1 (List.toArray [(0, x)])) w fun v w0 => ∃ (a1 : Option Addr) (l1 : Nat) (c1 : Nat), v = .slice a1 l1 c1 ∧
      XRun P (Builtin.append_ #[t, t] ty (List.toArray [.slice a l c, .slice a1 l1 c1])) w0 fun v1 w1 => ∃ (a2 : Option Addr) (l2 : Nat) (c2 : Nat), v1 = .slice a2 l2 c2 ∧ K a2 l2 c2 w1 := by
  refine xr_build hT hzl hf (by simpa using hxl) (by simpa using hz24) fun w1 ho1 hf1 hk1 => ⟨_, _, _, rfl, ?_⟩
  have hoG : Own w1 z e a l c cs (fun b => G b ∧ b < w.heap.size) := (ho.mono (G' := fun b => G b ∧ b < w.heap.size) (fun b hb hg => ⟨hg, hb⟩)).frame (hf1 (fun _ => False)) (fun _ _ h => h)
  refine xr_append hT hzl hoG ho1.rd (by simpa using hxl) h1 hb hb2 fun a' c' w' ho' hf' hk' => ⟨_, _, _, rfl, ?_⟩
  refine h a' c' w' (ho'.mono fun b _ hh => ?_) ((hf1 G).trans hf' (fun _ _ h => h) (fun _ _ h => h.1)) (hk1.trans hk')
  rcases hh with ⟨hh, _⟩ | hh
  · exact .inl hh
  · exact .inr (Nat.le_trans (hf1 G).size hh)

/-! ### small things for walks -/
@[simp] theorem xptr_some (p : Addr) (k : Addr → Prop) : xptr (some p) k = k p := rfl
@[simp] theorem add_lit (b o n : Nat) : Addr.add ⟨b, o, none⟩ n = ⟨b, o + n, none⟩ := Addr.add_lit b o n
theorem wi {x : Int} (h : -9223372036854775808 ≤ x) (h' : x ≤ 9223372036854775807) : IntKind.wrap .i64 x = x := by rw [IntKind.wrap_i64]; omega
theorem ShutD.fr {n : Nat} {w w' : World} (h : ShutD n w w') : Fr (fun b => w.heap[b]? = some (.deferred (some []))) w w' :=
  ⟨Nat.le_of_eq h.size.symm, fun b _ hd => by rcases h.at_ b with h | ⟨_, h, _⟩; exact h; exact absurd h hd⟩
theorem Blk.shut {n : Nat} {w w' : World} (h : ShutD n w w') {b : Nat} {B : List Value} {t : TypeId} (hb : Blk w b B t) : Blk w' b B t :=
  h.fr.blk hb (fun e => by unfold Blk at hb; rw [hb] at e; cases e)
/-- lists of integers, as cells -/
def ints (xs : List Int) : List Value := xs.map (Value.int .i64)
@[simp] theorem ints_length (xs : List Int) : (ints xs).length = xs.length := by simp [ints]
@[simp] theorem ints_append (xs ys : List Int) : ints (xs ++ ys) = ints xs ++ ints ys := by simp [ints]
@[simp] theorem ints_cons (x : Int) (ys : List Int) : ints (x :: ys) = .int .i64 x :: ints ys := by simp [ints]
@[simp] theorem ints_nil : ints [] = [] := rfl
theorem ints_get {xs : List Int} {i : Nat} {x : Int} (h : xs[i]? = some x) : (ints xs)[i]? = some (.int .i64 x) := by simp [ints, h]
theorem ints_one (xs : List Int) : ∀ u ∈ ints xs, u.oneCell' = true := by
  intro u hu; simp only [ints, List.mem_map] at hu; obtain ⟨x, _, rfl⟩ := hu; rfl
theorem ints_set (xs : List Int) (i : Nat) (x : Int) : ints (xs.set i x) = (ints xs).set i (.int .i64 x) := by simp [ints, List.map_set]
/-- a slice's header -/
structure Sl where
  a : Option Addr
  l : Nat
  c : Nat
def Sl.v (s : Sl) : Value := .slice s.a s.l s.c
def OwnI (w : World) (t : TypeId) (s : Sl) (xs : List Int) (G : Nat → Prop) : Prop := Own w 1 t s.a s.l s.c (ints xs) G
theorem OwnI.len {w : World} {t : TypeId} {s : Sl} {xs : List Int} {G : Nat → Prop} (h : OwnI w t s xs G) : s.l = xs.length := by have := h.1; simpa using this.symm
/-- l[1:] -/
theorem Own.tail {w : World} {z : Nat} {t : TypeId} {a : Option Addr} {l c : Nat} {cs : List Value} {G : Nat → Prop} (h : Own w z t a l c cs G) (n : Nat) (hn : n ≤ l) :
    Own w z t (if c = n then a else Option.map (fun q => Addr.add q (n * z)) a) (l - n) (c - n) (cs.drop (n * z)) G := by
  obtain ⟨h1, h2, h | ⟨b, o, B, rfl, hg, hb, hl, hv⟩⟩ := h
  · obtain ⟨rfl, rfl⟩ := h
    exact ⟨by simp [h1, Nat.sub_mul], by omega, .inl ⟨by simp, by omega⟩⟩
  · have hle : n * z ≤ c * z := Nat.mul_le_mul_right _ (by omega)
    refine ⟨by simp [h1, Nat.sub_mul], by omega, .inr ?_⟩
    by_cases hc : c = n
    · have hl0 : l = n := by omega
      subst hc; subst hl0
      refine ⟨b, o, B, by simp, hg, hb, by simp; omega, fun i v hi => ?_⟩
      rw [List.drop_eq_nil_of_le (by omega)] at hi; simp at hi
    · refine ⟨b, o + n * z, B, by simp [hc], hg, hb, by rw [Nat.sub_mul]; omega, fun i v hi => ?_⟩
      rw [List.getElem?_drop] at hi
      rw [Nat.add_assoc]; exact hv _ _ hi
/-- an element of an owned row set -/
theorem Own.set {w w' : World} {z : Nat} {t : TypeId} {a : Option Addr} {l c : Nat} {cs : List Value} {G : Nat → Prop} (h : Own w z t a l c cs G) {i : Nat} {v : Value} (hi : i < cs.length) {p : Addr} (hp : a = some p) :
    ∃ b o B, p = ⟨b, o, .none⟩ ∧ G b ∧ Blk w b B t ∧ o + i < B.length ∧ (Blk w' b (B.set (o + i) v) t → Own w' z t a l c (cs.set i v) G) := by
  obtain ⟨h1, h2, h | ⟨b, o, B, rfl, hg, hb, hl, hv⟩⟩ := h
  · rw [h.1] at hp; cases hp
  · cases hp
    have hle : l * z ≤ c * z := Nat.mul_le_mul_right _ h2
    refine ⟨b, o, B, rfl, hg, hb, by omega, fun hb' => ⟨by simpa using h1, h2, .inr ⟨b, o, _, rfl, hg, hb', by simpa using hl, fun j u hu => ?_⟩⟩⟩
    rw [List.getElem?_set] at hu ⊢
    by_cases hj : i = j
    · subst hj; simp only [if_true] at hu ⊢
      rw [if_pos hi] at hu; rw [if_pos (by omega)]; exact hu
    · rw [if_neg hj] at hu; rw [if_neg (by omega)]; exact hv j u hu

/-! ### loops over functions -/
theorem LoopIs.lt {w : World} {l : Nat} {r : Loop} (h : LoopIs w l r) : l < w.heap.size := size_of_some h
theorem LoopIs.setLoop {w : World} {l : Nat} {r : Loop} (h : LoopIs w l r) (r' : Loop) : LoopIs (setLoop w l r') l r' := by
  have hl := h.lt
  unfold LoopIs X.setLoop
  simp [hl]
theorem Fr.setLoop (w : World) (l : Nat) (r : Loop) : Fr (fun b => b = l) w (setLoop w l r) :=
  ⟨by simp [X.setLoop], fun b _ hb => by simp [X.setLoop, Array.getElem?_setIfInBounds, Ne.symm hb]⟩
theorem Fr.loop {D : Nat → Prop} {w w' : World} (h : Fr D w w') {l : Nat} {r : Loop} (hl : LoopIs w l r) (hd : ¬ D l) : LoopIs w' l r := (h.at_ l hl.lt hd).trans hl
theorem LoopIs.new (w : World) (r : Loop) : LoopIs (w.alloc (.loop r)) w.heap.size r := heap_alloc_new w _
theorem Blk.ne_loop {w : World} {b l : Nat} {B : List Value} {t : TypeId} {r : Loop} (hb : Blk w b B t) (hl : LoopIs w l r) : b ≠ l := by
  intro e; subst e; unfold Blk at hb; unfold LoopIs at hl; rw [hb] at hl; cases hl
theorem Own.shut {n : Nat} {w w' : World} (hs : ShutD n w w') {z : Nat} {t : TypeId} {a : Option Addr} {l c : Nat} {cs : List Value} {G : Nat → Prop} (h : Own w z t a l c cs G) : Own w' z t a l c cs G := by
  obtain ⟨h1, h2, h | ⟨b, o, B, ha, hg, hb, hl, hv⟩⟩ := h
  · exact ⟨h1, h2, .inl h⟩
  · exact ⟨h1, h2, .inr ⟨b, o, B, ha, hg, hb.shut hs, hl, hv⟩⟩
theorem ShutD.fr' {n : Nat} {w w' : World} (h : ShutD n w w') : Fr (fun b => n ≤ b) w w' :=
  ⟨Nat.le_of_eq h.size.symm, fun b _ hd => by rcases h.at_ b with h | ⟨h, _, _⟩; exact h; exact absurd h hd⟩
/-- a block that is no row of cells is none of an owned row's -/
theorem Own.off {w w' : World} {l : Nat} {r : Loop} (hl : LoopIs w l r) (hf : Fr (fun b => b = l) w w') {z : Nat} {t : TypeId} {a : Option Addr} {n c : Nat} {cs : List Value} {G : Nat → Prop} (h : Own w z t a n c cs G) : Own w' z t a n c cs G := by
  obtain ⟨h1, h2, h | ⟨b, o, B, ha, hg, hb, hn, hv⟩⟩ := h
  · exact ⟨h1, h2, .inl h⟩
  · exact ⟨h1, h2, .inr ⟨b, o, B, ha, hg, hf.blk hb (hb.ne_loop hl), hn, hv⟩⟩

/-! ### copy, max -/
theorem xr_copy {P : Program} {dT sT ty e : TypeId} {z bytes : Nat} {zc : List Value} (hT : SlT P dT e z bytes zc) {w : World} {b o dLen dCap : Nat} {B : List Value} {t : TypeId} (hb : Blk w b B t)
    {sa : Option Addr} {sLen sCap : Nat} {xs : List Value} {X : Nat → Prop} (hx : Rd w sa xs X) (hxl : xs.length = min sLen dLen * z) (hfit : o + xs.length ≤ B.length) (h1 : ∀ u ∈ xs, u.oneCell' = true) {K : Value → World → Prop}
    (h : ∀ w', Blk w' b (B.take o ++ xs ++ B.drop (o + xs.length)) t → Fr (fun k => k = b) w w' → w'.heap.size = w.heap.size → K (.int .i64 ((min sLen dLen : Nat) : Int)) w') :
    XRun P (Builtin.copy_ #[dT, sT] ty (List.toArray [.slice (some ⟨b, o, none⟩) dLen dCap, .slice sa sLen sCap])) w K := by
  obtain ⟨i, v, hi, hz, rfl, rfl, hv⟩ := hT.get
  have hf : (Builtin.firstCells i.size (min sLen dLen) (.slice sa sLen sCap)).run P w = .ok xs.toArray w := run_firstCells_rd (P := P) (c := sCap) hx hxl
  have hst := run_storeCells_at P b o t xs 0 B.toArray w hb (by simpa using hfit) h1
  simp only [Nat.add_zero] at hst
  have hrun : (Builtin.copy_ #[dT, sT] ty (List.toArray [.slice (some ⟨b, o, none⟩) dLen dCap, .slice sa sLen sCap])).run P w = .ok (.int .i64 ((min sLen dLen : Nat) : Int)) (w.setRow b (B.take o ++ xs ++ B.drop (o + xs.length)).toArray) := by
    have e : Nat.min sLen dLen = min sLen dLen := rfl
    simp only [Builtin.copy_, List.getElem?_toArray, List.getElem?_cons_zero, List.getElem?_cons_succ, Sem.run_bind, run_underlying hT.1, Result.andThen_ok, Builtin.lenOf, Sem.run_pure, sizeOf_run hi, hf, hst, goInt, e]
  unfold XRun; rw [hrun]
  exact ⟨KeepsD.setRow hb _, h _ (setRow_heap w b _ _ t _ hb) ⟨by simp [World.setRow], fun k hk hd => setRow_other w b k _ hd⟩ (by simp [World.setRow])⟩
theorem xr_max {P : Program} {l : List Value} {v : Value} (hv : maxV .max l = some v) {ts : Array TypeId} {t : TypeId} {w : World} {K : Value → World → Prop} (h : K v w) : XRun P (Builtin.max_ ts t l.toArray) w K := by
  unfold XRun; rw [maxV_max (P := P) l.length l v rfl hv ts t w]; exact ⟨KeepsD.refl w, h⟩
theorem xr_min {P : Program} {l : List Value} {v : Value} (hv : maxV .min l = some v) {ts : Array TypeId} {t : TypeId} {w : World} {K : Value → World → Prop} (h : K v w) : XRun P (Builtin.min_ ts t l.toArray) w K := by
  unfold XRun; rw [maxV_min (P := P) l.length l v rfl hv ts t w]; exact ⟨KeepsD.refl w, h⟩
