/- The verify seat: modules as data; lists looked through. -/
import Derived.Test.YtahcpjgaogghiaaGreatF
import Derived.Test.YtahcpjgaogghiaaGreatX12
set_option linter.unusedVariables false
set_option linter.unusedSimpArgs false
namespace Go.Proofs.YtahcpjgaogghiaaGreat
open Go.X

structure Ins where
  code : Int
  a : Int
  b : Int
  num : Int
  deriving DecidableEq
structure Cod where
  name : ByteArray
  locals : Int
  ins : List Ins
  lines : List Int
structure Mdl where
  vars : List Int
  arrays : List Int
  chans : List Int
  mutexes : Int
  conds : Int
  threads : List Cod
abbrev ReadsI := SlR (Rep.int .i64)
def Ins.cells (i : Ins) : List Value := [.int .i64 i.code, .int .i64 i.a, .int .i64 i.b, .int .i64 i.num]
def Ins.v (i : Ins) : Value := .agg #[.int .i64 i.code, .int .i64 i.a, .int .i64 i.b, .int .i64 i.num]
def insR : Rep Ins where
  z := 4
  p := fun _ _ cs x => cs = x.cells
  len := fun h => by subst h; rfl
  frame := fun h _ _ => h
  mono := fun h _ => h
/-- a code's cells -/
structure CodH where
  si : Sl
  sl : Sl
def Cod.cells (c : Cod) (h : CodH) : List Value := [.string c.name, .int .i64 c.locals, h.si.v, h.sl.v]
def Cod.v (c : Cod) (h : CodH) : Value := .agg #[.string c.name, .int .i64 c.locals, h.si.v, h.sl.v]
def CodP (w : World) (G : Nat → Prop) (h : CodH) (c : Cod) : Prop := SlR insR w G h.si c.ins ∧ ReadsI w G h.sl c.lines
def codR : Rep Cod where
  z := 4
  p := fun w G cs x => ∃ h : CodH, cs = x.cells h ∧ CodP w G h x
  len := fun ⟨h, e, _⟩ => by subst e; rfl
  frame := fun ⟨h, e, h1, h2⟩ hf hd => ⟨h, e, h1.frame hf hd, h2.frame hf hd⟩
  mono := fun ⟨h, e, h1, h2⟩ hm => ⟨h, e, h1.mono hm, h2.mono hm⟩
structure MdlH where
  sv : Sl
  sa : Sl
  sc : Sl
  st : Sl
def Mdl.cells (m : Mdl) (h : MdlH) : List Value := [h.sv.v, h.sa.v, h.sc.v, .int .i64 m.mutexes, .int .i64 m.conds, h.st.v]
def Mdl.v (m : Mdl) (h : MdlH) : Value := .agg #[h.sv.v, h.sa.v, h.sc.v, .int .i64 m.mutexes, .int .i64 m.conds, h.st.v]
structure MdlP (w : World) (G : Nat → Prop) (h : MdlH) (m : Mdl) : Prop where
  v : ReadsI w G h.sv m.vars
  a : ReadsI w G h.sa m.arrays
  c : ReadsI w G h.sc m.chans
  t : SlR codR w G h.st m.threads
abbrev T0 : Nat → Prop := fun _ => True
theorem CodP.ex {w u : World} (h : Ex w u) {G : Nat → Prop} {q : CodH} {c : Cod} (hr : CodP w G q c) : CodP u T0 q c := ⟨hr.1.old h, hr.2.old h⟩
theorem MdlP.ex {w u : World} (h : Ex w u) {G : Nat → Prop} {q : MdlH} {m : Mdl} (hr : MdlP w G q m) : MdlP u T0 q m := ⟨hr.v.old h, hr.a.old h, hr.c.old h, hr.t.old h⟩

/-- a function value answers as f does, whatever lies there that lay at w0, and changes nothing of it -/
def DecI (w0 : World) (v : Value) (f : Int → Bool) : Prop :=
  ∀ (n : Int) (u : World) (K : Value → World → Prop) (KP : List PanicEntry → World → Prop), Ex w0 u → (∀ u', Ex u u' → K (.bool (f n)) u') → XCV Tryz.prog v [.int .i64 n] u K KP
def DecN (w0 : World) (v : Value) (f : Ins → Bool) : Prop :=
  ∀ (x : Ins) (u : World) (K : Value → World → Prop) (KP : List PanicEntry → World → Prop), Ex w0 u → (∀ u', Ex u u' → K (.bool (f x)) u') → XCV Tryz.prog v [x.v] u K KP
def DecC (w0 : World) (v : Value) (f : Cod → Bool) : Prop :=
  ∀ (x : Cod) (h : CodH) (u : World) (K : Value → World → Prop) (KP : List PanicEntry → World → Prop), Ex w0 u → CodP u T0 h x → (∀ u', Ex u u' → K (.bool (f x)) u') → XCV Tryz.prog v [x.v h] u K KP
theorem DecI.ex {w u : World} {v : Value} {f : Int → Bool} (h : DecI w v f) (he : Ex w u) : DecI u v f := fun n u' K KP hu => h n u' K KP (he.trans hu)
theorem DecN.ex {w u : World} {v : Value} {f : Ins → Bool} (h : DecN w v f) (he : Ex w u) : DecN u v f := fun n u' K KP hu => h n u' K KP (he.trans hu)
theorem DecC.ex {w u : World} {v : Value} {f : Cod → Bool} (h : DecC w v f) (he : Ex w u) : DecC u v f := fun n q u' K KP hu => h n q u' K KP (he.trans hu)

section
variable {w : World} {K : Value → World → Prop} {KP : List PanicEntry → World → Prop}
theorem C98 {n a b : Int} (h : K (.bool (decide (a ≤ n) && decide (n ≤ b))) w) : XCP Tryz.prog 98 [.int .i64 n, .int .i64 a, .int .i64 b] w K KP := E98 (by unfold F98; exact h)
theorem C84 {n a b : Int} (h : K (.bool (decide (a ≤ n) && decide (n ≤ b))) w) : XCP Tryz.prog 84 [.int .i64 n, .int .i64 a, .int .i64 b] w K KP := E84 (by unfold F84; exact h)

/-- is a number one of 32 bits? -/
theorem wrap32 (n : Int) : (n == IntKind.wrap .i64 (IntKind.wrap .i32 n)) = (decide (-2147483648 ≤ n) && decide (n ≤ 2147483647)) := by
  have h : IntKind.wrap .i32 n = (n + 2147483648) % 4294967296 - 2147483648 := by
    simp [IntKind.wrap, IntKind.signed, IntKind.bits]
    split <;> omega
  rw [h, IntKind.wrap_i64, Bool.eq_iff_iff]
  simp
  omega
theorem D81 : DecI w (.func (.func 81) #[] #[]) (fun n => decide (-2147483648 ≤ n) && decide (n ≤ 2147483647)) := by
  intro n u K KP _ hk
  show XCP Tryz.prog 81 [.int .i64 n] u K KP
  refine E81 ?_
  unfold F81
  rw [wrap32]
  exact hk u (Ex.refl u)
theorem D83 : DecI w (.func (.func 83) #[] #[]) (fun n => decide (0 ≤ n) && decide (n ≤ 256)) := by
  intro n u K KP _ hk
  show XCP Tryz.prog 83 [.int .i64 n] u K KP
  refine E83 ?_
  unfold F83
  exact C84 ⟨_, rfl, hk u (Ex.refl u)⟩
theorem D85 : DecI w (.func (.func 85) #[] #[]) (fun n => decide (1 ≤ n) && decide (n ≤ 16)) := by
  intro n u K KP _ hk
  show XCP Tryz.prog 85 [.int .i64 n] u K KP
  refine E85 ?_
  unfold F85
  exact C84 ⟨_, rfl, hk u (Ex.refl u)⟩
theorem D90 : DecI w (.func (.func 90) #[] #[]) (fun n => decide (0 ≤ n) && decide (n ≤ 65536)) := by
  intro n u K KP _ hk
  show XCP Tryz.prog 90 [.int .i64 n] u K KP
  refine E90 ?_
  unfold F90
  exact C84 ⟨_, rfl, hk u (Ex.refl u)⟩

/-! looking for one -/
theorem F100_ok {s : Sl} {xs : List Int} {G : Nat → Prop} (hs : ReadsI w G s xs) {v : Value} {f : Int → Bool} (hv : DecI w v f) (hn : xs.length ≤ 1000000000)
    (h : ∀ (n : Int) u, Ex w u → (0 ≤ n ↔ ∃ x ∈ xs, f x = true) → K (.int .i64 n) u) : F100 s.a s.l s.c v w K KP := by
  unfold F100
  have hl := hs.len
  refine ⟨fun n u => 0 ≤ n ∧ n ≤ xs.length ∧ Ex w u ∧ ∀ x ∈ xs.take n.toNat, f x = false, fun n _ => xs.length - n.toNat, ⟨by omega, by omega, Ex.refl w, by simp⟩, ?_⟩
  rintro n u ⟨h0, h1, he, hf⟩
  by_cases hlt : n < xs.length
  · rw [if_pos (by simp; omega)]
    have ht : n.toNat < xs.length := by omega
    obtain ⟨p, hp, hc⟩ := hs.int ht
    rw [hp, xptr_some]
    refine ⟨h0, by omega, _, by simpa using he.cell hc, ?_⟩
    refine hv _ u _ KP he fun u' he' => ⟨_, rfl, ?_⟩
    cases hfx : f xs[n.toNat] with
    | true =>
      rw [if_pos rfl]
      exact h n u' (he.trans he') ⟨fun _ => ⟨_, List.getElem_mem ht, hfx⟩, fun _ => h0⟩
    | false =>
      rw [if_neg (by decide), wi (by omega) (by omega)]
      refine ⟨⟨by omega, by omega, he.trans he', ?_⟩, by show xs.length - (n + 1).toNat < xs.length - n.toNat; omega⟩
      rw [show (n + 1).toNat = n.toNat + 1 from by omega, List.take_add_one, List.getElem?_eq_getElem ht]
      intro x hx
      rcases List.mem_append.1 hx with hx | hx
      · exact hf x hx
      · simp at hx; subst hx; exact hfx
  · rw [if_neg (by simp; omega)]
    rw [List.take_of_length_le (by omega)] at hf
    exact h (-1) u he ⟨fun hh => by omega, fun ⟨x, hx, hfx⟩ => by rw [hf x hx] at hfx; cases hfx⟩
theorem C162 {s : Sl} {xs : List Ins} {G : Nat → Prop} (hs : SlR insR w G s xs) {v : Value} {f : Ins → Bool} (hv : DecN w v f) (hn : xs.length ≤ 1000000000)
    (h : ∀ (n : Int) u, Ex w u → (0 ≤ n ↔ ∃ x ∈ xs, f x = true) → K (.int .i64 n) u) : XCP Tryz.prog 162 [s.v, v] w K KP := by
  show XCP Tryz.prog 162 [.slice s.a s.l s.c, v] w K KP
  refine E162 ?_
  unfold F162
  have hl := hs.len
  refine ⟨fun n u => 0 ≤ n ∧ n ≤ xs.length ∧ Ex w u ∧ ∀ x ∈ xs.take n.toNat, f x = false, fun n _ => xs.length - n.toNat, ⟨by omega, by omega, Ex.refl w, by simp⟩, ?_⟩
  rintro n u ⟨h0, h1, he, hf⟩
  by_cases hlt : n < xs.length
  · rw [if_pos (by simp; omega)]
    have ht : n.toNat < xs.length := by omega
    obtain ⟨p, row, hp, hr, hc⟩ := hs.nth (List.getElem?_eq_getElem ht) (by decide)
    have hr : row = (xs[n.toNat]).cells := hr
    subst hr
    rw [hp, xptr_some]
    refine ⟨h0, by omega, _, _, _, _, he.cells hc, ?_⟩
    refine hv xs[n.toNat] u _ KP he fun u' he' => ⟨_, rfl, ?_⟩
    cases hfx : f xs[n.toNat] with
    | true =>
      rw [if_pos rfl]
      exact h n u' (he.trans he') ⟨fun _ => ⟨_, List.getElem_mem ht, hfx⟩, fun _ => h0⟩
    | false =>
      rw [if_neg (by decide), wi (by omega) (by omega)]
      refine ⟨⟨by omega, by omega, he.trans he', ?_⟩, by show xs.length - (n + 1).toNat < xs.length - n.toNat; omega⟩
      rw [show (n + 1).toNat = n.toNat + 1 from by omega, List.take_add_one, List.getElem?_eq_getElem ht]
      intro x hx
      rcases List.mem_append.1 hx with hx | hx
      · exact hf x hx
      · simp at hx; subst hx; exact hfx
  · rw [if_neg (by simp; omega)]
    rw [List.take_of_length_le (by omega)] at hf
    exact h (-1) u he ⟨fun hh => by omega, fun ⟨x, hx, hfx⟩ => by rw [hf x hx] at hfx; cases hfx⟩
theorem C161 {s : Sl} {xs : List Cod} {G : Nat → Prop} (hs : SlR codR w G s xs) {v : Value} {f : Cod → Bool} (hv : DecC w v f) (hn : xs.length ≤ 1000000000)
    (h : ∀ (n : Int) u, Ex w u → (0 ≤ n ↔ ∃ x ∈ xs, f x = true) → K (.int .i64 n) u) : XCP Tryz.prog 161 [s.v, v] w K KP := by
  show XCP Tryz.prog 161 [.slice s.a s.l s.c, v] w K KP
  refine E161 ?_
  unfold F161
  have hl := hs.len
  refine ⟨fun n u => 0 ≤ n ∧ n ≤ xs.length ∧ Ex w u ∧ ∀ x ∈ xs.take n.toNat, f x = false, fun n _ => xs.length - n.toNat, ⟨by omega, by omega, Ex.refl w, by simp⟩, ?_⟩
  rintro n u ⟨h0, h1, he, hf⟩
  by_cases hlt : n < xs.length
  · rw [if_pos (by simp; omega)]
    have ht : n.toNat < xs.length := by omega
    obtain ⟨p, row, hp, ⟨q, hr, hq⟩, hc⟩ := hs.nth (List.getElem?_eq_getElem ht) (by decide)
    subst hr
    rw [hp, xptr_some]
    refine ⟨h0, by omega, _, _, _, _, _, _, _, _, he.cells hc, ?_⟩
    refine hv xs[n.toNat] q u _ KP he (hq.ex he) fun u' he' => ⟨_, rfl, ?_⟩
    cases hfx : f xs[n.toNat] with
    | true =>
      rw [if_pos rfl]
      exact h n u' (he.trans he') ⟨fun _ => ⟨_, List.getElem_mem ht, hfx⟩, fun _ => h0⟩
    | false =>
      rw [if_neg (by decide), wi (by omega) (by omega)]
      refine ⟨⟨by omega, by omega, he.trans he', ?_⟩, by show xs.length - (n + 1).toNat < xs.length - n.toNat; omega⟩
      rw [show (n + 1).toNat = n.toNat + 1 from by omega, List.take_add_one, List.getElem?_eq_getElem ht]
      intro x hx
      rcases List.mem_append.1 hx with hx | hx
      · exact hf x hx
      · simp at hx; subst hx; exact hfx
  · rw [if_neg (by simp; omega)]
    rw [List.take_of_length_le (by omega)] at hf
    exact h (-1) u he ⟨fun hh => by omega, fun ⟨x, hx, hfx⟩ => by rw [hf x hx] at hfx; cases hfx⟩
theorem any_of {α : Type} {xs : List α} {f : α → Bool} {n : Int} (h : 0 ≤ n ↔ ∃ x ∈ xs, f x = true) : decide (n ≥ 0) = xs.any f := by
  rw [Bool.eq_iff_iff]; simpa using h
theorem C58 {s : Sl} {xs : List Int} {G : Nat → Prop} (hs : ReadsI w G s xs) {v : Value} {f : Int → Bool} (hv : DecI w v f) (hn : xs.length ≤ 1000000000)
    (h : ∀ u, Ex w u → K (.bool (xs.any f)) u) : XCP Tryz.prog 58 [s.v, v] w K KP := by
  show XCP Tryz.prog 58 [.slice s.a s.l s.c, v] w K KP
  refine E58 (E100 (F100_ok (K := fun v1 w0 => ∃ n : Int, v1 = .int .i64 n ∧ K (.bool (decide (n ≥ 0))) w0) hs hv hn fun n u he hi => ⟨_, rfl, ?_⟩))
  rw [any_of hi]; exact h u he
theorem C133 {s : Sl} {xs : List Int} {G : Nat → Prop} (hs : ReadsI w G s xs) {v : Value} {f : Int → Bool} (hv : DecI w v f) (hn : xs.length ≤ 1000000000)
    (h : ∀ u, Ex w u → K (.bool (xs.any f)) u) : XCP Tryz.prog 133 [s.v, v] w K KP := by
  show XCP Tryz.prog 133 [.slice s.a s.l s.c, v] w K KP
  have hq : F100 s.a s.l s.c v w (fun v1 w0 => ∃ n : Int, v1 = .int .i64 n ∧ K (.bool (decide (n ≥ 0))) w0) KP :=
    F100_ok hs hv hn fun n u he hi => ⟨_, rfl, by rw [any_of hi]; exact h u he⟩
  exact E133 (E160 hq)
theorem C137 {s : Sl} {xs : List Ins} {G : Nat → Prop} (hs : SlR insR w G s xs) {v : Value} {f : Ins → Bool} (hv : DecN w v f) (hn : xs.length ≤ 1000000000)
    (h : ∀ u, Ex w u → K (.bool (xs.any f)) u) : XCP Tryz.prog 137 [s.v, v] w K KP := by
  show XCP Tryz.prog 137 [.slice s.a s.l s.c, v] w K KP
  refine E137 (C162 hs hv hn fun n u he hi => ⟨_, rfl, ?_⟩)
  rw [any_of hi]; exact h u he
theorem C135 {s : Sl} {xs : List Cod} {G : Nat → Prop} (hs : SlR codR w G s xs) {v : Value} {f : Cod → Bool} (hv : DecC w v f) (hn : xs.length ≤ 1000000000)
    (h : ∀ u, Ex w u → K (.bool (xs.any f)) u) : XCP Tryz.prog 135 [s.v, v] w K KP := by
  show XCP Tryz.prog 135 [.slice s.a s.l s.c, v] w K KP
  refine E135 (C161 hs hv hn fun n u he hi => ⟨_, rfl, ?_⟩)
  rw [any_of hi]; exact h u he

/-! all of a list, of at most so many -/
theorem any_not {α : Type} (xs : List α) (f : α → Bool) : (!xs.any fun x => !f x) = xs.all f := by
  induction xs with
  | nil => rfl
  | cons x r ih => simp only [List.any_cons, List.all_cons, Bool.not_or, Bool.not_not, ih]
theorem N132 {b : Nat} {t : TypeId} {v : Value} {f : Int → Bool} (hv : DecI w v f) (hb : Blk w b [v] t) : DecI w (.func (.func 132) #[] #[.pointer (some ⟨b, 0, none⟩)]) (fun n => !f n) := by
  intro n u K KP he hk
  show XCP Tryz.prog 132 [.int .i64 n, .pointer (some ⟨b, 0, none⟩)] u K KP
  refine E132 ?_
  unfold F132
  rw [xptr_some]
  exact ⟨v, (he.blk hb).ld' rfl, hv n u _ KP he fun u' he' => ⟨_, rfl, hk u' he'⟩⟩
theorem N134 {b : Nat} {t : TypeId} {v : Value} {f : Int → Bool} (hv : DecI w v f) (hb : Blk w b [v] t) : DecI w (.func (.func 134) #[] #[.pointer (some ⟨b, 0, none⟩)]) (fun n => !f n) := by
  intro n u K KP he hk
  show XCP Tryz.prog 134 [.int .i64 n, .pointer (some ⟨b, 0, none⟩)] u K KP
  refine E134 ?_
  unfold F134
  rw [xptr_some]
  exact ⟨v, (he.blk hb).ld' rfl, hv n u _ KP he fun u' he' => ⟨_, rfl, hk u' he'⟩⟩
theorem N138 {b : Nat} {t : TypeId} {v : Value} {f : Ins → Bool} (hv : DecN w v f) (hb : Blk w b [v] t) : DecN w (.func (.func 138) #[] #[.pointer (some ⟨b, 0, none⟩)]) (fun n => !f n) := by
  intro x u K KP he hk
  show XCP Tryz.prog 138 [.agg #[.int .i64 x.code, .int .i64 x.a, .int .i64 x.b, .int .i64 x.num], .pointer (some ⟨b, 0, none⟩)] u K KP
  refine E138 ?_
  unfold F138
  intro w0 p
  have hs : Sep w0 (bx u.heap.size x.cells 52 :: [oldA u]) := (Sep.begin u).box _ _
  clear_value w0
  rw [xptr_some]
  refine ⟨v, ((he.trans (hs.ex 1 rfl)).blk hb).ld' rfl, _, _, _, _, hs.bx0.lds, ?_⟩
  exact hv x w0 _ KP (he.trans (hs.ex 1 rfl)) fun u' he' => ⟨_, rfl, hk u' ((hs.ex 1 rfl).trans he')⟩
theorem N136 {b : Nat} {t : TypeId} {v : Value} {f : Cod → Bool} (hv : DecC w v f) (hb : Blk w b [v] t) : DecC w (.func (.func 136) #[] #[.pointer (some ⟨b, 0, none⟩)]) (fun n => !f n) := by
  intro x q u K KP he hq hk
  show XCP Tryz.prog 136 [.agg #[.string x.name, .int .i64 x.locals, .slice q.si.a q.si.l q.si.c, .slice q.sl.a q.sl.l q.sl.c], .pointer (some ⟨b, 0, none⟩)] u K KP
  refine E136 ?_
  unfold F136
  intro w0 p
  have hs : Sep w0 (bx u.heap.size (x.cells q) 46 :: [oldA u]) := (Sep.begin u).box _ _
  clear_value w0
  rw [xptr_some]
  refine ⟨v, ((he.trans (hs.ex 1 rfl)).blk hb).ld' rfl, _, _, _, _, _, _, _, _, hs.bx0.lds, ?_⟩
  exact hv x q w0 _ KP (he.trans (hs.ex 1 rfl)) (hq.ex (hs.ex 1 rfl)) fun u' he' => ⟨_, rfl, hk u' ((hs.ex 1 rfl).trans he')⟩
theorem boxK_func {g : FuncId} {ts : Array Value} {fs : Array Value} {K : Array Value → Prop} (h : K #[.func (.func g) ts fs]) : boxK (.func (.func g) ts fs) K := h
/-- a list of at most so many, all of which are such -/
def allOk {α : Type} (xs : List α) (m : Int) (f : α → Bool) : Bool := decide ((xs.length : Int) ≤ m) && xs.all f
theorem C80 {s : Sl} {xs : List Int} {G : Nat → Prop} (hs : ReadsI w G s xs) {f : Int → Bool} {g : FuncId} (hv : DecI w (.func (.func g) #[] #[]) f) {m : Int} (hm : m ≤ 1000000)
    (h : ∀ u, Ex w u → K (.bool (allOk xs m f)) u) : XCP Tryz.prog 80 [s.v, .int .i64 m, .func (.func g) #[] #[]] w K KP := by
  show XCP Tryz.prog 80 [.slice s.a s.l s.c, .int .i64 m, .func (.func g) #[] #[]] w K KP
  refine E80 ?_
  unfold F80
  refine boxK_func ?_
  intro w0 p
  have hb : Blk w0 w.heap.size [.func (.func g) #[] #[]] 83 := Blk.new w _ _
  have he : Ex w w0 := Ex.alloc w _
  clear_value w0
  intro kb hkb
  have hl := hs.len
  unfold allOk at h
  by_cases hlen : (s.l : Int) ≤ m
  · rw [if_pos (by simpa using hlen)]
    refine C58 (s := s) (hs.old he) (N132 (hv.ex he) hb) (by omega) fun u hu => ⟨_, rfl, hkb _ _ ?_⟩
    have := h u (he.trans hu)
    rw [any_not]
    rwa [show decide ((xs.length : Int) ≤ m) = true from by simp; omega, Bool.true_and] at this
  · rw [if_neg (by simpa using hlen)]
    refine hkb _ _ ?_
    have := h w0 he
    rwa [show decide ((xs.length : Int) ≤ m) = false from by simp; omega, Bool.false_and] at this
theorem C82 {s : Sl} {xs : List Int} {G : Nat → Prop} (hs : ReadsI w G s xs) {f : Int → Bool} {g : FuncId} (hv : DecI w (.func (.func g) #[] #[]) f) {m : Int} (hm : m ≤ 1000000)
    (h : ∀ u, Ex w u → K (.bool (allOk xs m f)) u) : XCP Tryz.prog 82 [s.v, .int .i64 m, .func (.func g) #[] #[]] w K KP := by
  show XCP Tryz.prog 82 [.slice s.a s.l s.c, .int .i64 m, .func (.func g) #[] #[]] w K KP
  refine E82 ?_
  unfold F82
  refine boxK_func ?_
  intro w0 p
  have hb : Blk w0 w.heap.size [.func (.func g) #[] #[]] 187 := Blk.new w _ _
  have he : Ex w w0 := Ex.alloc w _
  clear_value w0
  intro kb hkb
  have hl := hs.len
  unfold allOk at h
  by_cases hlen : (s.l : Int) ≤ m
  · rw [if_pos (by simpa using hlen)]
    refine C133 (s := s) (hs.old he) (N134 (hv.ex he) hb) (by omega) fun u hu => ⟨_, rfl, hkb _ _ ?_⟩
    have := h u (he.trans hu)
    rw [any_not]
    rwa [show decide ((xs.length : Int) ≤ m) = true from by simp; omega, Bool.true_and] at this
  · rw [if_neg (by simpa using hlen)]
    refine hkb _ _ ?_
    have := h w0 he
    rwa [show decide ((xs.length : Int) ≤ m) = false from by simp; omega, Bool.false_and] at this
theorem C88 {s : Sl} {xs : List Ins} {G : Nat → Prop} (hs : SlR insR w G s xs) {f : Ins → Bool} {g : FuncId} (hv : DecN w (.func (.func g) #[] #[]) f) {m : Int} (hm : m ≤ 1000000)
    (h : ∀ u, Ex w u → K (.bool (allOk xs m f)) u) : XCP Tryz.prog 88 [s.v, .int .i64 m, .func (.func g) #[] #[]] w K KP := by
  show XCP Tryz.prog 88 [.slice s.a s.l s.c, .int .i64 m, .func (.func g) #[] #[]] w K KP
  refine E88 ?_
  unfold F88
  refine boxK_func ?_
  intro w0 p
  have hb : Blk w0 w.heap.size [.func (.func g) #[] #[]] 190 := Blk.new w _ _
  have he : Ex w w0 := Ex.alloc w _
  clear_value w0
  intro kb hkb
  have hl := hs.len
  unfold allOk at h
  by_cases hlen : (s.l : Int) ≤ m
  · rw [if_pos (by simpa using hlen)]
    refine C137 (s := s) (hs.old he) (N138 (hv.ex he) hb) (by omega) fun u hu => ⟨_, rfl, hkb _ _ ?_⟩
    have := h u (he.trans hu)
    rw [any_not]
    rwa [show decide ((xs.length : Int) ≤ m) = true from by simp; omega, Bool.true_and] at this
  · rw [if_neg (by simpa using hlen)]
    refine hkb _ _ ?_
    have := h w0 he
    rwa [show decide ((xs.length : Int) ≤ m) = false from by simp; omega, Bool.false_and] at this
theorem C86 {s : Sl} {xs : List Cod} {G : Nat → Prop} (hs : SlR codR w G s xs) {f : Cod → Bool} {g : FuncId} (hv : DecC w (.func (.func g) #[] #[]) f) {m : Int} (hm : m ≤ 1000000)
    (h : ∀ u, Ex w u → K (.bool (allOk xs m f)) u) : XCP Tryz.prog 86 [s.v, .int .i64 m, .func (.func g) #[] #[]] w K KP := by
  show XCP Tryz.prog 86 [.slice s.a s.l s.c, .int .i64 m, .func (.func g) #[] #[]] w K KP
  refine E86 ?_
  unfold F86
  refine boxK_func ?_
  intro w0 p
  have hb : Blk w0 w.heap.size [.func (.func g) #[] #[]] 191 := Blk.new w _ _
  have he : Ex w w0 := Ex.alloc w _
  clear_value w0
  intro kb hkb
  have hl := hs.len
  unfold allOk at h
  by_cases hlen : (s.l : Int) ≤ m
  · rw [if_pos (by simpa using hlen)]
    refine C135 (s := s) (hs.old he) (N136 (hv.ex he) hb) (by omega) fun u hu => ⟨_, rfl, hkb _ _ ?_⟩
    have := h u (he.trans hu)
    rw [any_not]
    rwa [show decide ((xs.length : Int) ≤ m) = true from by simp; omega, Bool.true_and] at this
  · rw [if_neg (by simpa using hlen)]
    refine hkb _ _ ?_
    have := h w0 he
    rwa [show decide ((xs.length : Int) ≤ m) = false from by simp; omega, Bool.false_and] at this
end
end Go.Proofs.YtahcpjgaogghiaaGreat
