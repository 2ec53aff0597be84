/- The sync seat: what the small functions do. -/
import Derived.Test.YthegnnifbgikmaaF
import Derived.Test.YthegnnifbgikmaaX9
set_option linter.unusedVariables false
set_option linter.unusedSimpArgs false
namespace Go.Proofs.Ythegnnifbgikmaa
open Go.X

theorem T29 : SlT Try.prog 29 3 1 8 [.int .i64 0] := ⟨by kernel_rfl, by kernel_rfl⟩
theorem T28 : SlT Try.prog 28 2 1 8 [.int .i64 0] := ⟨by kernel_rfl, by kernel_rfl⟩
theorem T74 : SlT Try.prog 74 93 1 24 [.slice none 0 0] := ⟨by kernel_rfl, by kernel_rfl⟩
theorem T75 : SlT Try.prog 75 81 3 40 [.slice none 0 0, .int .i64 0, .int .i64 0] := ⟨by kernel_rfl, by kernel_rfl⟩

section
variable {w : World} {K : Value → World → Prop} {KP : List PanicEntry → World → Prop}

theorem C14 {n : Int} (h : K (.int .i64 n) w) : XCP Try.prog 14 [.int .i64 n] w K KP := E14 h

theorem C39 {n : Int} (h : K (.int .i64 (if n < 0 ∨ n ≥ 8 then 2 else 0)) w) : XCP Try.prog 39 [.int .i64 n] w K KP := by
  apply E39; unfold F39
  by_cases hn : n < 0 ∨ n ≥ 8
  · rw [if_pos hn] at h; rw [if_pos (by simpa using hn)]; exact h
  · rw [if_neg hn] at h; rw [if_neg (by simpa using hn)]; exact h

/-- the object's own cells -/
def obj (ow cd ch : Sl) : List Value := [ow.v, cd.v, ch.v, .bool true]

theorem C59 {pb : Nat} {ow cd ch : Sl} (hb : Blk w pb (obj ow cd ch) 77) (h : K (.bool false) w) : XCP Try.prog 59 [.pointer (some ⟨pb, 0, none⟩)] w K KP := by
  apply E59; unfold F59; intro kb hk
  simp only [Option.isNone, xptr_some, add_lit, hb.cell, obj]
  exact ⟨true, rfl, hk _ _ h⟩
theorem C59n (h : K (.bool true) w) : XCP Try.prog 59 [.pointer none] w K KP := by
  apply E59; unfold F59; intro kb hk
  simp only [Option.isNone]
  exact hk _ _ h
theorem C38 {pb : Nat} {ow cd ch : Sl} (hb : Blk w pb (obj ow cd ch) 77) (h : K ow.v w) : XCP Try.prog 38 [.pointer (some ⟨pb, 0, none⟩)] w K KP := by
  apply E38; unfold F38
  simp only [xptr_some, add_lit, hb.cell]
  exact ⟨_, _, _, rfl, h⟩
theorem C41 {pb : Nat} {ow cd ch : Sl} (hb : Blk w pb (obj ow cd ch) 77) (h : K cd.v w) : XCP Try.prog 41 [.pointer (some ⟨pb, 0, none⟩)] w K KP := by
  apply E41; unfold F41
  simp only [xptr_some, add_lit, hb.cell]
  exact ⟨_, _, _, rfl, h⟩
theorem C46 {pb : Nat} {ow cd ch : Sl} (hb : Blk w pb (obj ow cd ch) 77) (h : K ch.v w) : XCP Try.prog 46 [.pointer (some ⟨pb, 0, none⟩)] w K KP := by
  apply E46; unfold F46
  simp only [xptr_some, add_lit, hb.cell]
  exact ⟨_, _, _, rfl, h⟩

/-- of: the n-th owner -/
theorem C37 {pb : Nat} {ow cd ch : Sl} (hb : Blk w pb (obj ow cd ch) 77) (hne : ∀ n, n < ow.l → ow.a ≠ none) {n : Int} (h4 : n < 0 ∨ n ≥ ow.l → K (.tuple #[.pointer none, .int .i64 4]) w)
    (h0 : 0 ≤ n → n < ow.l → ∀ p, ow.a = some p → K (.tuple #[.pointer (some (p.add n.toNat)), .int .i64 0]) w) : XCP Try.prog 37 [.pointer (some ⟨pb, 0, none⟩), .func (.func 38) #[] #[], .int .i64 n] w K KP := by
  apply E37; unfold F37
  refine C59 hb ⟨_, rfl, ?_⟩
  refine C38 hb ⟨_, _, _, rfl, ?_⟩
  by_cases hn : n < 0 ∨ n ≥ ow.l
  · rw [if_pos (by simpa using hn)]; exact h4 hn
  · rw [if_neg (by simpa using hn)]
    have h1 : 0 ≤ n := by omega
    have h2 : n < ow.l := by omega
    cases ha : ow.a with
    | none => exact absurd ha (hne n.toNat (by omega))
    | some p => exact ⟨h1, h2, by have := h0 h1 h2 p ha; simpa using this⟩
theorem C37n {n : Int} (h : K (.tuple #[.pointer none, .int .i64 1]) w) : XCP Try.prog 37 [.pointer none, .func (.func 38) #[] #[], .int .i64 n] w K KP := by
  apply E37; unfold F37
  exact C59n ⟨_, rfl, h⟩
/-- of: the n-th condition -/
theorem C40 {pb : Nat} {ow cd ch : Sl} (hb : Blk w pb (obj ow cd ch) 77) (hne : ∀ n, n < cd.l → cd.a ≠ none) {n : Int} (h4 : n < 0 ∨ n ≥ cd.l → K (.tuple #[.pointer none, .int .i64 4]) w)
    (h0 : 0 ≤ n → n < cd.l → ∀ p, cd.a = some p → K (.tuple #[.pointer (some (p.add n.toNat)), .int .i64 0]) w) : XCP Try.prog 40 [.pointer (some ⟨pb, 0, none⟩), .func (.func 41) #[] #[], .int .i64 n] w K KP := by
  apply E40; unfold F40
  refine C59 hb ⟨_, rfl, ?_⟩
  refine C41 hb ⟨_, _, _, rfl, ?_⟩
  by_cases hn : n < 0 ∨ n ≥ cd.l
  · rw [if_pos (by simpa using hn)]; exact h4 hn
  · rw [if_neg (by simpa using hn)]
    have h1 : 0 ≤ n := by omega
    have h2 : n < cd.l := by omega
    cases ha : cd.a with
    | none => exact absurd ha (hne n.toNat (by omega))
    | some p => exact ⟨h1, h2, by have := h0 h1 h2 p ha; simpa using this⟩
theorem C40n {n : Int} (h : K (.tuple #[.pointer none, .int .i64 1]) w) : XCP Try.prog 40 [.pointer none, .func (.func 41) #[] #[], .int .i64 n] w K KP := by
  apply E40; unfold F40
  exact C59n ⟨_, rfl, h⟩
/-- of: the n-th channel -/
theorem C45 {pb : Nat} {ow cd ch : Sl} (hb : Blk w pb (obj ow cd ch) 77) (hne : ∀ n, n < ch.l → ch.a ≠ none) {n : Int} (h4 : n < 0 ∨ n ≥ ch.l → K (.tuple #[.pointer none, .int .i64 4]) w)
    (h0 : 0 ≤ n → n < ch.l → ∀ p, ch.a = some p → K (.tuple #[.pointer (some (p.add (n.toNat * 3))), .int .i64 0]) w) : XCP Try.prog 45 [.pointer (some ⟨pb, 0, none⟩), .func (.func 46) #[] #[], .int .i64 n] w K KP := by
  apply E45; unfold F45
  refine C59 hb ⟨_, rfl, ?_⟩
  refine C46 hb ⟨_, _, _, rfl, ?_⟩
  by_cases hn : n < 0 ∨ n ≥ ch.l
  · rw [if_pos (by simpa using hn)]; exact h4 hn
  · rw [if_neg (by simpa using hn)]
    have h1 : 0 ≤ n := by omega
    have h2 : n < ch.l := by omega
    cases ha : ch.a with
    | none => exact absurd ha (hne n.toNat (by omega))
    | some p => exact ⟨h1, h2, h0 h1 h2 p ha⟩
theorem C45n {n : Int} (h : K (.tuple #[.pointer none, .int .i64 1]) w) : XCP Try.prog 45 [.pointer none, .func (.func 46) #[] #[], .int .i64 n] w K KP := by
  apply E45; unfold F45
  exact C59n ⟨_, rfl, h⟩

theorem OwnI.push {t u : TypeId} (hT : SlT Try.prog t u 1 8 [.int .i64 0]) {s : Sl} {xs : List Int} {G : Nat → Prop} (ho : OwnI w u s xs G) {n : Int} (hb : xs.length ≤ 1000000000) {K : Option Addr → Nat → Nat → World → Prop}
    (h : ∀ (s' : Sl) (w' : World), OwnI w' u s' (xs ++ [n]) (fun b => G b ∨ w.heap.size ≤ b) → Fr G w w' → K s'.a s'.l s'.c w') :
    XRun Try.prog (Instr.buildSlice t 1 (List.toArray [(0, .int .i64 n)])) w fun v w0 => ∃ (a1 : Option Addr) (l1 : Nat) (c1 : Nat), v = .slice a1 l1 c1 ∧
      XRun Try.prog (Builtin.append_ #[t, t] t (List.toArray [.slice s.a s.l s.c, .slice a1 l1 c1])) w0 fun v1 w1 => ∃ (a2 : Option Addr) (l2 : Nat) (c2 : Nat), v1 = .slice a2 l2 c2 ∧ K a2 l2 c2 w1 := by
  have hl := ho.len
  refine xr_push (xs := [.int .i64 n]) hT rfl (by rfl) rfl (by omega) (by intro u hu; simp at hu; subst hu; rfl) ho (by omega) (by omega) fun a' c' w' ho' hf hk => ?_
  exact h ⟨a', s.l + 1, c'⟩ w' (by simpa [OwnI] using ho') hf

/-- queue[int].push -/
theorem C43 {b o : Nat} {B : List Value} {t : TypeId} {s : Sl} {xs : List Int} {G : Nat → Prop} (hb : Blk w b B t) (hv : B[o]? = some s.v) (ho : OwnI w 3 s xs G) (hG : ¬ G b) {n : Int} (hn : xs.length ≤ 1000000000)
    (h : ∀ (s' : Sl) (w' : World), Blk w' b (B.set o s'.v) t → OwnI w' 3 s' (xs ++ [n]) (fun k => G k ∨ w.heap.size ≤ k) → Fr (fun k => k = b ∨ G k) w w' → K (.tuple #[]) w') :
    XCP Try.prog 43 [.pointer (some ⟨b, o, none⟩), .int .i64 n] w K KP := by
  apply E43; unfold F43
  simp only [xptr_some, add_lit, Nat.add_zero, hb.cell, hv]
  refine ⟨_, _, _, rfl, OwnI.push T29 ho hn fun s' w1 ho' hf => ?_⟩
  refine storeP_blk (hf.blk hb hG) (List.getElem?_eq_some_iff.1 hv).1 fun w2 hb2 hf2 hs2 => h s' w2 hb2 ?_ (hf.trans hf2 (fun _ _ h => .inr h) (fun _ _ h => .inl h))
  exact Own.frame ho' hf2 (fun k hk e => by subst e; rcases hk with hk | hk; exact hG hk; exact absurd hb.lt (by omega))
/-- queue[int64].push -/
theorem C47 {b o : Nat} {B : List Value} {t : TypeId} {s : Sl} {xs : List Int} {G : Nat → Prop} (hb : Blk w b B t) (hv : B[o]? = some s.v) (ho : OwnI w 2 s xs G) (hG : ¬ G b) {n : Int} (hn : xs.length ≤ 1000000000)
    (h : ∀ (s' : Sl) (w' : World), Blk w' b (B.set o s'.v) t → OwnI w' 2 s' (xs ++ [n]) (fun k => G k ∨ w.heap.size ≤ k) → Fr (fun k => k = b ∨ G k) w w' → K (.tuple #[]) w') :
    XCP Try.prog 47 [.pointer (some ⟨b, o, none⟩), .int .i64 n] w K KP := by
  apply E47; unfold F47
  simp only [xptr_some, add_lit, Nat.add_zero, hb.cell, hv]
  refine ⟨_, _, _, rfl, OwnI.push T28 ho hn fun s' w1 ho' hf => ?_⟩
  refine storeP_blk (hf.blk hb hG) (List.getElem?_eq_some_iff.1 hv).1 fun w2 hb2 hf2 hs2 => h s' w2 hb2 ?_ (hf.trans hf2 (fun _ _ h => .inr h) (fun _ _ h => .inl h))
  exact Own.frame ho' hf2 (fun k hk e => by subst e; rcases hk with hk | hk; exact hG hk; exact absurd hb.lt (by omega))

/-- queue[int].pop -/
theorem C44 {b o : Nat} {B : List Value} {t : TypeId} {s : Sl} {xs : List Int} {G : Nat → Prop} (hb : Blk w b B t) (hv : B[o]? = some s.v) (ho : OwnI w 3 s xs G) (hG : ¬ G b)
    (hnil : xs = [] → K (.tuple #[.int .i64 0, .bool false]) w)
    (h : ∀ (x : Int) (r : List Int) (s' : Sl) (w' : World), xs = x :: r → Blk w' b (B.set o s'.v) t → OwnI w' 3 s' r G → Fr (fun k => k = b) w w' → w'.heap.size = w.heap.size → K (.tuple #[.int .i64 x, .bool true]) w') :
    XCP Try.prog 44 [.pointer (some ⟨b, o, none⟩)] w K KP := by
  apply E44; unfold F44
  have hl := ho.len
  simp only [xptr_some, add_lit, Nat.add_zero, hb.cell, hv]
  refine ⟨_, _, _, rfl, ?_⟩
  cases xs with
  | nil => rw [if_pos (by simp [hl])]; exact hnil rfl
  | cons x r =>
    rw [if_neg (by simp [hl]; omega)]
    have h0 : OwnI w.drew 3 s (x :: r) G := ho.drew
    obtain ⟨pa, hpa, -, hx⟩ := h0.rd.isSome (i := 0) (v := .int .i64 x) rfl
    refine ⟨fun u => u = w.drew, rfl, ?_⟩
    refine ⟨s.a, s.l, s.c, fun u hu => by subst hu; rw [hb.drew.cell, hv]; rfl, ?_⟩
    rw [hpa, xptr_some]
    refine ⟨by omega, by simp [hl], x, fun u hu => by subst hu; simpa using hx, ?_⟩
    refine ⟨s.a, s.l, s.c, fun u hu => by subst hu; rw [hb.drew.cell, hv]; rfl, ?_⟩
    refine ⟨by omega, by simp [hl]; omega, ?_⟩
    refine storeP_blk hb.drew (List.getElem?_eq_some_iff.1 hv).1 fun w2 hb2 hf2 hs2 => ?_
    have ht := Own.tail h0 1 (by simp [hl])
    exact h x r ⟨if s.c = 1 then s.a else Option.map (fun q => Addr.add q (1 * 1)) s.a, s.l - 1, s.c - 1⟩ w2 rfl hb2 (by
      have := ht.frame hf2 (fun k hk e => hG (e ▸ hk))
      simpa [OwnI] using this) ((Fr.drew _ w).trans hf2 (fun _ _ h => h) (fun _ _ h => h)) hs2

/-- queue[int64].pop -/
theorem C48 {b o : Nat} {B : List Value} {t : TypeId} {s : Sl} {xs : List Int} {G : Nat → Prop} (hb : Blk w b B t) (hv : B[o]? = some s.v) (ho : OwnI w 2 s xs G) (hG : ¬ G b)
    (hnil : xs = [] → K (.tuple #[.int .i64 0, .bool false]) w)
    (h : ∀ (x : Int) (r : List Int) (s' : Sl) (w' : World), xs = x :: r → Blk w' b (B.set o s'.v) t → OwnI w' 2 s' r G → Fr (fun k => k = b) w w' → w'.heap.size = w.heap.size → K (.tuple #[.int .i64 x, .bool true]) w') :
    XCP Try.prog 48 [.pointer (some ⟨b, o, none⟩)] w K KP := by
  apply E48; unfold F48
  have hl := ho.len
  simp only [xptr_some, add_lit, Nat.add_zero, hb.cell, hv]
  refine ⟨_, _, _, rfl, ?_⟩
  cases xs with
  | nil => rw [if_pos (by simp [hl])]; exact hnil rfl
  | cons x r =>
    rw [if_neg (by simp [hl]; omega)]
    have h0 : OwnI w.drew 2 s (x :: r) G := ho.drew
    obtain ⟨pa, hpa, -, hx⟩ := h0.rd.isSome (i := 0) (v := .int .i64 x) rfl
    refine ⟨fun u => u = w.drew, rfl, ?_⟩
    refine ⟨s.a, s.l, s.c, fun u hu => by subst hu; rw [hb.drew.cell, hv]; rfl, ?_⟩
    rw [hpa, xptr_some]
    refine ⟨by omega, by simp [hl], x, fun u hu => by subst hu; simpa using hx, ?_⟩
    refine ⟨s.a, s.l, s.c, fun u hu => by subst hu; rw [hb.drew.cell, hv]; rfl, ?_⟩
    refine ⟨by omega, by simp [hl]; omega, ?_⟩
    refine storeP_blk hb.drew (List.getElem?_eq_some_iff.1 hv).1 fun w2 hb2 hf2 hs2 => ?_
    have ht := Own.tail h0 1 (by simp [hl])
    exact h x r ⟨if s.c = 1 then s.a else Option.map (fun q => Addr.add q (1 * 1)) s.a, s.l - 1, s.c - 1⟩ w2 rfl hb2 (by
      have := ht.frame hf2 (fun k hk e => hG (e ▸ hk))
      simpa [OwnI] using this) ((Fr.drew _ w).trans hf2 (fun _ _ h => h) (fun _ _ h => h)) hs2

/-- slices.Clone[[]int] -/
theorem C49 {s : Sl} {xs : List Int} {G : Nat → Prop} (hr : Rd w s.a (ints xs) G) (hl : s.l = xs.length) (hn : xs.length ≤ 1000000000)
    (h : ∀ (s' : Sl) (w' : World), OwnI w' 3 s' xs (fun k => w.heap.size ≤ k) → (∀ D, Fr D w w') → K s'.v w') : XCP Try.prog 49 [s.v] w K KP := by
  show XCP Try.prog 49 [.slice s.a s.l s.c] w K KP
  apply E49; unfold F49
  by_cases ha : s.a = none
  · rw [if_pos (by simp [ha])]
    have : xs = [] := by
      rcases hr with h | ⟨p, hp, _⟩
      · simpa [ints] using h
      · rw [ha] at hp; cases hp
    subst this
    exact h ⟨none, 0, 0⟩ w (Own.none _ _ _ _) (fun D => Fr.refl D w)
  · rw [if_neg (by simpa using ha)]
    refine xr_build T29 rfl (cs := []) (by rfl) rfl (by omega) fun w1 ho1 hf1 hk1 => ⟨_, _, _, rfl, ?_⟩
    have hr1 : Rd w1 s.a (ints xs) (fun _ => True) := (hr.mono (fun _ _ _ => trivial)).frame (hf1 (fun _ => False)) (fun _ _ h => h)
    refine xr_append T29 rfl ho1 hr1 (by simp [hl]) (ints_one xs) (by omega) (by omega) fun a' c' w' ho' hf' hk' => ⟨_, _, _, rfl, ?_⟩
    have hs1 := (hf1 (fun _ => False)).size
    refine h ⟨a', 0 + s.l, c'⟩ w' ?_ fun D => (hf1 D).trans hf' (fun _ _ h => h) (fun b hb e => by omega)
    have := ho'.mono (G' := fun k => w.heap.size ≤ k) (fun b _ hb => by rcases hb with hb | hb <;> omega)
    simpa [OwnI] using this

/-- slices.Clone[[]int64] -/
theorem C58 {s : Sl} {xs : List Int} {G : Nat → Prop} (hr : Rd w s.a (ints xs) G) (hl : s.l = xs.length) (hn : xs.length ≤ 1000000000)
    (h : ∀ (s' : Sl) (w' : World), OwnI w' 2 s' xs (fun k => w.heap.size ≤ k) → (∀ D, Fr D w w') → K s'.v w') : XCP Try.prog 58 [s.v] w K KP := by
  show XCP Try.prog 58 [.slice s.a s.l s.c] w K KP
  apply E58; unfold F58
  by_cases ha : s.a = none
  · rw [if_pos (by simp [ha])]
    have : xs = [] := by
      rcases hr with h | ⟨p, hp, _⟩
      · simpa [ints] using h
      · rw [ha] at hp; cases hp
    subst this
    exact h ⟨none, 0, 0⟩ w (Own.none _ _ _ _) (fun D => Fr.refl D w)
  · rw [if_neg (by simpa using ha)]
    refine xr_build T28 rfl (cs := []) (by rfl) rfl (by omega) fun w1 ho1 hf1 hk1 => ⟨_, _, _, rfl, ?_⟩
    have hr1 : Rd w1 s.a (ints xs) (fun _ => True) := (hr.mono (fun _ _ _ => trivial)).frame (hf1 (fun _ => False)) (fun _ _ h => h)
    refine xr_append T28 rfl ho1 hr1 (by simp [hl]) (ints_one xs) (by omega) (by omega) fun a' c' w' ho' hf' hk' => ⟨_, _, _, rfl, ?_⟩
    have hs1 := (hf1 (fun _ => False)).size
    refine h ⟨a', 0 + s.l, c'⟩ w' ?_ fun D => (hf1 D).trans hf' (fun _ _ h => h) (fun b hb e => by omega)
    have := ho'.mono (G' := fun k => w.heap.size ≤ k) (fun b _ hb => by rcases hb with hb | hb <;> omega)
    simpa [OwnI] using this
end
end Go.Proofs.Ythegnnifbgikmaa
