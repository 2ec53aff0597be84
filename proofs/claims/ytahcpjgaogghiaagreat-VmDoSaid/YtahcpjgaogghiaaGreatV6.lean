/- The verify seat: what comes behind an instruction. -/
import Derived.Test.YtahcpjgaogghiaaGreatV5
set_option linter.unusedVariables false
set_option linter.unusedSimpArgs false
namespace Go.Proofs.YtahcpjgaogghiaaGreat
open Go.X
def jmpB (i : Ins) : Bool := (i.code == 19 || i.code == 20) || i.code == 21
def goesB (i : Ins) (at_ : Int) : Bool := (i.code != 19 && i.code != 34) && !(jmpB i && i.a == at_ + 1)
def nexts (i : Ins) (at_ : Int) : List Int := (if jmpB i then [i.a] else []) ++ (if goesB i at_ then [at_ + 1] else [])
theorem nexts_len (i : Ins) (at_ : Int) : (nexts i at_).length ≤ 2 := by
  unfold nexts; split <;> split <;> simp
theorem nexts_eq (i : Ins) (at_ : Int) : nexts i at_ = if (i.code == 34) = true then [] else if (i.code == 19) = true then [i.a] else if (i.code == 20 || i.code == 21) = true then (if (i.a == at_ + 1) = true then [i.a] else [i.a, at_ + 1]) else [at_ + 1] := by
  unfold nexts goesB jmpB
  by_cases h34 : i.code = 34
  · rw [h34]; rfl
  by_cases h19 : i.code = 19
  · rw [h19]; rfl
  have e34 : (i.code == 34) = false := by simpa using h34
  have e19 : (i.code == 19) = false := by simpa using h19
  have n34 : (i.code != 34) = true := by simpa using h34
  have n19 : (i.code != 19) = true := by simpa using h19
  rw [e34, e19, n34, n19]
  cases (i.code == 20) <;> cases (i.code == 21) <;> cases (i.a == at_ + 1) <;> rfl
/-- what a walk behind an instruction reads -/
def behA (bj bi bg ba : Nat) (i : Ins) (at_ : Int) : Assn := pers [bx bj [.bool (jmpB i)] 4, bx bi i.cells 52, bx bg [.bool (goesB i at_)] 4, bx ba [.int .i64 at_] 3]
def behV (bj bi bg ba : Nat) : Value := .func (.func 145) #[] #[.pointer (some ⟨bj, 0, none⟩), .pointer (some ⟨bi, 0, none⟩), .pointer (some ⟨bg, 0, none⟩), .pointer (some ⟨ba, 0, none⟩)]
theorem Assn.ex (A : Assn) {w u : World} (h : Ex w u) {G : Nat → Prop} (hA : A.p w G) : A.p u T0 :=
  A.mono (A.frame (A.mono (G' := fun b => b < w.heap.size) hA (fun b hb _ => hb)) (h (fun _ => False)) (fun _ _ h => h)) (fun _ _ _ => trivial)
theorem T23 : SlT Tryz.prog 23 3 1 8 [.int .i64 0] := ⟨by kernel_rfl, by kernel_rfl⟩
section
variable {w : World} {K : Value → World → Prop} {KP : List PanicEntry → World → Prop}
/-- a row that is new, and apart from what lay -/
abbrev NewI (w u : World) (s : Sl) (xs : List Int) : Prop := Ex w u ∧ Own u 1 3 s.a s.l s.c (ints xs) (fun b => w.heap.size ≤ b)
theorem C31 {i : Ins} {n : Int} (hn : -1000000000 ≤ n ∧ n ≤ 1000000000) (h : ∀ s u, NewI w u s (nexts i n) → K s.v u) : XCP Tryz.prog 31 [i.v, .int .i64 n] w K KP := by
  show XCP Tryz.prog 31 [.agg #[.int .i64 i.code, .int .i64 i.a, .int .i64 i.b, .int .i64 i.num], .int .i64 n] w K KP
  refine E31 ?_
  unfold F31
  intro w0 p
  have hs : Sep w0 (bx w.heap.size i.cells 52 :: [oldA w]) := (Sep.begin w).box _ _
  clear_value w0
  rw [wi (by omega) (by omega)]
  rw [nexts_eq] at h
  refine ⟨_, hs.bx0.ld rfl, ?_⟩
  have one : ∀ x : Int, (∀ s u, NewI w u s [x] → K s.v u) → XRun Tryz.prog (Instr.buildSlice 23 1 (List.toArray [(0, .int .i64 x)])) w0 fun v w1 => ∃ (a : Option Addr) (l c : Nat), v = .slice a l c ∧ K (.slice a l c) w1 := by
    intro x h
    refine Sep.build (cs := ints [x]) T23 rfl hs rfl rfl (by decide) fun s u _ hs he => ⟨_, _, _, rfl, h s u ⟨hs.ex 2 rfl, hs.fresh 0 2 rfl rfl (by decide)⟩⟩
  by_cases h34 : (i.code == 34) = true
  · rw [if_pos h34] at h ⊢
    exact h ⟨none, 0, 0⟩ w0 ⟨hs.ex 1 rfl, rfl, Nat.le_refl _, .inl ⟨rfl, rfl⟩⟩
  rw [if_neg h34] at h ⊢
  by_cases h19 : (i.code == 19) = true
  · rw [if_pos h19] at h ⊢
    exact ⟨_, hs.bx0.ld rfl, one _ h⟩
  rw [if_neg h19] at h ⊢
  intro kb hkb
  have hgo : kb (i.code == 20 || i.code == 21) w0 := by
    refine hkb _ _ ?_
    by_cases hj : (i.code == 20 || i.code == 21) = true
    · rw [if_pos hj] at h ⊢
      refine ⟨_, hs.bx0.ld rfl, ?_⟩
      by_cases ha : (i.a == n + 1) = true
      · rw [if_pos ha] at h ⊢
        exact ⟨_, hs.bx0.ld rfl, one _ h⟩
      · rw [if_neg ha] at h ⊢
        refine ⟨_, hs.bx0.ld rfl, ?_⟩
        refine Sep.build (cs := ints [i.a, n + 1]) T23 rfl hs rfl rfl (by decide) fun s u _ hs he => ⟨_, _, _, rfl, h s u ⟨hs.ex 2 rfl, hs.fresh 0 2 rfl rfl (by decide)⟩⟩
    · rw [if_neg hj] at h ⊢
      exact one _ h
  cases h20 : (i.code == 20) with
  | true => rw [if_pos rfl]; rw [h20] at hgo; exact hgo
  | false => rw [if_neg (by decide)]; rw [h20] at hgo; exact hgo
theorem C96 {i : Ins} {n : Int} (hn : -1000000000 ≤ n ∧ n ≤ 1000000000) (h : ∀ u bj bi bg ba, Ex w u → (behA bj bi bg ba i n).p u (fun b => w.heap.size ≤ b) → K (behV bj bi bg ba) u) : XCP Tryz.prog 96 [i.v, .int .i64 n] w K KP := by
  show XCP Tryz.prog 96 [.agg #[.int .i64 i.code, .int .i64 i.a, .int .i64 i.b, .int .i64 i.num], .int .i64 n] w K KP
  refine E96 ?_
  unfold F96
  intro w0 p w1 p1
  have hs : Sep w1 (bx w0.heap.size [.int .i64 n] 3 :: bx w.heap.size i.cells 52 :: [oldA w]) := ((Sep.begin w).box _ _).box _ _
  clear_value w1
  refine ⟨_, hs.bx1.ld rfl, ?_⟩
  refine or_join (c := i.code == 20) (fun kb hk => ⟨_, hs.bx1.ld rfl, hk _ (Ex.refl _)⟩) fun u1 e1 => ?_
  replace hs := hs.ext e1
  refine or_join (c := i.code == 21) (fun kb hk => ⟨_, hs.bx1.ld rfl, hk _ (Ex.refl _)⟩) fun u2 e2 => ?_
  replace hs := hs.ext e2
  show let w4 : World := u2.alloc (.cells #[.bool false] 4); let p2 : Addr := ⟨u2.heap.size, 0, none⟩; storeP w4 p2 (.bool (jmpB i)) _
  intro w4 p2
  replace hs : Sep w4 (bx u2.heap.size [.bool false] 4 :: bx w0.heap.size [.int .i64 n] 3 :: bx w.heap.size i.cells 52 :: [oldA w]) := hs.box _ _
  clear_value w4
  refine hs.put (o := 0) (by decide) fun w5 _ hs => ?_
  replace hs : Sep w5 (bx u2.heap.size [.bool (jmpB i)] 4 :: bx w0.heap.size [.int .i64 n] 3 :: bx w.heap.size i.cells 52 :: [oldA w]) := hs
  refine ⟨_, hs.bx2.ld rfl, ?_⟩
  refine and_join (c := i.code != 34) (fun kb hk => ⟨_, hs.bx2.ld rfl, hk _ (Ex.refl _)⟩) fun u6 e6 => ?_
  replace hs := hs.ext e6
  refine and_join (c := !(jmpB i && i.a == n + 1)) (fun kb hk => ⟨_, hs.bx0.ld' rfl, and_join (c := i.a == n + 1) (fun kb' hk' => ⟨_, hs.bx2.ld rfl, _, hs.bx1.ld' rfl, by rw [wi (by omega) (by omega)]; exact hk' _ (Ex.refl _)⟩) fun u h => hk u h⟩) fun u7 e7 => ?_
  replace hs := hs.ext e7
  show let w8 : World := u7.alloc (.cells #[.bool false] 4); let p3 : Addr := ⟨u7.heap.size, 0, none⟩; storeP w8 p3 (.bool (goesB i n)) _
  intro w8 p3
  replace hs : Sep w8 (bx u7.heap.size [.bool false] 4 :: bx u2.heap.size [.bool (jmpB i)] 4 :: bx w0.heap.size [.int .i64 n] 3 :: bx w.heap.size i.cells 52 :: [oldA w]) := hs.box _ _
  clear_value w8
  refine hs.put (o := 0) (by decide) fun w9 _ hs => ?_
  refine h w9 _ _ _ _ (hs.ex 4 rfl) fun k A hA => ?_
  match k, hA with
  | 0, hA => simp at hA; subst hA; exact hs.fresh 1 4 rfl rfl (by decide)
  | 1, hA => simp at hA; subst hA; exact hs.fresh 3 4 rfl rfl (by decide)
  | 2, hA => simp at hA; subst hA; exact hs.fresh 0 4 rfl rfl (by decide)
  | 3, hA => simp at hA; subst hA; exact hs.fresh 2 4 rfl rfl (by decide)
  | k + 4, hA => simp at hA
theorem C145 {l : Nat} {i : Ins} {n : Int} {bj bi bg ba : Nat} {J : List Int → World → Prop} {R : World → Prop} (hn : -1000000000 ≤ n ∧ n ≤ 1000000000)
    (hB : ∀ d u, J d u → ∃ G, (behA bj bi bg ba i n).p u G)
    (hy : ∀ d t rest, nexts i n = d ++ t :: rest → ∀ u, J d u → ∀ K1 : Value → World → Prop, (∀ u1, J (d ++ [t]) u1 → K1 (.bool true) u1) → (∀ u1, R u1 → K1 (.bool false) u1) → XYield Tryz.prog l [.int .i64 t] u K1 NP)
    (h0 : J [] w) (h1 : ∀ u, J (nexts i n) u → K (.tuple #[]) u) (h2 : ∀ u, R u → K (.tuple #[]) u) :
    XCP Tryz.prog 145 [.func (.yield l) #[] #[], .pointer (some ⟨bj, 0, none⟩), .pointer (some ⟨bi, 0, none⟩), .pointer (some ⟨bg, 0, none⟩), .pointer (some ⟨ba, 0, none⟩)] w K NP := by
  refine E145 ?_
  unfold F145
  have hb1 : ∀ d u, J d u → u.cell? ⟨bj, 0, none⟩ = some (.bool (jmpB i)) := fun d u hJ => by
    obtain ⟨G, h⟩ := hB d u hJ; exact (h 0 _ rfl).1.ld' rfl
  have hb2 : ∀ d u, J d u → u.cell? (Addr.add ⟨bi, 0, none⟩ 1) = some (.int .i64 i.a) := fun d u hJ => by
    obtain ⟨G, h⟩ := hB d u hJ; exact (h 1 _ rfl).1.ld rfl
  have hb3 : ∀ d u, J d u → u.cell? ⟨bg, 0, none⟩ = some (.bool (goesB i n)) := fun d u hJ => by
    obtain ⟨G, h⟩ := hB d u hJ; exact (h 2 _ rfl).1.ld' rfl
  have hb4 : ∀ d u, J d u → u.cell? ⟨ba, 0, none⟩ = some (.int .i64 n) := fun d u hJ => by
    obtain ⟨G, h⟩ := hB d u hJ; exact (h 3 _ rfl).1.ld' rfl
  rw [xptr_some]
  refine ⟨_, hb1 _ _ h0, ?_⟩
  intro kb hkb
  have second : ∀ d u, J d u → nexts i n = d ++ (if goesB i n then [n + 1] else []) → kb false u := by
    intro d u hJ he
    refine hkb _ _ ?_
    rw [if_neg (by decide), xptr_some]
    refine ⟨_, hb3 _ _ hJ, ?_⟩
    cases hg : goesB i n with
    | true =>
      rw [hg, if_pos rfl] at he
      rw [if_pos rfl, xptr_some]
      refine ⟨_, hb4 _ _ hJ, ?_⟩
      rw [wi (by omega) (by omega)]
      exact hy d (n + 1) [] he u hJ _ (fun u1 hJ1 => ⟨_, rfl, h1 u1 (by rw [he]; exact hJ1)⟩) fun u1 hR => ⟨_, rfl, h2 u1 hR⟩
    | false =>
      rw [hg, if_neg (by decide), List.append_nil] at he
      rw [if_neg (by decide)]
      exact h1 u (by rw [he]; exact hJ)
  cases hj : jmpB i with
  | true =>
    rw [if_pos rfl, xptr_some]
    refine ⟨_, hb2 _ _ h0, ?_⟩
    have he : nexts i n = [i.a] ++ (if goesB i n then [n + 1] else []) := by unfold nexts; rw [hj, if_pos rfl]
    refine hy [] i.a (if goesB i n then [n + 1] else []) he w h0 _ (fun u1 hJ1 => ⟨_, rfl, second [i.a] u1 hJ1 he⟩) fun u1 hR => ⟨_, rfl, hkb _ _ ?_⟩
    rw [if_pos (by decide)]
    exact h2 u1 hR
  | false =>
    rw [if_neg (by decide)]
    exact second [] w h0 (by unfold nexts; rw [hj, if_neg (by decide)])
end
end Go.Proofs.YtahcpjgaogghiaaGreat
