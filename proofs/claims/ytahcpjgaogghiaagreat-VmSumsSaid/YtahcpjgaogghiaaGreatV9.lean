/- The verify seat: the heap of places that are still to be looked at. -/
import Derived.Test.YtahcpjgaogghiaaGreatV8
import Derived.Test.YtahcpjgaogghiaaGreatX15
set_option linter.unusedVariables false
set_option linter.unusedSimpArgs false
namespace Go.Proofs.YtahcpjgaogghiaaGreat
open Go.X Go.Heap
theorem U82 : Tryz.prog.underlying 200 = some (.pointer 201) := by kernel_rfl
theorem U83 : Tryz.prog.underlying 201 = some (.slice 3) := by kernel_rfl
theorem T201 : SlT Tryz.prog 201 3 1 8 [.int .i64 0] := ⟨by kernel_rfl, by kernel_rfl⟩
theorem load83 {u : World} {a : Addr} {v : Value} (h : u.cell? a = some v) : (loadVar 201 a).run Tryz.prog u = .ok v u := by
  simp [loadVar, isAgg, run_underlying U83, Result.andThen, h]
theorem typeInfo_run {P : Program} {t : TypeId} {i : TypeInfo} (h : P.info? t = some i) (w : World) : (typeInfo t).run P w = .ok i w := by
  simp [typeInfo, Result.andThen, h]
theorem wrapChk {P : Program} {a : Addr} {x y : ByteArray} (w : World) : (Builtin.ssaWrapNilChk_ #[200] 200 #[.pointer (some a), .string x, .string y]).run P w = .ok (.pointer (some a)) w := rfl
theorem xr_ok {P : Program} {x : Sem Value} {w : World} {v : Value} {K : Value → World → Prop} (h : x.run P w = .ok v w) (hk : K v w) : XRun P x w K := by
  unfold XRun; rw [h]; exact ⟨KeepsD.refl _, hk⟩
theorem meth_val {name : String} {f : FuncId} (hm : (Tryz.prog.info? 200).map (fun i => (i.methods.find? (fun m => m.name == name)).map (fun m => (m.path.toList, m.func))) = some (some ([], some (f, false)))) {u : World} {a : Addr} {v : Value} (h : u.cell? a = some v) :
    (method (Tryz.prog.types.size + Made.depth) 200 (.pointer (some a)) name).run Tryz.prog u = .ok (f, v) u := by
  cases hi : Tryz.prog.info? 200 with
  | none => rw [hi] at hm; cases hm
  | some i =>
    rw [hi] at hm
    simp only [Option.map_some, Option.some.injEq] at hm
    cases hx : i.methods.find? (fun m => m.name == name) with
    | none => rw [hx] at hm; cases hm
    | some m =>
      rw [hx] at hm
      simp only [Option.map_some, Option.some.injEq, Prod.mk.injEq] at hm
      obtain ⟨hp, hf⟩ := hm
      have hpe : m.path.isEmpty = true := by
        have : m.path = #[] := by apply Array.ext'; simpa using hp
        rw [this]; rfl
      obtain ⟨n, hn⟩ : ∃ n, Tryz.prog.types.size + Made.depth = n + 1 := ⟨_, by rw [show Made.depth = 99 + 1 from rfl, ← Nat.add_assoc]⟩
      rw [hn]
      rw [method]
      simp only [Sem.run_bind, typeInfo_run hi, Result.andThen, hx, hp, follow, Sem.run_pure, hf, receiverAt, run_underlying U82, Place.get, hpe, if_true, wrapChk, strVal, asAddr, load83 h]
theorem meth_ptr {name : String} {f : FuncId} (hm : (Tryz.prog.info? 200).map (fun i => (i.methods.find? (fun m => m.name == name)).map (fun m => (m.path.toList, m.func))) = some (some ([], some (f, true)))) {u : World} {a : Addr} :
    (method (Tryz.prog.types.size + Made.depth) 200 (.pointer (some a)) name).run Tryz.prog u = .ok (f, .pointer (some a)) u := by
  cases hi : Tryz.prog.info? 200 with
  | none => rw [hi] at hm; cases hm
  | some i =>
    rw [hi] at hm
    simp only [Option.map_some, Option.some.injEq] at hm
    cases hx : i.methods.find? (fun m => m.name == name) with
    | none => rw [hx] at hm; cases hm
    | some m =>
      rw [hx] at hm
      simp only [Option.map_some, Option.some.injEq, Prod.mk.injEq] at hm
      obtain ⟨hp, hf⟩ := hm
      obtain ⟨n, hn⟩ : ∃ n, Tryz.prog.types.size + Made.depth = n + 1 := ⟨_, by rw [show Made.depth = 99 + 1 from rfl, ← Nat.add_assoc]⟩
      rw [hn]
      rw [method]
      simp only [Sem.run_bind, typeInfo_run hi, Result.andThen, hx, hp, follow, Sem.run_pure, hf, receiverAt, run_underlying U82, Place.get]
def opV (pb : Nat) : Value := .iface 200 (.pointer (some ⟨pb, 0, none⟩))
/-- the heap's parts -/
abbrev OpL (pb : Nat) (s : Sl) (xs : List Int) (L : List Assn) : List Assn := bx pb [s.v] 201 :: row 1 3 s (ints xs) :: L
section
variable {w : World} {K : Value → World → Prop} {KP : List PanicEntry → World → Prop} {pb : Nat} {s : Sl} {xs : List Int} {L : List Assn}
theorem OpL.len (hs : Sep w (OpL pb s xs L)) : s.l = xs.length := by
  obtain ⟨G, _, _, h⟩ := hs.to1.rowRd
  simpa using h.symm
theorem I_len (hs : Sep w (OpL pb s xs L)) (h : K (.int .i64 xs.length) w) : XInv Tryz.prog (opV pb) "Len" [] w K KP := by
  refine ⟨94, s.v, meth_val (by kernel_rfl) (hs.bx0.ld' rfl), ?_⟩
  show XCP Tryz.prog 94 [.slice s.a s.l s.c] w K KP
  refine E94 ?_
  unfold F94
  rw [OpL.len hs]; exact h
theorem rowCell {u : World} {z : Nat} {t : TypeId} {A : Assn} {L : List Assn} {s : Sl} {cs : List Value} (hs : Sep u (A :: row z t s cs :: L)) {i : Nat} {v : Value} (hv : cs[i]? = some v) : ∃ p, s.a = some p ∧ u.cell? (p.add i) = some v := by
  obtain ⟨G, hr, _, _⟩ := hs.to1.rowRd
  obtain ⟨p, hp, _, hc⟩ := hr.isSome hv
  exact ⟨p, hp, hc⟩
theorem ints_g {xs : List Int} {i : Nat} (h : i < xs.length) : (ints xs)[i]? = some (.int .i64 (g xs i)) := ints_get (g_get h)
theorem I_less (hs : Sep w (OpL pb s xs L)) {i j : Nat} (hi : i < xs.length) (hj : j < xs.length) (h : ∀ u, Sep u (OpL pb s xs L) → K (.bool (decide (g xs i < g xs j))) u) : XInv Tryz.prog (opV pb) "Less" [.int .i64 i, .int .i64 j] w K KP := by
  refine ⟨197, s.v, meth_val (by kernel_rfl) (hs.bx0.ld' rfl), ?_⟩
  show XCP Tryz.prog 197 [.slice s.a s.l s.c, .int .i64 i, .int .i64 j] w K KP
  have hl := OpL.len hs
  refine E197 ?_
  unfold F197
  refine ⟨fun u => Sep u (OpL pb s xs L), hs.drew, ?_⟩
  obtain ⟨p, hp, _⟩ := rowCell hs (ints_g hi)
  simp only [hp, xptr_some]
  refine ⟨by omega, by omega, g xs i, fun u hu => ?_, by omega, by omega, g xs j, fun u hu => ?_, h _ hs.drew⟩
  · obtain ⟨p', hp', hc⟩ := rowCell hu (ints_g hi)
    rw [hp] at hp'; cases hp'
    simpa using hc
  · obtain ⟨p', hp', hc⟩ := rowCell hu (ints_g hj)
    rw [hp] at hp'; cases hp'
    simpa using hc
theorem sw_ints (xs : List Int) (i j : Nat) : ints (sw xs i j) = ((ints xs).set i (.int .i64 (g xs j))).set j (.int .i64 (g xs i)) := by
  unfold sw; rw [ints_set, ints_set]
theorem I_swap (hs : Sep w (OpL pb s xs L)) {i j : Nat} (hi : i < xs.length) (hj : j < xs.length) (h : ∀ u, Sep u (OpL pb s (sw xs i j) L) → K (.tuple #[]) u) : XInv Tryz.prog (opV pb) "Swap" [.int .i64 i, .int .i64 j] w K KP := by
  refine ⟨200, s.v, meth_val (by kernel_rfl) (hs.bx0.ld' rfl), ?_⟩
  show XCP Tryz.prog 200 [.slice s.a s.l s.c, .int .i64 i, .int .i64 j] w K KP
  have hl := OpL.len hs
  refine E200 ?_
  unfold F200
  refine ⟨fun u => Sep u (OpL pb s xs L), hs.drew, ?_⟩
  obtain ⟨p, hp, _⟩ := rowCell hs (ints_g hi)
  simp only [hp, xptr_some]
  refine ⟨by omega, by omega, g xs j, fun u hu => ?_, by omega, by omega, g xs i, fun u hu => ?_, by omega, by omega, ?_⟩
  · obtain ⟨p', hp', hc⟩ := rowCell hu (ints_g hj)
    rw [hp] at hp'; cases hp'
    simpa using hc
  · obtain ⟨p', hp', hc⟩ := rowCell hu (ints_g hi)
    rw [hp] at hp'; cases hp'
    simpa using hc
  · simp only [Int.toNat_natCast, Nat.mul_one]
    refine hs.drew.to1.rowPut (i := i) (by simpa using hi) hp fun w3 _ hs => ⟨fun _ => True, trivial, by omega, by omega, ?_⟩
    refine hs.rowPut (i := j) (by simpa using hj) hp fun w4 _ hs => h w4 ?_
    rw [OpL, sw_ints]; exact hs.to1
theorem I_push (hs : Sep w (OpL pb s xs L)) {x : Int} (hn : xs.length ≤ 1000000) (h : ∀ u s', Sep u (OpL pb s' (xs ++ [x]) L) → K (.tuple #[]) u) : XInv Tryz.prog (opV pb) "Push" [.iface 3 (.int .i64 x)] w K KP := by
  refine ⟨199, .pointer (some ⟨pb, 0, none⟩), meth_ptr (by kernel_rfl), ?_⟩
  have hl := OpL.len hs
  refine E199 ?_
  unfold F199
  refine ⟨fun u => Sep u (OpL pb s xs L), hs.drew, ?_⟩
  rw [xptr_some]
  refine ⟨s.a, s.l, s.c, fun u hu => hu.bx0.ld' rfl, ?_⟩
  have hta : (Instr.typeAssert (.iface 3 (.int .i64 x)) 20 3 false).run Tryz.prog w.drew = .ok (.int .i64 x) w.drew := by
    have h3 : Tryz.prog.underlying 3 = some (.int .i64) := by kernel_rfl
    simp [Instr.typeAssert, run_underlying h3, Result.andThen]
  refine xr_ok hta ⟨x, rfl, hs.drew, ?_⟩
  refine Sep.build (cs := ints [x]) T201 rfl hs.drew rfl rfl (by decide) fun y w3 hyl hs he => ⟨_, _, _, rfl, hs.tail, ?_⟩
  obtain ⟨G', hx, -, -⟩ := hs.rowRd
  have hs := hs.tail.to1
  refine Sep.append T201 rfl hs hx (by simp [hyl]) (ints_one _) (by omega) (by omega) fun s' w4 hl' hc' hs => ⟨_, _, _, rfl, fun _ => True, trivial, ?_⟩
  rw [xptr_some]
  refine hs.to1.put (o := 0) Nat.zero_lt_one fun w5 _ hs => h w5 s' ?_
  rw [← ints_append] at hs
  exact hs
theorem mkI3 {x : Int} {u : World} (h : K (.iface 3 (.int .i64 x)) u) : XRun Tryz.prog (Instr.makeInterface 3 (.int .i64 x)) u K := by
  have h3 : Tryz.prog.underlying 3 = some (.int .i64) := by kernel_rfl
  have : (Instr.makeInterface 3 (.int .i64 x)).run Tryz.prog u = .ok (.iface 3 (.int .i64 x)) u := by
    simp [Instr.makeInterface, run_underlying h3, Result.andThen]
  exact xr_ok this h
theorem Own.shrink {w : World} {z : Nat} {t : TypeId} {a : Option Addr} {l l' c : Nat} {cs : List Value} {G : Nat → Prop} (h : Own w z t a l c cs G) (hl : l' ≤ l) : Own w z t a l' c (cs.take (l' * z)) G := by
  obtain ⟨h1, h2, h3⟩ := h
  refine ⟨by rw [List.length_take, h1]; exact Nat.min_eq_left (Nat.mul_le_mul_right _ hl), by omega, ?_⟩
  rcases h3 with h3 | ⟨b, o, B, ha, hg, hb, hfit, hv⟩
  · exact .inl h3
  · refine .inr ⟨b, o, B, ha, hg, hb, hfit, fun i v hi => hv i v ?_⟩
    rw [List.getElem?_take] at hi
    split at hi
    · exact hi
    · cases hi
theorem I_pop (hs : Sep w (OpL pb s xs L)) (hn : xs.length ≤ 1000000) (h0 : 0 < xs.length) (h : ∀ u s', Sep u (OpL pb s' (xs.take (xs.length - 1)) L) → K (.iface 3 (.int .i64 (g xs (xs.length - 1)))) u) : XInv Tryz.prog (opV pb) "Pop" [] w K KP := by
  refine ⟨198, .pointer (some ⟨pb, 0, none⟩), meth_ptr (by kernel_rfl), ?_⟩
  have hl := OpL.len hs
  refine E198 ?_
  unfold F198
  rw [xptr_some]
  refine ⟨s.a, s.l, s.c, hs.bx0.ld' rfl, ?_⟩
  obtain ⟨p, hp, hc⟩ := rowCell hs (ints_g (show xs.length - 1 < xs.length by omega))
  obtain ⟨-, -, hlc, -⟩ := hs.to1.rowRd
  rw [hp, xptr_some, wi (by omega) (by omega)]
  have e : ((s.l : Int) - 1).toNat = xs.length - 1 := by omega
  refine ⟨by omega, by omega, g xs (xs.length - 1), by rw [e, Nat.mul_one]; exact hc, by omega, by omega, ?_⟩
  rw [xptr_some]
  refine hs.put (o := 0) Nat.zero_lt_one fun w5 _ hs => mkI3 ⟨_, rfl, h w5 ⟨s.a, xs.length - 1, s.c⟩ ?_⟩
  have hs : Sep w5 (bx pb [Sl.v ⟨s.a, xs.length - 1, s.c⟩] 201 :: row 1 3 s (ints xs) :: L) := by
    rw [← e, hp]; exact hs
  refine (hs.to1.imp (A' := row 1 3 ⟨s.a, xs.length - 1, s.c⟩ (ints (xs.take (xs.length - 1)))) fun u G hG => ?_).to1
  have hG : Own u 1 3 s.a s.l s.c (ints xs) G := hG
  have := Own.shrink hG (l' := xs.length - 1) (by omega)
  rw [Nat.mul_one] at this
  rw [show ints (xs.take (xs.length - 1)) = (ints xs).take (xs.length - 1) from by simp [ints, List.map_take]]
  exact this
end
end Go.Proofs.YtahcpjgaogghiaaGreat
