/- Owned rows: making, building, appending, over a list of owned parts. -/
import Derived.Test.YtfeaahclpnbklaaDoorX10
set_option linter.unusedVariables false
set_option linter.unusedSimpArgs false
namespace Go.X
section
variable {P : Program} {t ty e : TypeId} {z bytes : Nat} {zc : List Value} {w : World} {L : List Assn}
theorem Sep.append (hT : SlT P t e z bytes zc) (hzl : zc.length = z) {s x : Sl} {cs xs : List Value} (hs : Sep w (row z e s cs :: L)) {X : Nat → Prop} (hx : Rd w x.a xs X) (hxl : xs.length = x.l * z) (h1 : ∀ u ∈ xs, u.oneCell' = true)
    (hb : (s.l + x.l) * bytes ≤ 140737488355328) (hb2 : s.l + x.l ≤ 140737488355328) {K : Value → World → Prop}
    (h : ∀ s' w', s'.l = s.l + x.l → s'.l ≤ s'.c → Sep w' (row z e s' (cs ++ xs) :: L) → K s'.v w') :
    XRun P (Builtin.append_ #[t, t] ty (List.toArray [.slice s.a s.l s.c, .slice x.a x.l x.c])) w K := by
  obtain ⟨G, hG, hA, hr⟩ := hs.use
  have hA : Own w z e s.a s.l s.c cs G := hA
  exact xr_append hT hzl hA hx hxl h1 hb hb2 fun a' c' w' ho hf _ => h ⟨a', s.l + x.l, c'⟩ w' rfl ho.2.1 (hr w' (row z e ⟨a', s.l + x.l, c'⟩ _) hf ho)
theorem Sep.build (hT : SlT P t e z bytes zc) (hzl : zc.length = z) (hs : Sep w L) {n : Nat} {parts : List (Nat × Value)} {cs : List Value} (hf : fillL (fun i => some (i * z, z)) (madeL zc (n * z)) parts = some cs)
    (hl : cs.length = n * z) (hn : n * z ≤ 2 ^ 24) {K : Value → World → Prop}
    (h : ∀ s w', s.l = n → Sep w' (row z e s cs :: L) → (∀ D, Fr D w w') → K s.v w') :
    XRun P (Instr.buildSlice t n (List.toArray parts)) w K :=
  xr_build hT hzl hf hl hn fun w' ho hf' _ => h ⟨_, n, n⟩ w' rfl (hs.add (A := row z e ⟨_, n, n⟩ cs) hf' (Own.mono ho fun b _ hb => Nat.le_of_eq hb.symm)) hf'
theorem Sep.make (hT : SlT P t e z bytes zc) (hzl : zc.length = z) (hs : Sep w L) {kl kc : IntKind} {l c : Int} (h0 : 0 ≤ l) (hlc : l ≤ c) (hb : (bytes : Int) * c ≤ 281474976710656) (h63 : c ≤ 9223372036854775807)
    {cs : List Value} (hcl : cs.length = l.toNat * z) (hcs : ∀ i, i < l.toNat * z → cs[i]? = zc[i % z]?) {K : Value → World → Prop}
    (h : ∀ s w', s.l = l.toNat → Sep w' (row z e s cs :: L) → (∀ D, Fr D w w') → K s.v w') :
    XRun P (Instr.makeSlice t (.int kl l) (.int kc c)) w K :=
  xr_make hT hzl h0 hlc hb h63 hcl hcs fun w' ho hf' _ => h ⟨_, l.toNat, c.toNat⟩ w' rfl (hs.add (A := row z e ⟨_, l.toNat, c.toNat⟩ cs) hf' (Own.mono ho fun b _ hb => Nat.le_of_eq hb.symm)) hf'
theorem Sep.rowRd {s : Sl} {cs : List Value} (hs : Sep w (row z e s cs :: L)) : ∃ G, Rd w s.a cs G ∧ s.l ≤ s.c ∧ cs.length = s.l * z := by
  obtain ⟨G, hA⟩ := hs.at0
  have hA : Own w z e s.a s.l s.c cs G := hA
  exact ⟨G, hA.rd, hA.2.1, hA.1⟩
theorem Rd.pre {a : Option Addr} {xs ys : List Value} {G : Nat → Prop} (h : Rd w a (xs ++ ys) G) : Rd w a xs G := by
  rcases h with h | ⟨p, hp, hg, hc⟩
  · exact .inl (List.append_eq_nil_iff.1 h).1
  · refine .inr ⟨p, hp, hg, fun i v hv => hc i v ?_⟩
    rw [List.getElem?_append_left (List.getElem?_eq_some_iff.1 hv).1]; exact hv
/-- an element of an owned row set -/
theorem Sep.rowPut {s : Sl} {cs : List Value} (hs : Sep w (row z e s cs :: L)) {i : Nat} {v : Value} (hi : i < cs.length) {p : Addr} (hp : s.a = some p) {K : World → Prop} (h : ∀ w', w'.heap.size = w.heap.size → Sep w' (row z e s (cs.set i v) :: L) → K w') : storeP w (p.add i) v K := by
  obtain ⟨G, hG, hA, hr⟩ := hs.use
  have hA : Own w z e s.a s.l s.c cs G := hA
  obtain ⟨b, o, B, rfl, hg, hb, hlt, -⟩ := Own.set (w' := w) (v := v) hA hi hp
  rw [add_lit]
  refine storeP_blk hb hlt fun w' hb' hf hs' => h w' hs' (hr w' (row z e s (cs.set i v)) (hf.mono fun k _ e => e ▸ hg) ?_)
  obtain ⟨b2, o2, B2, hp2, hg2, hb2, hlt2, hset⟩ := Own.set (w' := w') (v := v) hA hi hp
  cases hp2
  have : B2 = B := by have := hb2.symm.trans hb; simpa using this
  subst this
  exact Own.mono (hset hb') fun b _ hb => .inl hb
end
end Go.X
