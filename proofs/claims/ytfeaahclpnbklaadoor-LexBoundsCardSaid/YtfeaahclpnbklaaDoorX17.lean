/- Loops by what stands at each round; joins of && and ||; several cells of an owned row. -/
import Derived.Test.YtfeaahclpnbklaaDoorX16
import Derived.LaidEqlPtr
set_option linter.unusedVariables false
set_option linter.unusedSimpArgs false
namespace Go.X
abbrev TG : Nat → Prop := fun _ => True
/-- a loop that counts up to N -/
theorem iter (N : Nat) (P : Nat → World → Prop) {w0 : World} {H : (Int → World → Prop) → (Int → World → Nat) → Int → World → Prop} (h0 : P 0 w0)
    (step : ∀ (I : Int → World → Prop) (μ : Int → World → Nat) (n : Nat) (u : World), P n u → n < N → (∀ u', P (n + 1) u' → I ((n : Int) + 1) u' ∧ μ ((n : Int) + 1) u' < μ n u) → H I μ n u)
    (last : ∀ (I : Int → World → Prop) (μ : Int → World → Nat) (u : World), P N u → H I μ N u) :
    ∃ (I : Int → World → Prop) (μ : Int → World → Nat), I 0 w0 ∧ ∀ (n : Int) (u : World), I n u → H I μ n u := by
  refine ⟨fun n u => ∃ m : Nat, n = m ∧ m ≤ N ∧ P m u, fun n _ => N - n.toNat, ⟨0, rfl, Nat.zero_le _, h0⟩, ?_⟩
  rintro n u ⟨m, rfl, hm, hP⟩
  by_cases hlt : m < N
  · exact step _ _ m u hP hlt fun u' hP' => ⟨⟨m + 1, by omega, hlt, hP'⟩, by show N - ((m : Int) + 1).toNat < N - ((m : Int)).toNat; omega⟩
  · have e : m = N := by omega
    subst e
    exact last _ _ u hP
/-- a loop that changes nothing old -/
theorem each (N : Nat) (F : Nat → Prop) {w0 : World} {H : (Int → World → Prop) → (Int → World → Nat) → Int → World → Prop}
    (step : ∀ (I : Int → World → Prop) (μ : Int → World → Nat) (n : Nat) (u : World), Ex w0 u → n < N → (∀ i, i < n → F i) → (F n → ∀ u', Ex u u' → I ((n : Int) + 1) u' ∧ μ ((n : Int) + 1) u' < μ n u) → H I μ n u)
    (last : ∀ (I : Int → World → Prop) (μ : Int → World → Nat) (u : World), Ex w0 u → (∀ i, i < N → F i) → H I μ N u) :
    ∃ (I : Int → World → Prop) (μ : Int → World → Nat), I 0 w0 ∧ ∀ (n : Int) (u : World), I n u → H I μ n u :=
  iter N (fun n u => Ex w0 u ∧ ∀ i, i < n → F i) ⟨Ex.refl _, fun i h => by omega⟩
    (fun I μ n u ⟨he, hf⟩ hlt next => step I μ n u he hlt hf fun hF u' hu' => next u' ⟨he.trans hu', fun i hi => by
      by_cases e : i = n
      · rw [e]; exact hF
      · exact hf i (by omega)⟩)
    (fun I μ u ⟨he, hf⟩ => last I μ u he hf)
theorem and_join {b c : Bool} {w : World} {J : Bool → World → Prop} {T : (Bool → World → Prop) → Prop} (hT : ∀ kb : Bool → World → Prop, (∀ u, Ex w u → kb c u) → T kb) (hJ : ∀ u, Ex w u → J (b && c) u) :
    ∀ kb : Bool → World → Prop, (∀ (b : Bool) (w : World), J b w → kb b w) → if b = true then T kb else kb false w := by
  intro kb hkb
  cases b with
  | true => rw [if_pos rfl]; exact hT kb fun u hu => hkb _ _ (hJ u hu)
  | false => rw [if_neg (by decide)]; exact hkb _ _ (hJ w (Ex.refl w))
theorem or_join {b c : Bool} {w : World} {J : Bool → World → Prop} {T : (Bool → World → Prop) → Prop} (hT : ∀ kb : Bool → World → Prop, (∀ u, Ex w u → kb c u) → T kb) (hJ : ∀ u, Ex w u → J (b || c) u) :
    ∀ kb : Bool → World → Prop, (∀ (b : Bool) (w : World), J b w → kb b w) → if b = true then kb true w else T kb := by
  intro kb hkb
  cases b with
  | true => rw [if_pos rfl]; exact hkb _ _ (hJ w (Ex.refl w))
  | false => rw [if_neg (by decide)]; exact hT kb fun u hu => hkb _ _ (hJ u hu)
/-- the left side holds -/
theorem and_true {w : World} {J : Bool → World → Prop} {T : (Bool → World → Prop) → Prop} {b : Bool} (hb : b = true) (hT : ∀ kb : Bool → World → Prop, (∀ u, Ex w u → kb true u) → T kb) (hJ : ∀ u, Ex w u → J true u) :
    ∀ kb : Bool → World → Prop, (∀ (b : Bool) (w : World), J b w → kb b w) → if b = true then T kb else kb false w := by
  subst hb
  intro kb hkb
  rw [if_pos rfl]
  exact hT kb fun u hu => hkb _ _ (hJ u hu)
/-- the left side does not hold -/
theorem or_false {w : World} {J : Bool → World → Prop} {T : (Bool → World → Prop) → Prop} {b : Bool} (hb : b = false) (hT : ∀ kb : Bool → World → Prop, (∀ u, Ex w u → kb false u) → T kb) (hJ : ∀ u, Ex w u → J false u) :
    ∀ kb : Bool → World → Prop, (∀ (b : Bool) (w : World), J b w → kb b w) → if b = true then kb true w else T kb := by
  subst hb
  intro kb hkb
  rw [if_neg (by decide)]
  exact hT kb fun u hu => hkb _ _ (hJ u hu)
theorem Assn.ex (A : Assn) {w u : World} (h : Ex w u) {G : Nat → Prop} (hA : A.p w G) : A.p u TG :=
  A.mono (A.frame (A.mono (G' := fun b => b < w.heap.size) hA (fun b hb _ => hb)) (h (fun _ => False)) (fun _ _ h => h)) (fun _ _ _ => trivial)
theorem SlR.ex {α : Type} {R : Rep α} {w u : World} {G : Nat → Prop} {s : Sl} {xs : List α} (h : SlR R w G s xs) (he : Ex w u) : SlR R u TG s xs := h.old he
/-- cells laid one behind another -/
def setL (cs : List Value) : Nat → List Value → List Value
  | _, [] => cs
  | i, v :: r => setL (cs.set i v) (i + 1) r
theorem setL_length : ∀ (vs cs : List Value) (i : Nat), (setL cs i vs).length = cs.length
  | [], _, _ => rfl
  | v :: r, cs, i => by rw [setL, setL_length r]; simp
theorem setL_get : ∀ (vs cs : List Value) (i j : Nat), i + vs.length ≤ cs.length → (setL cs i vs)[j]? = if i ≤ j ∧ j < i + vs.length then vs[j - i]? else cs[j]?
  | [], cs, i, j, _ => by rw [setL, if_neg (by simp only [List.length_nil]; omega)]
  | v :: r, cs, i, j, h => by
    simp only [List.length_cons] at h
    rw [setL, setL_get r _ _ _ (by simp; omega), List.length_cons]
    by_cases e : j = i
    · subst e
      rw [if_neg (by omega), if_pos (by omega), List.getElem?_set_self (by omega), Nat.sub_self]; rfl
    · rw [List.getElem?_set_ne (by omega)]
      by_cases h1 : i + 1 ≤ j ∧ j < i + 1 + r.length
      · rw [if_pos h1, if_pos (by omega), show j - i = (j - (i + 1)) + 1 by omega, List.getElem?_cons_succ]
      · rw [if_neg h1, if_neg (by omega)]
theorem Sep.rowPutsL {z : Nat} {e : TypeId} {L : List Assn} {s : Sl} {p : Addr} (hp : s.a = some p) {K : World → Prop} : ∀ (vs cs : List Value) (i : Nat) (w : World), Sep w (row z e s cs :: L) → i + vs.length ≤ cs.length →
    (∀ w', w'.heap.size = w.heap.size → Sep w' (row z e s (setL cs i vs) :: L) → K w') → storesAt p i vs w K
  | [], cs, i, w, hs, _, h => h w rfl hs
  | v :: r, cs, i, w, hs, hl, h => by
    simp only [List.length_cons] at hl
    exact hs.rowPut (by omega) hp fun w' hw' hs' => Sep.rowPutsL hp r _ _ _ hs' (by simp; omega) fun w2 hw2 hs2 => h w2 (hw2.trans hw') hs2
theorem storesAt_add {p : Addr} {k : Nat} {K : World → Prop} : ∀ (vs : List Value) (i : Nat) (w : World), storesAt p (k + i) vs w K → storesAt (p.add k) i vs w K
  | [], i, w, h => h
  | v :: r, i, w, h => by
    show storeP w ((p.add k).add i) v _
    rw [addr_add]
    have h : storeP w (p.add (k + i)) v fun w => storesAt p (k + i + 1) r w K := h
    unfold storeP at h ⊢
    exact ⟨h.1, h.2.1, storesAt_add r (i + 1) _ h.2.2⟩
/-- an element of an owned row filled anew -/
theorem Sep.rowFillAt {w : World} {L : List Assn} (h : Sep w L) (k : Nat) {z : Nat} {e : TypeId} {s : Sl} {cs : List Value} (hk : L[k]? = some (row z e s cs)) {i : Nat} {vs : List Value} (hl : i + vs.length ≤ cs.length) {p : Addr} (hp : s.a = some p) {K : World → Prop}
    (hK : ∀ w', w'.heap.size = w.heap.size → Sep w' (L.set k (row z e s (setL cs i vs))) → K w') : storesAt (p.add i) 0 vs w K :=
  storesAt_add vs 0 w (Sep.rowPutsL hp vs cs i w (h.front k hk) hl fun w' hw hs => hK w' hw (hs.back k hk))
theorem Sep.fillAt {w : World} {L : List Assn} (h : Sep w L) (k : Nat) {b : Nat} {V : List Value} {t : TypeId} (hk : L[k]? = some (bx b V t)) {vs : List Value} (ho : vs.length = V.length) {K : World → Prop}
    (hK : ∀ w', w'.heap.size = w.heap.size → Sep w' (L.set k (bx b vs t)) → K w') : storesAt ⟨b, 0, none⟩ 0 vs w K :=
  (h.front k hk).fill ho fun w' hs h' => hK w' hs (h'.back k hk)
/-- two pointers to variables held against one another -/
theorem xr_ptr_ne {P : Program} {t te : TypeId} {j : TypeInfo} (hp : P.underlying t = some (.pointer te)) (hte : P.info? te = some j) (hsz : j.size ≠ 0) {a b : Addr} {A B : List Value} {ta tb : TypeId} {w : World} (ha : Blk w a.block A ta) (hb : Blk w b.block B tb) {x y : Operand} {K : Value → World → Prop}
    (h : K (.bool (!decide (a = b))) w) : XRun P (do eqGuard .neq t x y (.pointer (some a)) (.pointer (some b)); binOp .neq t (.pointer (some a)) (.pointer (some b))) w K := by
  have he : (Op.equal t (.pointer (some a)) (.pointer (some b))).run P w = .ok (decide (a = b)) w := by
    have : ∀ d : Nat, (Op.equalIn (d + 1) t (.pointer (some a)) (.pointer (some b))).run P w = .ok (decide (a = b)) w := fun d => by
      by_cases e : a = b
      · subst e; simp [Op.equalIn, run_underlying hp, sizeOf, typeInfo, hte, run_sameAddr_same]
      · simp [Op.equalIn, run_underlying hp, sizeOf, typeInfo, hte, hsz, run_sameAddr_other w e ha hb, e]
    simp [Op.equal, Op.maxDepth, this 9999]
  unfold XRun
  have hg : (eqGuard .neq t x y (.pointer (some a)) (.pointer (some b))).run P w = .ok () w := rfl
  have hb : (binOp .neq t (.pointer (some a)) (.pointer (some b))).run P w = .ok (.bool (!decide (a = b))) w := by
    show (do pure (.bool (!(← Op.equal t _ _))) : Sem Value).run P w = _
    rw [Sem.run_bind, he]; rfl
  rw [Sem.run_bind, hg]
  simp only [Result.andThen, hb]
  exact ⟨.refl w, h⟩
end Go.X
