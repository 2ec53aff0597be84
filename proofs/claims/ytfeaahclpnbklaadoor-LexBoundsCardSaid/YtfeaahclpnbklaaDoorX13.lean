/- Maps as owned parts; an array's element. -/
import Derived.Test.YtfeaahclpnbklaaDoorX12
import Derived.MapKept
set_option linter.unusedVariables false
set_option linter.unusedSimpArgs false
namespace Go.X
open Go.MapKept

/-- what a map says of each key -/
def Says (d : TypeDesc) (es : Array MapEntry) (clock : Nat) (f : Value → Option Value) : Prop :=
  Stamped es clock ∧ (∀ x ∈ es.toList, IsKey d x.key) ∧ ∀ k v, f k = some v ↔ ∃ x ∈ es.toList, x.key = k ∧ x.val = v
def mpA (r : Nat) (d : TypeDesc) (f : Value → Option Value) : Assn where
  p := fun w G => (∃ es clock, w.heap[r]? = some (.map es clock) ∧ Says d es clock f) ∧ G r
  frame := fun ⟨⟨es, cl, h, hs⟩, hg⟩ hf hd => ⟨⟨es, cl, (hf.at_ _ (size_of_some h) (hd _ hg)).trans h, hs⟩, hg⟩
  mono := fun ⟨⟨es, cl, h, hs⟩, hg⟩ hm => ⟨⟨es, cl, h, hs⟩, hm _ (size_of_some h) hg⟩
section
variable {P : Program} {w : World} {L : List Assn} {mty kt et : TypeId} {d : TypeDesc} {r : Nat} {f f' : Value → Option Value} {key val : Value}
theorem KeepsD.setMap {w : World} {r : Nat} {es es' : Array MapEntry} {c c' : Nat} (hb : w.heap[r]? = some (.map es c)) : KeepsD w { w with heap := w.heap.setIfInBounds r (.map es' c') } := by
  refine ⟨rfl, rfl, rfl, by simp, fun k hk => ?_⟩
  by_cases e : k = r
  · subst e; rw [hb] at hk; cases hk
  · rw [(heap_set hb).2 k e]; exact hk
theorem Fr.setMap {w : World} {r : Nat} {es : Array MapEntry} {c : Nat} {o : Obj} (hb : w.heap[r]? = some (.map es c)) {D : Nat → Prop} (hd : D r) : Fr D w { w with heap := w.heap.setIfInBounds r o } :=
  ⟨by simp, fun k _ hk => (heap_set hb).2 k (fun e => hk (e ▸ hd))⟩
theorem Sep.makeMap (hs : Sep w L) {K : Value → World → Prop} (h : ∀ r w', Sep w' (mpA r d (fun _ => none) :: L) → (∀ D, Fr D w w') → K (.map (some r)) w') : XRun P (Instr.makeMap mty none) w K := by
  have hrun : (Instr.makeMap mty none).run P w = .ok (.map (some w.heap.size)) (w.alloc (.map #[] 0)) := by
    simp [Instr.makeMap, Result.andThen]
  unfold XRun; rw [hrun]
  refine ⟨KeepsD.alloc _ _, h _ _ (hs.add (A := mpA w.heap.size d (fun _ => none)) (fun D => Fr.alloc D w _) ⟨⟨#[], 0, (heap_alloc w _).1, stamped_empty 0, by simp, by simp⟩, Nat.le_refl _⟩) (fun D => Fr.alloc D w _)⟩
theorem Sep.mapUpdate (hm : P.underlying mty = some (.map kt et)) (hd : P.underlying kt = some d) (hk : IsKey d key) (hs : Sep w (mpA r d f :: L)) (h1 : f' key = some val) (h2 : ∀ k, k ≠ key → f' k = f k)
    {K : World → Prop} (h : ∀ w', Sep w' (mpA r d f' :: L) → K w') : XRunU P (Instr.mapUpdate mty (.map (some r)) key val) w K := by
  obtain ⟨G, hG, ⟨⟨es, cl, hb, hst, hks, hf⟩, hg⟩, hr⟩ := hs.use
  rcases findNow_spec hk es.toList 0 hks with ⟨n1, n2⟩ | ⟨j, e, n1, n2, n3⟩
  · have hrun : (Instr.mapUpdate mty (.map (some r)) key val).run P w = .ok () { w with heap := w.heap.setIfInBounds r (.map (es.push { key, val, born := cl }) (cl + 1)) } := by
      simp [Instr.mapUpdate, run_underlying hm, Go.MapKept.run_getObj_map hb, run_checkKey hd hk, run_findKey hd n1, Go.MapKept.run_setObj_map _ hb, Result.andThen]
    unfold XRunU; rw [hrun]
    refine ⟨KeepsD.setMap hb, h _ (hr _ (mpA r d f') (Fr.setMap hb hg) ⟨⟨_, _, (heap_set hb).1, stamped_push hst n2, fun x hx => ?_, fun k v => ?_⟩, .inl hg⟩)⟩
    · simp only [Array.toList_push, List.mem_append, List.mem_singleton] at hx
      rcases hx with hx | rfl
      · exact hks x hx
      · exact hk
    · simp only [Array.toList_push, List.mem_append, List.mem_singleton]
      by_cases e : k = key
      · subst e; rw [h1]
        constructor
        · intro e; injection e with e; subst e; exact ⟨_, .inr rfl, rfl, rfl⟩
        · rintro ⟨x, hx | rfl, e1, e2⟩
          · exact absurd e1 (n2 x hx)
          · subst e2; rfl
      · rw [h2 k e, hf]
        constructor
        · rintro ⟨x, hx, e1, e2⟩; exact ⟨x, .inl hx, e1, e2⟩
        · rintro ⟨x, hx | rfl, e1, e2⟩
          · exact ⟨x, hx, e1, e2⟩
          · exact absurd e1.symm e
  · have hj : es[j]? = some e := by simpa using n2
    have hrun : (Instr.mapUpdate mty (.map (some r)) key val).run P w = .ok () { w with heap := w.heap.setIfInBounds r (.map (es.modify j fun e => { e with key := key, val := val }) cl) } := by
      simp [Instr.mapUpdate, run_underlying hm, Go.MapKept.run_getObj_map hb, run_checkKey hd hk, run_findKey hd n1, hj, n3, run_keyThatStays hk, Go.MapKept.run_setObj_map _ hb, Result.andThen]
    have hkey : ∀ e', es[j]? = some e' → ({ e' with key := key, val := val } : MapEntry).key = e'.key := fun e' he' => by rw [hj] at he'; cases he'; exact n3.symm
    unfold XRunU; rw [hrun]
    refine ⟨KeepsD.setMap hb, h _ (hr _ (mpA r d f') (Fr.setMap hb hg) ⟨⟨_, _, (heap_set hb).1, stamped_modify hst _ _ (fun _ _ => rfl) (fun e' _ he' => hkey e' he'), isKey_modify hks _ _ hkey, fun k v => ?_⟩, .inl hg⟩)⟩
    have hpw := ((stamped_iff _ _).1 hst).2.2
    have hjl : j < es.size := by simpa using (Array.getElem?_eq_some_iff.1 hj).1
    have hmem : ∀ x : MapEntry, x ∈ (es.modify j fun e => { e with key := key, val := val }).toList ↔ x = { e with key := key, val := val } ∨ ∃ i : Nat, i ≠ j ∧ es[i]? = some x := by
      intro x
      rw [List.mem_iff_getElem?]
      constructor
      · rintro ⟨i, hi⟩
        rw [Array.getElem?_toList] at hi
        rw [Array.getElem?_modify] at hi
        split at hi
        · rename_i e'; subst e'; rw [hj] at hi; simp at hi; exact .inl hi.symm
        · rename_i e'; exact .inr ⟨i, fun h => e' h.symm, hi⟩
      · rintro (rfl | ⟨i, hi, hx⟩)
        · exact ⟨j, by rw [Array.getElem?_toList, Array.getElem?_modify, if_pos rfl, hj]; rfl⟩
        · exact ⟨i, by rw [Array.getElem?_toList, Array.getElem?_modify, if_neg (fun h => hi h.symm), hx]⟩
    have hother : ∀ (i : Nat) (x : MapEntry), i ≠ j → es[i]? = some x → x.key ≠ key := by
      intro i x hi hx ek
      have hpw' := List.pairwise_iff_getElem.1 hpw
      have hil : i < es.toList.length := by simpa using (Array.getElem?_eq_some_iff.1 hx).1
      have hx' : es.toList[i] = x := by have := (Array.getElem?_eq_some_iff.1 hx).2; simpa using this
      have hj' : es.toList[j]'(by simpa using hjl) = e := by have := (Array.getElem?_eq_some_iff.1 hj).2; simpa using this
      rcases Nat.lt_or_ge i j with h | h
      · exact hpw' i j hil (by simpa using hjl) h (by rw [hx', hj', ek, n3])
      · exact hpw' j i (by simpa using hjl) hil (by omega) (by rw [hx', hj', ek, n3])
    by_cases ek : k = key
    · subst ek; rw [h1]
      constructor
      · intro e'; injection e' with e'; subst e'; exact ⟨_, (hmem _).2 (.inl rfl), rfl, rfl⟩
      · rintro ⟨x, hx, e1, e2⟩
        rcases (hmem x).1 hx with rfl | ⟨i, hi, hx⟩
        · rw [← e2]
        · exact absurd e1 (hother i x hi hx)
    · rw [h2 k ek, hf]
      constructor
      · rintro ⟨x, hx, e1, e2⟩
        obtain ⟨i, hi⟩ := List.mem_iff_getElem?.1 hx
        have hi : es[i]? = some x := by simpa using hi
        refine ⟨x, (hmem x).2 (.inr ⟨i, fun e' => ?_, hi⟩), e1, e2⟩
        subst e'; rw [hj] at hi; injection hi with hi; subst hi; exact ek (e1.symm.trans n3)
      · rintro ⟨x, hx, e1, e2⟩
        rcases (hmem x).1 hx with rfl | ⟨i, hi, hx⟩
        · exact absurd e1.symm ek
        · exact ⟨x, List.mem_iff_getElem?.2 ⟨i, by simpa using hx⟩, e1, e2⟩
/-- a lookup with ok -/
theorem Sep.lookup2 (hm : P.underlying mty = some (.map kt et)) (hd : P.underlying kt = some d) (hk : IsKey d key) {z : Value} (hz : ∀ w, (zeroValue et).run P w = .ok z w) (hs : Sep w (mpA r d f :: L))
    {K : Value → World → Prop} (h : K (.tuple #[(f key).getD z, .bool (f key).isSome]) w) : XRun P (Instr.lookup mty (.map (some r)) key true) w K := by
  obtain ⟨G, ⟨es, cl, hb, hst, hks, hf⟩, hg⟩ := hs.at0
  rcases findNow_spec hk es.toList 0 hks with ⟨n1, n2⟩ | ⟨j, e, n1, n2, n3⟩
  · have hn : f key = none := by
      cases hv : f key with
      | none => rfl
      | some v => obtain ⟨x, hx, e1, _⟩ := (hf key v).1 hv; exact absurd e1 (n2 x hx)
    have hrun : (Instr.lookup mty (.map (some r)) key true).run P w = .ok (.tuple #[z, .bool false]) w := by
      simp [Instr.lookup, run_underlying hm, Go.MapKept.run_getObj_map hb, run_checkKey hd hk, run_findKey hd n1, hz, Result.andThen]
    rw [hn] at h
    unfold XRun; rw [hrun]; exact ⟨KeepsD.refl _, h⟩
  · have hv : f key = some e.val := (hf key e.val).2 ⟨e, List.mem_iff_getElem?.2 ⟨j, n2⟩, n3, rfl⟩
    have hrun : (Instr.lookup mty (.map (some r)) key true).run P w = .ok (.tuple #[e.val, .bool true]) w := by
      simp [Instr.lookup, run_underlying hm, Go.MapKept.run_getObj_map hb, run_checkKey hd hk, run_findKey hd n1, Result.andThen]
    rw [hv] at h
    unfold XRun; rw [hrun]; exact ⟨KeepsD.refl _, h⟩
/-- an element of an array of structs -/
theorem xr_index {t elem : TypeId} {len z : Nat} {cs : Array Value} {k : IntKind} {n : Int} (hu : P.underlying t = some (.array len elem)) (ha : ∀ w, (isAgg elem).run P w = .ok true w) (hz : ∀ w, (sizeOf elem).run P w = .ok z w) (h0 : 0 ≤ n) (h1 : n < len)
    {K : Value → World → Prop} (h : K (.agg (cs.extract (n.toNat * z) (n.toNat * z + z))) w) : XRun P (Instr.index t (.agg cs) (.int k n)) w K := by
  have hrun : (Instr.index t (.agg cs) (.int k n)).run P w = .ok (.agg (cs.extract (n.toNat * z) (n.toNat * z + z))) w := by
    simp [Instr.index, asIntOf, run_underlying hu, hz, part, ha, h0, h1, Result.andThen]
  unfold XRun; rw [hrun]; exact ⟨KeepsD.refl _, h⟩
theorem extract_row : ∀ {rows : List (List Value)} {z : Nat}, (∀ row ∈ rows, row.length = z) → ∀ {n : Nat} {row : List Value}, rows[n]? = some row → (rows.flatten.toArray.extract (n * z) (n * z + z)) = row.toArray
  | [], _, _, _, _, h => by simp at h
  | r0 :: rows, z, hz, 0, row, h => by
    simp at h; subst h
    have h0 := hz r0 (by simp)
    apply Array.ext'
    simp [h0.symm]
  | r0 :: rows, z, hz, n + 1, row, h => by
    have h0 := hz r0 (by simp)
    have ih := extract_row (rows := rows) (z := z) (fun row hr => hz row (by simp [hr])) (n := n) (by simpa using h)
    have ih := congrArg Array.toList ih
    apply Array.ext'
    simp only [List.extract_toArray, List.extract_eq_take_drop] at ih ⊢
    simp only [List.flatten_cons, Nat.add_mul, Nat.one_mul] at ih ⊢
    rw [show n * z + z = r0.length + n * z by omega, List.drop_append, List.drop_of_length_le (by omega), List.nil_append]
    rw [show r0.length + n * z - r0.length = n * z by omega, show r0.length + n * z + z - (r0.length + n * z) = n * z + z - n * z by omega]
    exact ih
end
end Go.X
