/- The lex seat: sets of words; what letters and digits are. -/
import Derived.Test.YtfeaahclpnbklaaDoorZ4
set_option linter.unusedVariables false
set_option linter.unusedSimpArgs false
set_option maxRecDepth 10000
set_option maxHeartbeats 2000000
namespace Go.X
open Go.MapKept
section
variable {P : Program} {w : World} {L : List Assn} {mty kt et : TypeId} {d : TypeDesc} {r : Nat} {f : Value → Option Value} {key : Value}
theorem Sep.makeMapN (hm : P.underlying mty = some (.map kt et)) {k : IntKind} {n : Int} (hs : Sep w L) {K : Value → World → Prop} (h : ∀ r w', Sep w' (mpA r d (fun _ => none) :: L) → (∀ D, Fr D w w') → K (.map (some r)) w') : XRun P (Instr.makeMap mty (some (.int k n))) w K := by
  have hrun : (Instr.makeMap mty (some (.int k n))).run P w = (Instr.makeMap mty none).run P w := by
    simp [Instr.makeMap, run_underlying hm, asInt, asIntOf, Result.andThen]
  have := Sep.makeMap (P := P) (mty := mty) (d := d) hs h
  unfold XRun at this ⊢
  rw [hrun]; exact this
/-- a lookup without ok -/
theorem Sep.lookup1 (hm : P.underlying mty = some (.map kt et)) (hd : P.underlying kt = some d) (hk : IsKey d key) {z : Value} (hz : ∀ w, (zeroValue et).run P w = .ok z w) {G : Nat → Prop} (hs : (mpA r d f).p w G)
    {K : Value → World → Prop} (h : K ((f key).getD z) w) : XRun P (Instr.lookup mty (.map (some r)) key false) w K := by
  obtain ⟨⟨es, cl, hb, hst, hks, hf⟩, hg⟩ := hs
  rcases findNow_spec hk es.toList 0 hks with ⟨n1, n2⟩ | ⟨j, e, n1, n2, n3⟩
  · have hn : f key = none := by
      cases hv : f key with
      | none => rfl
      | some v => obtain ⟨x, hx, e1, _⟩ := (hf key v).1 hv; exact absurd e1 (n2 x hx)
    have hrun : (Instr.lookup mty (.map (some r)) key false).run P w = .ok z w := by
      simp [Instr.lookup, run_underlying hm, Go.MapKept.run_getObj_map hb, run_checkKey hd hk, run_findKey hd n1, hz, Result.andThen]
    rw [hn] at h
    unfold XRun; rw [hrun]; exact ⟨KeepsD.refl _, h⟩
  · have hv : f key = some e.val := (hf key e.val).2 ⟨e, List.mem_iff_getElem?.2 ⟨j, n2⟩, n3, rfl⟩
    have hrun : (Instr.lookup mty (.map (some r)) key false).run P w = .ok e.val w := by
      simp [Instr.lookup, run_underlying hm, Go.MapKept.run_getObj_map hb, run_checkKey hd hk, run_findKey hd n1, Result.andThen]
    rw [hv] at h
    unfold XRun; rw [hrun]; exact ⟨KeepsD.refl _, h⟩
end
end Go.X
namespace Go.Proofs.YtfeaahclpnbklaaDoor
open Go.X Go.Lx Go.RowKit
/-- what a set of words says -/
def setV (xs : List By) : Value → Option Value := fun v =>
  match v with
  | .string s => if xs.contains s.data.toList = true then some (.bool true) else none
  | _ => none
theorem U48 : Tryd.prog.underlying 48 = some (.map 9 4) := by kernel_rfl
theorem Z4' (w : World) : (zeroValue 4).run Tryd.prog w = .ok (.bool false) w := by kernel_rfl
theorem setV_S (xs : List By) (l : By) : (setV xs (.string (S l))).getD (.bool false) = .bool (xs.contains l) := by
  unfold setV
  simp only [S_data]
  cases xs.contains l <;> rfl
def strR : Rep By where
  z := 1
  p := fun _ _ cs x => cs = [.string (S x)]
  len := fun h => by subst h; rfl
  frame := fun h _ _ => h
  mono := fun h _ => h
section
variable {w : World} {K : Value → World → Prop} {KP : List PanicEntry → World → Prop}
theorem look {r : Nat} {xs : List By} {l : By} {G : Nat → Prop} (hs : (mpA r .string (setV xs)).p w G) (h : K (.bool (xs.contains l)) w) : XRun Tryd.prog (Instr.lookup 48 (.map (some r)) (.string (S l)) false) w K := by
  refine Sep.lookup1 (key := .string (S l)) U48 prog9 (show MapKept.IsKey .string (.string (S l)) from trivial) Z4' hs ?_
  rw [setV_S]; exact h
theorem call27 : Callable Tryd.prog 27 := ⟨Tryd.f27, Tryd.func27, by kernel_rfl, by kernel_rfl⟩
theorem C27 {t : By} (hG : Gl w) (ht : t.length ≤ 1000000) (ha : ∀ c ∈ t, c.toNat < 128) (h : ∀ (s : Sl) u, Ex w u → SlR strR u TG s (Lib.fields t) → K s.v u) : XCP Tryd.prog 27 [.string (S t)] w K KP := by
  refine xc_calls call27 (Tryd.strings_Fields (S t) w (by rw [S_size]; omega) (fun j b hb => by rw [S_data] at hb; exact ha b (List.mem_of_getElem? hb)) hG.sp) fun e w' hh => ?_
  obtain ⟨rfl, rfl⟩ := hh
  rw [S_data]
  refine ⟨_, rfl, KeepsD.alloc _ _, h ⟨some ⟨w.heap.size, 0, none⟩, _, _⟩ _ (Ex.alloc w _) ⟨rfl, Nat.le_refl _, (Lib.fields t).map fun x => [.string (S x)], by simp, .inr ⟨_, rfl, trivial, fun i v hv => ?_⟩, fun i row x hr hx => ?_⟩⟩
  · have hfl : ((Lib.fields t).map fun x => [Value.string (S x)]).flatten = (Lib.fields t).map fun x => Value.string (S x) := by
      induction Lib.fields t with
      | nil => rfl
      | cons a r ih => rw [List.map_cons, List.flatten_cons, ih]; rfl
    rw [hfl] at hv
    rw [add_lit, Nat.zero_add, World.cell?_alloc_new]
    simpa [S] using hv
  · simp only [List.getElem?_map, hx, Option.map_some, Option.some.injEq] at hr
    exact hr.symm
theorem C26 {s : Sl} {xs : List By} {G : Nat → Prop} (hs : SlR strR w G s xs) (hn : xs.length ≤ 1000000) (h : ∀ r u, Sep u [mpA r .string (setV xs), oldA w] → K (.map (some r)) u) : XCP Tryd.prog 26 [s.v] w K KP := by
  show XCP Tryd.prog 26 [.slice s.a s.l s.c] w K KP
  refine E26 ?_
  unfold F26
  have hl := hs.len
  refine Sep.makeMapN (d := .string) U48 (Sep.begin w) fun r w1 hw1 he1 => ⟨_, rfl, ?_⟩
  have h0 : (fun _ => none : Value → Option Value) = setV (xs.take 0) := by
    funext v
    cases v <;> simp [setV]
  rw [h0] at hw1
  refine ⟨fun n u => ∃ k : Nat, n = k ∧ k ≤ xs.length ∧ Sep u [mpA r .string (setV (xs.take k)), oldA w], fun n _ => xs.length - n.toNat, ⟨0, rfl, Nat.zero_le _, hw1⟩, ?_⟩
  rintro n u ⟨k, rfl, hk, hu⟩
  by_cases hlt : k < xs.length
  · rw [if_pos (by simp; omega)]
    obtain ⟨p, row, hp, hr, hc⟩ := (hs.old (hu.ex 1 rfl)).nth (List.getElem?_eq_getElem hlt) (Nat.le_refl 1)
    have hr : row = [.string (S xs[k])] := hr
    subst hr
    have hc1 := hc.1
    rw [addr_add, Nat.add_zero, show strR.z = 1 from rfl, Nat.mul_one] at hc1
    refine xptr_of' hp ⟨by omega, by omega, _, by simpa using hc1, ?_⟩
    refine Sep.mapUpdate (key := .string (S xs[k])) (f' := setV (xs.take (k + 1))) U48 prog9 (show MapKept.IsKey .string (.string (S xs[k])) from trivial) hu ?_ (fun v hv => ?_) fun u2 hu2 => ?_
    · unfold setV
      simp only [S_data]
      rw [if_pos]
      rw [List.contains_iff_mem, List.take_add_one, List.getElem?_eq_getElem hlt]
      exact List.mem_append_right _ (List.mem_singleton.2 rfl)
    · unfold setV
      cases v with
      | string x =>
        simp only
        have : x.data.toList ≠ xs[k] := fun e => hv (by rw [← e, S_of])
        have e : (xs.take (k + 1)).contains x.data.toList = (xs.take k).contains x.data.toList := by
          rw [Bool.eq_iff_iff, List.contains_iff_mem, List.contains_iff_mem, List.take_add_one, List.getElem?_eq_getElem hlt]
          constructor
          · intro h
            rcases List.mem_append.1 h with h | h
            · exact h
            · exact absurd (List.mem_singleton.1 h) this
          · exact fun h => List.mem_append_left _ h
        rw [e]
      | _ => rfl
    · rw [wi (by omega) (by omega)]
      exact ⟨⟨k + 1, rfl, hlt, hu2⟩, by show xs.length - ((k : Int) + 1).toNat < xs.length - ((k : Int)).toNat; omega⟩
  · rw [if_neg (by simp; omega)]
    have e : k = xs.length := by omega
    subst e
    rw [List.take_length] at hu
    exact h r u hu
theorem keys_fields : Lib.fields [118, 97, 114, 32, 97, 114, 114, 97, 121, 32, 109, 117, 116, 101, 120, 32, 99, 111, 110, 100, 32, 99, 104, 97, 110, 32, 116, 104, 114, 101, 97, 100, 32, 108, 101, 116, 32, 105, 102, 32, 101, 108, 115, 101, 32, 119, 104, 105, 108, 101, 32, 108, 111, 99, 107, 32, 117, 110, 108, 111, 99, 107, 32, 119, 97, 105, 116, 32, 115, 105, 103, 110, 97, 108, 32, 97, 108, 108, 32, 115, 101, 110, 100, 32, 114, 101, 99, 118, 32, 115, 112, 97, 119, 110, 32, 106, 111, 105, 110, 32, 112, 114, 105, 110, 116] = keyL := by decide +kernel
theorem marks_fields : Lib.fields [59, 32, 40, 32, 41, 32, 123, 32, 125, 32, 91, 32, 93, 32, 61, 32, 61, 61, 32, 33, 61, 32, 60, 32, 60, 61, 32, 43, 32, 45, 32, 42, 32, 47, 32, 37, 32, 38, 38, 32, 124, 124, 32, 33] = markL := by decide +kernel
theorem C17 (hG : Gl w) (h : ∀ r u, Ex w u → (mpA r .string (setV keyL)).p u (fun b => w.heap.size ≤ b) → K (.map (some r)) u) : XCP Tryd.prog 17 [] w K KP := by
  refine E17 ?_
  unfold F17
  refine C27 (t := [118, 97, 114, 32, 97, 114, 114, 97, 121, 32, 109, 117, 116, 101, 120, 32, 99, 111, 110, 100, 32, 99, 104, 97, 110, 32, 116, 104, 114, 101, 97, 100, 32, 108, 101, 116, 32, 105, 102, 32, 101, 108, 115, 101, 32, 119, 104, 105, 108, 101, 32, 108, 111, 99, 107, 32, 117, 110, 108, 111, 99, 107, 32, 119, 97, 105, 116, 32, 115, 105, 103, 110, 97, 108, 32, 97, 108, 108, 32, 115, 101, 110, 100, 32, 114, 101, 99, 118, 32, 115, 112, 97, 119, 110, 32, 106, 111, 105, 110, 32, 112, 114, 105, 110, 116]) hG (by decide) (by decide +kernel) fun s u1 e1 hs => ⟨_, _, _, rfl, ?_⟩
  rw [keys_fields] at hs
  refine C26 hs (by decide) fun r u2 hu2 => ⟨_, rfl, h r u2 (e1.trans (hu2.ex 1 rfl)) ?_⟩
  exact (mpA r .string (setV keyL)).mono (hu2.fresh 0 1 rfl rfl (by decide)) fun b _ hb => Nat.le_trans e1.size hb
theorem C18 (hG : Gl w) (h : ∀ r u, Ex w u → (mpA r .string (setV markL)).p u (fun b => w.heap.size ≤ b) → K (.map (some r)) u) : XCP Tryd.prog 18 [] w K KP := by
  refine E18 ?_
  unfold F18
  refine C27 (t := [59, 32, 40, 32, 41, 32, 123, 32, 125, 32, 91, 32, 93, 32, 61, 32, 61, 61, 32, 33, 61, 32, 60, 32, 60, 61, 32, 43, 32, 45, 32, 42, 32, 47, 32, 37, 32, 38, 38, 32, 124, 124, 32, 33]) hG (by decide) (by decide +kernel) fun s u1 e1 hs => ⟨_, _, _, rfl, ?_⟩
  rw [marks_fields] at hs
  refine C26 hs (by decide) fun r u2 hu2 => ⟨_, rfl, h r u2 (e1.trans (hu2.ex 1 rfl)) ?_⟩
  exact (mpA r .string (setV markL)).mono (hu2.fresh 0 1 rfl rfl (by decide)) fun b _ hb => Nat.le_trans e1.size hb
theorem C25 {l : By} {r : Nat} {G : Nat → Prop} (hG : Gl w) (hm : (mpA r .string (setV keyL)).p w G) (hne : l ≠ []) (hl : l.length ≤ 1000000) (h : ∀ u, Ex w u → K (.tuple #[.int .i64 (kindF l).1, .int .i64 (kindF l).2.1, .int .i64 (kindF l).2.2]) u) :
    XCP Tryd.prog 25 [.string (S l), .map (some r)] w K KP := by
  refine E25 ?_
  unfold F25
  obtain ⟨c, l', rfl⟩ : ∃ c l', l = c :: l' := by cases l with | nil => exact absurd rfl hne | cons c l' => exact ⟨c, l', rfl⟩
  refine xr_idx (n := 0) (c := c) rfl ⟨_, rfl, C24 ⟨_, rfl, ?_⟩⟩
  have hkf : kindF (c :: l') = if digB c = true then (if numOk (c :: l') = true then (2, (valN (c :: l') : Int), 0) else (0, 0, 112)) else if keyL.contains (c :: l') = true then (3, 0, 0) else if (c :: l').length > 16 then (0, 0, 111) else (1, 0, 0) := rfl
  rw [hkf] at h
  cases hd : digB c with
  | true =>
    rw [hd, if_pos rfl] at h
    rw [if_pos rfl]
    have hiff : numOk (c :: l') = true ↔ numB (c :: l') ∧ Lib.decDigits (valN (c :: l')) = c :: l' := by
      unfold numOk numB
      simp only [Bool.and_eq_true, decide_eq_true_eq, List.all_eq_true, Bool.or_eq_true, beq_iff_eq, bne_iff_ne]
      constructor
      · rintro ⟨⟨h1, h2⟩, h3⟩
        exact ⟨⟨h1, h3⟩, decD_val _ h1 (by simp) (h2.imp id id)⟩
      · rintro ⟨⟨h1, h3⟩, h4⟩
        exact ⟨⟨h1, (fmt_eq h1 (by simp)).1 h4⟩, h3⟩
    refine C31 hG hne hl (fun hn u hu => ⟨_, _, rfl, ne_nil ⟨_, rfl, ?_⟩⟩) fun hn n t v u hu => ⟨_, _, rfl, ne_some ⟨_, rfl, ?_⟩⟩
    · intro kb hkb
      rw [if_neg (by decide)]
      refine C32 (hG.ex hu) (by have := hn.2; omega) fun u2 e2 => ⟨_, rfl, hkb _ _ ?_⟩
      rw [S_toList, S_toList]
      have h' := h u2 (hu.trans e2)
      by_cases he : Lib.decDigits (valN (c :: l')) = c :: l'
      · rw [if_pos (hiff.2 ⟨hn, he⟩)] at h'
        have := hn.2
        rw [he, if_neg (by simp), wi (by omega) (by omega)]
        exact h'
      · rw [if_neg (fun hh => he (hiff.1 hh).2)] at h'
        rw [if_pos (by simpa using he)]
        exact h'
    · intro kb hkb
      rw [if_pos rfl]
      refine hkb _ _ ?_
      rw [if_pos rfl]
      have h' := h u hu
      rw [if_neg (fun hh => hn (hiff.1 hh).1)] at h'
      exact h'
  | false =>
    rw [hd, if_neg (by decide)] at h
    rw [if_neg (by decide)]
    refine look hm ⟨_, rfl, ?_⟩
    by_cases hk : keyL.contains (c :: l') = true
    · rw [if_pos hk] at h ⊢
      exact h w (Ex.refl w)
    · rw [if_neg hk] at h ⊢
      rw [S_size]
      by_cases h16 : (c :: l').length > 16
      · rw [if_pos h16] at h
        rw [if_pos (by simp only [decide_eq_true_eq]; omega)]
        exact h w (Ex.refl w)
      · rw [if_neg h16] at h
        rw [if_neg (by simp only [decide_eq_true_eq]; omega)]
        exact h w (Ex.refl w)
end
end Go.Proofs.YtfeaahclpnbklaaDoor
