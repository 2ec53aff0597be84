/- The lex seat: numbers: as they are written, as they are read. -/
import Derived.Test.YtfeaahclpnbklaaDoorZ2
import Derived.Lib.AppendIntMem
import Derived.Sort.Grow
set_option linter.unusedVariables false
set_option linter.unusedSimpArgs false
set_option maxRecDepth 10000
set_option maxHeartbeats 1000000
namespace Go.Proofs.YtfeaahclpnbklaaDoor
open Go.X Go.Lx Go.RowKit Go.Sort
/-! plain -/
theorem snocRec {p : By → Prop} (h0 : p []) (hs : ∀ w c, p w → p (w ++ [c])) (w : By) : p w := by
  have key : ∀ r : By, p r.reverse := by
    intro r
    induction r with
    | nil => exact h0
    | cons a r ih => rw [List.reverse_cons]; exact hs _ _ ih
  have := key w.reverse
  rwa [List.reverse_reverse] at this
theorem valN_snoc (w : By) (c : UInt8) : valN (w ++ [c]) = valN w * 10 + (c.toNat - 48) := by simp [valN]
theorem dig_iff {c : UInt8} : digB c = true ↔ 48 ≤ c.toNat ∧ c.toNat ≤ 57 := by
  unfold digB
  simp only [Bool.and_eq_true, decide_eq_true_eq, UInt8.le_iff_toNat_le]
  have h1 : (48 : UInt8).toNat = 48 := rfl
  have h2 : (57 : UInt8).toNat = 57 := rfl
  omega
theorem dig_of {c : UInt8} (h : digB c = true) : UInt8.ofNat (48 + (c.toNat - 48)) = c := by
  obtain ⟨h1, h2⟩ := dig_iff.1 h
  rw [show 48 + (c.toNat - 48) = c.toNat by omega]
  exact UInt8.ofNat_toNat
theorem decD_lt {u : Nat} (h : u < 10) : Lib.decDigits u = [UInt8.ofNat (48 + u)] := by rw [Lib.decDigits, dif_pos h]
theorem decD_ge {u : Nat} (h : ¬u < 10) : Lib.decDigits u = Lib.decDigits (u / 10) ++ [UInt8.ofNat (48 + u % 10)] := by rw [Lib.decDigits, dif_neg h]
theorem decD_ne (u : Nat) : Lib.decDigits u ≠ [] := by
  by_cases h : u < 10
  · rw [decD_lt h]; simp
  · rw [decD_ge h]; simp
theorem decD_head : ∀ (u : Nat), 1 ≤ u → (Lib.decDigits u).head? ≠ some 48 := by
  intro u
  induction u using Nat.strongRecOn with
  | _ u ih =>
    intro h1
    by_cases h : u < 10
    · rw [decD_lt h]
      intro e
      have e : UInt8.ofNat (48 + u) = 48 := by simpa using e
      have := congrArg UInt8.toNat e
      rw [UInt8.toNat_ofNat'] at this
      have h2 : (48 : UInt8).toNat = 48 := rfl
      omega
    · rw [decD_ge h]
      have h1 := ih (u / 10) (by omega) (by omega)
      cases hdd : Lib.decDigits (u / 10) with
      | nil => exact absurd hdd (decD_ne _)
      | cons a r => rw [hdd] at h1; simpa using h1
theorem valN_pos : ∀ (w : By), (∀ c ∈ w, digB c = true) → w ≠ [] → w.head? ≠ some 48 → 1 ≤ valN w := by
  refine snocRec (fun _ h _ => absurd rfl h) fun w c ih => ?_
  · intro hd _ hh
    rw [valN_snoc]
    cases w with
    | nil =>
      have := dig_iff.1 (hd c (by simp))
      have hc : c ≠ 48 := by simpa using hh
      have : c.toNat ≠ 48 := fun e => hc (UInt8.toNat_inj.1 e)
      omega
    | cons a r =>
      have := ih (fun x hx => hd x (by simp only [List.mem_append]; exact .inl hx)) (by simp) (by simpa using hh)
      omega
theorem decD_val : ∀ (w : By), (∀ c ∈ w, digB c = true) → w ≠ [] → (w.length = 1 ∨ w.head? ≠ some 48) → Lib.decDigits (valN w) = w := by
  refine snocRec (fun _ h _ => absurd rfl h) fun w c ih => ?_
  · intro hd _ hh
    have hc := hd c (by simp)
    have hc' := dig_iff.1 hc
    rw [valN_snoc]
    cases w with
    | nil =>
      rw [show valN [] = 0 from rfl, Nat.zero_mul, Nat.zero_add, decD_lt (by omega), dig_of hc]; rfl
    | cons a r =>
      have hr : ∀ x ∈ a :: r, digB x = true := fun x hx => hd x (by simp only [List.mem_append]; exact .inl hx)
      have hh : (a :: r).head? ≠ some 48 := by
        rcases hh with h | h
        · simp at h
        · simpa using h
      have hp := valN_pos (a :: r) hr (by simp) hh
      rw [decD_ge (by omega), show (valN (a :: r) * 10 + (c.toNat - 48)) / 10 = valN (a :: r) by omega, show (valN (a :: r) * 10 + (c.toNat - 48)) % 10 = c.toNat - 48 by omega, dig_of hc, ih hr (by simp) (.inr hh)]
/-- digits are a number as it is written -/
theorem fmt_eq {w : By} (hd : ∀ c ∈ w, digB c = true) (hne : w ≠ []) : Lib.decDigits (valN w) = w ↔ (w.length = 1 ∨ w.head? ≠ some 48) := by
  refine ⟨fun h => ?_, decD_val w hd hne⟩
  by_cases h1 : w.length = 1
  · exact .inl h1
  · right
    have hl : 2 ≤ w.length := by
      have : w.length ≠ 0 := fun e => hne (List.length_eq_zero_iff.1 e)
      omega
    by_cases hu : valN w < 10
    · rw [decD_lt hu] at h
      rw [← h] at hl; simp at hl
    · have := decD_head (valN w) (by omega)
      rwa [h] at this
theorem valN_take {w : By} {k : Nat} {c : UInt8} (h : w[k]? = some c) : valN (w.take (k + 1)) = valN (w.take k) * 10 + (c.toNat - 48) := by
  rw [List.take_add_one, h]; exact valN_snoc _ _
theorem valN_le (w : By) (k : Nat) : valN (w.take k) ≤ valN w := by
  have key : ∀ (a b : By), valN a ≤ valN (a ++ b) := by
    intro a b
    refine snocRec (p := fun b => valN a ≤ valN (a ++ b)) (by simp) (fun b c ih => ?_) b
    rw [← List.append_assoc, valN_snoc]; omega
  have := key (w.take k) (w.drop k)
  rwa [List.take_append_drop] at this
/-! what a start lays -/
structure Gl (w : World) : Prop where
  tens : Lib.TabIs Tryd.prog w "internal/strconv.uint64pow10" .u64 Lib.pow10Tab
  sp : Lib.TabIs Tryd.prog w "strings.asciiSpace" .u8 Lib.asciiSpaceTab
  es : ∃ te pe, w.cell? ⟨2, 0, none⟩ = some (.iface te pe)
  er : ∃ te pe, w.cell? ⟨3, 0, none⟩ = some (.iface te pe)
theorem tab_ex {w u : World} {n : String} {k : IntKind} {zs : List Int} (h : Lib.TabIs Tryd.prog w n k zs) (he : Ex w u) : Lib.TabIs Tryd.prog u n k zs := by
  unfold Lib.TabIs World.var? at h ⊢
  rw [Option.bind_eq_some_iff] at h ⊢
  obtain ⟨g, hg, h⟩ := h
  refine ⟨g, hg, ?_⟩
  cases hh : w.heap[g]? with
  | none => rw [hh] at h; cases h
  | some o =>
    rw [hh] at h
    rw [(he fun _ => False).at_ g (size_of_some hh) (fun h => h), hh]
    exact h
theorem Gl.ex {w u : World} (h : Gl w) (he : Ex w u) : Gl u :=
  ⟨tab_ex h.tens he, tab_ex h.sp he, by obtain ⟨a, b, c⟩ := h.es; exact ⟨a, b, he.cell c⟩, by obtain ⟨a, b, c⟩ := h.er; exact ⟨a, b, he.cell c⟩⟩
/-! bridges -/
theorem Below.ex {w u : World} (h : RowKit.Below w.heap.size w u) : Ex w u := fun D => ⟨h.size, fun b hb _ => h.block b hb⟩
theorem Below.keeps {w u : World} (h : RowKit.Below w.heap.size w u) : KeepsD w u :=
  ⟨h.os, h.tape, h.output, h.size, fun r hr => by rw [h.block r (size_of_some hr)]; exact hr⟩
theorem xc_calls {f : FuncId} {args : List Value} {w : World} {Q : Ending → World → Prop} {K : Value → World → Prop} {KP : List PanicEntry → World → Prop} (hf : Callable Tryd.prog f) (h : Calls Tryd.prog f args.toArray w Q)
    (hq : ∀ e w', Q e w' → ∃ v, e = .returned v ∧ KeepsD w w' ∧ K v w') : XCP Tryd.prog f args w K KP :=
  ⟨hf, h.mono fun e w' hh => by obtain ⟨v, rfl, h1, h2⟩ := hq e w' hh; exact ⟨h1, h2⟩⟩
theorem below_grow (w : World) (k : Nat) (os : Array Obj) : RowKit.Below w.heap.size w (grow (w.drewN k) os) :=
  ⟨rfl, rfl, rfl, by show _ ≤ (w.heap ++ os).size; rw [Array.size_append]; omega, fun b hb => by show (w.heap ++ os)[b]? = _; rw [Array.getElem?_append_left hb]⟩
end Go.Proofs.YtfeaahclpnbklaaDoor
