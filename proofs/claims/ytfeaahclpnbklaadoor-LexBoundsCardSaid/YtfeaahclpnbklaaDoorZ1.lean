/- The lex seat: strings; what the reader reads over. -/
import Derived.Test.YtfeaahclpnbklaaDoorF
import Derived.Test.YtfeaahclpnbklaaDoorY2
import Derived.Test.YtfeaahclpnbklaaDoorX19
import Derived.Test.YtfeaahclpnbklaaDoorKL
set_option linter.unusedVariables false
set_option linter.unusedSimpArgs false
set_option maxRecDepth 10000
set_option maxHeartbeats 1000000
namespace Go.Proofs.YtfeaahclpnbklaaDoor
open Go.X Go.Lx
/-- a text of bytes -/
def S (l : By) : ByteArray := ⟨l.toArray⟩
theorem S_size (l : By) : (S l).size = l.length := by simp [S, ByteArray.size]
theorem S_data (l : By) : (S l).data.toList = l := by simp [S]
theorem S_of (s : ByteArray) : S s.data.toList = s := by simp [S]
theorem S_inj {a b : By} (h : S a = S b) : a = b := by rw [← S_data a, h, S_data]
theorem S_get {l : By} {n : Nat} {c : UInt8} (h : l[n]? = some c) : (S l)[n]? = some c := by
  have hn := (List.getElem?_eq_some_iff.1 h).1
  have hs : n < (S l).size := by rw [S_size]; exact hn
  rw [getElem?_pos (S l) n hs]
  have e : (S l)[n] = l[n] := by simp [S, ByteArray.getElem_eq_getElem_data]; rfl
  rw [e, ← h, List.getElem?_eq_getElem hn]; rfl
theorem S_extract (l : By) (a b : Nat) : (S l).extract a b = S ((l.take b).drop a) := by
  apply ByteArray.ext
  simp [S, ByteArray.data_extract, List.extract_eq_take_drop, List.drop_take]
theorem S_toList (l : By) : (S l).toList = l := by
  rw [ByteArray.toList_eq, S_data]
theorem prog9 : Tryd.prog.underlying 9 = some .string := by kernel_rfl
section
variable {w : World} {K : Value → World → Prop} {KP : List PanicEntry → World → Prop}
theorem xr_idx {l : By} {n : Nat} {c : UInt8} (h : l[n]? = some c) (hK : K (.int .u8 c.toNat) w) : XRun Tryd.prog (Instr.index 9 (.string (S l)) (.int .i64 n)) w K := by
  have : (Instr.index 9 (.string (S l)) (.int .i64 n)).run Tryd.prog w = .ok (.int .u8 c.toNat) w := by
    simp [Instr.index, asIntOf, run_underlying prog9, S_get h, Result.andThen]
  unfold XRun; rw [this]; exact ⟨.refl w, hK⟩
theorem xr_head {l : By} {n : Nat} (h : n ≤ l.length) (hK : K (.string (S (l.take n))) w) : XRun Tryd.prog (Instr.sliceAt 9 (.string (S l)) none (some (.int .i64 n)) none) w K := by
  have : (Instr.sliceAt 9 (.string (S l)) none (some (.int .i64 n)) none).run Tryd.prog w = .ok (.string (S (l.take n))) w := by
    simp [Instr.sliceAt, Instr.slice, Instr.sliceBounds, Instr.sliceBound, asIntOf, run_underlying prog9, S_size, S_extract, h, Result.andThen]
  unfold XRun; rw [this]; exact ⟨.refl w, hK⟩
theorem xr_tail {l : By} {n : Nat} (h : n ≤ l.length) (hK : K (.string (S (l.drop n))) w) : XRun Tryd.prog (Instr.sliceAt 9 (.string (S l)) (some (.int .i64 n)) none none) w K := by
  have : (Instr.sliceAt 9 (.string (S l)) (some (.int .i64 n)) none none).run Tryd.prog w = .ok (.string (S (l.drop n))) w := by
    have e : l.length = (S l).size := (S_size l).symm
    simp [Instr.sliceAt, Instr.slice, Instr.sliceBounds, Instr.sliceBound, asIntOf, run_underlying prog9, S_size, S_extract, h, Result.andThen, List.take_length]
  unfold XRun; rw [this]; exact ⟨.refl w, hK⟩
def u8s (l : By) : List Value := l.map fun c => .int .u8 c.toNat
/-- a text's bytes, in memory of their own -/
theorem xr_bytes {l : By} (h : ∀ (a : Option Addr) (n c : Nat) u, Ex w u → n = l.length → Rd u a (u8s l) (fun b => w.heap.size ≤ b) → K (.slice a n c) u) : XRun Tryd.prog (convert 9 22 (.string (S l))) w K := by
  have hrun := Lib.run_convert_string_bytes (P := Tryd.prog) w 9 22 5 (S l) prog9 (by kernel_rfl) (by kernel_rfl)
  unfold XRun; rw [hrun]
  have hsz := Lib.bytesWorld_size w 5 (S l)
  have hex : Ex w (Lib.bytesWorld w 5 (S l)) := fun D => ⟨by omega, fun b hb _ => Lib.bytesWorld_at_old w 5 (S l) b hb⟩
  refine ⟨⟨rfl, rfl, rfl, by omega, fun r hr => ?_⟩, h _ _ _ _ hex (S_size l) (.inr ⟨_, rfl, Nat.le_refl _, fun i v hv => ?_⟩)⟩
  · rw [Lib.bytesWorld_at_old w 5 (S l) r (size_of_some hr)]; exact hr
  · simp only [u8s, List.getElem?_map] at hv
    cases hc : l[i]? with
    | none => rw [hc] at hv; cases hv
    | some c =>
      rw [hc] at hv
      simp only [Option.map_some, Option.some.injEq] at hv
      subst hv
      have hi := (List.getElem?_eq_some_iff.1 hc).1
      rw [add_lit, Nat.zero_add, Lib.bytesWorld_cell w 5 (S l) i (by rw [S_size]; exact hi), S_data]
      simp [List.getD_eq_getElem?_getD, hc]
theorem C23 {c : UInt8} (h : K (.bool (letB c)) w) : XCP Tryd.prog 23 [.int .u8 c.toNat] w K KP := by
  refine E23 ?_
  unfold F23
  have : ((decide ((97 : Int) ≤ c.toNat)) && (decide ((c.toNat : Int) ≤ 122))) = letB c := by
    unfold letB
    rw [Bool.eq_iff_iff]
    simp only [Bool.and_eq_true, decide_eq_true_eq, UInt8.le_iff_toNat_le]
    have h1 : (97 : UInt8).toNat = 97 := rfl
    have h2 : (122 : UInt8).toNat = 122 := rfl
    omega
  rw [this]; exact h
theorem C24 {c : UInt8} (h : K (.bool (digB c)) w) : XCP Tryd.prog 24 [.int .u8 c.toNat] w K KP := by
  refine E24 ?_
  unfold F24
  have : ((decide ((48 : Int) ≤ c.toNat)) && (decide ((c.toNat : Int) ≤ 57))) = digB c := by
    unfold digB
    rw [Bool.eq_iff_iff]
    simp only [Bool.and_eq_true, decide_eq_true_eq, UInt8.le_iff_toNat_le]
    have h1 : (48 : UInt8).toNat = 48 := rfl
    have h2 : (57 : UInt8).toNat = 57 := rfl
    omega
  rw [this]; exact h
theorem u8_eq {c : UInt8} {n : Nat} (hn : n < 256) : ((c.toNat : Int) == (n : Int)) = (c == UInt8.ofNat n) := by
  rw [Bool.eq_iff_iff]
  simp only [beq_iff_eq]
  constructor
  · intro e
    apply UInt8.toNat_inj.1
    rw [UInt8.toNat_ofNat']
    omega
  · intro e; subst e; rw [UInt8.toNat_ofNat']; omega
/-- a function of a byte answers as f -/
def DecB (w0 : World) (v : Value) (f : UInt8 → Bool) : Prop :=
  ∀ (c : UInt8) (u : World) (K : Value → World → Prop) (KP : List PanicEntry → World → Prop), Ex w0 u → (∀ u', Ex u u' → K (.bool (f c)) u') → XCV Tryd.prog v [.int .u8 c.toNat] u K KP
theorem D22 : DecB w (.func (.func 22) #[] #[]) wordB := by
  intro c u K KP _ hk
  show XCP Tryd.prog 22 [.int .u8 c.toNat] u K KP
  refine E22 (C23 ⟨_, rfl, ?_⟩)
  exact X.or_join (c := digB c) (fun kb hk' => C24 ⟨_, rfl, hk' _ (Ex.refl _)⟩) fun u1 e1 => hk u1 e1
theorem D28 : DecB w (.func (.func 28) #[] #[]) blankB := by
  intro c u K KP _ hk
  show XCP Tryd.prog 28 [.int .u8 c.toNat] u K KP
  refine E28 ?_
  unfold F28
  have h1 := u8_eq (c := c) (n := 32) (by decide)
  have h2 := u8_eq (c := c) (n := 9) (by decide)
  have h3 := u8_eq (c := c) (n := 13) (by decide)
  have h4 := u8_eq (c := c) (n := 10) (by decide)
  have e : (((((c.toNat : Int) == 32) || ((c.toNat : Int) == 9)) || ((c.toNat : Int) == 13)) || ((c.toNat : Int) == 10)) = blankB c := by
    show (((((c.toNat : Int) == ((32 : Nat) : Int)) || ((c.toNat : Int) == ((9 : Nat) : Int))) || ((c.toNat : Int) == ((13 : Nat) : Int))) || ((c.toNat : Int) == ((10 : Nat) : Int))) = blankB c
    rw [h1, h2, h3, h4]; rfl
  rw [e]; exact hk u (Ex.refl u)
theorem D30 : DecB w (.func (.func 30) #[] #[]) (fun c => c != 10) := by
  intro c u K KP _ hk
  show XCP Tryd.prog 30 [.int .u8 c.toNat] u K KP
  refine E30 ?_
  unfold F30
  have h4 := u8_eq (c := c) (n := 10) (by decide)
  have e : ((c.toNat : Int) != 10) = (c != 10) := by
    unfold bne
    show (!((c.toNat : Int) == ((10 : Nat) : Int))) = _
    rw [h4]; rfl
  rw [e]; exact hk u (Ex.refl u)
theorem xptr_of' {a : Option Addr} {p : Addr} {k : Addr → Prop} (h : a = some p) (hk : k p) : xptr a k := by subst h; exact hk
/-- a reader as it lies -/
def rd (p : Lx.Pos) (l : By) (e : Int) : List Value := [.int .i64 p.line, .int .i64 p.col, .string (S l), .int .i64 e]
theorem runN_step {f : UInt8 → Bool} {l : By} {n : Nat} (hn : ∀ i, i < n → ∀ c, l[i]? = some c → f c = true) (hle : n ≤ l.length) : (∀ c, l[n]? = some c → f c = false) → Lx.runN f l = n := by
  intro h
  induction l generalizing n with
  | nil => simp at hle; subst hle; rfl
  | cons a r ih =>
    cases n with
    | zero =>
      have := h a rfl
      unfold Lx.runN; simp [List.takeWhile_cons, this]
    | succ n =>
      have ha := hn 0 (by omega) a rfl
      have := ih (n := n) (fun i hi c hc => hn (i + 1) (by omega) c (by simpa using hc)) (by simpa using hle) (fun c hc => h c (by simpa using hc))
      unfold Lx.runN at this ⊢
      simp [List.takeWhile_cons, ha, this]
theorem C21 {b : Nat} {p : Lx.Pos} {l : By} {e : Int} {v : Value} {f : UInt8 → Bool} (hB : Blk w b (rd p l e) 42) (hv : DecB w v f) (hl : l.length ≤ 1000000) (h : ∀ u, Ex w u → K (.int .i64 (Lx.runN f l)) u) :
    XCP Tryd.prog 21 [.pointer (some ⟨b, 0, none⟩), v] w K KP := by
  refine E21 ?_
  unfold F21
  refine ⟨fun n u => ∃ k : Nat, n = k ∧ k ≤ l.length ∧ Ex w u ∧ ∀ i, i < k → ∀ c, l[i]? = some c → f c = true, fun n _ => l.length - n.toNat, ⟨0, rfl, Nat.zero_le _, Ex.refl w, fun i hi => by omega⟩, ?_⟩
  rintro n u ⟨k, rfl, hk, hu, hall⟩
  rw [xptr_some]
  refine ⟨_, (hu.blk hB).ld (o := 2) rfl, ?_⟩
  rw [S_size]
  by_cases hlt : k < l.length
  · have hc := List.getElem?_eq_getElem hlt
    intro kb hkb
    rw [if_pos (by simpa using hlt), xptr_some]
    refine ⟨_, (hu.blk hB).ld (o := 2) rfl, ?_⟩
    refine xr_idx hc ⟨_, rfl, ?_⟩
    refine hv _ _ _ _ hu fun u' hu' => ⟨_, rfl, hkb _ _ ?_⟩
    cases hf : f l[k] with
    | true =>
      rw [if_pos rfl, wi (by omega) (by omega)]
      refine ⟨⟨k + 1, rfl, hlt, hu.trans hu', fun i hi c hc' => ?_⟩, by show l.length - ((k : Int) + 1).toNat < l.length - ((k : Int)).toNat; omega⟩
      by_cases e : i = k
      · subst e; rw [hc] at hc'; cases hc'; exact hf
      · exact hall i (by omega) c hc'
    | false =>
      rw [if_neg (by decide)]
      have := runN_step hall hk (fun c hc' => by rw [hc] at hc'; cases hc'; exact hf)
      have h' := h u' (hu.trans hu')
      rwa [this] at h'
  · intro kb hkb
    rw [if_neg (by simpa using hlt)]
    refine hkb _ _ ?_
    rw [if_neg (by decide)]
    have := runN_step hall hk (fun c hc' => by rw [List.getElem?_eq_none (by omega)] at hc'; cases hc')
    have h' := h u hu
    rwa [this] at h'
end
end Go.Proofs.YtfeaahclpnbklaaDoor
