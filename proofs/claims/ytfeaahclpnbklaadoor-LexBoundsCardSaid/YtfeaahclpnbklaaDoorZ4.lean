/- The lex seat: what letters and digits are: numbers read and written by the library, keywords, names. -/
import Derived.Test.YtfeaahclpnbklaaDoorZ3
set_option linter.unusedVariables false
set_option linter.unusedSimpArgs false
set_option maxRecDepth 10000
set_option maxHeartbeats 2000000
namespace Go.Proofs.YtfeaahclpnbklaaDoor
open Go.X Go.Lx Go.RowKit Go.Sort
theorem U74 : Tryd.prog.underlying 74 = some (.int .i64) := by kernel_rfl
theorem U60 : ∃ ms, Tryd.prog.underlying 60 = some (.interface ms) := by
  have h : (match Tryd.prog.underlying 60 with | some (.interface _) => true | _ => false) = true := by kernel_rfl
  split at h
  · rename_i ms e; exact ⟨ms, e⟩
  · cases h
theorem xr_ok {P : Program} {x : Sem Value} {w : World} {v : Value} {K : Value → World → Prop} (h : x.run P w = .ok v w) (hk : K v w) : XRun P x w K := by
  unfold XRun; rw [h]; exact ⟨.refl w, hk⟩
section
variable {w : World} {K : Value → World → Prop} {KP : List PanicEntry → World → Prop}
theorem mk74 {n : Int} (h : K (.iface 74 (.int .i64 n)) w) : XRun Tryd.prog (Instr.makeInterface 74 (.int .i64 n)) w K := by
  have : (Instr.makeInterface 74 (.int .i64 n)).run Tryd.prog w = .ok (.iface 74 (.int .i64 n)) w := by
    simp [Instr.makeInterface, run_underlying U74, Result.andThen]
  unfold XRun; rw [this]; exact ⟨.refl w, h⟩
theorem ne_nil {n : Nat} (h : K (.bool false) w) : XRun Tryd.prog (do eqGuard .neq 60 (.tmp n) (.const .nilIface) .nilIface .nilIface; binOp .neq 60 .nilIface .nilIface) w K := by
  obtain ⟨ms, hu⟩ := U60
  have hg : (eqGuard .neq 60 (.tmp n) (.const .nilIface) .nilIface .nilIface).run Tryd.prog w = .ok () w := rfl
  have : (binOp .neq 60 .nilIface .nilIface).run Tryd.prog w = .ok (.bool false) w := by
    show (do pure (.bool (!(← Op.equal 60 .nilIface .nilIface))) : Sem Value).run Tryd.prog w = _
    rw [Sem.run_bind, Op.equal, show Op.maxDepth = (Op.maxDepth - 1) + 1 from rfl]
    simp [Op.equalIn, run_underlying hu]
  unfold XRun
  rw [Sem.run_bind, hg]
  simp only [Result.andThen, this]
  exact ⟨.refl w, h⟩
theorem ne_some {n : Nat} {t : TypeId} {v : Value} (h : K (.bool true) w) : XRun Tryd.prog (do eqGuard .neq 60 (.tmp n) (.const .nilIface) (.iface t v) .nilIface; binOp .neq 60 (.iface t v) .nilIface) w K := by
  obtain ⟨ms, hu⟩ := U60
  have hg : (eqGuard .neq 60 (.tmp n) (.const .nilIface) (.iface t v) .nilIface).run Tryd.prog w = .ok () w := rfl
  have : (binOp .neq 60 (.iface t v) .nilIface).run Tryd.prog w = .ok (.bool true) w := by
    show (do pure (.bool (!(← Op.equal 60 (.iface t v) .nilIface))) : Sem Value).run Tryd.prog w = _
    rw [Sem.run_bind, Op.equal, show Op.maxDepth = (Op.maxDepth - 1) + 1 from rfl]
    simp [Op.equalIn, run_underlying hu]
  unfold XRun
  rw [Sem.run_bind, hg]
  simp only [Result.andThen, this]
  exact ⟨.refl w, h⟩
def numB (l : By) : Prop := (∀ c ∈ l, digB c = true) ∧ valN l < 2147483648
theorem C40 {n : Int} (h : K (.int .u8 (bitsI .or .u8 n 32)) w) : XCP Tryd.prog 40 [.int .u8 n] w K KP := E40 h
theorem C36 {l : By} (hne : l ≠ []) (hl : l.length ≤ 1000000) (h1 : numB l → ∀ u, Ex w u → K (.tuple #[.int .u64 (valN l), .nilIface]) u)
    (h2 : ¬numB l → ∀ (n e : Int) u, (e = 1 ∨ e = 2) → Ex w u → K (.tuple #[.int .u64 n, .iface 74 (.int .i64 e)]) u) : XCP Tryd.prog 36 [.string (S l), .int .i64 10, .int .i64 31] w K KP := by
  refine E36 ?_
  unfold F36
  have hnil : (S l).toList ≠ ByteArray.toList ⟨#[]⟩ := by
    rw [S_toList]
    show l ≠ (S []).toList
    rw [S_toList]; exact hne
  rw [if_neg (by simpa using hnil)]
  intro kb hkb
  rw [if_pos (by decide)]
  refine hkb _ _ _ ?_
  intro kb1 hkb1
  rw [if_neg (by decide), if_neg (by decide)]
  refine hkb1 _ _ ?_
  intro kb2 hkb2
  rw [if_pos (by decide)]
  refine hkb2 _ _ ⟨by decide, ?_⟩
  refine xr_bytes fun a m c u1 e1 hm hr => ⟨_, _, _, rfl, ?_⟩
  subst hm
  refine ⟨fun b n5 n6 u => b = false ∧ ∃ k : Nat, n6 = k ∧ k ≤ l.length ∧ n5 = (valN (l.take k) : Int) ∧ valN (l.take k) < 2147483648 ∧ (∀ i, i < k → ∀ c, l[i]? = some c → digB c = true) ∧ Ex u1 u, fun _ _ n6 _ => l.length - n6.toNat,
    ⟨rfl, 0, rfl, Nat.zero_le _, by simp [valN], by simp [valN], fun i hi => by omega, Ex.refl _⟩, ?_⟩
  rintro b n5 n6 u ⟨rfl, k, rfl, hk, rfl, hv, hall, hu⟩
  have eu := e1.trans hu
  by_cases hlt : k < l.length
  rotate_left
  · rw [if_neg (by simpa using hlt)]
    intro kb6 hkb6
    rw [if_neg (by decide)]
    refine hkb6 _ _ ?_
    rw [if_neg (by decide)]
    have e : k = l.length := by omega
    subst e
    rw [List.take_length] at hv ⊢
    refine h1 ⟨fun c hc => ?_, hv⟩ u eu
    obtain ⟨i, hi, rfl⟩ := List.getElem_of_mem hc
    exact hall i hi _ (List.getElem?_eq_getElem hi)
  rw [if_pos (by simpa using hlt)]
  have hck : l[k]? = some l[k] := List.getElem?_eq_getElem hlt
  intro kb3 hkb3
  have hr' := hr.mono (G' := fun b => b < u1.heap.size) fun b hb _ => hb
  obtain ⟨pa, hpa, -, hcell⟩ := (hr'.frame (hu (fun _ => False)) (fun _ _ h => h)).isSome (i := k) (v := .int .u8 l[k].toNat) (by simp [u8s, hck])
  refine xptr_of' hpa ⟨by omega, by omega, _, by simpa using hcell, ?_⟩
  have hlt256 : l[k].toNat < 256 := UInt8.toNat_lt _
  have w10 : IntKind.wrap .u8 10 = 10 := by decide
  have w10' : IntKind.wrap .u64 10 = 10 := by decide
  have wmax : IntKind.wrap .u64 (shiftI .shl .u64 1 (IntKind.wrap .u64 31) - 1) = 2147483647 := by decide +kernel
  have bad : ∀ c ∈ [l[k]], digB c = false → ¬numB l := by
    intro c hc hd hn
    have : c = l[k] := by simpa using hc
    subst this
    have := hn.1 _ (List.getElem_mem hlt)
    rw [hd] at this; cases this
  intro kb4 hkb4
  rw [w10, w10', wmax] at hkb4
  rw [if_neg (by simp)]
  by_cases hd : digB l[k] = true
  · have hd' := dig_iff.1 hd
    rw [if_pos (by simp; omega)]
    have wv : IntKind.wrap .u8 ((l[k].toNat : Int) - 48) = ((l[k].toNat - 48 : Nat) : Int) := by rw [IntKind.wrap_u8]; omega
    rw [wv]
    refine hkb4 _ _ _ ?_
    rw [if_neg (by simp; omega), if_neg (by simp; omega)]
    have hvn := valN_take hck
    have e1' : IntKind.wrap .u64 ((valN (l.take k) : Int) * 10) = ((valN (l.take k) * 10 : Nat) : Int) := by rw [IntKind.wrap_u64]; omega
    have e2' : IntKind.wrap .u64 (((l[k].toNat - 48 : Nat) : Int)) = ((l[k].toNat - 48 : Nat) : Int) := by rw [IntKind.wrap_u64]; omega
    have e3' : IntKind.wrap .u64 (((valN (l.take k) * 10 : Nat) : Int) + ((l[k].toNat - 48 : Nat) : Int)) = (valN (l.take (k + 1)) : Int) := by rw [hvn, IntKind.wrap_u64]; omega
    rw [e1', e2', e3']
    by_cases hbig : valN (l.take (k + 1)) < 2147483648
    · rw [if_neg (by simp; omega)]
      refine hkb3 _ _ _ ?_
      rw [wi (by omega) (by omega)]
      refine ⟨⟨rfl, k + 1, rfl, hlt, rfl, hbig, fun i hi c hc => ?_, hu⟩, by show l.length - ((k : Int) + 1).toNat < l.length - ((k : Int)).toNat; omega⟩
      by_cases e : i = k
      · subst e; rw [hck] at hc; cases hc; exact hd
      · exact hall i (by omega) c hc
    · rw [if_pos (by simp; omega)]
      refine mk74 ⟨_, rfl, h2 (fun hn => hbig ?_) _ _ u (.inl rfl) eu⟩
      have := valN_le l (k + 1)
      exact Nat.lt_of_le_of_lt this hn.2
  · rw [Bool.not_eq_true] at hd
    have hd' : ¬(48 ≤ l[k].toNat ∧ l[k].toNat ≤ 57) := fun h => by rw [dig_iff.2 h] at hd; cases hd
    have hno : ¬numB l := bad _ (by simp) hd
    rw [if_neg (by simp; omega)]
    refine C40 ⟨_, rfl, ?_⟩
    have hrange : 0 ≤ bitsI .or .u8 (l[k].toNat : Int) 32 ∧ bitsI .or .u8 (l[k].toNat : Int) 32 ≤ 255 := by
      unfold bitsI
      simp only
      rw [IntKind.wrap_u8]
      omega
    obtain ⟨lo, hlo⟩ : ∃ lo, bitsI .or .u8 (l[k].toNat : Int) 32 = lo := ⟨_, rfl⟩
    rw [hlo] at hrange ⊢
    refine X.and_join (c := decide (lo ≤ 122)) (fun kb' hk' => C40 ⟨_, rfl, by rw [hlo]; exact hk' _ (Ex.refl _)⟩) fun u2 e2 => ?_
    split
    · rename_i hb
      simp only [Bool.and_eq_true, decide_eq_true_eq] at hb
      refine C40 ⟨_, rfl, ?_⟩
      rw [hlo]
      have e1' : IntKind.wrap .u8 (IntKind.wrap .u8 (lo - 97) + 10) = lo - 87 := by
        rw [show IntKind.wrap .u8 (lo - 97) = lo - 97 by rw [IntKind.wrap_u8]; omega, IntKind.wrap_u8]; omega
      rw [e1']
      refine hkb4 _ _ _ ?_
      rw [if_pos (by simp; omega)]
      exact mk74 ⟨_, rfl, h2 hno _ _ u2 (.inr rfl) (eu.trans e2)⟩
    · exact mk74 ⟨_, rfl, h2 hno _ _ u2 (.inr rfl) (eu.trans e2)⟩
theorem call37 : Callable Tryd.prog 37 := ⟨Tryd.f37, Tryd.func37, by kernel_rfl, by kernel_rfl⟩
theorem C31 {l : By} (hG : Gl w) (hne : l ≠ []) (hl : l.length ≤ 1000000) (h1 : numB l → ∀ u, Ex w u → K (.tuple #[.int .u64 (valN l), .nilIface]) u)
    (h2 : ¬numB l → ∀ (n : Int) (t : TypeId) (v : Value) u, Ex w u → K (.tuple #[.int .u64 n, .iface t v]) u) : XCP Tryd.prog 31 [.string (S l), .int .i64 10, .int .i64 31] w K KP := by
  refine E31 (C36 hne hl (fun hn u hu => ⟨_, _, rfl, ne_nil ⟨_, rfl, ?_⟩⟩) fun hn n e u he hu => ⟨_, _, rfl, ne_some ⟨_, rfl, ?_⟩⟩)
  · rw [if_neg (by decide)]
    exact h1 hn u hu
  · rw [if_pos rfl]
    have hsz : (S l).size ≤ 281474976710656 := by rw [S_size]; omega
    obtain ⟨te, pe, hes⟩ := (hG.ex hu).es
    obtain ⟨te', pe', her⟩ := (hG.ex hu).er
    rcases he with rfl | rfl
    · refine xc_calls call37 (Tryd.strconv_toError_range _ (S l) 10 31 _ u hsz her (.inr ⟨_, _, rfl⟩)) fun e w' hh => ?_
      obtain ⟨N, rfl, -, -, hb⟩ := hh
      exact ⟨_, rfl, Below.keeps hb, _, rfl, h2 hn _ _ _ w' (hu.trans (Below.ex hb))⟩
    · refine xc_calls call37 (Tryd.strconv_toError_syntax _ (S l) 10 31 _ u hsz hes (.inr ⟨_, _, rfl⟩)) fun e w' hh => ?_
      obtain ⟨N, rfl, -, -, hb⟩ := hh
      exact ⟨_, rfl, Below.keeps hb, _, rfl, h2 hn _ _ _ w' (hu.trans (Below.ex hb))⟩
theorem call46 : Callable Tryd.prog 46 := ⟨Tryd.f46, Tryd.func46, by kernel_rfl, by kernel_rfl⟩
theorem call47 : Callable Tryd.prog 47 := ⟨Tryd.f47, Tryd.func47, by kernel_rfl, by kernel_rfl⟩
theorem call48 : Callable Tryd.prog 48 := ⟨Tryd.f48, Tryd.func48, by kernel_rfl, by kernel_rfl⟩
theorem U81 : Tryd.prog.underlying 81 = some (.array 24 5) := by kernel_rfl
theorem C38 {n : Nat} (hG : Gl w) (hn : n < 18446744073709551616) (h : ∀ u, Ex w u → K (.string (S (Lib.decDigits n))) u) : XCP Tryd.prog 38 [.int .u64 n, .int .i64 10] w K KP := by
  refine E38 ?_
  unfold F38
  rw [if_pos (by decide)]
  by_cases hs : n < 100
  · rw [if_pos (by simp; omega), wi (by omega) (by omega)]
    exact xc_of_same call46 (Tryd.internal_strconv_small n hs w) ⟨_, rfl, h w (Ex.refl w)⟩
  rw [if_neg (by simp; omega)]
  intro w1 p
  have hu1 : 1 ≤ n := by omega
  have hnd20 : Lib.nDigits n ≤ 20 := by have := Lib.numDigits_eq n hu1 hn; split at this <;> omega
  have hH0 := Lib.holds_zero0 w 81 (Lib.nDigits n) (by omega)
  have hsl : ∀ W, (Instr.sliceAt 81 (.pointer (some p)) none (some (.int .i64 (Lib.nDigits n))) none).run Tryd.prog W = .ok (.slice (some ⟨w.heap.size, 0, none⟩) (Lib.nDigits n) 24) W := fun W => by
    have hle : (Lib.nDigits n : Int) ≤ 24 := by omega
    have h5 : (sizeOf 5).run Tryd.prog W = .ok 1 W := by kernel_rfl
    simp [Instr.sliceAt, Instr.sureAddr, Instr.sliceBounds, Instr.sliceBound, asIntOf, run_underlying U81, Result.andThen, show Lib.nDigits n ≤ 24 by omega, h5, p]
  refine xc_of_same call47 (Tryd.internal_strconv_numDigits n hu1 hn w1 (Lib.tabIs_alloc hG.tens _)) ⟨_, rfl, ?_⟩
  refine xr_ok (hsl w1) ⟨_, _, _, rfl, ?_⟩
  have hfmt := Tryd.internal_strconv_formatBase10 w.heap.size 0 24 n (Array.replicate (Lib.nDigits n) 0) w1 hH0 (by rw [Array.size_replicate]; exact Lib.lt_pow_nDigits n) hn (by rw [Array.size_replicate]; omega)
  rw [Array.size_replicate] at hfmt
  have HH0 := Lib.hid hH0
  refine xc_calls call48 hfmt fun e w' hh => ?_
  obtain ⟨rfl, k, v', dk, rfl, hF⟩ := hh
  have hfin : Ex w ((putRow (fun (b : UInt8) => Value.int .u8 (b.toNat : Int)) w1 w.heap.size 0 dk).drewN k) ∧ KeepsD w1 ((putRow (fun (b : UInt8) => Value.int .u8 (b.toNat : Int)) w1 w.heap.size 0 dk).drewN k) := by
    obtain ⟨os, eo⟩ : ∃ os, (putRow (fun (b : UInt8) => Value.int .u8 (b.toNat : Int)) w1 w.heap.size 0 dk).drewN k = grow (w.drewN k) os := by
      show ∃ os, (putRow (fun (b : UInt8) => Value.int .u8 (b.toNat : Int)) (w.alloc (.cells Lib.zeros24 81)) w.heap.size 0 dk).drewN k = grow (w.drewN k) os
      rw [alloc_eq_grow]
      obtain ⟨os', _, e⟩ := putRow_grow_new (fun (b : UInt8) => Value.int .u8 (b.toNat : Int)) w #[.cells Lib.zeros24 81] w.heap.size 0 dk (Nat.le_refl _)
      exact ⟨os', by rw [e]; rfl⟩
    rw [eo]
    have hb := below_grow w k os
    have hsz : (putRow (fun (b : UInt8) => Value.int .u8 (b.toNat : Int)) w1 w.heap.size 0 dk).heap.size = w1.heap.size := by simp
    have hsz' : (grow (w.drewN k) os).heap.size = w1.heap.size := by rw [← eo]; exact hsz
    refine ⟨Below.ex hb, hb.os, hb.tape, hb.output, by omega, fun r hr => ?_⟩
    have hr1 := size_of_some hr
    have hs1 : w1.heap.size = w.heap.size + 1 := by simp [w1]
    by_cases hrw : r < w.heap.size
    · rw [hb.block r hrw]
      have : w1.heap[r]? = w.heap[r]? := (Ex.alloc w _ (fun _ => False)).at_ r hrw (fun h => h)
      rw [← this]; exact hr
    · have e : r = w.heap.size := by omega
      subst e
      rw [show w1.heap[w.heap.size]? = some _ from heap_alloc_new w _] at hr
      cases hr
  refine ⟨_, rfl, hfin.2, rfl, ?_⟩
  refine xr_ok (hsl _) ⟨_, _, _, rfl, ?_⟩
  have hcv := run_convert_bytes_back (P := Tryd.prog) ((putRow (fun (b : UInt8) => Value.int .u8 (b.toNat : Int)) w1 w.heap.size 0 dk).drewN k) 22 9 5 ⟨w.heap.size, 0, none⟩ 24 (Lib.decDigits n) (by kernel_rfl) (by kernel_rfl) prog9 (fun j hj => by
    rw [Lib.row_is_numeral hF j hj, Lib.add_plain, World.cell?_drewN]
    exact cell?_putRow (fun (b : UInt8) => Value.int .u8 (b.toNat : Int)) _ w.heap.size 0 _ dk HH0.out (by rw [hF.size, Array.size_replicate]) j (by rw [hF.size]; rw [Lib.decDigits_length] at hj; exact hj))
  rw [Lib.decDigits_length] at hcv
  exact xr_ok hcv ⟨_, rfl, h _ hfin.1⟩
theorem C32 {n : Nat} (hG : Gl w) (hn : n < 18446744073709551616) (h : ∀ u, Ex w u → K (.string (S (Lib.decDigits n))) u) : XCP Tryd.prog 32 [.int .u64 n, .int .i64 10] w K KP :=
  E32 (C38 hG hn fun u hu => ⟨_, rfl, h u hu⟩)
end
end Go.Proofs.YtfeaahclpnbklaaDoor
