/- The clocks seat: a clock's text. -/
import Derived.Test.YtohcdbldphedkaaDoorK9
import Derived.Test.YtohcdbldphedkaaDoorKS
import Derived.Lib.ItoaLen
import Derived.WalkSmall
set_option linter.unusedVariables false
set_option linter.unusedSimpArgs false
namespace Go.Proofs.YtohcdbldphedkaaDoor
open Go.X Go.RowKit Go.Sort
theorem Below.ex {w u : World} (h : Below w.heap.size w u) : Ex w u := fun D => ⟨h.size, fun b hb _ => h.block b hb⟩
theorem Below.keeps {w u : World} (h : Below w.heap.size w u) : KeepsD w u :=
  ⟨h.os, h.tape, h.output, h.size, fun r hr => by rw [h.block r (size_of_some hr)]; exact hr⟩
theorem drewN_heap (w : World) (n : Nat) : (w.drewN n).heap = w.heap := rfl
theorem below_grow (w : World) (k : Nat) (os : Array Obj) : Below w.heap.size w (grow (w.drewN k) os) :=
  ⟨rfl, rfl, rfl, by show _ ≤ (w.heap ++ os).size; rw [Array.size_append]; omega, fun b hb => by show (w.heap ++ os)[b]? = _; rw [Array.getElem?_append_left hb]⟩
theorem xc_of_below {f : FuncId} {args : List Value} {w : World} {v : Value} {K : Value → World → Prop} {KP : List PanicEntry → World → Prop} (hf : Callable Tryd.prog f) (h : Calls Tryd.prog f args.toArray w fun e w' => e = .returned v ∧ Below w.heap.size w w') (hK : ∀ u, Ex w u → K v u) :
    XCP Tryd.prog f args w K KP :=
  ⟨hf, h.mono fun e w' ⟨he, hb⟩ => ⟨Below.keeps hb, by subst he; exact hK _ (Below.ex hb)⟩⟩
theorem call46 : Callable Tryd.prog 46 := ⟨Tryd.f46, Tryd.func46, by kernel_rfl, by kernel_rfl⟩
theorem call47 : Callable Tryd.prog 47 := ⟨Tryd.f47, Tryd.func47, by kernel_rfl, by kernel_rfl⟩
/-- the table of tens is there -/
def Tab (w : World) : Prop := Lib.TabIs Tryd.prog w "internal/strconv.uint64pow10" .u64 Lib.pow10Tab
theorem Tab.ex {w u : World} (h : Tab w) (he : Ex w u) : Tab u := by
  unfold Tab Lib.TabIs World.var? at h ⊢
  rw [Option.bind_eq_some_iff] at h ⊢
  obtain ⟨g, hg, h⟩ := h
  refine ⟨g, hg, ?_⟩
  cases hh : w.heap[g]? with
  | none => rw [hh] at h; cases h
  | some o =>
    rw [hh] at h
    rw [(he fun _ => False).at_ g (size_of_some hh) (fun h => h), hh]
    exact h
def fmtOk (w : World) (n : Int) : Prop := (0 ≤ n ∧ n < 100) ∨ ((-9223372036854775808 ≤ n ∧ n ≤ 9223372036854775807) ∧ Tab w)
theorem fmtOk.ex {w u : World} {n : Int} (h : fmtOk w n) (he : Ex w u) : fmtOk u n := by
  rcases h with h | ⟨h, ht⟩
  · exact .inl h
  · exact .inr ⟨h, ht.ex he⟩
theorem fmtOk.len {w : World} {n : Int} (h : fmtOk w n) : (Lib.itoa n).length ≤ 21 := by
  rcases h with h | ⟨h, -⟩
  · exact Lib.itoa_length_le n (by omega) (by omega)
  · exact Lib.itoa_length_le n h.1 h.2
def txt (c : Ck) (n : Nat) : List (List UInt8) := (List.range n).map fun i => Lib.itoa (c.get i)
def lastF (c : Ck) : Nat → Nat
  | 0 => 0
  | m + 1 => if c.get m ≠ 0 then m else lastF c m
theorem lastF_le (c : Ck) : ∀ m, 0 < m → lastF c m < m
  | 0, h => by omega
  | m + 1, _ => by
    unfold lastF
    split
    · omega
    · cases m with
      | zero => show 0 < 1; omega
      | succ m => have := lastF_le c (m + 1) (by omega); omega
theorem lastF_zeros (c : Ck) : ∀ (k m : Nat), (∀ i, m ≤ i → i < m + k → c.get i = 0) → lastF c (m + k) = lastF c m
  | 0, m, _ => rfl
  | k + 1, m, h => by
    show lastF c (m + k + 1) = _
    rw [lastF, if_neg (by simp [h (m + k) (by omega) (by omega)]), lastF_zeros c k m fun i h1 h2 => h i h1 (by omega)]
/-- a clock's text -/
def textF (c : Ck) : List UInt8 := Lib.join (txt c (lastF c 8 + 1)) [32]
theorem join_snoc (sep y : List UInt8) : ∀ {xs : List (List UInt8)}, xs ≠ [] → Lib.join (xs ++ [y]) sep = Lib.join xs sep ++ (sep ++ y)
  | [], h => absurd rfl h
  | x :: r, _ => by
    rw [List.cons_append, Lib.join_cons, Lib.join_cons]
    unfold Lib.joinTail
    simp
theorem txt_succ (c : Ck) (n : Nat) : txt c (n + 1) = txt c n ++ [Lib.itoa (c.get n)] := by unfold txt; rw [List.range_succ, List.map_append]; rfl
theorem txt_len (c : Ck) (n : Nat) : (txt c n).length = n := by unfold txt; simp
theorem join_txt_len {c : Ck} : ∀ (n : Nat), (∀ i, i < n → (Lib.itoa (c.get i)).length ≤ 21) → (Lib.join (txt c n) [32]).length ≤ 22 * n
  | 0, _ => by simp [txt, Lib.join_nil]
  | n + 1, h => by
    have h1 := h n (by omega)
    cases n with
    | zero =>
      rw [txt_succ]
      show (Lib.join [Lib.itoa (c.get 0)] [32]).length ≤ _
      rw [Lib.join_one]; omega
    | succ n =>
      rw [txt_succ, join_snoc _ _ (by intro e; have := txt_len c (n + 1); rw [e] at this; simp at this), List.length_append, List.length_append]
      have := join_txt_len (c := c) (n + 1) fun i hi => h i (by omega)
      simp only [List.length_cons, List.length_nil]
      omega
section
variable {w : World} {K : Value → World → Prop} {KP : List PanicEntry → World → Prop}
theorem C46 {n : Int} (hn : fmtOk w n) (h : ∀ u, Ex w u → K (.string ⟨(Lib.itoa n).toArray⟩) u) : XCP Tryd.prog 46 [.int .i64 n, .int .i64 10] w K KP := by
  rcases hn with hn | ⟨hn, ht⟩
  · have hc := Tryd.strconv_FormatInt_10_small n.toNat (by omega) w
    rw [show ((n.toNat : Nat) : Int) = n by omega] at hc
    refine xc_of_below call46 (hc.mono ?_) h
    rintro e w' ⟨rfl, rfl⟩
    refine ⟨?_, Below.refl _ _⟩
    unfold Lib.itoa
    rw [if_neg (by omega)]
  · refine xc_of_below call46 ((Tryd.strconv_FormatInt_10 n hn.1 hn.2 w ht).mono ?_) h
    rintro e w' ⟨rfl, k, os, rfl⟩
    exact ⟨rfl, below_grow w k os⟩
theorem xr_str_add {x y : Operand} {a b : ByteArray} (hl : a.size + b.size ≤ 1000000) (h : K (.string (a ++ b)) w) : XRun Tryd.prog (do eqGuard .add 9 x y (.string a) (.string b); binOp .add 9 (.string a) (.string b)) w K := by
  have hg : (eqGuard .add 9 x y (.string a) (.string b)).run Tryd.prog w = .ok () w := rfl
  have hb : (binOp .add 9 (.string a) (.string b)).run Tryd.prog w = .ok (.string (a ++ b)) w := by
    show (Op.stringOp .add a b).run Tryd.prog w = _
    have hm : IntKind.i64.max = 9223372036854775807 := by decide
    unfold Op.stringOp
    simp only [hm]
    rw [if_neg (by omega)]
    rfl
  unfold XRun
  rw [Sem.run_bind, hg]
  simp only [Result.andThen, hb]
  exact ⟨.refl w, h⟩
theorem T74 : SlT Tryd.prog 74 9 1 16 [.string ByteArray.empty] := ⟨by kernel_rfl, by kernel_rfl⟩
def strs (l : List (List UInt8)) : List Value := l.map fun x => .string ⟨x.toArray⟩
theorem C20 {c : Ck} (hc : ∀ i, i < 8 → fmtOk w (c.get i)) (h : ∀ u, Ex w u → K (.string ⟨(textF c).toArray⟩) u) : XCP Tryd.prog 20 [c.v] w K KP := by
  refine E20 ?_
  unfold F20
  intro w0 p
  have hs : Sep w0 (bx w.heap.size c.cells 23 :: [oldA w]) := (Sep.begin w).box _ _
  clear_value w0
  refine ⟨fun n u => ∃ m : Nat, n = m ∧ 1 ≤ m ∧ m ≤ 8 ∧ Ex w0 u ∧ ∀ i, m ≤ i → i < 8 → c.get i = 0, fun n _ => n.toNat, ⟨8, rfl, by omega, by omega, Ex.refl _, fun i h1 h2 => by omega⟩, ?_⟩
  rintro n u ⟨m, rfl, h1, h8, hu, hz⟩
  have hs := hs.ext hu
  have hmid : ∀ u1, Ex u u1 → (m ≤ 1 ∨ c.get (m - 1) ≠ 0) → lastF c 8 = m - 1 := by
    intro u1 e1 hend
    obtain ⟨k, rfl⟩ : ∃ k, m = k + 1 := ⟨m - 1, by omega⟩
    rw [show (8 : Nat) = k + 1 + (8 - (k + 1)) by omega, lastF_zeros c _ _ fun i h1 h2 => hz i h1 (by omega), lastF]
    by_cases hk : c.get k ≠ 0
    · rw [if_pos hk]; omega
    · rw [if_neg hk]
      rcases hend with h | h
      · rw [show k = 0 by omega]; rfl
      · exact absurd h hk
  intro kb hkb
  have fin : ∀ u1, Ex u u1 → (m ≤ 1 ∨ c.get (m - 1) ≠ 0) → kb false u1 := by
    intro u1 e1 hend
    have hlast := hmid u1 e1 hend
    have hs := hs.ext e1
    refine hkb _ _ ?_
    rw [if_neg (by decide)]
    refine xr_ck_sliceTo und23 (by omega) (by omega) ⟨_, _, _, rfl, ?_⟩
    rw [Int.toNat_natCast]
    have hs0 : Sep u1 (row 1 9 ⟨none, 0, 0⟩ (strs (txt c 0)) :: bx w.heap.size c.cells 23 :: [oldA w]) := hs.add (A := row 1 9 ⟨none, 0, 0⟩ (strs (txt c 0))) (fun D => Fr.refl D _) ⟨rfl, Nat.le_refl _, .inl ⟨rfl, rfl⟩⟩
    refine ⟨fun a l cp n u => ∃ k : Nat, n = k ∧ k ≤ m ∧ Sep u (row 1 9 ⟨a, l, cp⟩ (strs (txt c k)) :: bx w.heap.size c.cells 23 :: [oldA w]), fun _ _ _ n _ => m - n.toNat, ⟨0, rfl, by omega, hs0⟩, ?_⟩
    rintro a l cp n v ⟨k, rfl, hkm, hv⟩
    obtain ⟨-, -, -, hlen⟩ := hv.rowRd
    have hlen : (strs (txt c k)).length = l * 1 := hlen
    have hl : l = k := by
      have : (strs (txt c k)).length = k := by unfold strs; rw [List.length_map, txt_len]
      omega
    by_cases hlt : k < m
    · rw [if_pos (by simpa using hlt), xptr_some]
      have hk8 : k < 8 := by omega
      refine ⟨by omega, by omega, _, ck_ld hv.bx1 hk8, ?_⟩
      rw [Int.toNat_natCast]
      refine C46 ((hc k hk8).ex (hv.ex 2 rfl)) fun v1 e1 => ⟨_, rfl, ?_⟩
      refine Sep.build (cs := [.string ⟨(Lib.itoa (c.get k)).toArray⟩]) T74 rfl (hv.ext e1) rfl rfl (by decide) fun x v2 hxl hs2 _ => ⟨_, _, _, rfl, ?_⟩
      obtain ⟨Gx, hx, -, -⟩ := hs2.rowRd
      have hs2 := hs2.tail
      refine Sep.append T74 rfl hs2 hx (by rw [hxl]; rfl) (fun u hu => by simp at hu; subst hu; rfl) (by show (l + x.l) * 16 ≤ _; omega) (by show l + x.l ≤ _; omega) fun s' v4 hl' hc' hs4 => ⟨_, _, _, rfl, ?_⟩
      rw [wi (by omega) (by omega)]
      refine ⟨⟨k + 1, by omega, by omega, ?_⟩, by show m - ((k : Int) + 1).toNat < m - (k : Int).toNat; omega⟩
      rw [show strs (txt c (k + 1)) = strs (txt c k) ++ [.string ⟨(Lib.itoa (c.get k)).toArray⟩] by rw [txt_succ]; unfold strs; rw [List.map_append]; rfl]
      exact hs4
    · have e : k = m := by omega
      subst e
      rw [if_neg (by simp)]
      have hv0 := hv
      obtain ⟨G, hA⟩ := hv.at0
      have hA : Own v 1 9 a l cp (strs (txt c k)) G := hA
      obtain ⟨hA1, hA2, hA3⟩ := hA
      rcases hA3 with ⟨ha, hc0⟩ | ⟨bk, o, B, rfl, hg, hB, hBl, hcell⟩
      · have : l ≤ cp := hA2
        omega
      · have hxs : ((txt c k).map fun x => (⟨x.toArray⟩ : ByteArray)).length = l := by rw [List.length_map, txt_len, hl]
        have hmap : ((txt c k).map fun x => (⟨x.toArray⟩ : ByteArray)).map (fun x => x.data.toList) = txt c k := by
          rw [List.map_map]
          conv => rhs; rw [← List.map_id (txt c k)]
          apply List.map_congr_left
          intro x _; simp
        have hle : (Lib.join (txt c k) [32]).length ≤ 22 * k := join_txt_len k fun i hi => (hc i (by omega)).len
        have hj := Tryd.strings_Join bk o cp ((txt c k).map fun x => (⟨x.toArray⟩ : ByteArray)) ⟨#[32]⟩ v (fun j x hx => by
            rw [hB.cell]
            apply hcell
            unfold strs
            rw [List.getElem?_map] at hx ⊢
            cases hj : (txt c k)[j]? with
            | none => rw [hj] at hx; cases hx
            | some y => rw [hj] at hx; injection hx with hx; subst hx; rfl) hB.lt (by rw [hxs]; omega) (by rw [hxs]; exact hA2) (by rw [hmap]; show (Lib.join (txt c k) [32]).length ≤ _; omega)
        rw [hxs, hmap] at hj
        refine xc_of_below call47 hj fun u2 e2 => ⟨_, rfl, ?_⟩
        have := h u2 (Ex.trans (hv.ex 2 rfl) e2)
        unfold textF at this
        rw [hlast, show k - 1 + 1 = k by omega] at this
        exact this
  by_cases hm : m > 1
  · rw [if_pos (by simp; omega), wi (by omega) (by omega)]
    have hk : ((m : Int) - 1).toNat = m - 1 := by omega
    refine ⟨by omega, by omega, _, by rw [hk]; exact ck_ld hs.bx0 (by omega), ?_⟩
    by_cases hz0 : c.get (m - 1) = 0
    · rw [show (c.get (m - 1) == 0) = true from by simpa using hz0]
      refine hkb _ _ ?_
      rw [if_pos rfl, wi (by omega) (by omega)]
      refine ⟨⟨m - 1, by omega, by omega, by omega, hu, fun i h1 h2 => ?_⟩, by show ((m : Int) - 1).toNat < (m : Int).toNat; omega⟩
      by_cases e : i = m - 1
      · rw [e]; exact hz0
      · exact hz i (by omega) h2
    · rw [show (c.get (m - 1) == 0) = false from by simpa using hz0]
      exact fin u (Ex.refl _) (.inr hz0)
  · rw [if_neg (by simp; omega)]
    exact fin u (Ex.refl _) (.inl (by omega))
theorem C21 {c : Ck} (hc : ∀ i, i < 8 → fmtOk w (c.get i)) (h : ∀ u, Ex w u → K (.string ⟨(textF c).toArray⟩) u) : XCP Tryd.prog 21 [c.v] w K KP := by
  refine E21 ?_
  unfold F21
  intro w0 p
  have hs : Sep w0 (bx w.heap.size c.cells 23 :: [oldA w]) := (Sep.begin w).box _ _
  clear_value w0
  refine ⟨fun l n u => ∃ m : Nat, n = m ∧ m ≤ 8 ∧ l = (lastF c m : Nat) ∧ Ex w0 u, fun _ n _ => 8 - n.toNat, ⟨0, rfl, by omega, rfl, Ex.refl _⟩, ?_⟩
  rintro l n u ⟨m, rfl, h8, rfl, hu⟩
  have hs := hs.ext hu
  by_cases hlt : m < 8
  · rw [if_pos (by simp; omega)]
    intro kb hkb
    refine ⟨by omega, by omega, _, ck_ld hs.bx0 hlt, ?_⟩
    rw [Int.toNat_natCast]
    have go : ∀ x : Int, x = (lastF c (m + 1) : Nat) → kb x u := fun x hx => by
      refine hkb _ _ ?_
      rw [wi (by omega) (by omega)]
      exact ⟨⟨m + 1, by omega, by omega, hx, hu⟩, by show 8 - ((m : Int) + 1).toNat < 8 - (m : Int).toNat; omega⟩
    by_cases hz : c.get m ≠ 0
    · rw [if_pos (by simpa using hz)]
      exact go _ (by rw [lastF, if_pos hz])
    · rw [if_neg (by simpa using hz)]
      exact go _ (by rw [lastF, if_neg hz])
  · rw [if_neg (by simp; omega)]
    have e : m = 8 := by omega
    subst e
    have hl8 := lastF_le c 8 (by omega)
    refine ⟨fun s n u => ∃ k : Nat, n = k ∧ k ≤ lastF c 8 + 1 ∧ s = ⟨(Lib.join (txt c k) [32]).toArray⟩ ∧ Ex w0 u, fun _ n _ => 9 - n.toNat, ⟨0, rfl, by omega, rfl, hu⟩, ?_⟩
    clear hs hu u
    rintro s n u ⟨k, rfl, hk, rfl, hu⟩
    have hs := hs.ext hu
    by_cases hlt : k ≤ lastF c 8
    · rw [if_pos (by simp; omega)]
      have hk8 : k < 8 := by omega
      have hle : (Lib.join (txt c k) [32]).length ≤ 22 * k := join_txt_len k fun i hi => (hc i (by omega)).len
      intro kb hkb
      have go : ∀ u1 (a : List UInt8), Ex u u1 → a.length ≤ 1000 → a ++ Lib.itoa (c.get k) = Lib.join (txt c (k + 1)) [32] → kb ⟨a.toArray⟩ u1 := by
        intro u1 a e1 hal ha
        refine hkb _ _ ⟨by omega, by omega, _, ck_ld (hs.ext e1).bx0 hk8, ?_⟩
        rw [Int.toNat_natCast]
        have hf := (hc k hk8).ex (Ex.trans (hs.ex 1 rfl) e1)
        refine C46 hf fun u5 e5 => ⟨_, rfl, ?_⟩
        have hl := hf.len
        refine xr_str_add (by show a.toArray.size + (Lib.itoa (c.get k)).toArray.size ≤ _; simp; omega) ⟨_, rfl, ?_⟩
        rw [wi (by omega) (by omega)]
        refine ⟨⟨k + 1, by omega, by omega, ?_, hu.trans (Ex.trans e1 e5)⟩, by show 9 - ((k : Int) + 1).toNat < 9 - (k : Int).toNat; omega⟩
        rw [← ha]
        ext1
        simp
      by_cases h0 : k > 0
      · rw [if_pos (by simpa using h0)]
        refine xr_str_add (by show (Lib.join (txt c k) [32]).toArray.size + 1 ≤ _; simp; omega) ⟨_, rfl, ?_⟩
        rw [show (⟨(Lib.join (txt c k) [32]).toArray⟩ ++ ⟨#[32]⟩ : ByteArray) = ⟨(Lib.join (txt c k) [32] ++ [32]).toArray⟩ from by ext1; simp]
        refine go u _ (Ex.refl _) (by simp; omega) ?_
        rw [txt_succ, join_snoc _ _ (by intro e; have := txt_len c k; rw [e] at this; simp at this; omega), List.append_assoc]
      · rw [if_neg (by simpa using h0)]
        have e : k = 0 := by omega
        subst e
        refine go u [] (Ex.refl _) (by simp) ?_
        rw [txt_succ]
        exact (Lib.join_one _ _).symm
    · rw [if_neg (by simp; omega)]
      have e : k = lastF c 8 + 1 := by omega
      subst e
      exact h u (Ex.trans (hs.ex 1 rfl) (Ex.refl _))
end
end Go.Proofs.YtohcdbldphedkaaDoor
