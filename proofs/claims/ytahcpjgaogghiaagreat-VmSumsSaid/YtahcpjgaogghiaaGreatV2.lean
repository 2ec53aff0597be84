/- The verify seat: instructions, codes; which may be. -/
import Derived.Test.YtahcpjgaogghiaaGreatV1
import Derived.Test.YtahcpjgaogghiaaGreatX13
set_option linter.unusedVariables false
set_option linter.unusedSimpArgs false
set_option maxRecDepth 10000
namespace Go.Proofs.YtahcpjgaogghiaaGreat
open Go.X

/-! joins -/
theorem and_join {b c : Bool} {w : World} {J : Bool → World → Prop} {T : (Bool → World → Prop) → Prop} (hT : ∀ kb : Bool → World → Prop, (∀ u, Ex w u → kb c u) → T kb) (hJ : ∀ u, Ex w u → J (b && c) u) :
    ∀ kb : Bool → World → Prop, (∀ (b : Bool) (w : World), J b w → kb b w) → if b = true then T kb else kb false w := by
  intro kb hkb
  cases b with
  | true => rw [if_pos rfl]; exact hT kb fun u hu => hkb _ _ (hJ u hu)
  | false => rw [if_neg (by decide)]; exact hkb _ _ (hJ w (Ex.refl w))
theorem or_join {b c : Bool} {w : World} {J : Bool → World → Prop} {T : (Bool → World → Prop) → Prop} (hT : ∀ kb : Bool → World → Prop, (∀ u, Ex w u → kb c u) → T kb) (hJ : ∀ u, Ex w u → J (b || c) u) :
    ∀ kb : Bool → World → Prop, (∀ (b : Bool) (w : World), J b w → kb b w) → if b = true then kb true w else T kb := by
  intro kb hkb
  cases b with
  | true => rw [if_pos rfl]; exact hkb _ _ (hJ w (Ex.refl w))
  | false => rw [if_neg (by decide)]; exact hT kb fun u hu => hkb _ _ (hJ u hu)

def usesA (c : Int) : Bool := (decide (c ≥ 2) && decide (c ≤ 7)) || (decide (c ≥ 19) && decide (c ≤ 21)) || (decide (c ≥ 23) && decide (c ≤ 31))
def inI (n a b : Int) : Bool := decide (a ≤ n) && decide (n ≤ b)
def insOk (i : Ins) : Bool :=
  inI i.code 1 34 && (usesA i.code || i.a == 0) && (i.code == 26 || i.b == 0) && (i.code == 1 || i.num == 0) && inI i.a 0 65535 && inI i.b 0 65535 && inI i.num (-2147483648) 2147483647
def codOk (c : Cod) : Bool :=
  inI c.name.size 1 16 && inI c.locals 0 32 && allOk c.ins 65536 insOk && ((c.lines.length : Int) == c.ins.length) && allOk c.lines 65536 fun n => inI n 0 65536
def mdlOk (m : Mdl) : Bool :=
  allOk m.vars 64 (fun n => inI n (-2147483648) 2147483647) && allOk m.arrays 64 (fun n => inI n 0 256) && allOk m.chans 64 (fun n => inI n 1 16) && inI m.mutexes 0 64 && inI m.conds 0 64 && allOk m.threads 64 codOk

def codeL : List (ByteArray × Int) := [(⟨#[]⟩, 0), (⟨#[112, 117, 115, 104]⟩, 4), (⟨#[118, 97, 114]⟩, 1), (⟨#[108, 111, 99, 97, 108]⟩, 1), (⟨#[99, 101, 108, 108]⟩, 1), (⟨#[115, 101, 116, 118, 97, 114]⟩, 1), (⟨#[115, 101, 116, 108, 111, 99, 97, 108]⟩, 1), (⟨#[115, 101, 116, 99, 101, 108, 108]⟩, 1), (⟨#[110, 101, 103]⟩, 0), (⟨#[110, 111, 116]⟩, 0), (⟨#[101, 113]⟩, 0), (⟨#[110, 101]⟩, 0), (⟨#[108, 116]⟩, 0), (⟨#[108, 101]⟩, 0), (⟨#[97, 100, 100]⟩, 0), (⟨#[115, 117, 98]⟩, 0), (⟨#[109, 117, 108]⟩, 0), (⟨#[100, 105, 118]⟩, 0), (⟨#[109, 111, 100]⟩, 0), (⟨#[106, 117, 109, 112]⟩, 1), (⟨#[106, 117, 109, 112, 122]⟩, 1), (⟨#[106, 117, 109, 112, 110, 122]⟩, 1), (⟨#[98, 111, 111, 108]⟩, 0), (⟨#[109, 97, 114, 107]⟩, 1), (⟨#[108, 111, 99, 107]⟩, 1), (⟨#[117, 110, 108, 111, 99, 107]⟩, 1), (⟨#[119, 97, 105, 116]⟩, 3), (⟨#[115, 105, 103, 110, 97, 108]⟩, 1), (⟨#[97, 108, 108]⟩, 1), (⟨#[115, 101, 110, 100]⟩, 1), (⟨#[114, 101, 99, 118]⟩, 1), (⟨#[115, 112, 97, 119, 110]⟩, 1), (⟨#[106, 111, 105, 110]⟩, 0), (⟨#[112, 114, 105, 110, 116]⟩, 0), (⟨#[101, 110, 100]⟩, 0)]
def codeRows : List (List Value) := codeL.map fun x => [.string x.1, .int .i64 x.2]
def usesI (c : Int) : Int := if c == 26 then 3 else if c == 1 then 4 else if usesA c then 1 else 0
theorem code_get : ∀ n : Fin 35, ∃ s, codeL[n.1]? = some (s, usesI n.1) := by
  intro n
  have h : ∀ n : Fin 35, (codeL[n.1]?.map (·.2)) = some (usesI n.1) := by decide
  have h := h n
  cases hc : codeL[n.1]? with
  | none => rw [hc] at h; cases h
  | some x => rw [hc] at h; injection h with h; exact ⟨x.1, by rw [← h]⟩
theorem code_at {c : Int} (h0 : 1 ≤ c) (h1 : c ≤ 34) : ∃ s, codeRows[c.toNat]? = some [.string s, .int .i64 (usesI c)] := by
  obtain ⟨s, hs⟩ := code_get ⟨c.toNat, by omega⟩
  refine ⟨s, ?_⟩
  have hs : codeL[c.toNat]? = some (s, usesI (c.toNat : Int)) := hs
  rw [codeRows, List.getElem?_map, hs, show (c.toNat : Int) = c from by omega]; rfl
theorem code_rows : ∀ row ∈ codeRows, row.length = 2 := by
  intro row hr
  obtain ⟨x, _, rfl⟩ := List.mem_map.1 hr; rfl
theorem bit1 (c : Int) : (bitsI .and .i64 (usesI c) 1 != 0) = usesA c := by
  unfold usesI
  split
  · rename_i h; have := eq_of_beq h; subst this; rfl
  · split
    · rename_i h; have := eq_of_beq h; subst this; rfl
    · split
      · rename_i h; rw [h]; rfl
      · rename_i h; rw [Bool.not_eq_true] at h; rw [h]; rfl
theorem bit2 (c : Int) : (bitsI .and .i64 (usesI c) 2 != 0) = (c == 26) := by
  unfold usesI
  split
  · rename_i h; rw [h]; rfl
  · rename_i h0; rw [Bool.not_eq_true] at h0; rw [h0]
    split
    · rfl
    · split <;> rfl
theorem bit4 (c : Int) : (bitsI .and .i64 (usesI c) 4 != 0) = (c == 1) := by
  unfold usesI
  split
  · rename_i h; have := eq_of_beq h; subst this; rfl
  · split
    · rename_i h; rw [h]; rfl
    · rename_i h; rw [Bool.not_eq_true] at h; rw [h]; split <;> rfl
theorem agg_ty {t : TypeId} {fs : Array Field} (h : Tryz.prog.underlying t = some (.struct fs)) (w : World) : (isAgg t).run Tryz.prog w = .ok true w := by
  simp [isAgg, run_underlying h, Result.andThen]
section
variable {w : World} {K : Value → World → Prop} {KP : List PanicEntry → World → Prop}
theorem C163 (h : ∀ u, Ex w u → K (.agg codeRows.flatten.toArray) u) : XCP Tryz.prog 163 [] w K KP := by
  refine E163 ?_
  unfold F163
  intro w0 p
  have hs : Sep w0 (bx w.heap.size _ 263 :: [oldA w]) := (Sep.begin w).box _ _
  clear_value w0
  refine hs.fill (vs := codeRows.flatten) rfl fun w1 _ hs => ?_
  exact ⟨_, _, _, _, _, _, _, _, _, _, _, _, _, _, _, _, _, _, _, _, _, _, _, _, _, _, _, _, _, _, _, _, _, _, _, _, _, _, _, _, _, _, _, _, _, _, _, _, _, _, _, _, _, _, _, _, _, _, _, _, _, _, _, _, _, _, _, _, _, _, hs.bx0.lds, h w1 (hs.ex 1 rfl)⟩
theorem T263 : Tryz.prog.underlying 263 = some (.array 35 233) := by kernel_rfl
theorem Z93 (w : World) : (sizeOf 233).run Tryz.prog w = .ok 2 w := by kernel_rfl
theorem A93 (w : World) : (isAgg 233).run Tryz.prog w = .ok true w := by kernel_rfl
theorem C139 {c : Int} (h : ∀ u s n, Ex w u → (inI c 1 34 = true → n = usesI c) → (inI c 1 34 = false → n = 0) → K (.tuple #[.agg #[.string s, .int .i64 n], .bool (inI c 1 34)]) u) : XCP Tryz.prog 139 [.int .i64 c] w K KP := by
  refine E139 ?_
  unfold F139
  intro w0 p
  have hs : Sep w0 (bx w.heap.size _ 233 :: [oldA w]) := (Sep.begin w).box _ _
  clear_value w0
  cases hc : inI c 1 34 with
  | false =>
    rw [if_pos (by simp [inI] at hc ⊢; omega)]
    refine hs.fill (vs := [.string _, .int _ _]) rfl fun w1 _ hs => ⟨_, _, hs.bx0.lds, ?_⟩
    have := h w1 ByteArray.empty 0 (hs.ex 1 rfl) (by simp [hc]) (by simp)
    rw [hc] at this
    exact this
  | true =>
    have hc' : 1 ≤ c ∧ c ≤ 34 := by simpa [inI] using hc
    rw [if_neg (by simp; omega)]
    refine C163 fun u hu => ⟨_, _, _, _, _, _, _, _, _, _, _, _, _, _, _, _, _, _, _, _, _, _, _, _, _, _, _, _, _, _, _, _, _, _, _, _, _, _, _, _, _, _, _, _, _, _, _, _, _, _, _, _, _, _, _, _, _, _, _, _, _, _, _, _, _, _, _, _, _, _, rfl, ?_⟩
    obtain ⟨s, hrow⟩ := code_at hc'.1 hc'.2
    refine xr_index (cs := codeRows.flatten.toArray) T263 A93 Z93 (by omega) (by omega) ?_
    rw [extract_row code_rows hrow]
    refine ⟨s, usesI c, rfl, ?_⟩
    have hs := hs.ext hu
    refine hs.fill (vs := [.string s, .int .i64 (usesI c)]) rfl fun w1 _ hs => ⟨_, _, hs.bx0.lds, ?_⟩
    have := h w1 s (usesI c) (hs.ex 1 rfl) (fun _ => rfl) (by simp [hc])
    rw [hc] at this
    exact this
end
end Go.Proofs.YtahcpjgaogghiaaGreat
