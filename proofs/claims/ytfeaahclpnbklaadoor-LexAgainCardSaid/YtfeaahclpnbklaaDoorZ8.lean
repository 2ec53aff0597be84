/- The lex seat: words and places held against one another; the chapter's first text; where a text ends. -/
import Derived.Test.YtfeaahclpnbklaaDoorZ7
set_option linter.unusedVariables false
set_option linter.unusedSimpArgs false
set_option maxRecDepth 10000
set_option maxHeartbeats 4000000
namespace Go.Proofs.YtfeaahclpnbklaaDoor
open Go.X Go.Lx Go.RowKit
theorem und25 : Tryd.prog.underlying 25 = some (.struct #[⟨ "Line", 3, 0, false, "", "", 0⟩, ⟨ "Col", 3, 1, false, "", "", 8⟩]) := by kernel_rfl
theorem und34 : Tryd.prog.underlying 34 = some (.struct #[⟨ "Kind", 32, 0, false, "", "", 0⟩, ⟨ "Text", 9, 1, false, "", "", 8⟩, ⟨ "Num", 2, 2, false, "", "", 24⟩, ⟨ "Pos", 25, 3, false, "", "", 32⟩]) := by kernel_rfl
theorem und32 : Tryd.prog.underlying 32 = some (.int .i64) := by kernel_rfl
theorem und2 : Tryd.prog.underlying 2 = some (.int .i64) := by kernel_rfl
theorem und3 : Tryd.prog.underlying 3 = some (.int .i64) := by kernel_rfl
theorem info25 : ∃ i, Tryd.prog.info? 25 = some i ∧ i.size = 2 := by
  have h : (Tryd.prog.info? 25).map (·.size) = some 2 := by kernel_rfl
  cases he : Tryd.prog.info? 25 with
  | none => rw [he] at h; cases h
  | some i => rw [he] at h; exact ⟨i, rfl, by simpa using h⟩
def _root_.Go.Lx.Pos.v (p : Lx.Pos) : Value := .agg #[.int .i64 p.line, .int .i64 p.col]
theorem pos_iff {a b : Lx.Pos} : a = b ↔ a.line = b.line ∧ a.col = b.col := by cases a; cases b; simp
theorem tok_iff {a b : Lx.Tok} : a = b ↔ a.kind = b.kind ∧ a.text = b.text ∧ a.num = b.num ∧ a.pos = b.pos := by cases a; cases b; simp
theorem S_beq (a b : By) : (S a == S b) = (a == b) := by
  rw [Bool.eq_iff_iff, Go.MapKept.bytes_beq, beq_iff_eq]
  exact ⟨S_inj, fun h => by rw [h]⟩
theorem eqIn_pos (a b : Lx.Pos) (d : Nat) (w : World) : (Op.equalIn (d + 2) 25 a.v b.v).run Tryd.prog w = .ok (decide (a = b)) w := by
  refine (eqIn_struct und25 (by kernel_rfl) [a.line == b.line, a.col == b.col] rfl fun i f r h1 h2 => ?_).trans ?_
  · match i, h1, h2 with
    | 0, h1, h2 => simp at h1 h2; subst h1; subst h2; exact fieldI (by decide) und3 rfl rfl
    | 1, h1, h2 => simp at h1 h2; subst h1; subst h2; exact fieldI (by decide) und3 rfl rfl
    | i + 2, h1, h2 => simp at h2
  · congr 1
    rw [Bool.eq_iff_iff]
    simp [pos_iff]
theorem eqIn_tok (a b : Lx.Tok) (d : Nat) (w : World) : (Op.equalIn (d + 3) 34 a.v b.v).run Tryd.prog w = .ok (decide (a = b)) w := by
  obtain ⟨i2, hi2, hs2⟩ := info25
  refine (eqIn_struct und34 (by kernel_rfl) [a.kind == b.kind, S a.text == S b.text, a.num == b.num, decide (a.pos = b.pos)] rfl fun i f r h1 h2 => ?_).trans ?_
  · match i, h1, h2 with
    | 0, h1, h2 => simp at h1 h2; subst h1; subst h2; exact fieldI (by decide) und32 rfl rfl
    | 1, h1, h2 => simp at h1 h2; subst h1; subst h2; exact fieldT (by decide) prog9 rfl rfl
    | 2, h1, h2 => simp at h1 h2; subst h1; subst h2; exact fieldI (by decide) und2 rfl rfl
    | 3, h1, h2 => simp only [List.getElem?_toArray, List.getElem?_cons_succ, List.getElem?_cons_zero, Option.some.injEq] at h1 h2; subst h1; subst h2; refine fieldA (by decide) und25 rfl hi2 ?_; rw [hs2]; exact eqIn_pos a.pos b.pos d w
    | i + 4, h1, h2 => simp at h2
  · congr 1
    rw [Bool.eq_iff_iff, S_beq]
    simp [tok_iff]
section
variable {w : World} {K : Value → World → Prop} {KP : List PanicEntry → World → Prop} {L : List Assn}
theorem xr_pos {x y : Operand} {a b : Lx.Pos} (h : K (.bool (decide (a = b))) w) : XRun Tryd.prog (do eqGuard .eql 25 x y a.v b.v; binOp .eql 25 a.v b.v) w K :=
  xr_struct_eq (by kernel_rfl) (fun d => eqIn_pos a b (d + 2) w) h
theorem xr_tok {x y : Operand} {a b : Lx.Tok} (h : K (.bool (decide (a = b))) w) : XRun Tryd.prog (do eqGuard .eql 34 x y a.v b.v; binOp .eql 34 a.v b.v) w K :=
  xr_struct_eq (by kernel_rfl) (fun d => eqIn_tok a b (d + 1) w) h
theorem xr_tok_ne {x y : Operand} {a b : Lx.Tok} (h : K (.bool (!decide (a = b))) w) : XRun Tryd.prog (do eqGuard .neq 34 x y a.v b.v; binOp .neq 34 a.v b.v) w K :=
  xr_struct_ne (by kernel_rfl) (fun d => eqIn_tok a b (d + 1) w) h
theorem C8 {n : Int} (h : K (.int .i64 n) w) : XCP Tryd.prog 8 [.int .i64 n] w K KP := E8 h
/-- a word of an owned row -/
theorem tok_at {w : World} {s : Sl} {ts : List Lx.Tok} {G : Nat → Prop} (h : Own w 5 34 s.a s.l s.c (toksC ts) G) {i : Nat} (hi : i < ts.length) : ∃ p, s.a = some p ∧ ∀ z, Ex w z → cellsAt z (p.add (i * 5)) 0 (Lx.Tok.cells ts[i]) := by
  have hget : ∀ j v, (Lx.Tok.cells ts[i])[j]? = some v → (toksC ts)[i * 5 + j]? = some v := fun j v hv =>
    flatten_get (z := 5) (fun row hr => by obtain ⟨t, -, rfl⟩ := List.mem_map.1 hr; rfl) (by simp [List.getElem?_map, List.getElem?_eq_getElem hi]) hv
  have hrd := h.rd
  obtain ⟨p, hp, -, -⟩ := hrd.isSome (hget 0 _ rfl)
  refine ⟨p, hp, fun z hz => cellsAt_of fun j v hv => ?_⟩
  rw [Nat.zero_add, addr_add]
  obtain ⟨p', hp', -, hc⟩ := hrd.isSome (hget j v hv)
  rw [hp] at hp'; cases hp'
  exact hz.cell hc
theorem w1 : lexF [118, 97, 114, 32, 120, 49, 61, 45, 55, 59, 35, 110, 111] = ([⟨3, [118, 97, 114], 0, ⟨1, 1⟩⟩, ⟨1, [120, 49], 0, ⟨1, 5⟩⟩, ⟨4, [61], 0, ⟨1, 7⟩⟩, ⟨4, [45], 0, ⟨1, 8⟩⟩, ⟨2, [55], 7, ⟨1, 9⟩⟩, ⟨4, [59], 0, ⟨1, 10⟩⟩], ⟨0, 0⟩, 0) := by decide +kernel
theorem w2 : lexF [120, 32, 38, 32, 121] = ([], ⟨1, 3⟩, 110) := by decide +kernel
theorem C9 (hG : Gl w) (h : ∀ u, Ex w u → K (.bool true) u) : XCP Tryd.prog 9 [] w K KP := by
  refine E9 ?_
  unfold F9
  refine C6 (t := [118, 97, 114, 32, 120, 49, 61, 45, 55, 59, 35, 110, 111]) hG (by decide) fun s u e ho => ⟨_, _, _, _, _, _, rfl, ?_⟩
  rw [w1] at ho
  rw [w1]
  intro w1' p
  have hs : Sep w1' (bx u.heap.size [.int .i64 0, .int .i64 0] 25 :: [oldA u]) := (Sep.begin u).box _ _
  clear_value w1'
  refine hs.fill (vs := [.int .i64 0, .int .i64 0]) rfl fun w2' _ hs => ?_
  have e2 : Ex u w2' := hs.ex 1 rfl
  have hp : Blk w2' u.heap.size [.int .i64 0, .int .i64 0] 25 := hs.bx0
  clear hs
  refine C6 (t := [120, 32, 38, 32, 121]) (hG.ex (e.trans e2)) (by decide) fun s' u3 e3 ho' => ⟨_, _, _, _, _, _, rfl, ?_⟩
  rw [w2]
  intro w4 p1
  have hs : Sep w4 (bx u3.heap.size [.int .i64 0, .int .i64 0] 25 :: [oldA u3]) := (Sep.begin u3).box _ _
  clear_value w4
  refine hs.fill (vs := [.int .i64 1, .int .i64 3]) rfl fun w5 _ hs => ?_
  have e5 : Ex w2' w5 := e3.trans (hs.ex 1 rfl)
  have hp1 : Blk w5 u3.heap.size [.int .i64 1, .int .i64 3] 25 := hs.bx0
  clear hs
  have hls : s.l = 6 := by
    have := ho.1
    rw [toksC_len] at this
    simp at this; omega
  refine C8 ⟨_, rfl, ?_⟩
  refine X.and_true rfl (fun kb hk => ⟨_, _, (e5.blk hp).lds, xr_pos (a := ⟨0, 0⟩) (b := ⟨0, 0⟩) ⟨_, rfl, by rw [decide_eq_true rfl]; exact hk _ (Ex.refl _)⟩⟩) fun u6 e6 => ?_
  refine X.and_true (by rw [hls]; rfl) (fun kb hk => ?_) fun u7 e7 => ?_
  · obtain ⟨q, hq, hc⟩ := tok_at ho (i := 4) (by decide)
    refine xptr_of' hq ⟨by decide, by omega, _, _, _, _, _, hc _ (e2.trans (e5.trans e6)), ?_⟩
    refine xr_tok (a := ⟨2, [55], 7, ⟨1, 9⟩⟩) (b := ⟨2, [55], 7, ⟨1, 9⟩⟩) ⟨_, rfl, ?_⟩
    rw [decide_eq_true rfl]; exact hk _ (Ex.refl _)
  refine X.and_true rfl (fun kb hk => C8 ⟨_, rfl, hk _ (Ex.refl _)⟩) fun u8 e8 => ?_
  refine X.and_true rfl (fun kb hk => ⟨_, _, ((e6.trans (e7.trans e8)).blk hp1).lds, xr_pos (a := ⟨1, 3⟩) (b := ⟨1, 3⟩) ⟨_, rfl, by rw [decide_eq_true rfl]; exact hk _ (Ex.refl _)⟩⟩) fun u9 e9 => ?_
  exact h u9 (e.trans (e2.trans (e5.trans (e6.trans (e7.trans (e8.trans e9))))))
theorem C12 {t : By} (hl : t.length ≤ 900000) (h : ∀ u, Ex w u → K (Lx.Pos.v (Lx.adv Lx.p1 t)) u) : XCP Tryd.prog 12 [.string (S t)] w K KP := by
  refine E12 ?_
  unfold F12
  intro w0 p w1 p1
  have hs : Sep w1 (bx w0.heap.size (rd Lx.p1 t 0) 42 :: bx w.heap.size [.int .i64 0, .int .i64 0] 25 :: [oldA w]) := ((Sep.begin w).box _ _).box _ _
  clear_value w1
  rw [S_size]
  refine D15 hs ⟨by decide, by decide, by show (1 : Int) + _ ≤ _; omega, by show (1 : Int) + _ ≤ _; omega⟩ (Nat.le_refl _) fun u hu => ⟨rfl, ?_⟩
  rw [List.take_length] at hu
  refine ⟨_, _, ⟨hu.bx0.ld' (o := 0) rfl, hu.bx0.ld' (o := 1) rfl, trivial⟩, ?_⟩
  refine Sep.fillAt hu 1 rfl (vs := [.int .i64 (Lx.adv Lx.p1 t).line, .int .i64 (Lx.adv Lx.p1 t).col]) rfl fun u2 _ hu2 => ?_
  exact ⟨_, _, (hu2.blkAt 1 rfl).lds, h u2 (hu2.ex 2 rfl)⟩
theorem C16 {t : By} (hl : t.length ≤ 900000) (h : ∀ u, Ex w u → K (Lx.Pos.v (Lx.adv Lx.p1 t)) u) : XCP Tryd.prog 16 [.string (S t), .int .i64 t.length] w K KP := by
  refine E16 ?_
  unfold F16
  intro w0 p w1 p1
  have hs : Sep w1 (bx w0.heap.size [.int .i64 0, .int .i64 0] 25 :: bx w.heap.size [.int .i64 0, .int .i64 0] 25 :: [oldA w]) := ((Sep.begin w).box _ _).box _ _
  clear_value w1
  refine hs.fill (vs := [.int .i64 1, .int .i64 1]) rfl fun w2 _ hs => ?_
  refine ⟨fun n u => ∃ k : Nat, n = k ∧ k ≤ t.length ∧ Sep u (bx w0.heap.size [.int .i64 (Lx.adv Lx.p1 (t.take k)).line, .int .i64 (Lx.adv Lx.p1 (t.take k)).col] 25 :: bx w.heap.size [.int .i64 0, .int .i64 0] 25 :: [oldA w]), fun n _ => t.length - n.toNat, ⟨0, rfl, Nat.zero_le _, hs⟩, ?_⟩
  rintro n u ⟨k, rfl, hk, hu⟩
  by_cases hlt : k < t.length
  · rw [if_pos (by simpa using hlt)]
    have hck : t[k]? = some t[k] := List.getElem?_eq_getElem hlt
    have hnx := adv_take_succ (p := Lx.p1) hck
    have hpk : PB (Lx.adv Lx.p1 (t.take k)) (t.drop k) := PB.adv ⟨by decide, by decide, by show (1 : Int) + _ ≤ _; omega, by show (1 : Int) + _ ≤ _; omega⟩
    obtain ⟨q1, q2, q3, q4⟩ := hpk
    generalize hpp : Lx.adv Lx.p1 (t.take k) = pk at *
    intro kb hkb
    have hkb : ∀ u, Sep u (bx w0.heap.size [.int .i64 (Lx.step pk t[k]).line, .int .i64 (Lx.step pk t[k]).col] 25 :: bx w.heap.size [.int .i64 0, .int .i64 0] 25 :: [oldA w]) → kb u := by
      intro u hu
      refine hkb u ?_
      rw [wi (by omega) (by omega)]
      exact ⟨⟨k + 1, rfl, hlt, by rw [hnx]; exact hu⟩, by show t.length - ((k : Int) + 1).toNat < t.length - ((k : Int)).toNat; omega⟩
    refine ⟨pk.col, hu.bx0.ld (o := 1) rfl, ?_⟩
    rw [wi (by omega) (by omega)]
    show storeP u ⟨w0.heap.size, 1, none⟩ _ _
    refine hu.putAt 0 rfl (o := 1) (by simp) fun u2 _ hu2 => ?_
    refine xr_idx hck ⟨_, rfl, ?_⟩
    have h10 := u8_eq (c := t[k]) (n := 10) (by decide)
    by_cases h : t[k] = 10
    · rw [if_pos (by rw [show (10 : Int) = ((10 : Nat) : Int) from rfl, h10, h]; rfl)]
      refine ⟨pk.line, hu2.bx0.ld (o := 0) rfl, ?_⟩
      rw [wi (by omega) (by omega)]
      show storeP u2 ⟨w0.heap.size, 0, none⟩ _ _
      refine hu2.putAt 0 rfl (o := 0) (by simp) fun u3 _ hu3 => ?_
      show storeP u3 ⟨w0.heap.size, 1, none⟩ _ _
      refine hu3.putAt 0 rfl (o := 1) (by simp) fun u4 _ hu4 => ?_
      refine hkb u4 ?_
      unfold Lx.step
      rw [if_pos h]
      exact hu4
    · rw [if_neg (by rw [show (10 : Int) = ((10 : Nat) : Int) from rfl, h10]; simpa using h)]
      refine hkb u2 ?_
      unfold Lx.step
      rw [if_neg h]
      exact hu2
  · rw [if_neg (by simpa using hlt)]
    have e : k = t.length := by omega
    subst e
    rw [List.take_length] at hu
    refine ⟨_, _, hu.bx0.lds, ?_⟩
    refine Sep.fillAt hu 1 rfl (vs := [.int .i64 (Lx.adv Lx.p1 t).line, .int .i64 (Lx.adv Lx.p1 t).col]) rfl fun u2 _ hu2 => ?_
    exact ⟨_, _, (hu2.blkAt 1 rfl).lds, h u2 (hu2.ex 2 rfl)⟩
theorem C13 {t : By} (hl : t.length ≤ 900000) (h : ∀ u, Ex w u → K (Lx.Pos.v (Lx.adv Lx.p1 t)) u) : XCP Tryd.prog 13 [.string (S t)] w K KP := by
  refine E13 ?_
  unfold F13
  intro w0 p
  have hs : Sep w0 (bx w.heap.size [.int .i64 0, .int .i64 0] 25 :: [oldA w]) := (Sep.begin w).box _ _
  clear_value w0
  rw [S_size]
  refine C16 hl fun u1 e1 => ⟨_, _, rfl, ?_⟩
  refine Sep.fillAt (hs.ext e1) 0 rfl (vs := [.int .i64 (Lx.adv Lx.p1 t).line, .int .i64 (Lx.adv Lx.p1 t).col]) rfl fun u2 _ hu2 => ?_
  exact ⟨_, _, (hu2.blkAt 0 rfl).lds, h u2 (hu2.ex 1 rfl)⟩
theorem L5 {t : By} (hG : Gl w) (hK : ∀ u, Ex w u → K (.bool true) u) : XCP Tryd.prog 5 [.string (S t)] w K KP := by
  refine E5 ?_
  unfold F5
  rw [S_size]
  by_cases hl : t.length > 4000
  · rw [if_pos (by simp; omega)]
    exact C9 hG fun u hu => ⟨_, rfl, hK u hu⟩
  · rw [if_neg (by simp; omega)]
    refine C12 (by omega) fun u1 e1 => ⟨_, _, rfl, C13 (by omega) fun u2 e2 => ⟨_, _, rfl, ?_⟩⟩
    refine xr_pos (a := Lx.adv Lx.p1 t) (b := Lx.adv Lx.p1 t) ⟨_, rfl, ?_⟩
    rw [decide_eq_true rfl]
    refine X.and_true rfl (fun kb hk => C9 (hG.ex (e1.trans e2)) fun u hu => ⟨_, rfl, hk u hu⟩) fun u3 e3 => ?_
    exact hK u3 (e1.trans (e2.trans e3))
end
end Go.Proofs.YtfeaahclpnbklaaDoor
