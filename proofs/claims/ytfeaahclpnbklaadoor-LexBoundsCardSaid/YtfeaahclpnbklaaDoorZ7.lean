/- The lex seat: the words of a text, told; words and places held against one another; the chapter's first text. -/
import Derived.Test.YtfeaahclpnbklaaDoorZ6
set_option linter.unusedVariables false
set_option linter.unusedSimpArgs false
set_option maxRecDepth 10000
set_option maxHeartbeats 4000000
namespace Go.Proofs.YtfeaahclpnbklaaDoor
open Go.X Go.Lx Go.RowKit
theorem T23 : SlT Tryd.prog 23 34 5 48 [.int .i64 0, .string ByteArray.empty, .int .i64 0, .int .i64 0, .int .i64 0] := ⟨by kernel_rfl, by kernel_rfl⟩
def toksC (ts : List Lx.Tok) : List Value := (ts.map Lx.Tok.cells).flatten
theorem toksC_len (ts : List Lx.Tok) : (toksC ts).length = ts.length * 5 := by
  induction ts with
  | nil => rfl
  | cons t r ih => unfold toksC at *; rw [List.map_cons, List.flatten_cons, List.length_append, ih, List.length_cons]; simp [Lx.Tok.cells]; omega
theorem toksC_snoc (ts : List Lx.Tok) (t : Lx.Tok) : toksC (ts ++ [t]) = toksC ts ++ t.cells := by simp [toksC]
theorem tok_one (t : Lx.Tok) : ∀ v ∈ t.cells, v.oneCell' = true := by
  intro v hv
  simp only [Lx.Tok.cells, List.mem_cons, List.not_mem_nil, _root_.or_false] at hv
  rcases hv with rfl | rfl | rfl | rfl | rfl <;> rfl
def lexM (w : World) (lp bp b2 : Nat) (r : Loop) (g : List Lx.Tok × Sl) : List Assn := [loopA lp r, bx b2 [g.2.v] 23, row 5 34 g.2 (toksC g.1), bx bp [.int .i64 0, .int .i64 0] 25, oldA w]
section
variable {w : World} {K : Value → World → Prop} {KP : List PanicEntry → World → Prop} {L : List Assn}
theorem C6 {t : By} (hG : Gl w) (hl : t.length ≤ 900000) (h : ∀ (s : Sl) u, Ex w u → Own u 5 34 s.a s.l s.c (toksC (lexF t).1) (fun b => w.heap.size ≤ b) → K (.tuple #[s.v, .agg #[.int .i64 (lexF t).2.1.line, .int .i64 (lexF t).2.1.col], .int .i64 (lexF t).2.2]) u) :
    XCP Tryd.prog 6 [.string (S t)] w K KP := by
  refine E6 ?_
  unfold F6
  intro KP0 KP1 w0 p
  have hs : Sep w0 (bx w.heap.size [.int .i64 0, .int .i64 0] 25 :: [oldA w]) := (Sep.begin w).box _ _
  clear_value w0
  rw [S_size]
  by_cases ht : t.length > 65536
  · rw [if_pos (by simp; omega)]
    refine Sep.fillAt hs 0 rfl (vs := [.int .i64 0, .int .i64 0]) rfl fun w1 _ hs => ?_
    intro w2 hsh
    refine ⟨_, _, (Blk.shut hsh (hs.blkAt 0 rfl)).lds, ?_⟩
    have e : lexF t = ([], ⟨0, 0⟩, 3) := by unfold lexF; rw [if_pos ht]
    rw [e] at h
    exact h ⟨none, 0, 0⟩ w2 (hsh.ex (hs.ex 1 rfl) (Nat.le_refl _)) (Own.none _ _ _ _)
  rw [if_neg (by simp; omega)]
  intro w3 p1 w4 p2
  have hs : Sep w4 (bx w3.heap.size [.slice none 0 0] 23 :: bx w0.heap.size (rd Lx.p1 t 0) 42 :: bx w.heap.size [.int .i64 0, .int .i64 0] 25 :: [oldA w]) := (hs.box _ _).box _ _
  clear_value w4
  refine D14 hs (hG.ex (hs.ex 3 rfl)) fun b0 b1 b2 rk rm u5 e5 hs5 => ⟨_, rfl, ?_⟩
  intro lp r hlp hr1 hr2 hround
  subst hlp
  have hs6 := hs5.newLoop r
  have hs7 := hs6.add (A := row 5 34 ⟨none, 0, 0⟩ (toksC [])) (fun D => Fr.refl D _) (Own.none _ 5 34 _)
  have hs8 := hs7.pick (L' := bx w0.heap.size (rd Lx.p1 t 0) 42 :: pers (capA w0.heap.size b0 b1 b2 rk rm) :: lexM w (u5.heap.size + 1) w.heap.size w3.heap.size r ([], ⟨none, 0, 0⟩)) [4, 2, 1, 3, 0, 5, 6] rfl rfl
  have hreq : ({ r with state := .ready, pending := none } : Loop) = r := by cases r; simp_all
  show XCP Tryd.prog 19 [.func (.yield (u5.heap.size + 1)) #[] #[], .pointer (some ⟨b0, 0, none⟩), .pointer (some ⟨b1, 0, none⟩), .pointer (some ⟨b2, 0, none⟩)] _ _ _
  refine XC.mono (C19 (K := fun _ u => _) (M := lexM w (u5.heap.size + 1) w.heap.size w3.heap.size r) (tk := fun g => g.1) (g0 := ([], ⟨none, 0, 0⟩)) (p := Lx.p1) (l := t) ?_ ?_ hs8 ?_ hl rfl ?_) (fun v w' hk => hk)
  · -- a round
    intro g tok p' l' e u hu hlen K1 hk
    have hlen : g.1.length ≤ 1000000 := hlen
    have hu : Sep u (bx w0.heap.size (rd p' l' e) 42 :: pers (capA w0.heap.size b0 b1 b2 rk rm) :: loopA (u5.heap.size + 1) r :: bx w3.heap.size [g.2.v] 23 :: row 5 34 g.2 (toksC g.1) :: bx w.heap.size [.int .i64 0, .int .i64 0] 25 :: [oldA w]) := hu
    refine hround tok.kind (S tok.text) tok.num tok.pos.line tok.pos.col u K1 (hu.loopAt 2 rfl) ?_
    intro w7 p3
    have hs : Sep w7 (bx u.heap.size _ 34 :: bx w0.heap.size (rd p' l' e) 42 :: pers (capA w0.heap.size b0 b1 b2 rk rm) :: loopA (u5.heap.size + 1) r :: bx w3.heap.size [g.2.v] 23 :: row 5 34 g.2 (toksC g.1) :: bx w.heap.size [.int .i64 0, .int .i64 0] 25 :: [oldA w]) := hu.box _ _
    clear_value w7
    refine Sep.fillAt hs 0 rfl (vs := tok.cells) rfl fun w8 _ hs => ⟨hs.loopAt 3 rfl, ?_⟩
    have hs := Sep.setLoopAt hs 3 rfl { r with state := .busy }
    intro w9
    have hs : Sep w9 (bx u.heap.size tok.cells 34 :: bx w0.heap.size (rd p' l' e) 42 :: pers (capA w0.heap.size b0 b1 b2 rk rm) :: loopA (u5.heap.size + 1) { r with state := .busy } :: bx w3.heap.size [g.2.v] 23 :: row 5 34 g.2 (toksC g.1) :: bx w.heap.size [.int .i64 0, .int .i64 0] 25 :: [oldA w]) := hs
    clear_value w9
    refine ⟨_, _, _, (hs.blkAt 4 rfl).ld' rfl, _, _, _, _, _, (hs.blkAt 0 rfl).lds, ?_⟩
    refine Sep.build (cs := tok.cells) T23 rfl hs rfl rfl (by decide) fun s1 w10 hl1 hs1 he1 => ⟨_, _, _, rfl, ?_⟩
    obtain ⟨G1, hr1, -, -⟩ := hs1.rowRd
    have hs2 := (hs1.tail).front 5 rfl
    obtain ⟨_, _, _, hgl⟩ := hs2.rowRd
    rw [toksC_len] at hgl
    refine Sep.append (s := g.2) T23 rfl hs2 (x := s1) hr1 (by rw [hl1]; rfl) (tok_one tok) (by omega) (by omega) fun s2 w11 hl2 hc2 hs3 => ⟨_, _, _, rfl, ?_⟩
    rw [← toksC_snoc] at hs3
    refine hs3.putAt 5 rfl (o := 0) (by simp) fun w12 _ hs4 => ?_
    have hs4 : Sep w12 (row 5 34 s2 (toksC (g.1 ++ [tok])) :: bx u.heap.size tok.cells 34 :: bx w0.heap.size (rd p' l' e) 42 :: pers (capA w0.heap.size b0 b1 b2 rk rm) :: loopA (u5.heap.size + 1) { r with state := .busy } :: bx w3.heap.size [s2.v] 23 :: bx w.heap.size [.int .i64 0, .int .i64 0] 25 :: [oldA w]) := hs4
    refine ⟨hs4.loopAt 4 rfl, hk (g.1 ++ [tok], s2) _ rfl ?_⟩
    exact (Sep.setLoopAt hs4 4 rfl r).pick (L' := bx w0.heap.size (rd p' l' e) 42 :: pers (capA w0.heap.size b0 b1 b2 rk rm) :: lexM w (u5.heap.size + 1) w.heap.size w3.heap.size r (g.1 ++ [tok], s2)) [2, 3, 4, 5, 0, 6, 7] rfl rfl
  · intro g p' l' e u hu
    exact hG.ex (hu.ex 6 rfl)
  · exact ⟨by decide, by decide, by show (1 : Int) + _ ≤ _; omega, by show (1 : Int) + _ ≤ _; omega⟩
  · intro g l' u hg hu
    refine .inl ⟨.ready, ?_, by decide, ?_⟩
    · rw [hreq]; exact hu.loopAt 2 rfl
    have hs := Sep.setLoopAt hu 2 rfl ({ r with state := .exhausted, pending := none })
    intro w14
    have hlex : lexF t = if (lexGo (t.length + 1) Lx.p1 t).2.2 ≠ 0 then ([], (lexGo (t.length + 1) Lx.p1 t).2.1, (lexGo (t.length + 1) Lx.p1 t).2.2) else ((lexGo (t.length + 1) Lx.p1 t).1, ⟨0, 0⟩, 0) := by unfold lexF; rw [if_neg ht]
    have hg : g.1 = (lexGo (t.length + 1) Lx.p1 t).1 := hg
    generalize lexGo (t.length + 1) Lx.p1 t = R at *
    have hs : Sep w14 (bx w0.heap.size (rd R.2.1 l' R.2.2) 42 :: pers (capA w0.heap.size b0 b1 b2 rk rm) :: loopA (u5.heap.size + 1) ({ r with state := .exhausted, pending := none }) :: bx w3.heap.size [g.2.v] 23 :: row 5 34 g.2 (toksC g.1) :: bx w.heap.size [.int .i64 0, .int .i64 0] 25 :: [oldA w]) := hs
    clear_value w14
    refine ⟨_, hs.bx0.ld (o := 3) rfl, ?_⟩
    by_cases he : R.2.2 ≠ 0
    · rw [if_pos (by simpa using he)]
      rw [if_pos he] at hlex
      rw [hlex] at h
      refine ⟨fun z => Blk z w0.heap.size (rd R.2.1 l' R.2.2) 42, hs.drew.bx0, _, _, fun z hz => ⟨hz.ld' (o := 0) rfl, hz.ld' (o := 1) rfl, trivial⟩, _, fun z hz => hz.ld (o := 3) rfl, ?_⟩
      refine Sep.fillAt hs.drew 5 rfl (vs := [.int .i64 R.2.1.line, .int .i64 R.2.1.col]) rfl fun w18 _ hs => ⟨hs.bx0, ?_⟩
      intro w19 hsh
      refine ⟨_, _, (Blk.shut hsh (hs.blkAt 5 rfl)).lds, ?_⟩
      exact h ⟨none, 0, 0⟩ w19 (hsh.ex (hs.ex 6 rfl) (Nat.le_refl _)) (Own.none _ _ _ _)
    · rw [if_neg (by simpa using he)]
      rw [if_neg he] at hlex
      rw [hlex] at h
      refine ⟨_, _, _, (hs.blkAt 3 rfl).ld' rfl, ?_⟩
      refine Sep.fillAt hs 5 rfl (vs := [.int .i64 0, .int .i64 0]) rfl fun w20 _ hs => ?_
      intro w21 hsh
      refine ⟨_, _, (Blk.shut hsh (hs.blkAt 5 rfl)).lds, ?_⟩
      have ho : Own w20 5 34 g.2.a g.2.l g.2.c (toksC g.1) (fun b => w.heap.size ≤ b) := hs.fresh 4 6 rfl rfl (by decide)
      rw [hg] at ho
      exact h g.2 w21 (hsh.ex (hs.ex 6 rfl) (Nat.le_refl _)) (Own.shut hsh ho)
end
end Go.Proofs.YtfeaahclpnbklaaDoor
