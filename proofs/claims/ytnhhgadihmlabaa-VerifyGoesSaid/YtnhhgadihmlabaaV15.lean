/- The verify seat: the chapter's first rows. -/
import Derived.Test.YtnhhgadihmlabaaV14
set_option linter.unusedVariables false
set_option linter.unusedSimpArgs false
set_option maxRecDepth 10000
set_option maxHeartbeats 1000000
namespace Go.Proofs.Ytnhhgadihmlabaa
open Go.X Go.Heap
theorem Sep.fillAt {w : World} {L : List Assn} (h : Sep w L) (i : Nat) {b : Nat} {V : List Value} {t : TypeId} (hi : L[i]? = some (bx b V t)) {vs : List Value} (ho : vs.length = V.length) {K : World → Prop}
    (hK : ∀ w', w'.heap.size = w.heap.size → Sep w' (L.set i (bx b vs t)) → K w') : storesAt ⟨b, 0, none⟩ 0 vs w K :=
  (h.front i hi).fill ho fun w' hs h' => hK w' hs (h'.back i hi)
def iPush : Ins := ⟨1, 0, 0, 1⟩
def iShow : Ins := ⟨33, 0, 0, 0⟩
def iEnd : Ins := ⟨34, 0, 0, 0⟩
theorem w1 : depthsF (mod1 [iPush, iShow, iEnd]) 0 = ([0, 1, 0], 0) := by decide +kernel
theorem w2 : checkF (mod1 [iShow, iEnd]) = 173 := by decide +kernel
theorem w3 : checkF (mod1 [iPush, iEnd]) = 175 := by decide +kernel
theorem w4 : checkF (mod1 [iPush]) = 172 := by decide +kernel
theorem small1 {l : List Ins} (h : l.length ≤ 1000) : Small (mod1 l) := by
  intro c hc
  have : c = ⟨tName, 0, l, List.replicate l.length 0⟩ := by simpa [mod1] using hc
  subst this; exact h
section
variable {w : World} {K : Value → World → Prop} {KP : List PanicEntry → World → Prop}
theorem mk37 {l : List Ins} {n : Nat} {parts : List (Nat × Value)} (hf : fillL (fun i => some (i * 4, 4)) (madeL [.int .i64 0, .int .i64 0, .int .i64 0, .int .i64 0] (n * 4)) parts = some (l.map Ins.cells).flatten) (hn : n = l.length) (hl : n ≤ 1000)
    (h : ∀ (s : Sl) u, Ex w u → SlR insR u T0 s l → K s.v u) : XRun Try.prog (Instr.buildSlice 37 n (List.toArray parts)) w K := by
  have hlen : ((l.map Ins.cells).flatten).length = n * 4 := by
    subst hn
    clear hf hl h
    induction l with
    | nil => rfl
    | cons x r ih => rw [List.map_cons, List.flatten_cons, List.length_append, ih]; simp [Ins.cells]; omega
  refine Sep.build T37 rfl (Sep.begin w) hf hlen (by omega) fun s u hsl hs he => h s u he ?_
  obtain ⟨G, hr, hc, -⟩ := hs.rowRd
  exact SlR.of_ins (hr.mono fun _ _ _ => trivial) (by omega) hc
/-- a check of one thread's module -/
theorem chk {s : Sl} {l : List Ins} {G : Nat → Prop} (hs : SlR insR w G s l) (hl : l.length ≤ 1000) {e : Int} (he : checkF (mod1 l) = e) {kb : Bool → World → Prop} {x : Int} (h : ∀ u, Ex w u → kb (e == x) u) :
    XCP Try.prog 21 [s.v] w (fun v w15 => ∃ (a : Option Addr) (l c : Nat) (a1 : Option Addr) (l1 c1 : Nat) (a2 : Option Addr) (l2 c2 : Nat) (n n1 : Int) (a3 : Option Addr) (l3 c3 : Nat), v = .agg #[.slice a l c, .slice a1 l1 c1, .slice a2 l2 c2, .int .i64 n, .int .i64 n1, .slice a3 l3 c3] ∧
      XCP Try.prog 12 [.agg #[.slice a l c, .slice a1 l1 c1, .slice a2 l2 c2, .int .i64 n, .int .i64 n1, .slice a3 l3 c3]] w15 (fun v6 w16 => ∃ n22 : Int, v6 = .int .i64 n22 ∧ XCP Try.prog 11 [.int .i64 n22] w16 (fun v7 w17 => ∃ n23 : Int, v7 = .int .i64 n23 ∧ kb (n23 == x) w17) KP) KP) KP :=
  C21 hs (by omega) fun u q hu hq => ⟨_, _, _, _, _, _, _, _, _, _, _, _, _, _, rfl, C12 hq (fun _ => small1 hl) fun u2 hu2 => ⟨_, rfl, C11 ⟨_, rfl, by rw [he]; exact h u2 (hu.trans hu2)⟩⟩⟩
theorem C10 (h : ∀ u, Ex w u → K (.bool true) u) : XCP Try.prog 10 [] w K KP := by
  refine E10 ?_
  unfold F10
  intro v0 p v1 p1 v2 p2
  have hs : Sep v2 (bx v1.heap.size [.int .i64 0, .int .i64 0, .int .i64 0, .int .i64 0] 50 :: bx v0.heap.size [.int .i64 0, .int .i64 0, .int .i64 0, .int .i64 0] 50 :: bx w.heap.size [.int .i64 0, .int .i64 0, .int .i64 0, .int .i64 0] 50 :: [oldA w]) := (((Sep.begin w).box _ _).box _ _).box _ _
  clear_value v2
  refine Sep.fillAt hs 2 rfl (vs := iPush.cells) rfl fun v3 _ hs => ?_
  refine Sep.fillAt hs 1 rfl (vs := iShow.cells) rfl fun v4 _ hs => ?_
  refine Sep.fillAt hs 0 rfl (vs := iEnd.cells) rfl fun v5 _ hs => ?_
  have hE := hs.blkAt 0 rfl
  have hS := hs.blkAt 1 rfl
  have hP := hs.blkAt 2 rfl
  have h5 := hs.ex 3 rfl
  clear hs
  refine ⟨_, _, _, _, hP.lds, _, _, _, _, hS.lds, _, _, _, _, hE.lds, ?_⟩
  refine mk37 (l := [iPush, iShow, iEnd]) rfl rfl (by decide) fun s u6 e6 hsl => ⟨_, _, _, rfl, ?_⟩
  refine C21 hsl (by decide) fun u7 q e7 hq => ⟨_, _, _, _, _, _, _, _, _, _, _, _, _, _, rfl, ?_⟩
  refine C14 hq (fun _ => small1 (by decide)) fun s8 u8 hnew => ⟨_, _, _, _, rfl, C11 ⟨_, rfl, ?_⟩⟩
  rw [w1] at hnew ⊢
  have e8 := e6.trans (e7.trans hnew.1)
  have hown := hnew.2
  refine and_join (b := (0 : Int) == 0) (c := true) (fun kb hk => ?_) fun u e9 => ?_
  · refine Sep.build (cs := ints [0, 1, 0]) T23 rfl (Sep.begin u8) rfl rfl (by decide) fun s9 u9 hl9 hs9 he9 => ⟨_, _, _, rfl, ?_⟩
    obtain ⟨G9, hG9⟩ := hs9.at0
    have hG9 : Own u9 1 3 s9.a s9.l s9.c (ints [0, 1, 0]) G9 := hG9
    exact C17 (s := s8) (s' := s9) ((SlR.of_ints (t := 3) hown).old he9) (SlR.of_ints (t := 3) hG9) (by decide) fun u10 e10 => ⟨_, rfl, hk u10 (Ex.trans he9 e10)⟩
  replace e9 := e8.trans e9
  refine and_join (c := (173 : Int) == 173) (fun kb hk => ⟨_, _, _, _, (e9.blk hS).lds, _, _, _, _, (e9.blk hE).lds, mk37 (l := [iShow, iEnd]) rfl rfl (by decide) fun s u eu hsl => ⟨_, _, _, rfl, chk hsl (by decide) w2 fun v ev => hk v (eu.trans ev)⟩⟩) fun u e10 => ?_
  replace e10 := e9.trans e10
  refine and_join (c := (175 : Int) == 175) (fun kb hk => ⟨_, _, _, _, (e10.blk hP).lds, _, _, _, _, (e10.blk hE).lds, mk37 (l := [iPush, iEnd]) rfl rfl (by decide) fun s u eu hsl => ⟨_, _, _, rfl, chk hsl (by decide) w3 fun v ev => hk v (eu.trans ev)⟩⟩) fun u e11 => ?_
  replace e11 := e10.trans e11
  refine and_join (c := (172 : Int) == 172) (fun kb hk => ⟨_, _, _, _, (e11.blk hP).lds, mk37 (l := [iPush]) rfl rfl (by decide) fun s u eu hsl => ⟨_, _, _, rfl, chk hsl (by decide) w4 fun v ev => hk v (eu.trans ev)⟩⟩) fun u e12 => ?_
  exact h u (h5.trans (e11.trans e12))
end
end Go.Proofs.Ytnhhgadihmlabaa
