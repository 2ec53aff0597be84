/- The sync seat: an object stands for a state; what the calls do to it. -/
import Derived.Test.YthegnnifbgikmaaS1
set_option linter.unusedVariables false
set_option linter.unusedSimpArgs false
namespace Go.Proofs.Ythegnnifbgikmaa
open Go.X

structure Ch where
  l : List Int
  room : Int
  first : Int
structure SS where
  owners : List Int
  conds : List (List Int)
  chans : List Ch

def thr (t : Int) : Int := if t < 0 ∨ t ≥ 8 then 2 else 0
def SS.lock (S : SS) (m t : Int) : SS × Bool × Int :=
  if m < 0 ∨ m ≥ S.owners.length then (S, false, 4) else if thr t ≠ 0 then (S, false, thr t) else
  if (S.owners[m.toNat]?).getD 0 ≠ -1 then (S, false, 0) else ({ S with owners := S.owners.set m.toNat t }, true, 0)
def SS.unlock (S : SS) (m t : Int) : SS × Int :=
  if m < 0 ∨ m ≥ S.owners.length then (S, 4) else if thr t ≠ 0 then (S, thr t) else
  if (S.owners[m.toNat]?).getD 0 ≠ t then (S, 140) else ({ S with owners := S.owners.set m.toNat (-1) }, 0)
def SS.wait (S : SS) (c t : Int) : SS × Int :=
  if c < 0 ∨ c ≥ S.conds.length then (S, 4) else if thr t ≠ 0 then (S, thr t) else
  if t ∈ S.conds.flatten then (S, 141) else ({ S with conds := S.conds.set c.toNat ((S.conds[c.toNat]?).getD [] ++ [t]) }, 0)
def SS.signal (S : SS) (c : Int) : SS × Int × Bool × Int :=
  if c < 0 ∨ c ≥ S.conds.length then (S, 0, false, 4) else
  match (S.conds[c.toNat]?).getD [] with
  | [] => (S, 0, false, 0)
  | x :: r => ({ S with conds := S.conds.set c.toNat r }, x, true, 0)
def SS.chan (S : SS) (q : Int) : Ch := (S.chans[q.toNat]?).getD ⟨[], 0, 0⟩
def SS.send (S : SS) (q v : Int) : SS × Int × Bool × Int :=
  if q < 0 ∨ q ≥ S.chans.length then (S, 0, false, 4) else if v < -2147483648 ∨ v > 2147483647 then (S, 0, false, 2) else
  if ((S.chan q).l.length : Int) ≥ (S.chan q).room then (S, 0, false, 0) else
  ({ S with chans := S.chans.set q.toNat { S.chan q with l := (S.chan q).l ++ [v] } }, (S.chan q).first + (S.chan q).l.length, true, 0)
def SS.recv (S : SS) (q : Int) : SS × Int × Int × Bool × Int :=
  if q < 0 ∨ q ≥ S.chans.length then (S, 0, 0, false, 4) else
  match (S.chan q).l with
  | [] => (S, 0, 0, false, 0)
  | x :: r => ({ S with chans := S.chans.set q.toNat { S.chan q with l := r, first := (S.chan q).first + 1 } }, x, (S.chan q).first, true, 0)
def SS.owner (S : SS) (m : Int) : Int × Int := if m < 0 ∨ m ≥ S.owners.length then (0, 4) else ((S.owners[m.toNat]?).getD 0, 0)
def SS.waits (S : SS) (c : Int) : List Int × Int := if c < 0 ∨ c ≥ S.conds.length then ([], 4) else ((S.conds[c.toNat]?).getD [], 0)
/-- nothing has grown beyond n -/
structure SS.fine (S : SS) (n : Nat) : Prop where
  conds : ∀ xs ∈ S.conds, xs.length ≤ n
  chans : ∀ c ∈ S.chans, c.l.length ≤ n ∧ 0 ≤ c.first ∧ c.first ≤ n ∧ 1 ≤ c.room ∧ c.room ≤ 16

/-- the channels' cells -/
def chCells : List Sl → List Ch → List Value
  | s :: hs, c :: cs => s.v :: .int .i64 c.room :: .int .i64 c.first :: chCells hs cs
  | _, _ => []
theorem chCells_length : ∀ (hs : List Sl) (cs : List Ch), hs.length = cs.length → (chCells hs cs).length = cs.length * 3
  | [], [], _ => rfl
  | s :: hs, c :: cs, h => by simp only [chCells, List.length_cons] at *; rw [chCells_length hs cs (by omega)]; omega
theorem chCells_get : ∀ {i : Nat} {hs : List Sl} {cs : List Ch} {s : Sl} {c : Ch}, hs[i]? = some s → cs[i]? = some c →
    (chCells hs cs)[i * 3]? = some s.v ∧ (chCells hs cs)[i * 3 + 1]? = some (.int .i64 c.room) ∧ (chCells hs cs)[i * 3 + 2]? = some (.int .i64 c.first)
  | 0, s' :: hs, c' :: cs, s, c, h1, h2 => by simp at h1 h2; subst h1; subst h2; simp [chCells]
  | i + 1, s' :: hs, c' :: cs, s, c, h1, h2 => by
    simp only [List.getElem?_cons_succ] at h1 h2
    have := chCells_get h1 h2
    have e : (i + 1) * 3 = i * 3 + 1 + 1 + 1 := by omega
    simp only [chCells, e, List.getElem?_cons_succ]
    refine ⟨this.1, ?_, ?_⟩
    · exact this.2.1
    · exact this.2.2
  | _, [], _, _, _, h, _ => by simp at h
  | _, _, [], _, _, _, h => by simp at h
theorem chCells_set : ∀ {i : Nat} {hs : List Sl} {cs : List Ch} {s' : Sl} {c : Ch} {l : List Int}, cs[i]? = some c → i < hs.length →
    chCells (hs.set i s') (cs.set i { c with l := l }) = (chCells hs cs).set (i * 3) s'.v
  | 0, s :: hs, c' :: cs, s', c, l, h2, h1 => by simp at h2; subst h2; simp [chCells]
  | i + 1, s :: hs, c' :: cs, s', c, l, h2, h1 => by
    simp only [List.getElem?_cons_succ] at h2
    have e : (i + 1) * 3 = i * 3 + 1 + 1 + 1 := by omega
    simp only [chCells, e, List.set_cons_succ, chCells_set (s' := s') (l := l) h2 (by simpa using h1)]
  | _, [], _, _, _, _, _, h => by simp at h
  | _, _, [], _, _, _, h, _ => by simp at h
theorem chCells_first : ∀ {i : Nat} {hs : List Sl} {cs : List Ch} {c : Ch} {f : Int}, cs[i]? = some c → i < hs.length →
    chCells hs (cs.set i { c with first := f }) = (chCells hs cs).set (i * 3 + 2) (.int .i64 f)
  | 0, s :: hs, c' :: cs, c, f, h2, h1 => by simp at h2; subst h2; simp [chCells]
  | i + 1, s :: hs, c' :: cs, c, f, h2, h1 => by
    simp only [List.getElem?_cons_succ] at h2
    have e : (i + 1) * 3 + 2 = i * 3 + 2 + 1 + 1 + 1 := by omega
    simp only [chCells, e, List.set_cons_succ, chCells_first (f := f) h2 (by simpa using h1)]
  | _, [], _, _, _, _, h => by simp at h
  | _, _, [], _, _, h, _ => by simp at h

structure SyncR (w : World) (pb : Nat) (S : SS) (g : Nat → Nat) (ow cd ch : Sl) (qs hs : List Sl) : Prop where
  blk : Blk w pb (obj ow cd ch) 77
  tag : g pb = 1
  own : OwnI w 3 ow S.owners (g · = 2)
  cds : Own w 1 93 cd.a cd.l cd.c (qs.map Sl.v) (g · = 3)
  chs : Own w 3 81 ch.a ch.l ch.c (chCells hs S.chans) (g · = 4)
  nq : qs.length = S.conds.length
  nh : hs.length = S.chans.length
  q : ∀ (i : Nat) (s : Sl) (xs : List Int), qs[i]? = some s → S.conds[i]? = some xs → OwnI w 3 s xs (g · = 5 + 2 * i)
  h : ∀ (i : Nat) (s : Sl) (c : Ch), hs[i]? = some s → S.chans[i]? = some c → OwnI w 2 s c.l (g · = 6 + 2 * i)
  sup : ∀ b, w.heap.size ≤ b → g b = 0
def SyncAt (w : World) (pb : Nat) (S : SS) (g : Nat → Nat) : Prop := ∃ ow cd ch qs hs, SyncR w pb S g ow cd ch qs hs
/-- the object's own blocks alone may have changed; what was not its own is not its own, if it is not new -/
structure Ext (g : Nat → Nat) (w : World) (g' : Nat → Nat) (w' : World) : Prop where
  old : ∀ b, b < w.heap.size → g' b = g b
  fr : Fr (fun b => g b ≠ 0) w w'
theorem Ext.refl (g : Nat → Nat) (w : World) : Ext g w g w := ⟨fun _ _ => rfl, Fr.refl _ _⟩
theorem Ext.trans {g g1 g2 : Nat → Nat} {w w1 w2 : World} (h : Ext g w g1 w1) (h' : Ext g1 w1 g2 w2) : Ext g w g2 w2 :=
  ⟨fun b hb => (h'.old b (Nat.lt_of_lt_of_le hb h.fr.size)).trans (h.old b hb), h.fr.trans h'.fr (fun _ _ h => h) (fun b hb hh => by rwa [h.old b hb] at hh)⟩
theorem SyncR.frame {w w' : World} {pb : Nat} {S : SS} {g : Nat → Nat} {ow cd ch : Sl} {qs hs : List Sl} (h : SyncR w pb S g ow cd ch qs hs) {D : Nat → Prop} (hf : Fr D w w') (hd : ∀ b, D b → g b = 0) : SyncR w' pb S g ow cd ch qs hs where
  blk := hf.blk h.blk (fun e => by have := hd _ e; have := h.tag; omega)
  tag := h.tag
  own := Own.frame h.own hf (fun b hb e => by have := hd _ e; omega)
  cds := Own.frame h.cds hf (fun b hb e => by have := hd _ e; omega)
  chs := Own.frame h.chs hf (fun b hb e => by have := hd _ e; omega)
  nq := h.nq
  nh := h.nh
  q := fun i s xs hs hx => Own.frame (h.q i s xs hs hx) hf (fun b hb e => by have := hd _ e; omega)
  h := fun i s c hs hx => Own.frame (h.h i s c hs hx) hf (fun b hb e => by have := hd _ e; omega)
  sup := fun b hb => h.sup b (Nat.le_trans hf.size hb)
theorem SyncAt.frame {w w' : World} {pb : Nat} {S : SS} {g : Nat → Nat} (h : SyncAt w pb S g) {D : Nat → Prop} (hf : Fr D w w') (hd : ∀ b, D b → g b = 0) : SyncAt w' pb S g := by
  obtain ⟨ow, cd, ch, qs, hs, h⟩ := h
  exact ⟨ow, cd, ch, qs, hs, h.frame hf hd⟩
/-- blocks laid between n and m are of part k -/
def retag (g : Nat → Nat) (n m k : Nat) : Nat → Nat := fun b => if b < n then g b else if b < m then k else 0
theorem retag_old {g : Nat → Nat} {n m k b : Nat} (h : b < n) : retag g n m k b = g b := by simp [retag, h]
theorem retag_new {g : Nat → Nat} {n m k b : Nat} (h : n ≤ b) (h' : b < m) : retag g n m k b = k := by simp [retag, h', Nat.not_lt.2 h]
theorem retag_sup {g : Nat → Nat} {n m k b : Nat} (hn : n ≤ m) (h : m ≤ b) : retag g n m k b = 0 := by simp [retag, Nat.not_lt.2 h, Nat.not_lt.2 (Nat.le_trans hn h)]
theorem Own.retag {w w' : World} {z : Nat} {t : TypeId} {a : Option Addr} {l c : Nat} {cs : List Value} {g : Nat → Nat} {j k : Nat} {D : Nat → Prop} (h : Own w z t a l c cs (g · = j)) (hf : Fr D w w') (hd : ∀ b, g b = j → ¬ D b) :
    Own w' z t a l c cs (retag g w.heap.size w'.heap.size k · = j) :=
  Own.mono (Own.frame (h.mono (G' := fun b => g b = j ∧ b < w.heap.size) (fun b hb hg => ⟨hg, hb⟩)) hf (fun b hb => hd b hb.1)) (fun b _ hb => by rw [retag_old hb.2]; exact hb.1)
theorem Ext.retag {g : Nat → Nat} {w w' : World} {k : Nat} (hf : Fr (fun b => g b ≠ 0) w w') : Ext g w (retag g w.heap.size w'.heap.size k) w' := ⟨fun b hb => retag_old hb, hf⟩
end Go.Proofs.Ythegnnifbgikmaa
