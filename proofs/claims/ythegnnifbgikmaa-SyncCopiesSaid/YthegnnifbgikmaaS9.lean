/- The sync seat: SyncOrder. -/
import Derived.Test.YthegnnifbgikmaaS8
set_option linter.unusedVariables false
set_option linter.unusedSimpArgs false
namespace Go.Proofs.Ythegnnifbgikmaa
open Go.X

theorem SyncAt.sup {w : World} {pb : Nat} {S : SS} {g : Nat → Nat} (h : SyncAt w pb S g) : ∀ b, w.heap.size ≤ b → g b = 0 := by
  obtain ⟨_, _, _, _, _, h⟩ := h; exact h.sup
theorem cellsAt_fr {D : Nat → Prop} {w w' : World} (hf : Fr D w w') {p : Addr} (hd : ¬ D p.block) : ∀ (vs : List Value) (i : Nat), cellsAt w p i vs → cellsAt w' p i vs
  | [], _, _ => trivial
  | v :: r, i, h => ⟨hf.cell h.1 (by rw [add_block]; exact hd), cellsAt_fr hf hd r (i + 1) h.2⟩

structure Good (w0 w : World) (pb : Nat) (S : SS) (g k : Nat → Nat) (sin : Sl) (inl : List Int) (sca : Sl) (came : List Int) : Prop where
  sy : SyncAt w pb S g
  hin : OwnI w 2 sin inl (k · = 1)
  hca : OwnI w 3 sca came (k · = 2)
  dis : ∀ b, g b = 0 ∨ k b = 0
  sup : ∀ b, w.heap.size ≤ b → k b = 0
  old : ∀ b, b < w0.heap.size → g b = 0 ∧ k b = 0
  fr : ∀ D, Fr D w0 w
section
variable {w0 w w' : World} {pb : Nat} {S S' : SS} {g g' k : Nat → Nat} {sin sca : Sl} {inl came : List Int}
theorem Good.ext (h : Good w0 w pb S g k sin inl sca came) (hs : SyncAt w' pb S' g') (he : Ext g w g' w') : Good w0 w' pb S' g' k sin inl sca came where
  sy := hs
  hin := Own.frame h.hin he.fr (fun b hb hh => by rcases h.dis b with h | h <;> omega)
  hca := Own.frame h.hca he.fr (fun b hb hh => by rcases h.dis b with h | h <;> omega)
  dis := fun b => by
    rcases Nat.lt_or_ge b w.heap.size with hb | hb
    · rw [he.old b hb]; exact h.dis b
    · exact .inr (h.sup b hb)
  sup := fun b hb => h.sup b (Nat.le_trans he.fr.size hb)
  old := fun b hb => ⟨by rw [he.old b (Nat.lt_of_lt_of_le hb (h.fr (fun _ => False)).size)]; exact (h.old b hb).1, (h.old b hb).2⟩
  fr := fun D => (h.fr D).trans he.fr (fun _ _ h => h) (fun b hb hh => absurd (h.old b hb).1 hh)
theorem Good.frame (h : Good w0 w pb S g k sin inl sca came) (hf : ∀ D, Fr D w w') : Good w0 w' pb S g k sin inl sca came where
  sy := h.sy.frame (hf (fun _ => False)) (fun _ h => h.elim)
  hin := Own.frame h.hin (hf (fun _ => False)) (fun _ _ h => h)
  hca := Own.frame h.hca (hf (fun _ => False)) (fun _ _ h => h)
  dis := h.dis
  sup := fun b hb => h.sup b (Nat.le_trans (hf (fun _ => False)).size hb)
  old := h.old
  fr := fun D => (h.fr D).trans (hf D) (fun _ _ h => h) (fun _ _ h => h)
theorem Good.pushIn (h : Good w0 w pb S g k sin inl sca came) {s' : Sl} {x : Int} (ho : OwnI w' 2 s' (inl ++ [x]) (fun b => k b = 1 ∨ w.heap.size ≤ b)) (hf : Fr (k · = 1) w w') :
    Good w0 w' pb S g (retag k w.heap.size w'.heap.size 1) s' (inl ++ [x]) sca came where
  sy := h.sy.frame hf (fun b hb => by have : k b = 1 := hb; rcases h.dis b with h | h <;> omega)
  hin := ho.mono (fun b hb hh => by
    show retag k _ _ _ b = 1
    rcases Nat.lt_or_ge b w.heap.size with h | h
    · rw [retag_old h]; rcases hh with hh | hh; exact hh; omega
    · rw [retag_new h hb])
  hca := Own.retag h.hca hf (fun b hb e => by omega)
  dis := fun b => by
    rcases Nat.lt_or_ge b w.heap.size with hb | hb
    · rw [retag_old hb]; exact h.dis b
    · exact .inl (h.sy.sup b hb)
  sup := fun b hb => retag_sup hf.size hb
  old := fun b hb => ⟨(h.old b hb).1, by rw [retag_old (Nat.lt_of_lt_of_le hb (h.fr (fun _ => False)).size)]; exact (h.old b hb).2⟩
  fr := fun D => (h.fr D).trans hf (fun _ _ h => h) (fun b hb hh => by have := (h.old b hb).2; have : k b = 1 := hh; omega)
theorem Good.pushCame (h : Good w0 w pb S g k sin inl sca came) {s' : Sl} {x : Int} (ho : OwnI w' 3 s' (came ++ [x]) (fun b => k b = 2 ∨ w.heap.size ≤ b)) (hf : Fr (k · = 2) w w') :
    Good w0 w' pb S g (retag k w.heap.size w'.heap.size 2) sin inl s' (came ++ [x]) where
  sy := h.sy.frame hf (fun b hb => by have : k b = 2 := hb; rcases h.dis b with h | h <;> omega)
  hca := ho.mono (fun b hb hh => by
    show retag k _ _ _ b = 2
    rcases Nat.lt_or_ge b w.heap.size with h | h
    · rw [retag_old h]; rcases hh with hh | hh; exact hh; omega
    · rw [retag_new h hb])
  hin := Own.retag h.hin hf (fun b hb e => by omega)
  dis := fun b => by
    rcases Nat.lt_or_ge b w.heap.size with hb | hb
    · rw [retag_old hb]; exact h.dis b
    · exact .inl (h.sy.sup b hb)
  sup := fun b hb => retag_sup hf.size hb
  old := fun b hb => ⟨(h.old b hb).1, by rw [retag_old (Nat.lt_of_lt_of_le hb (h.fr (fun _ => False)).size)]; exact (h.old b hb).2⟩
  fr := fun D => (h.fr D).trans hf (fun _ _ h => h) (fun b hb hh => by have := (h.old b hb).2; have : k b = 2 := hh; omega)
end

/-- one mutex, one condition, one channel, told by what has happened -/
def ordS (ow : Int) (came : List Int) (wk : Int) (inl : List Int) (room out : Int) : SS := ⟨[ow], [came.drop wk.toNat], [⟨inl.drop out.toNat, room, out⟩]⟩
structure Ord (ow : Int) (came : List Int) (wk : Int) (inl : List Int) (room out i : Int) : Prop where
  out0 : 0 ≤ out
  out1 : out ≤ inl.length
  in1 : inl.length ≤ i
  wk0 : 0 ≤ wk
  wk1 : wk ≤ came.length
  ca1 : came.length ≤ i
  ow1 : ow = -1 ∨ 0 ≤ ow ∧ ow < 8
  room1 : 1 ≤ room ∧ room ≤ 16
theorem Ord.fine {ow : Int} {came : List Int} {wk : Int} {inl : List Int} {room out i : Int} (h : Ord ow came wk inl room out i) (hi : i ≤ 1000) : (ordS ow came wk inl room out).fine 1000 := by
  obtain ⟨h1, h2, h3, h4, h5, h6, h7, h8⟩ := h
  constructor
  · intro xs hx; simp only [ordS, List.mem_singleton] at hx; subst hx; simp; omega
  · intro c hc; simp only [ordS, List.mem_singleton] at hc; subst hc; simp; omega
theorem ordS_lock (ow : Int) (came : List Int) (wk : Int) (inl : List Int) (room out t : Int) :
    (ordS ow came wk inl room out).lock 0 t = if thr t ≠ 0 then (ordS ow came wk inl room out, false, thr t) else if ow ≠ -1 then (ordS ow came wk inl room out, false, 0) else (ordS t came wk inl room out, true, 0) := by
  simp [SS.lock, ordS]
theorem ordS_unlock (ow : Int) (came : List Int) (wk : Int) (inl : List Int) (room out t : Int) :
    (ordS ow came wk inl room out).unlock 0 t = if thr t ≠ 0 then (ordS ow came wk inl room out, thr t) else if ow ≠ t then (ordS ow came wk inl room out, 140) else (ordS (-1) came wk inl room out, 0) := by
  simp [SS.unlock, ordS]
theorem ordS_wait (ow : Int) (came : List Int) (wk : Int) (inl : List Int) (room out t : Int) (h : wk ≤ came.length) :
    (∃ e, e ≠ 0 ∧ (ordS ow came wk inl room out).wait 0 t = (ordS ow came wk inl room out, e)) ∨ (ordS ow came wk inl room out).wait 0 t = (ordS ow (came ++ [t]) wk inl room out, 0) := by
  unfold SS.wait
  rw [if_neg (by simp [ordS])]
  by_cases h1 : thr t ≠ 0
  · rw [if_pos h1]; exact .inl ⟨_, h1, rfl⟩
  · rw [if_neg h1]
    by_cases h2 : t ∈ (ordS ow came wk inl room out).conds.flatten
    · rw [if_pos h2]; exact .inl ⟨141, by decide, rfl⟩
    · rw [if_neg h2]
      right
      have : (came ++ [t]).drop wk.toNat = came.drop wk.toNat ++ [t] := by rw [List.drop_append_of_le_length (by omega)]
      simp [ordS, this]
theorem ordS_signal (ow : Int) (came : List Int) (wk : Int) (inl : List Int) (room out : Int) (h0 : 0 ≤ wk) :
    (ordS ow came wk inl room out).signal 0 = if h : wk.toNat < came.length then (ordS ow came (wk + 1) inl room out, came[wk.toNat], true, 0) else (ordS ow came wk inl room out, 0, false, 0) := by
  unfold SS.signal
  rw [if_neg (by simp [ordS])]
  have e : ((ordS ow came wk inl room out).conds[(0 : Int).toNat]?).getD [] = came.drop wk.toNat := rfl
  rw [e]
  by_cases h : wk.toNat < came.length
  · rw [dif_pos h, List.drop_eq_getElem_cons h]
    simp [ordS, show (wk + 1).toNat = wk.toNat + 1 from by omega]
  · rw [dif_neg h, List.drop_eq_nil_of_le (by omega)]
theorem ordS_recv (ow : Int) (came : List Int) (wk : Int) (inl : List Int) (room out : Int) (h0 : 0 ≤ out) :
    (ordS ow came wk inl room out).recv 0 = if h : out.toNat < inl.length then (ordS ow came wk inl room (out + 1), inl[out.toNat], out, true, 0) else (ordS ow came wk inl room out, 0, 0, false, 0) := by
  unfold SS.recv
  rw [if_neg (by simp [ordS])]
  have e : (ordS ow came wk inl room out).chan 0 = ⟨inl.drop out.toNat, room, out⟩ := rfl
  rw [e]
  by_cases h : out.toNat < inl.length
  · rw [dif_pos h]; simp only; rw [List.drop_eq_getElem_cons h]
    simp [ordS, show (out + 1).toNat = out.toNat + 1 from by omega]
  · rw [dif_neg h]; simp only; rw [List.drop_eq_nil_of_le (by omega)]
theorem ordS_send (ow : Int) (came : List Int) (wk : Int) (inl : List Int) (room out v : Int) (h0 : 0 ≤ out) (h1 : out ≤ inl.length) :
    (ordS ow came wk inl room out).send 0 v = if v < -2147483648 ∨ v > 2147483647 then (ordS ow came wk inl room out, 0, false, 2) else if inl.length - out ≥ room then (ordS ow came wk inl room out, 0, false, 0) else
      (ordS ow came wk (inl ++ [v]) room out, (inl.length : Int), true, 0) := by
  unfold SS.send
  rw [if_neg (by simp [ordS])]
  have e : (ordS ow came wk inl room out).chan 0 = ⟨inl.drop out.toNat, room, out⟩ := rfl
  rw [e]
  have el : ((inl.drop out.toNat).length : Int) = inl.length - out := by rw [List.length_drop]; omega
  simp only [el]
  split
  · rfl
  · split
    · rfl
    · have : (inl ++ [v]).drop out.toNat = inl.drop out.toNat ++ [v] := by rw [List.drop_append_of_le_length (by omega)]
      simp [ordS, this]; omega
end Go.Proofs.Ythegnnifbgikmaa
