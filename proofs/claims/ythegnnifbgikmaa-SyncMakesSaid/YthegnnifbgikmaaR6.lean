/- The sync seat: the document's Lock and Unlock. -/
import Derived.Test.YthegnnifbgikmaaR5
set_option linter.unusedVariables false
set_option linter.unusedSimpArgs false
namespace Go.Proofs.Ythegnnifbgikmaa
open Go.X

def RR.lock (R : RR) (m t : Int) : RR × Bool × Int :=
  if m < 0 ∨ m ≥ R.owners.length then (R, false, 4) else if thr t ≠ 0 then (R, false, thr t) else
  if (R.owners[m.toNat]?).getD 0 ≥ 0 then (R, false, 0) else ({ R with owners := R.owners.set m.toNat t }, true, 0)
def RR.unlock (R : RR) (m t : Int) : RR × Int :=
  if m < 0 ∨ m ≥ R.owners.length then (R, 4) else if thr t ≠ 0 then (R, thr t) else
  if (R.owners[m.toNat]?).getD 0 ≠ t then (R, 140) else ({ R with owners := R.owners.set m.toNat (-1) }, 0)
def RR.wait (R : RR) (c t : Int) : RR × Int :=
  if c < 0 ∨ c ≥ R.conds.length then (R, 4) else if thr t ≠ 0 then (R, thr t) else
  if t ∈ R.conds.flatten then (R, 141) else ({ R with conds := R.conds.set c.toNat ((R.conds[c.toNat]?).getD [] ++ [t]) }, 0)
def RR.signal (R : RR) (c : Int) : RR × Int × Int :=
  if c < 0 ∨ c ≥ R.conds.length then (R, -1, 4) else
  match (R.conds[c.toNat]?).getD [] with
  | [] => (R, -1, 0)
  | x :: r => ({ R with conds := R.conds.set c.toNat r }, x, 0)
def RR.all (R : RR) (c : Int) : RR × List Int × Int :=
  if c < 0 ∨ c ≥ R.conds.length then (R, [], 4) else ({ R with conds := R.conds.set c.toNat [] }, (R.conds[c.toNat]?).getD [], 0)
def RR.sentAt (R : RR) (q : Int) : List Int := (R.sent[q.toNat]?).getD []
def RR.takenAt (R : RR) (q : Int) : Int := (R.taken[q.toNat]?).getD 0
def RR.roomAt (R : RR) (q : Int) : Int := (R.rooms[q.toNat]?).getD 0
def RR.values (R : RR) (q : Int) : List Int := (R.sentAt q).drop (R.takenAt q).toNat
def RR.send (R : RR) (q v : Int) : RR × Int × Int :=
  if q < 0 ∨ q ≥ R.rooms.length then (R, -1, 4) else if v < -2147483648 ∨ v > 2147483647 then (R, -1, 2) else
  if ((R.values q).length : Int) ≥ R.roomAt q then (R, -1, 0) else ({ R with sent := R.sent.set q.toNat (R.sentAt q ++ [v]) }, ((R.sentAt q).length : Int), 0)
def RR.recv (R : RR) (q : Int) : RR × Int × Int × Int :=
  if q < 0 ∨ q ≥ R.rooms.length then (R, 0, -1, 4) else
  match R.values q with
  | [] => (R, 0, -1, 0)
  | x :: _ => ({ R with taken := R.taken.set q.toNat (R.takenAt q + 1) }, x, R.takenAt q, 0)
/-- its lists fit each other -/
structure RR.wf (R : RR) : Prop where
  sl : R.sent.length = R.rooms.length
  tl : R.taken.length = R.rooms.length
  t0 : ∀ q : Nat, q < R.rooms.length → 0 ≤ R.takenAt q ∧ R.takenAt q ≤ (R.sentAt q).length

section
variable {w : World} {K : Value → World → Prop} {KP : List PanicEntry → World → Prop} {z : S5} {R : RR} {G : Nat → Prop}
theorem C73 {n : Int} (h : K (.bool (decide (thr n = 0))) w) : XCP Try.prog 73 [.int .i64 n] w K KP := by
  apply E73; unfold F73
  have e : (decide (thr n = 0)) = (decide (n ≥ 0) && decide (n < 8)) := by
    unfold thr
    split
    · rename_i h'
      rcases h' with h' | h' <;> simp <;> omega
    · rename_i h'
      simp; omega
  rw [e] at h
  exact h
theorem thr_two {t : Int} (h : thr t ≠ 0) : thr t = 2 := by
  unfold thr at h ⊢
  split
  · rfl
  · rename_i h'; rw [if_neg h'] at h; exact absurd rfl h

theorem C50 (hr : RefAt w z R G) (hs : R.small) {m t : Int}
    (h : ∀ z' w', RefAt w' z' (R.lock m t).1 (fun b => G b ∨ w.heap.size ≤ b) → (∀ D, Fr D w w') → K (.tuple #[S5.v z', .bool (R.lock m t).2.1, .int .i64 (R.lock m t).2.2]) w') : XCP Try.prog 50 [z.v, .int .i64 m, .int .i64 t] w K KP := by
  show XCP Try.prog 50 [.agg #[.slice z.o.a z.o.l z.o.c, .slice z.c.a z.c.l z.c.c, .slice z.r.a z.r.l z.r.c, .slice z.s.a z.s.l z.s.c, .slice z.t.a z.t.l z.t.c], .int .i64 m, .int .i64 t] w K KP
  apply E50; unfold F50
  intro w0 p w1 p1
  have hB := RB.enter hr
  change RB w w1 w.heap.size w0.heap.size z R _ at hB
  clear_value w0 w1
  have lo := hB.ref.o.2
  unfold RR.lock at h
  intro kb hkb
  -- back as it came
  have back : ∀ (u : World), RB w u w.heap.size w0.heap.size z R (fun b => G b ∧ b < w.heap.size) → ∀ (f e : _), (∀ z' w', RefAt w' z' R (fun b => G b ∨ w.heap.size ≤ b) → (∀ D, Fr D w w') → K (.tuple #[S5.v z', .bool f, .int .i64 e]) w') →
      ∀ u', Fr (fun b => b = w0.heap.size) u u' → K (.tuple #[S5.v z, .bool f, .int .i64 e]) u' := by
    intro u hu f e hk u' hf
    obtain ⟨h1, h2⟩ := hu.ret hf
    exact hk z u' (h1.mono (fun b _ hb => .inl hb.1)) h2
  by_cases hm : m < 0 ∨ m ≥ R.owners.length
  · rw [if_pos hm] at h
    have fin : kb true w1 := hkb _ _ (by rw [if_pos rfl]; exact hB.retD hB.box (back w1 hB _ _ h))
    by_cases h0 : m < 0
    · rw [if_pos (by simpa using h0)]; exact fin
    · rw [if_neg (by simpa using h0)]
      refine ⟨z.o.a, z.o.l, z.o.c, by show w1.cell? (Addr.add ⟨w.heap.size, 0, none⟩ 0) = _; rw [add_lit, hB.box.cell]; rfl, ?_⟩
      rw [show (decide (m ≥ ((z.o.l : Nat) : Int))) = true from by simp; omega]
      exact fin
  · rw [if_neg hm] at h
    have hmt : m.toNat < R.owners.length := by omega
    rw [if_neg (by simp; omega)]
    refine ⟨z.o.a, z.o.l, z.o.c, by show w1.cell? (Addr.add ⟨w.heap.size, 0, none⟩ 0) = _; rw [add_lit, hB.box.cell]; rfl, ?_⟩
    rw [show (decide (m ≥ ((z.o.l : Nat) : Int))) = false from by simp; omega]
    refine hkb _ _ ?_
    rw [if_neg (by decide)]
    refine C73 ⟨_, rfl, ?_⟩
    by_cases ht : thr t ≠ 0
    · rw [if_pos ht] at h
      rw [if_pos (by simpa using ht)]
      have e2 := thr_two ht
      rw [e2] at h
      exact hB.retD hB.box (back w1 hB _ _ h)
    · rw [if_neg ht] at h
      rw [if_neg (by simpa using ht)]
      refine ⟨z.o.a, z.o.l, z.o.c, by show w1.cell? (Addr.add ⟨w.heap.size, 0, none⟩ 0) = _; rw [add_lit, hB.box.cell]; rfl, ?_⟩
      obtain ⟨pa, hpa, hc⟩ := hB.ref.o.nth hmt
      rw [hpa, xptr_some]
      rw [List.getElem?_eq_getElem hmt, Option.getD_some] at h
      refine ⟨by omega, by omega, R.owners[m.toNat], by simpa using hc, ?_⟩
      by_cases ho : R.owners[m.toNat] ≥ 0
      · rw [if_pos ho] at h
        rw [if_pos (by simpa using ho)]
        exact hB.retD hB.box (back w1 hB _ _ h)
      · rw [if_neg ho] at h
        rw [if_neg (by simpa using ho)]
        refine ⟨z.o.a, z.o.l, z.o.c, z.c.a, z.c.l, z.c.c, z.r.a, z.r.l, z.r.c, z.s.a, z.s.l, z.s.c, z.t.a, z.t.l, z.t.c, cellsAt_self hB.box, ?_⟩
        refine C74 (z := z) hB.ref hs fun zc g qc qs w7 hown hold hfr => ⟨zc.o.a, zc.o.l, zc.o.c, zc.c.a, zc.c.l, zc.c.c, zc.r.a, zc.r.l, zc.r.c, zc.s.a, zc.s.l, zc.s.c, zc.t.a, zc.t.l, zc.t.c, rfl, ?_⟩
        intro w8 p3
        have hb8 : Blk w8 w7.heap.size zero5 53 := Blk.new w7 _ _
        have hf8 : ∀ D, Fr D w7 w8 := fun D => Fr.alloc _ _ _
        clear_value w8
        refine storesAt_self hb8 rfl fun w9 hb9 hf9 hs9 => ?_
        have hC := hB.copied hown hold hfr hb9 (fun D => (hf8 D).trans hf9 (fun _ _ h => h) (fun k hk e => by omega))
        refine ⟨zc.o.a, zc.o.l, zc.o.c, by show w9.cell? (Addr.add ⟨w7.heap.size, 0, none⟩ 0) = _; rw [add_lit, hb9.cell]; rfl, ?_⟩
        obtain ⟨pc, hpc, -⟩ := (OwnI_rdI hC.own.o).nth hmt
        have lc := hC.own.o.len
        rw [hpc, xptr_some]
        refine ⟨by omega, by omega, ?_⟩
        rw [Nat.mul_one]
        refine hC.own.setO hmt hpc fun u' hown' hf' hs' => ?_
        have hC' := hC.turn hf' (fun _ _ => rfl) hown'
        refine hC'.base.retD hC'.dst fun u2 hf2 => ?_
        obtain ⟨h1, h2⟩ := hC'.ret hf2
        exact h zc u2 (h1.mono (fun b _ hb => .inr hb)) h2
end
end Go.Proofs.Ythegnnifbgikmaa
