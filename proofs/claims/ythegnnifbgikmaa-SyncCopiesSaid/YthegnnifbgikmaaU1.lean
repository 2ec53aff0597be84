/- The sync seat: the document's state and the object's are one. -/
import Derived.Test.YthegnnifbgikmaaR15
set_option linter.unusedVariables false
set_option linter.unusedSimpArgs false
namespace Go.Proofs.Ythegnnifbgikmaa
open Go.X

def RR.chans (R : RR) : List Ch := (List.range R.rooms.length).map fun (q : Nat) => (⟨R.values (q : Int), R.roomAt (q : Int), R.takenAt (q : Int)⟩ : Ch)
def RR.toSS (R : RR) : SS := ⟨R.owners, R.conds, R.chans⟩
/-- its lists fit each other, and have grown no more than so -/
structure RR.good (R : RR) (n : Nat) : Prop where
  ol : R.owners.length ≤ 64
  cl : R.conds.length ≤ 64
  rl : R.rooms.length ≤ 64
  sl : R.sent.length = R.rooms.length
  tl : R.taken.length = R.rooms.length
  own : ∀ x ∈ R.owners, -1 ≤ x
  cd : ∀ xs ∈ R.conds, xs.length ≤ n ∧ ∀ t ∈ xs, 0 ≤ t
  rm : ∀ r ∈ R.rooms, 1 ≤ r ∧ r ≤ 16
  st : ∀ xs ∈ R.sent, xs.length ≤ n
  tk : ∀ q : Nat, q < R.rooms.length → 0 ≤ R.takenAt q ∧ R.takenAt q ≤ (R.sentAt q).length
theorem RR.good.small {R : RR} {n : Nat} (h : R.good n) (hn : n ≤ 1000000) : R.small where
  o := by have := h.ol; omega
  c := by have := h.cl; omega
  r := by have := h.rl; omega
  s := by have := h.rl; have := h.sl; omega
  t := by have := h.rl; have := h.tl; omega
  ci := fun xs hx => by have := (h.cd xs hx).1; omega
  si := fun xs hx => by have := h.st xs hx; omega
theorem RR.good.wf {R : RR} {n : Nat} (h : R.good n) : R.wf := ⟨h.sl, h.tl, h.tk⟩
theorem RR.good.mono {R : RR} {n m : Nat} (h : R.good n) (hnm : n ≤ m) : R.good m :=
  { h with cd := fun xs hx => ⟨Nat.le_trans (h.cd xs hx).1 hnm, (h.cd xs hx).2⟩, st := fun xs hx => Nat.le_trans (h.st xs hx) hnm }
theorem getD_mem {α : Type} {l : List α} {i : Nat} {d : α} (hi : i < l.length) : (l[i]?).getD d ∈ l := by
  rw [List.getElem?_eq_getElem hi]; exact List.getElem_mem _
theorem RR.good.sentLen {R : RR} {n : Nat} (h : R.good n) (q : Nat) (hq : q < R.rooms.length) : (R.sentAt q).length ≤ n := by
  have : (q : Int).toNat < R.sent.length := by have := h.sl; omega
  exact h.st _ (getD_mem this)
theorem RR.values_length (R : RR) (q : Int) : (R.values q).length = (R.sentAt q).length - (R.takenAt q).toNat := by simp [RR.values]
theorem RR.good.fine {R : RR} {n : Nat} (h : R.good n) : R.toSS.fine n where
  conds := fun xs hx => (h.cd xs hx).1
  chans := fun c hc => by
    simp only [RR.toSS, RR.chans, List.mem_map, List.mem_range] at hc
    obtain ⟨q, hq, rfl⟩ := hc
    have h1 := h.sentLen q hq
    have h2 := h.tk q hq
    have h3 : R.roomAt q ∈ R.rooms := getD_mem (by simpa using hq)
    have h4 := R.values_length q
    have h5 := h.rm _ h3
    exact ⟨by show (R.values q).length ≤ n; omega, h2.1, by show R.takenAt q ≤ n; omega, h5⟩
theorem RR.chans_length (R : RR) : R.chans.length = R.rooms.length := by simp [RR.chans]
theorem RR.chan_at (R : RR) (q : Int) (h0 : 0 ≤ q) (h1 : q < R.rooms.length) : R.toSS.chan q = ⟨R.values q, R.roomAt q, R.takenAt q⟩ := by
  have hq : q.toNat < R.rooms.length := by omega
  have e : ((q.toNat : Nat) : Int) = q := by omega
  simp only [SS.chan, RR.toSS, RR.chans]
  rw [List.getElem?_map, List.getElem?_range hq]
  simp only [Option.map_some, Option.getD_some, e]

theorem lock_eq {R : RR} {n : Nat} (h : R.good n) (m t : Int) : R.toSS.lock m t = ((R.lock m t).1.toSS, (R.lock m t).2) := by
  unfold SS.lock RR.lock
  simp only [show R.toSS.owners = R.owners from rfl]
  by_cases h1 : m < 0 ∨ m ≥ R.owners.length
  · rw [if_pos h1, if_pos h1]
  · rw [if_neg h1, if_neg h1]
    by_cases h2 : thr t ≠ 0
    · rw [if_pos h2, if_pos h2]
    · rw [if_neg h2, if_neg h2]
      have h3 := h.own _ (getD_mem (l := R.owners) (i := m.toNat) (d := 0) (by omega))
      by_cases h4 : (R.owners[m.toNat]?).getD 0 ≥ 0
      · rw [if_pos h4, if_pos (by omega)]
      · rw [if_neg h4, if_neg (by omega)]; rfl
theorem unlock_eq (R : RR) (m t : Int) : R.toSS.unlock m t = ((R.unlock m t).1.toSS, (R.unlock m t).2) := by
  unfold SS.unlock RR.unlock
  simp only [show R.toSS.owners = R.owners from rfl]
  split
  · rfl
  · split
    · rfl
    · split <;> rfl
theorem wait_eq (R : RR) (c t : Int) : R.toSS.wait c t = ((R.wait c t).1.toSS, (R.wait c t).2) := by
  unfold SS.wait RR.wait
  simp only [show R.toSS.conds = R.conds from rfl]
  split
  · rfl
  · split
    · rfl
    · split <;> rfl
theorem signal_eq {R : RR} {n : Nat} (h : R.good n) (c : Int) : R.toSS.signal c = ((R.signal c).1.toSS, max (R.signal c).2.1 0, decide ((R.signal c).2.1 ≥ 0), (R.signal c).2.2) := by
  unfold SS.signal RR.signal
  simp only [show R.toSS.conds = R.conds from rfl]
  by_cases h1 : c < 0 ∨ c ≥ R.conds.length
  · rw [if_pos h1, if_pos h1]; rfl
  · rw [if_neg h1, if_neg h1]
    have h3 := (h.cd _ (getD_mem (l := R.conds) (i := c.toNat) (d := []) (by omega))).2
    cases hc : (R.conds[c.toNat]?).getD [] with
    | nil => rfl
    | cons x r =>
      have := h3 x (by rw [hc]; simp)
      simp only [show max x 0 = x from by omega, show decide (x ≥ 0) = true from by simpa using this]; rfl
def SS.all (S : SS) (c : Int) : SS × List Int × Int :=
  if c < 0 ∨ c ≥ S.conds.length then (S, [], 4) else ({ S with conds := S.conds.set c.toNat [] }, (S.conds[c.toNat]?).getD [], 0)
theorem all_eq (R : RR) (c : Int) : R.toSS.all c = ((R.all c).1.toSS, (R.all c).2) := by
  unfold SS.all RR.all
  simp only [show R.toSS.conds = R.conds from rfl]
  split <;> rfl
theorem chans_ext {R R' : RR} {m : Nat} {c : Ch} (hm : m < R.rooms.length) (hr : R'.rooms = R.rooms) (hc : c = ⟨R'.values m, R'.roomAt m, R'.takenAt m⟩)
    (ho : ∀ q : Nat, q ≠ m → R'.values q = R.values q ∧ R'.takenAt q = R.takenAt q) : R.chans.set m c = R'.chans := by
  apply List.ext_getElem?
  intro i
  rw [List.getElem?_set]
  by_cases hi : m = i
  · subst hi
    rw [if_pos rfl, if_pos (by rw [R.chans_length]; exact hm)]
    simp only [RR.chans, hr, List.getElem?_map, List.getElem?_range hm, Option.map_some, hc]
  · rw [if_neg hi]
    have := ho i (Ne.symm hi)
    simp only [RR.chans, hr, List.getElem?_map]
    rcases Nat.lt_or_ge i R.rooms.length with h | h
    · rw [List.getElem?_range h]; simp only [Option.map_some, this.1, this.2, RR.roomAt, hr]
    · rw [List.getElem?_eq_none (by simpa using h)]; rfl
theorem send_eq {R : RR} {n : Nat} (h : R.good n) (m v : Int) : R.toSS.send m v = ((R.send m v).1.toSS, max (R.send m v).2.1 0, decide ((R.send m v).2.1 ≥ 0), (R.send m v).2.2) := by
  unfold SS.send RR.send
  rw [show R.toSS.chans.length = R.rooms.length from R.chans_length]
  by_cases h1 : m < 0 ∨ m ≥ R.rooms.length
  · rw [if_pos h1, if_pos h1]; rfl
  · rw [if_neg h1, if_neg h1]
    by_cases h2 : v < -2147483648 ∨ v > 2147483647
    · rw [if_pos h2, if_pos h2]; rfl
    · rw [if_neg h2, if_neg h2, R.chan_at m (by omega) (by omega)]
      simp only
      by_cases h3 : ((R.values m).length : Int) ≥ R.roomAt m
      · rw [if_pos h3, if_pos h3]; rfl
      · rw [if_neg h3, if_neg h3]
        have ht := h.tk m.toNat (by omega)
        have hm : ((m.toNat : Nat) : Int) = m := by omega
        rw [hm] at ht
        have hl := R.values_length m
        have hsl := h.sl
        have e1 : R.takenAt m + ((R.values m).length : Int) = ((R.sentAt m).length : Int) := by omega
        have e2 : max ((R.sentAt m).length : Int) 0 = ((R.sentAt m).length : Int) := by omega
        have e3 : decide (((R.sentAt m).length : Int) ≥ 0) = true := by simp
        simp only [e1, e2, e3]
        have hs : ∀ q : Nat, RR.sentAt { R with sent := R.sent.set m.toNat (R.sentAt m ++ [v]) } q = if q = m.toNat then R.sentAt m ++ [v] else R.sentAt q := fun q => by
          simp only [RR.sentAt, Int.toNat_natCast, List.getElem?_set]
          by_cases hq : q = m.toNat
          · subst hq; simp [show m.toNat < R.sent.length by omega]
          · rw [if_neg (Ne.symm hq), if_neg hq]
        congr 1
        simp only [RR.toSS]
        congr 1
        refine chans_ext (by omega) rfl ?_ fun q hq => ⟨?_, rfl⟩
        · simp only [RR.values, RR.roomAt, hs, if_pos, RR.takenAt, Int.toNat_natCast]
          rw [List.drop_append_of_le_length (by have := ht.2; simp only [RR.takenAt] at this; omega)]
        · simp only [RR.values, hs, if_neg hq]; rfl
theorem recv_eq {R : RR} {n : Nat} (h : R.good n) (m : Int) : R.toSS.recv m = ((R.recv m).1.toSS, (R.recv m).2.1, max (R.recv m).2.2.1 0, decide ((R.recv m).2.2.1 ≥ 0), (R.recv m).2.2.2) := by
  unfold SS.recv RR.recv
  rw [show R.toSS.chans.length = R.rooms.length from R.chans_length]
  by_cases h1 : m < 0 ∨ m ≥ R.rooms.length
  · rw [if_pos h1, if_pos h1]; rfl
  · rw [if_neg h1, if_neg h1, R.chan_at m (by omega) (by omega)]
    simp only
    have ht := h.tk m.toNat (by omega)
    have hm : ((m.toNat : Nat) : Int) = m := by omega
    rw [hm] at ht
    have htl := h.tl
    cases hv : R.values m with
    | nil => rfl
    | cons x r =>
      have e2 : max (R.takenAt m) 0 = R.takenAt m := by omega
      have e3 : decide (R.takenAt m ≥ 0) = true := by simpa using ht.1
      simp only [e2, e3]
      have hs : ∀ q : Nat, RR.takenAt { R with taken := R.taken.set m.toNat (R.takenAt m + 1) } q = if q = m.toNat then R.takenAt m + 1 else R.takenAt q := fun q => by
        simp only [RR.takenAt, Int.toNat_natCast, List.getElem?_set]
        by_cases hq : q = m.toNat
        · subst hq; simp [show m.toNat < R.taken.length by omega]
        · rw [if_neg (Ne.symm hq), if_neg hq]
      congr 1
      simp only [RR.toSS]
      congr 1
      refine chans_ext (by omega) rfl ?_ fun q hq => ⟨?_, by simp only [hs, if_neg hq]⟩
      · simp only [RR.values, RR.roomAt, hs, if_pos, Int.toNat_natCast]
        have : r = (R.values m).drop 1 := by rw [hv]; rfl
        rw [this, RR.values, List.drop_drop, show (R.takenAt m + 1).toNat = (R.takenAt m).toNat + 1 from by omega]
        simp only [RR.sentAt, Int.toNat_natCast]
      · simp only [RR.values, hs, if_neg hq]; rfl

/-! ### one call -/
structure Act where
  what : Int
  n : Int
  thread : Int
  value : Int
def Act.cells (x : Act) : List Value := [.int .i64 x.what, .int .i64 x.n, .int .i64 x.thread, .int .i64 x.value]
def Act.v (x : Act) : Value := .agg #[.int .i64 x.what, .int .i64 x.n, .int .i64 x.thread, .int .i64 x.value]
def RR.act (R : RR) (x : Act) : RR :=
  if x.what = 0 then (R.lock x.n x.thread).1 else if x.what = 1 then (R.unlock x.n x.thread).1 else if x.what = 2 then (R.wait x.n x.thread).1 else
  if x.what = 3 then (R.signal x.n).1 else if x.what = 4 then (R.all x.n).1 else if x.what = 5 then (R.send x.n x.value).1 else (R.recv x.n).1
theorem thr_ok {t : Int} (h : ¬ thr t ≠ 0) : 0 ≤ t ∧ t < 8 := by
  unfold thr at h; split at h <;> omega
theorem mem_set' {α : Type} {l : List α} {i : Nat} {x y : α} (h : y ∈ l.set i x) : y = x ∨ y ∈ l := by
  rcases List.mem_or_eq_of_mem_set h with h | h
  · exact .inr h
  · exact .inl h
theorem good_lock {R : RR} {n : Nat} (h : R.good n) (m t : Int) : (R.lock m t).1.good n := by
  unfold RR.lock
  split
  · exact h
  · split
    · exact h
    · rename_i h2
      have := thr_ok h2
      split
      · exact h
      · exact { h with ol := by simpa using h.ol, own := fun x hx => by rcases mem_set' hx with e | e; omega; exact h.own x e }
theorem good_unlock {R : RR} {n : Nat} (h : R.good n) (m t : Int) : (R.unlock m t).1.good n := by
  unfold RR.unlock
  split
  · exact h
  · split
    · exact h
    · split
      · exact h
      · exact { h with ol := by simpa using h.ol, own := fun x hx => by rcases mem_set' hx with e | e; omega; exact h.own x e }
theorem good_wait {R : RR} {n : Nat} (h : R.good n) (m t : Int) : (R.wait m t).1.good (n + 1) := by
  unfold RR.wait
  split
  · exact h.mono (by omega)
  · split
    · exact h.mono (by omega)
    · rename_i h1 h2
      have := thr_ok h2
      split
      · exact h.mono (by omega)
      · have hc := h.cd _ (getD_mem (l := R.conds) (i := m.toNat) (d := []) (by omega))
        exact { h.mono (Nat.le_succ n) with
                cl := by simpa using h.cl
                cd := fun xs hx => by
                  rcases mem_set' hx with e | e
                  · subst e
                    refine ⟨by simp; omega, fun u hu => ?_⟩
                    rcases List.mem_append.1 hu with hu | hu
                    · exact hc.2 u hu
                    · simp at hu; omega
                  · exact ⟨Nat.le_succ_of_le (h.cd xs e).1, (h.cd xs e).2⟩ }
theorem good_signal {R : RR} {n : Nat} (h : R.good n) (m : Int) : (R.signal m).1.good n := by
  unfold RR.signal
  split
  · exact h
  · have hc := h.cd _ (getD_mem (l := R.conds) (i := m.toNat) (d := []) (by omega))
    cases hl : (R.conds[m.toNat]?).getD [] with
    | nil => exact h
    | cons x r =>
      rw [hl] at hc
      simp only [List.length_cons, List.mem_cons] at hc
      exact { h with
                cl := by simpa using h.cl
                cd := fun xs hx => by
                  rcases mem_set' hx with e | e
                  · subst e; exact ⟨by omega, fun t ht => hc.2 t (.inr ht)⟩
                  · exact h.cd xs e }
theorem good_all {R : RR} {n : Nat} (h : R.good n) (m : Int) : (R.all m).1.good n := by
  unfold RR.all
  split
  · exact h
  · exact { h with
                cl := by simpa using h.cl
                cd := fun xs hx => by
                  rcases mem_set' hx with e | e
                  · subst e; simp
                  · exact h.cd xs e }
theorem good_send {R : RR} {n : Nat} (h : R.good n) (m v : Int) : (R.send m v).1.good (n + 1) := by
  unfold RR.send
  split
  · exact h.mono (by omega)
  · split
    · exact h.mono (by omega)
    · split
      · exact h.mono (by omega)
      · rename_i h1 _ _
        have hsl := h.sl
        have hc := h.st _ (getD_mem (l := R.sent) (i := m.toNat) (d := []) (by omega))
        refine { h.mono (Nat.le_succ n) with sl := by simpa using h.sl, st := fun xs hx => ?_, tk := fun q hq => ?_ }
        · rcases mem_set' hx with e | e
          · subst e; simp only [RR.sentAt, List.length_append, List.length_cons, List.length_nil]; omega
          · exact Nat.le_succ_of_le (h.st xs e)
        · have := h.tk q hq
          refine ⟨this.1, Int.le_trans this.2 ?_⟩
          simp only [RR.sentAt, Int.toNat_natCast, List.getElem?_set]
          by_cases e : m.toNat = q
          · subst e; rw [if_pos rfl, if_pos (by omega)]; simp; omega
          · rw [if_neg e]; exact Int.le_refl _
theorem good_recv {R : RR} {n : Nat} (h : R.good n) (m : Int) : (R.recv m).1.good n := by
  unfold RR.recv
  split
  · exact h
  · rename_i h1
    have htl := h.tl
    cases hv : R.values m with
    | nil => exact h
    | cons x r =>
      have ht := h.tk m.toNat (by omega)
      have hm : ((m.toNat : Nat) : Int) = m := by omega
      rw [hm] at ht
      have hl := R.values_length m
      rw [hv, List.length_cons] at hl
      refine { h with tl := by simpa using h.tl, tk := fun q hq => ?_ }
      have := h.tk q hq
      simp only [RR.takenAt, Int.toNat_natCast, List.getElem?_set] at this ⊢
      by_cases e : m.toNat = q
      · subst e
        rw [if_pos rfl, if_pos (by omega)]
        simp only [Option.getD_some]
        have e2 : (R.taken[m.toNat]?).getD 0 = R.takenAt m := rfl
        have e3 : RR.sentAt R ((m.toNat : Nat) : Int) = R.sentAt m := by rw [hm]
        show 0 ≤ R.takenAt m + 1 ∧ R.takenAt m + 1 ≤ ((RR.sentAt R ((m.toNat : Nat) : Int)).length : Int)
        rw [e3]
        omega
      · rw [if_neg e]; exact this
theorem good_act {R : RR} {n : Nat} (h : R.good n) (x : Act) : (R.act x).good (n + 1) := by
  unfold RR.act
  split
  · exact (good_lock h _ _).mono (by omega)
  split
  · exact (good_unlock h _ _).mono (by omega)
  split
  · exact good_wait h _ _
  split
  · exact (good_signal h _).mono (by omega)
  split
  · exact (good_all h _).mono (by omega)
  split
  · exact good_send h _ _
  · exact (good_recv h _).mono (by omega)
end Go.Proofs.Ythegnnifbgikmaa
