/- The sync seat: the calls of an object. -/
import Derived.Test.YthegnnifbgikmaaS2
set_option linter.unusedVariables false
set_option linter.unusedSimpArgs false
namespace Go.Proofs.Ythegnnifbgikmaa
open Go.X
section
variable {w : World} {K : Value → World → Prop} {KP : List PanicEntry → World → Prop} {pb : Nat} {S : SS} {g : Nat → Nat}

theorem Own.ne {w : World} {z : Nat} {t : TypeId} {a : Option Addr} {l c : Nat} {cs : List Value} {G : Nat → Prop} (h : Own w z t a l c cs G) : ∀ n, n < l → a ≠ none := by
  intro n hn e
  obtain ⟨h1, h2, h | ⟨b, o, B, rfl, _⟩⟩ := h
  · omega
  · cases e
/-- an element's place -/
theorem Own.at_ {w : World} {z : Nat} {t : TypeId} {a : Option Addr} {l c : Nat} {cs : List Value} {G : Nat → Prop} (h : Own w z t a l c cs G) {p : Addr} (hp : a = some p) :
    ∃ b o B, p = ⟨b, o, .none⟩ ∧ G b ∧ Blk w b B t ∧ o + c * z ≤ B.length ∧ ∀ (i : Nat) (v : Value), cs[i]? = some v → B[o + i]? = some v := by
  obtain ⟨h1, h2, h | ⟨b, o, B, rfl, hh⟩⟩ := h
  · rw [h.1] at hp; cases hp
  · cases hp; exact ⟨b, o, B, rfl, hh⟩

theorem ints_get_iff {xs : List Int} {i : Nat} (h : i < xs.length) : (ints xs)[i]? = some (.int .i64 xs[i]) := by simp [ints, h]

theorem C20 (hs : SyncAt w pb S g) {m : Int} (h : K (.tuple #[.int .i64 (S.owner m).1, .int .i64 (S.owner m).2]) w) : XCP Try.prog 20 [.pointer (some ⟨pb, 0, none⟩), .int .i64 m] w K KP := by
  obtain ⟨ow, cd, ch, qs, hs, hR⟩ := hs
  have hl := hR.own.len
  apply E20; unfold F20
  unfold SS.owner at h
  refine C37 hR.blk (Own.ne hR.own) (fun hn => ⟨_, _, rfl, ?_⟩) (fun h0 h1 p hp => ⟨_, _, rfl, ?_⟩)
  · rw [if_pos (by omega)] at h; exact h
  · rw [if_neg (by omega)] at h
    have hlt : m.toNat < S.owners.length := by omega
    rw [List.getElem?_eq_getElem hlt] at h
    have hc := hR.own.rd
    rw [hp] at hc
    exact ⟨_, hc.cell (ints_get_iff hlt), h⟩

/-- the owners' row set -/
theorem SyncR.setOwner {w' : World} {ow cd ch : Sl} {qs hs : List Sl} (hR : SyncR w pb S g ow cd ch qs hs) {i : Nat} {x : Int} (hi : i < S.owners.length) {p : Addr} (hp : ow.a = some p) {Q : World → Prop}
    (h : ∀ w', SyncAt w' pb { S with owners := S.owners.set i x } g → Fr (fun b => g b ≠ 0) w w' → Q w') : storeP w (p.add i) (.int .i64 x) Q := by
  have hl := hR.own.len
  obtain ⟨b, o, B, rfl, hg, hb, hfit, hv⟩ := Own.at_ hR.own hp
  rw [add_lit]
  have hle : ow.l ≤ ow.c := hR.own.2.1
  refine storeP_blk hb (by omega) fun w1 hb1 hf1 hs1 => h w1 ⟨ow, cd, ch, qs, hs, ?_⟩ (hf1.mono (fun k _ e => by subst e; omega))
  exact {
    blk := hf1.blk hR.blk (fun e => by have := hR.tag; rw [e] at this; omega)
    tag := hR.tag
    own := by
      unfold OwnI; rw [ints_set]
      obtain ⟨b', o', B', hp', hg', hb', hlt', hset⟩ := Own.set (w' := w1) (v := .int .i64 x) hR.own (i := i) (by simpa using hi) hp
      cases hp'
      have : B' = B := by have := hb'.symm.trans hb; simpa using this
      subst this
      exact hset hb1
    cds := Own.frame hR.cds hf1 (fun k hk e => by subst e; omega)
    chs := Own.frame hR.chs hf1 (fun k hk e => by subst e; omega)
    nq := hR.nq
    nh := hR.nh
    q := fun j s xs hs hx => Own.frame (hR.q j s xs hs hx) hf1 (fun k hk e => by subst e; omega)
    h := fun j s c hs hx => Own.frame (hR.h j s c hs hx) hf1 (fun k hk e => by subst e; omega)
    sup := fun k hk => hR.sup k (by omega) }

theorem C13 (hs : SyncAt w pb S g) {m t : Int} (h : ∀ w', SyncAt w' pb (S.lock m t).1 g → Fr (fun b => g b ≠ 0) w w' → K (.tuple #[.bool (S.lock m t).2.1, .int .i64 (S.lock m t).2.2]) w') :
    XCP Try.prog 13 [.pointer (some ⟨pb, 0, none⟩), .int .i64 m, .int .i64 t] w K KP := by
  have hs' := hs
  obtain ⟨ow, cd, ch, qs, hs, hR⟩ := hs
  have hl := hR.own.len
  apply E13; unfold F13
  unfold SS.lock at h
  refine C37 hR.blk (Own.ne hR.own) (fun hn => ⟨_, _, rfl, ?_⟩) (fun h0 h1 p hp => ⟨_, _, rfl, ?_⟩)
  · rw [if_pos (by omega)] at h
    intro kb hk
    rw [if_neg (by decide)]
    refine hk _ _ ?_
    intro kb1 hk1
    rw [if_pos (by decide)]
    refine hk1 _ _ ?_
    rw [if_pos rfl]
    exact h w hs' (Fr.refl _ _)
  · rw [if_neg (by omega)] at h
    have hlt : m.toNat < S.owners.length := by omega
    intro kb hk
    rw [if_pos (by decide)]
    refine C39 ⟨_, rfl, ?_⟩
    change kb (thr t) w
    refine hk _ _ ?_
    intro kb1 hk1
    by_cases ht : thr t = 0
    · rw [if_neg (by simp [ht])] at h
      rw [if_neg (by simp [ht])]
      have hc := hR.own.rd
      rw [hp] at hc
      rw [xptr_some]
      rw [List.getElem?_eq_getElem hlt] at h
      refine ⟨_, hc.cell (ints_get_iff hlt), ?_⟩
      refine hk1 _ _ ?_
      by_cases ho : S.owners[m.toNat] = -1
      · rw [if_neg (by simp [ho])] at h
        rw [if_neg (by simp [ho])]
        rw [xptr_some]
        exact hR.setOwner hlt hp (w' := w) fun w' hs1 hf1 => h w' hs1 hf1
      · rw [if_pos (by simpa using ho)] at h
        rw [if_pos (by simpa using ho), ht]
        exact h w hs' (Fr.refl _ _)
    · rw [if_pos ht] at h
      rw [if_pos (by simpa using ht)]
      refine hk1 _ _ ?_
      rw [if_pos rfl]
      exact h w hs' (Fr.refl _ _)

theorem C15 (hs : SyncAt w pb S g) {m t : Int} (h : ∀ w', SyncAt w' pb (S.unlock m t).1 g → Fr (fun b => g b ≠ 0) w w' → K (.int .i64 (S.unlock m t).2) w') :
    XCP Try.prog 15 [.pointer (some ⟨pb, 0, none⟩), .int .i64 m, .int .i64 t] w K KP := by
  have hs' := hs
  obtain ⟨ow, cd, ch, qs, hs, hR⟩ := hs
  have hl := hR.own.len
  apply E15; unfold F15
  unfold SS.unlock at h
  refine C37 hR.blk (Own.ne hR.own) (fun hn => ⟨_, _, rfl, ?_⟩) (fun h0 h1 p hp => ⟨_, _, rfl, ?_⟩)
  · rw [if_pos (by omega)] at h
    intro kb hk
    rw [if_neg (by decide)]
    refine hk _ _ ?_
    rw [if_pos (by decide)]
    exact h w hs' (Fr.refl _ _)
  · rw [if_neg (by omega)] at h
    have hlt : m.toNat < S.owners.length := by omega
    intro kb hk
    rw [if_pos (by decide)]
    refine C39 ⟨_, rfl, ?_⟩
    change kb (thr t) w
    refine hk _ _ ?_
    by_cases ht : thr t = 0
    · rw [if_neg (by simp [ht])] at h
      rw [if_neg (by simp [ht])]
      have hc := hR.own.rd
      rw [hp] at hc
      rw [xptr_some]
      rw [List.getElem?_eq_getElem hlt] at h
      refine ⟨_, hc.cell (ints_get_iff hlt), ?_⟩
      by_cases ho : S.owners[m.toNat] = t
      · rw [if_neg (by simp [ho])] at h
        rw [if_neg (by simp [ho])]
        rw [xptr_some]
        exact hR.setOwner hlt hp (w' := w) fun w' hs1 hf1 => h w' hs1 hf1
      · rw [if_pos (by simpa using ho)] at h
        rw [if_pos (by simpa using ho)]
        exact h w hs' (Fr.refl _ _)
    · rw [if_pos ht] at h
      rw [if_pos (by simpa using ht)]
      exact h w hs' (Fr.refl _ _)

/-- Waits: the list is a copy -/
theorem C21 (hs : SyncAt w pb S g) {n : Nat} (hf : S.fine n) (hn : n ≤ 1000000) {m : Int} (h : ∀ (s' : Sl) (w' : World), OwnI w' 3 s' (S.waits m).1 (fun k => w.heap.size ≤ k) → (∀ D, Fr D w w') → K (.tuple #[s'.v, .int .i64 (S.waits m).2]) w') :
    XCP Try.prog 21 [.pointer (some ⟨pb, 0, none⟩), .int .i64 m] w K KP := by
  obtain ⟨ow, cd, ch, qs, hs, hR⟩ := hs
  have hl : cd.l = S.conds.length := by have := hR.cds.1; have := hR.nq; simp at *; omega
  apply E21; unfold F21
  unfold SS.waits at h
  refine C40 hR.blk (Own.ne hR.cds) (fun hn => ⟨_, _, rfl, ?_⟩) (fun h0 h1 p hp => ⟨_, _, rfl, ?_⟩)
  · rw [if_pos (by omega)] at h
    rw [if_pos (by decide)]
    exact h ⟨none, 0, 0⟩ w (Own.none _ _ _ _) (fun D => Fr.refl D w)
  · rw [if_neg (by omega)] at h
    rw [if_neg (by decide), xptr_some]
    have hlt : m.toNat < S.conds.length := by omega
    have hlq : m.toNat < qs.length := by rw [hR.nq]; exact hlt
    rw [List.getElem?_eq_getElem hlt] at h
    obtain ⟨b, o, B, rfl, hg, hb, hfit, hv⟩ := Own.at_ hR.cds hp
    have hq := hR.q m.toNat _ _ (List.getElem?_eq_getElem hlq) (List.getElem?_eq_getElem hlt)
    simp only [add_lit, Nat.add_zero, hb.cell]
    refine ⟨_, _, _, hv m.toNat qs[m.toNat].v (by simp [hlq]), ?_⟩
    refine C49 hq.rd hq.len (by have := hf.conds _ (List.getElem_mem hlt); omega) fun s' w' ho' hf' => ⟨_, _, _, rfl, ?_⟩
    exact h s' w' ho' hf'
end
end Go.Proofs.Ythegnnifbgikmaa
