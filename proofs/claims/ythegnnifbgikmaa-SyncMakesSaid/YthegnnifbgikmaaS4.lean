/- The sync seat: the calls that move queues. -/
import Derived.Test.YthegnnifbgikmaaS3
set_option linter.unusedVariables false
set_option linter.unusedSimpArgs false
namespace Go.Proofs.Ythegnnifbgikmaa
open Go.X
section
variable {w : World} {K : Value → World → Prop} {KP : List PanicEntry → World → Prop} {pb : Nat} {S : SS} {g : Nat → Nat}

theorem set_same {α : Type} {l : List α} {i : Nat} {x : α} (h : l[i]? = some x) : l.set i x = l := by
  obtain ⟨hi, rfl⟩ := List.getElem?_eq_some_iff.1 h
  exact List.set_getElem_self hi

theorem SyncR.setCond {w' : World} {ow cd ch : Sl} {qs hs : List Sl} (hR : SyncR w pb S g ow cd ch qs hs) {i : Nat} {xs' : List Int} {s' : Sl} (hi : i < S.conds.length) {b o : Nat} {B : List Value} (hp : cd.a = some ⟨b, o, none⟩) (hb : Blk w b B 93)
    (hb' : Blk w' b (B.set (o + i) s'.v) 93) (ho : OwnI w' 3 s' xs' (fun k => g k = 5 + 2 * i ∨ w.heap.size ≤ k)) (hf : Fr (fun k => k = b ∨ g k = 5 + 2 * i) w w') (hg : g b = 3) :
    SyncAt w' pb { S with conds := S.conds.set i xs' } (retag g w.heap.size w'.heap.size (5 + 2 * i)) ∧ Ext g w (retag g w.heap.size w'.heap.size (5 + 2 * i)) w' := by
  have hlq : i < qs.length := by rw [hR.nq]; exact hi
  refine ⟨⟨ow, cd, ch, qs.set i s', hs, ?_⟩, Ext.retag (hf.mono (fun k _ e => by rcases e with e | e <;> first | omega | (subst e; omega)))⟩
  exact {
    blk := hf.blk hR.blk (fun e => by have := hR.tag; rcases e with e | e <;> first | omega | (rw [e] at this; omega))
    tag := by rw [retag_old hR.blk.lt]; exact hR.tag
    own := Own.retag hR.own hf (fun k hk e => by rcases e with e | e <;> first | omega | (subst e; omega))
    cds := by
      obtain ⟨b2, o2, B2, hp2, hg2, hb2, hlt2, hset⟩ := Own.set (w' := w') (v := s'.v) hR.cds (i := i) (by simpa using hlq) hp
      cases hp2
      have : B2 = B := by have := hb2.symm.trans hb; simpa using this
      subst this
      have := hset hb'
      rw [List.map_set]
      have hk := this.1
      obtain ⟨h1, h2, h | ⟨b3, o3, B3, h3, h4, h5, h6⟩⟩ := this
      · rw [h.1] at hp; cases hp
      · rw [hp] at h3; cases h3
        exact ⟨h1, h2, .inr ⟨b, o, B3, hp, by show retag g _ _ _ b = 3; rw [retag_old hb.lt]; exact hg, h5, h6⟩⟩
    chs := Own.retag hR.chs hf (fun k hk e => by rcases e with e | e <;> first | omega | (subst e; omega))
    nq := by simpa using hR.nq
    nh := hR.nh
    q := fun j s xs hs hx => by
      by_cases hj : i = j
      · subst hj
        rw [List.getElem?_set_self (by simpa using hlq)] at hs
        rw [List.getElem?_set_self (by simpa using hi)] at hx
        cases hs; cases hx
        refine ho.mono (fun k hk hh => ?_)
        show retag g _ _ _ k = _
        rcases Nat.lt_or_ge k w.heap.size with h | h
        · rw [retag_old h]; rcases hh with hh | hh; exact hh; omega
        · rw [retag_new h hk]
      · rw [List.getElem?_set_ne hj] at hs
        rw [List.getElem?_set_ne hj] at hx
        exact Own.retag (hR.q j s xs hs hx) hf (fun k hk e => by rcases e with e | e <;> first | omega | (subst e; omega))
    h := fun j s c hs hx => Own.retag (hR.h j s c hs hx) hf (fun k hk e => by rcases e with e | e <;> first | omega | (subst e; omega))
    sup := fun k hk => retag_sup hf.size hk }

theorem SyncR.setChan {w' : World} {ow cd ch : Sl} {qs hs : List Sl} (hR : SyncR w pb S g ow cd ch qs hs) {i : Nat} {xs' : List Int} {f : Int} {s' : Sl} {c : Ch} (hi : S.chans[i]? = some c) {b o : Nat} {B : List Value} (hp : ch.a = some ⟨b, o, none⟩) (hb : Blk w b B 81)
    (hb' : Blk w' b ((B.set (o + i * 3) s'.v).set (o + (i * 3 + 2)) (.int .i64 f)) 81) (ho : OwnI w' 2 s' xs' (fun k => g k = 6 + 2 * i ∨ w.heap.size ≤ k)) (hf : Fr (fun k => k = b ∨ g k = 6 + 2 * i) w w') (hg : g b = 4) :
    SyncAt w' pb { S with chans := S.chans.set i { c with l := xs', first := f } } (retag g w.heap.size w'.heap.size (6 + 2 * i)) ∧ Ext g w (retag g w.heap.size w'.heap.size (6 + 2 * i)) w' := by
  have hlc : i < S.chans.length := (List.getElem?_eq_some_iff.1 hi).1
  have hlq : i < hs.length := by rw [hR.nh]; exact hlc
  refine ⟨⟨ow, cd, ch, qs, hs.set i s', ?_⟩, Ext.retag (hf.mono (fun k _ e => by rcases e with e | e <;> first | omega | (subst e; omega)))⟩
  exact {
    blk := hf.blk hR.blk (fun e => by have := hR.tag; rcases e with e | e <;> first | omega | (rw [e] at this; omega))
    tag := by rw [retag_old hR.blk.lt]; exact hR.tag
    own := Own.retag hR.own hf (fun k hk e => by rcases e with e | e <;> first | omega | (subst e; omega))
    cds := Own.retag hR.cds hf (fun k hk e => by rcases e with e | e <;> first | omega | (subst e; omega))
    chs := by
      have hcl := chCells_length hs S.chans hR.nh
      have hcell : chCells (hs.set i s') (S.chans.set i { c with l := xs', first := f }) = ((chCells hs S.chans).set (i * 3) s'.v).set (i * 3 + 2) (.int .i64 f) := by
        rw [← chCells_set (s' := s') (l := xs') hi hlq]
        have hi' : (S.chans.set i { c with l := xs' })[i]? = some { c with l := xs' } := List.getElem?_set_self (by simpa using hlc)
        rw [← chCells_first (f := f) hi' (by simpa using hlq)]
        simp [List.set_set]
      rw [hcell]
      obtain ⟨h1, h2, h | ⟨b3, o3, B3, h3, h4, h5, h6, h7⟩⟩ := hR.chs
      · rw [h.1] at hp; cases hp
      · rw [hp] at h3; cases h3
        have : B3 = B := by have := h5.symm.trans hb; simpa using this
        subst this
        have hle : ch.l * 3 ≤ ch.c * 3 := Nat.mul_le_mul_right _ h2
        refine ⟨by simpa using h1, h2, .inr ⟨b, o, _, hp, by show retag g _ _ _ b = 4; rw [retag_old hb.lt]; exact hg, hb', by simpa using h6, fun j u hu => ?_⟩⟩
        have hB : ∀ j, j < (chCells hs S.chans).length → o + j < B3.length := fun j hj => by omega
        rw [List.getElem?_set] at hu ⊢
        simp only [List.length_set] at hu ⊢
        by_cases hj : i * 3 + 2 = j
        · subst hj
          rw [if_pos rfl] at hu ⊢
          rw [if_pos (by omega)] at hu
          rw [if_pos (by omega)]; exact hu
        · rw [if_neg hj] at hu; rw [if_neg (by omega)]
          rw [List.getElem?_set] at hu ⊢
          by_cases hj2 : i * 3 = j
          · subst hj2
            rw [if_pos rfl] at hu ⊢
            rw [if_pos (by omega)] at hu
            rw [if_pos (by omega)]; exact hu
          · rw [if_neg hj2] at hu; rw [if_neg (by omega)]; exact h7 j u hu
    nq := hR.nq
    nh := by simpa using hR.nh
    q := fun j s xs hs hx => Own.retag (hR.q j s xs hs hx) hf (fun k hk e => by rcases e with e | e <;> first | omega | (subst e; omega))
    h := fun j s c' hs hx => by
      by_cases hj : i = j
      · subst hj
        rw [List.getElem?_set_self (by simpa using hlq)] at hs
        rw [List.getElem?_set_self (by simpa using hlc)] at hx
        cases hs; cases hx
        refine ho.mono (fun k hk hh => ?_)
        show retag g _ _ _ k = _
        rcases Nat.lt_or_ge k w.heap.size with h | h
        · rw [retag_old h]; rcases hh with hh | hh; exact hh; omega
        · rw [retag_new h hk]
      · rw [List.getElem?_set_ne hj] at hs
        rw [List.getElem?_set_ne hj] at hx
        exact Own.retag (hR.h j s c' hs hx) hf (fun k hk e => by rcases e with e | e <;> first | omega | (subst e; omega))
    sup := fun k hk => retag_sup hf.size hk }

theorem C17 (hs : SyncAt w pb S g) {m : Int} (h : ∀ g' w', SyncAt w' pb (S.signal m).1 g' → Ext g w g' w' → K (.tuple #[.int .i64 (S.signal m).2.1, .bool (S.signal m).2.2.1, .int .i64 (S.signal m).2.2.2]) w') :
    XCP Try.prog 17 [.pointer (some ⟨pb, 0, none⟩), .int .i64 m] w K KP := by
  have hs' := hs
  obtain ⟨ow, cd, ch, qs, hs, hR⟩ := hs
  have hl : cd.l = S.conds.length := by have := hR.cds.1; have := hR.nq; simp at *; omega
  apply E17; unfold F17
  unfold SS.signal at h
  refine C40 hR.blk (Own.ne hR.cds) (fun hn => ⟨_, _, rfl, ?_⟩) (fun h0 h1 p hp => ⟨_, _, rfl, ?_⟩)
  · rw [if_pos (by omega)] at h
    rw [if_pos (by decide)]
    exact h g w hs' (Ext.refl _ _)
  · rw [if_neg (by omega)] at h
    rw [if_neg (by decide), xptr_some]
    have hlt : m.toNat < S.conds.length := by omega
    have hlq : m.toNat < qs.length := by rw [hR.nq]; exact hlt
    rw [List.getElem?_eq_getElem hlt] at h
    obtain ⟨b, o, B, rfl, hg, hb, hfit, hv⟩ := Own.at_ hR.cds hp
    have hq := hR.q m.toNat _ _ (List.getElem?_eq_getElem hlq) (List.getElem?_eq_getElem hlt)
    simp only [add_lit, Nat.add_zero]
    have hc := hv m.toNat qs[m.toNat].v (by simp [hlq])
    refine C44 hb hc hq (by show ¬ g b = _; omega) (fun he => ⟨_, _, rfl, ?_⟩) (fun x r s' w' he hb' ho' hf' hs' => ⟨_, _, rfl, ?_⟩)
    · rw [Option.getD_some, he] at h
      exact h g w hs' (Ext.refl _ _)
    · rw [Option.getD_some, he] at h
      have := hR.setCond hlt hp hb hb' (ho'.mono (fun k _ hk => .inl hk)) (hf'.mono (fun k _ hk => .inl hk)) hg
      exact h _ w' this.1 this.2

theorem C18 (hs : SyncAt w pb S g) {n : Nat} (hf : S.fine n) (hn : n ≤ 1000000) {m v : Int} (h : ∀ g' w', SyncAt w' pb (S.send m v).1 g' → Ext g w g' w' → K (.tuple #[.int .i64 (S.send m v).2.1, .bool (S.send m v).2.2.1, .int .i64 (S.send m v).2.2.2]) w') :
    XCP Try.prog 18 [.pointer (some ⟨pb, 0, none⟩), .int .i64 m, .int .i64 v] w K KP := by
  have hs' := hs
  obtain ⟨ow, cd, ch, qs, hs, hR⟩ := hs
  have hl : ch.l = S.chans.length := by have := hR.chs.1; rw [chCells_length hs S.chans hR.nh] at this; omega
  apply E18; unfold F18
  unfold SS.send at h
  refine C45 hR.blk (Own.ne hR.chs) (fun hn => ⟨_, _, rfl, ?_⟩) (fun h0 h1 p hp => ⟨_, _, rfl, ?_⟩)
  · rw [if_pos (by omega)] at h
    rw [if_pos (by decide)]
    exact h g w hs' (Ext.refl _ _)
  · rw [if_neg (by omega)] at h
    rw [if_neg (by decide)]
    by_cases hv32 : v < -2147483648 ∨ v > 2147483647
    · rw [if_pos hv32] at h
      rw [if_pos (by
        have : IntKind.wrap .i64 (IntKind.wrap .i32 v) ≠ v := by
          intro e
          rw [IntKind.wrap_i32, IntKind.wrap_i64] at e
          omega
        simpa using this.symm)]
      exact h g w hs' (Ext.refl _ _)
    · rw [if_neg hv32] at h
      rw [if_neg (by
        have : IntKind.wrap .i64 (IntKind.wrap .i32 v) = v := by
          rw [IntKind.wrap_i32, IntKind.wrap_i64]
          omega
        simp [this])]
      have hlt : m.toNat < S.chans.length := by omega
      have hlq : m.toNat < hs.length := by rw [hR.nh]; exact hlt
      obtain ⟨b, o, B, rfl, hg, hb, hfit, hv⟩ := Own.at_ hR.chs hp
      have hcm : S.chans[m.toNat]? = some (S.chan m) := by unfold SS.chan; rw [List.getElem?_eq_getElem hlt]; rfl
      have hsm := List.getElem?_eq_getElem hlq
      have hq := hR.h m.toNat _ _ hsm hcm
      obtain ⟨hc0, hc1, hc2⟩ := chCells_get hsm hcm
      have hfc := hf.chans _ (List.mem_of_getElem? hcm)
      have e0 := hv _ _ hc0
      have e1 := hv _ _ hc1
      have e2 := hv _ _ hc2
      refine ⟨fun u => u = w.drew, rfl, ?_⟩
      simp only [xptr_some, add_lit, Nat.add_zero]
      refine ⟨_, _, _, fun u hu => by subst hu; rw [hb.drew.cell]; exact e0, (S.chan m).room, fun u hu => by subst hu; rw [hb.drew.cell, Nat.add_assoc]; exact e1, ?_⟩
      have hlen := hq.len
      by_cases hroom : ((S.chan m).l.length : Int) ≥ (S.chan m).room
      · rw [if_pos hroom] at h
        rw [if_pos (by rw [hlen]; simpa using hroom)]
        exact h g w.drew ⟨ow, cd, ch, qs, hs, hR.frame (Fr.drew (fun _ => False) w) (fun _ h => h.elim)⟩ ⟨fun _ _ => rfl, Fr.drew _ _⟩
      · rw [if_neg hroom] at h
        rw [if_neg (by rw [hlen]; simpa using hroom)]
        refine C47 hb.drew e0 hq.drew (by show ¬ g b = _; omega) (by omega) fun s' w1 hb1 ho1 hf1 => ⟨rfl, ?_⟩
        have hset : (B.set (o + m.toNat * 3) s'.v)[o + (m.toNat * 3 + 2)]? = some (.int .i64 (S.chan m).first) := by
          rw [List.getElem?_set_ne (by omega)]; exact e2
        have hset0 : (B.set (o + m.toNat * 3) s'.v)[o + m.toNat * 3]? = some s'.v := List.getElem?_set_self (List.getElem?_eq_some_iff.1 e0).1
        refine ⟨fun u => u = w1.drew, rfl, ?_⟩
        simp only [xptr_some, add_lit, Nat.add_zero]
        refine ⟨_, fun u hu => by subst hu; rw [hb1.drew.cell, Nat.add_assoc]; exact hset, s'.a, s'.l, s'.c, fun u hu => by subst hu; rw [hb1.drew.cell]; exact hset0, ?_⟩
        have hs1l : s'.l = (S.chan m).l.length + 1 := by have := ho1.len; simpa using this
        have hfr1 : Fr (fun k => k = b ∨ g k = 6 + 2 * m.toNat) w w1.drew := ((Fr.drew (fun _ => False) w).trans hf1 (fun _ _ h => h.elim) (fun _ _ h => h)).trans (Fr.drew (fun _ => False) w1) (fun _ _ h => h) (fun _ _ h => h.elim)
        have := hR.setChan (f := (S.chan m).first) hcm hp hb (by
          have : (B.set (o + m.toNat * 3) s'.v).set (o + (m.toNat * 3 + 2)) (.int .i64 (S.chan m).first) = B.set (o + m.toNat * 3) s'.v := set_same hset
          rw [this]; exact hb1.drew) ho1.drew hfr1 hg
        have hval : IntKind.wrap .i64 (IntKind.wrap .i64 ((S.chan m).first + (s'.l : Int)) - 1) = (S.chan m).first + (S.chan m).l.length := by
          rw [hs1l, wi (x := (S.chan m).first + _) (by omega) (by omega), wi (by omega) (by omega)]; omega
        rw [hval]
        exact h _ w1.drew this.1 this.2

theorem C19 (hs : SyncAt w pb S g) {n : Nat} (hf : S.fine n) (hn : n ≤ 1000000) {m : Int} (h : ∀ g' w', SyncAt w' pb (S.recv m).1 g' → Ext g w g' w' → K (.tuple #[.int .i64 (S.recv m).2.1, .int .i64 (S.recv m).2.2.1, .bool (S.recv m).2.2.2.1, .int .i64 (S.recv m).2.2.2.2]) w') :
    XCP Try.prog 19 [.pointer (some ⟨pb, 0, none⟩), .int .i64 m] w K KP := by
  have hs' := hs
  obtain ⟨ow, cd, ch, qs, hs, hR⟩ := hs
  have hl : ch.l = S.chans.length := by have := hR.chs.1; rw [chCells_length hs S.chans hR.nh] at this; omega
  apply E19; unfold F19
  unfold SS.recv at h
  refine C45 hR.blk (Own.ne hR.chs) (fun hn => ⟨_, _, rfl, ?_⟩) (fun h0 h1 p hp => ⟨_, _, rfl, ?_⟩)
  · rw [if_pos (by omega)] at h
    rw [if_pos (by decide)]
    exact h g w hs' (Ext.refl _ _)
  · rw [if_neg (by omega)] at h
    rw [if_neg (by decide)]
    have hlt : m.toNat < S.chans.length := by omega
    have hlq : m.toNat < hs.length := by rw [hR.nh]; exact hlt
    obtain ⟨b, o, B, rfl, hg, hb, hfit, hv⟩ := Own.at_ hR.chs hp
    have hcm : S.chans[m.toNat]? = some (S.chan m) := by unfold SS.chan; rw [List.getElem?_eq_getElem hlt]; rfl
    have hsm := List.getElem?_eq_getElem hlq
    have hq := hR.h m.toNat _ _ hsm hcm
    obtain ⟨hc0, hc1, hc2⟩ := chCells_get hsm hcm
    have hfc := hf.chans _ (List.mem_of_getElem? hcm)
    have e0 := hv _ _ hc0
    have e2 := hv _ _ hc2
    simp only [xptr_some, add_lit, Nat.add_zero]
    refine C48 hb e0 hq (by show ¬ g b = _; omega) (fun he => ⟨_, _, rfl, ?_⟩) (fun x r s' w1 he hb1 ho1 hf1 hs1 => ⟨_, _, rfl, ?_⟩)
    · rw [he] at h
      rw [if_pos (by decide)]
      exact h g w hs' (Ext.refl _ _)
    · rw [he] at h
      rw [if_neg (by decide)]
      have hset : (B.set (o + m.toNat * 3) s'.v)[o + m.toNat * 3 + 2]? = some (.int .i64 (S.chan m).first) := by
        rw [List.getElem?_set_ne (by omega), Nat.add_assoc]; exact e2
      rw [hb1.cell, hset]
      refine ⟨_, rfl, ?_⟩
      refine storeP_blk hb1 (List.getElem?_eq_some_iff.1 hset).1 fun w2 hb2 hf2 hs2 => ?_
      refine ⟨fun u => u = w2.drew, rfl, ?_⟩
      rw [wi (x := (S.chan m).first + 1) (by omega) (by omega)] at hb2
      refine ⟨(S.chan m).first + 1, fun u hu => by
        subst hu; rw [hb2.drew.cell]
        exact List.getElem?_set_self (List.getElem?_eq_some_iff.1 hset).1, ?_⟩
      have hfr : Fr (fun k => k = b ∨ g k = 6 + 2 * m.toNat) w w2.drew :=
        ((hf1.mono (fun _ _ h => .inl h)).trans (hf2.mono (D := fun k => k = b ∨ g k = 6 + 2 * m.toNat) (fun _ _ h => .inl h)) (fun _ _ h => h) (fun _ _ h => h)).trans (Fr.drew (fun _ => False) w2) (fun _ _ h => h) (fun _ _ h => h.elim)
      have := hR.setChan (f := (S.chan m).first + 1) (s' := s') (xs' := r) hcm hp hb (by rw [← Nat.add_assoc]; exact hb2.drew)
        ((Own.frame ho1 hf2 (fun k hk e => by subst e; have : g k = 6 + 2 * m.toNat := hk; omega)).mono (fun k _ hk => .inl hk)).drew hfr hg
      rw [wi (by omega) (by omega), show (S.chan m).first + 1 - 1 = (S.chan m).first from by omega]
      exact h _ w2.drew this.1 this.2
end
end Go.Proofs.Ythegnnifbgikmaa
