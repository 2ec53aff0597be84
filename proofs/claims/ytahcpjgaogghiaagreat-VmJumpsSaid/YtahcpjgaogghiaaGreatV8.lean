/- The verify seat: the map of what must be there. -/
import Derived.Test.YtahcpjgaogghiaaGreatV7
set_option linter.unusedVariables false
set_option linter.unusedSimpArgs false
set_option maxRecDepth 10000
namespace Go.Proofs.YtahcpjgaogghiaaGreat
open Go.X
theorem all34 {x : List (Option Value)} (h : x.all Option.isSome = true) (hl : x.length = 34) : ∀ k, k < 34 → ∃ z, x[k]? = some (some z) := by
  intro k hk
  have hk' : k < x.length := by omega
  have := List.all_eq_true.1 h x[k] (List.getElem_mem hk')
  obtain ⟨z, hz⟩ := Option.isSome_iff_exists.1 this
  exact ⟨z, by rw [List.getElem?_eq_getElem hk', hz]⟩
theorem C91 {w : World} {K : Value → World → Prop} {KP : List PanicEntry → World → Prop} {m : Mdl} {c : Cod} {q : MdlH} {qc : CodH} {G : Nat → Prop} (hq : MdlP w G q m) {G' : Nat → Prop} (hqc : CodP w G' qc c)
    (h : ∀ u r f Γ, Ex w u → (pers (mpA r dI f :: Γ)).p u (fun b => w.heap.size ≤ b) → ThereF Γ f m c → K (.map (some r)) u) : XCP Tryz.prog 91 [m.v q, c.v qc] w K KP := by
  show XCP Tryz.prog 91 [.agg #[.slice q.sv.a q.sv.l q.sv.c, .slice q.sa.a q.sa.l q.sa.c, .slice q.sc.a q.sc.l q.sc.c, .int .i64 m.mutexes, .int .i64 m.conds, .slice q.st.a q.st.l q.st.c],
    .agg #[.string c.name, .int .i64 c.locals, .slice qc.si.a qc.si.l qc.si.c, .slice qc.sl.a qc.sl.l qc.sl.c]] w K KP
  refine E91 ?_
  unfold F91
  intro w0 p w1 p1
  have hs : Sep w1 (bx w0.heap.size (c.cells qc) 46 :: bx w.heap.size (m.cells q) 26 :: [oldA w]) := ((Sep.begin w).box _ _).box _ _
  clear_value w1
  have l1 := hq.v.len
  have l2 := hq.a.len
  have l3 := hq.c.len
  have l4 := hq.t.len
  have l5 := hqc.1.len
  have hs := hs.pers1.to1.keep.drew
  refine ⟨fun u => Blk u w.heap.size (m.cells q) 26 ∧ Blk u w0.heap.size (c.cells qc) 46, ?_, _, _, _, fun u hu => hu.1.ld rfl, _, _, _, fun u hu => hu.1.ld rfl, _, fun u hu => hu.2.ld rfl, _, fun u hu => hu.2.ld rfl, _, _, _, fun u hu => hu.1.ld rfl, _, _, _, fun u hu => hu.1.ld rfl, _, _, _, fun u hu => hu.2.ld rfl, _, _, _, fun u hu => hu.2.ld rfl, _, _, _, fun u hu => hu.2.ld rfl, _, fun u hu => hu.1.ld rfl, _, fun u hu => hu.1.ld rfl, _, fun u hu => hu.1.ld rfl, _, fun u hu => hu.1.ld rfl, _, _, _, fun u hu => hu.1.ld rfl, _, _, _, fun u hu => hu.1.ld rfl, _, _, _, fun u hu => hu.1.ld rfl, ThereJ w m c q qc w.heap.size w0.heap.size, fun x u hJ => hJ.blks, ?_, ?_, ?_, ?_, ?_, ?_, ?_, ?_, ?_, ?_, ?_, ?_, ?_, ?_, ?_, ?_, ?_, ?_, ?_, ?_, ?_, ?_, ?_, ?_, ?_, ?_, ?_, ?_, ?_, ?_, ?_, ?_, ?_, ?_, ?_, ?_, ?_, ?_⟩
  · obtain ⟨G, hG⟩ := hs.at0; exact ⟨(hG 0 _ rfl).1, (hG 1 _ rfl).1⟩
  · refine ⟨rfl, _, ⟨0, rfl⟩, ⟨1, rfl⟩, fun j key hj v hv => ?_, .inl ⟨rfl, hs, fun k key hk => ?_⟩⟩
    · have : (List.replicate 34 (none : Option Value))[j]? = some (some v) := hv
      rw [List.getElem?_replicate] at this; split at this <;> cases this
    · show (List.replicate 34 (none : Option Value))[k]? = some none
      rw [List.getElem?_replicate, if_pos (opT_lt hk)]
  · intros; rename_i hJ; exact mkStep hJ rfl
  · intros; rename_i hJ; exact clStep (j := 1) (key := 2) hJ rfl (fun i => by rw [l1]; rfl)
  · intros; rename_i hJ; exact insStep (k := 2) (key := 2) hJ rfl rfl rfl (fun Γ h1 h2 h3 => h3 1 2 rfl _ rfl)
  · intros; rename_i hJ; exact clStep (j := 3) (key := 5) hJ rfl (fun i => by rw [l1]; rfl)
  · intros; rename_i hJ; exact insStep (k := 4) (key := 5) hJ rfl rfl rfl (fun Γ h1 h2 h3 => h3 3 5 rfl _ rfl)
  · intros; rename_i hJ; exact clStep (j := 5) (key := 3) hJ rfl (fun i => rfl)
  · intros; rename_i hJ; exact insStep (k := 6) (key := 3) hJ rfl rfl rfl (fun Γ h1 h2 h3 => h3 5 3 rfl _ rfl)
  · intros; rename_i hJ; exact clStep (j := 7) (key := 6) hJ rfl (fun i => rfl)
  · intros; rename_i hJ; exact insStep (k := 8) (key := 6) hJ rfl rfl rfl (fun Γ h1 h2 h3 => h3 7 6 rfl _ rfl)
  · intros; rename_i hJ; exact clStep (j := 9) (key := 4) hJ rfl (fun i => by rw [l2]; rfl)
  · intros; rename_i hJ; exact insStep (k := 10) (key := 4) hJ rfl rfl rfl (fun Γ h1 h2 h3 => h3 9 4 rfl _ rfl)
  · intros; rename_i hJ; exact clStep (j := 11) (key := 7) hJ rfl (fun i => by rw [l2]; rfl)
  · intros; rename_i hJ; exact insStep (k := 12) (key := 7) hJ rfl rfl rfl (fun Γ h1 h2 h3 => h3 11 7 rfl _ rfl)
  · intros; rename_i hJ; exact clStep (j := 13) (key := 19) hJ rfl (fun i => by rw [l5]; rfl)
  · intros; rename_i hJ; exact insStep (k := 14) (key := 19) hJ rfl rfl rfl (fun Γ h1 h2 h3 => h3 13 19 rfl _ rfl)
  · intros; rename_i hJ; exact clStep (j := 15) (key := 20) hJ rfl (fun i => by rw [l5]; rfl)
  · intros; rename_i hJ; exact insStep (k := 16) (key := 20) hJ rfl rfl rfl (fun Γ h1 h2 h3 => h3 15 20 rfl _ rfl)
  · intros; rename_i hJ; exact clStep (j := 17) (key := 21) hJ rfl (fun i => by rw [l5]; rfl)
  · intros; rename_i hJ; exact insStep (k := 18) (key := 21) hJ rfl rfl rfl (fun Γ h1 h2 h3 => h3 17 21 rfl _ rfl)
  · intros; rename_i hJ; exact clStep (j := 19) (key := 24) hJ rfl (fun i => rfl)
  · intros; rename_i hJ; exact insStep (k := 20) (key := 24) hJ rfl rfl rfl (fun Γ h1 h2 h3 => h3 19 24 rfl _ rfl)
  · intros; rename_i hJ; exact clStep (j := 21) (key := 25) hJ rfl (fun i => rfl)
  · intros; rename_i hJ; exact insStep (k := 22) (key := 25) hJ rfl rfl rfl (fun Γ h1 h2 h3 => h3 21 25 rfl _ rfl)
  · intros; rename_i hJ; exact insStep (k := 23) (key := 26) hJ rfl rfl rfl (fun Γ h1 h2 h3 => wait_ok h1)
  · intros; rename_i hJ; exact clStep (j := 24) (key := 27) hJ rfl (fun i => rfl)
  · intros; rename_i hJ; exact insStep (k := 25) (key := 27) hJ rfl rfl rfl (fun Γ h1 h2 h3 => h3 24 27 rfl _ rfl)
  · intros; rename_i hJ; exact clStep (j := 26) (key := 28) hJ rfl (fun i => rfl)
  · intros; rename_i hJ; exact insStep (k := 27) (key := 28) hJ rfl rfl rfl (fun Γ h1 h2 h3 => h3 26 28 rfl _ rfl)
  · intros; rename_i hJ; exact clStep (j := 28) (key := 29) hJ rfl (fun i => by rw [l3]; rfl)
  · intros; rename_i hJ; exact insStep (k := 29) (key := 29) hJ rfl rfl rfl (fun Γ h1 h2 h3 => h3 28 29 rfl _ rfl)
  · intros; rename_i hJ; exact clStep (j := 30) (key := 30) hJ rfl (fun i => by rw [l3]; rfl)
  · intros; rename_i hJ; exact insStep (k := 31) (key := 30) hJ rfl rfl rfl (fun Γ h1 h2 h3 => h3 30 30 rfl _ rfl)
  · intros; rename_i hJ; exact clStep (j := 32) (key := 31) hJ rfl (fun i => by rw [l4]; rfl)
  · intros; rename_i hJ; exact insStep (k := 33) (key := 31) hJ rfl rfl rfl (fun Γ h1 h2 h3 => h3 32 31 rfl _ rfl)
  · intros; trivial
  · intros; trivial
  · intros; rename_i hJ; exact thereEnd hJ rfl (all34 rfl rfl) h
end Go.Proofs.YtahcpjgaogghiaaGreat
