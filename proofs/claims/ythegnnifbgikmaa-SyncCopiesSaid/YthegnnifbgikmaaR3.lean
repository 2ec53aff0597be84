/- The sync seat: a copy of the document's state: its first statement, in every order that the language leaves open (the lines of copy_region are printed by program: copyscript.py). -/
import Derived.Test.YthegnnifbgikmaaR2
import Derived.Test.YthegnnifbgikmaaH
set_option linter.unusedVariables false
set_option linter.unusedSimpArgs false
namespace Go.Proofs.Ythegnnifbgikmaa
open Go.X

def CI (w0 w : World) (pb rb : Nat) (z : S5) (R : RR) (G : Nat → Prop) (fa fb fc : Option (Sl × List Int)) (fd : Option Nat) : Prop := ∃ g, CInv w0 w pb rb z R G g fa fb fc fd
section
variable {w0 w : World} {pb rb : Nat} {z : S5} {R : RR} {G : Nat → Prop} {fa fb fc : Option (Sl × List Int)} {fd : Option Nat}
theorem CI.buildA (h : CI w0 w pb rb z R G fa fb fc fd) (hs : R.small) {K : Value → World → Prop} (hK : ∀ s w', CI w0 w' pb rb z R G (some (s, [])) fb fc fd → Blk w' pb z.cells 53 → K (.slice s.a s.l s.c) w') :
    XRun Try.prog (Instr.buildSlice 29 0 (List.toArray [])) w K := by
  obtain ⟨g, h⟩ := h
  refine xr_build T29 rfl (cs := []) (by rfl) rfl (by omega) fun w9 ho hf _ => ?_
  have h2 := h.stepA (s' := ⟨some ⟨w.heap.size, 0, none⟩, 0, 0⟩) (xs' := []) (hf _) (ho.mono (fun b _ hb => .inr (Nat.le_of_eq hb.symm)))
  exact hK ⟨some ⟨w.heap.size, 0, none⟩, 0, 0⟩ w9 ⟨_, h2⟩ h2.base.box
theorem CI.appA {s : Sl} (h : CI w0 w pb rb z R G (some (s, [])) fb fc fd) (hs : R.small) {K : Value → World → Prop} (hK : ∀ s w', CI w0 w' pb rb z R G (some (s, R.owners)) fb fc fd → Blk w' pb z.cells 53 → K (.slice s.a s.l s.c) w') :
    XRun Try.prog (Builtin.append_ #[29, 29] 29 (List.toArray [.slice s.a s.l s.c, .slice z.o.a z.o.l z.o.c])) w K := by
  obtain ⟨g, h⟩ := h
  have hl := h.base.ref.o.2
  have hb := hs.o
  have hs0 := (h.a _ _ rfl).len
  simp at hs0
  refine xr_append T29 rfl (h.a _ _ rfl) h.base.ref.o.1 (by simp [hl]) (ints_one _) (by omega) (by omega) fun a' c' w9 ho hf _ => ?_
  have h2 := h.stepA (s' := ⟨a', s.l + z.o.l, c'⟩) (xs' := R.owners) hf (by simpa [OwnI] using ho)
  exact hK ⟨a', s.l + z.o.l, c'⟩ w9 ⟨_, h2⟩ h2.base.box
theorem CI.buildB (h : CI w0 w pb rb z R G fa fb fc fd) (hs : R.small) {K : Value → World → Prop} (hK : ∀ s w', CI w0 w' pb rb z R G fa (some (s, [])) fc fd → Blk w' pb z.cells 53 → K (.slice s.a s.l s.c) w') :
    XRun Try.prog (Instr.buildSlice 29 0 (List.toArray [])) w K := by
  obtain ⟨g, h⟩ := h
  refine xr_build T29 rfl (cs := []) (by rfl) rfl (by omega) fun w9 ho hf _ => ?_
  have h2 := h.stepB (s' := ⟨some ⟨w.heap.size, 0, none⟩, 0, 0⟩) (xs' := []) (hf _) (ho.mono (fun b _ hb => .inr (Nat.le_of_eq hb.symm)))
  exact hK ⟨some ⟨w.heap.size, 0, none⟩, 0, 0⟩ w9 ⟨_, h2⟩ h2.base.box
theorem CI.appB {s : Sl} (h : CI w0 w pb rb z R G fa (some (s, [])) fc fd) (hs : R.small) {K : Value → World → Prop} (hK : ∀ s w', CI w0 w' pb rb z R G fa (some (s, R.rooms)) fc fd → Blk w' pb z.cells 53 → K (.slice s.a s.l s.c) w') :
    XRun Try.prog (Builtin.append_ #[29, 29] 29 (List.toArray [.slice s.a s.l s.c, .slice z.r.a z.r.l z.r.c])) w K := by
  obtain ⟨g, h⟩ := h
  have hl := h.base.ref.r.2
  have hb := hs.r
  have hs0 := (h.b _ _ rfl).len
  simp at hs0
  refine xr_append T29 rfl (h.b _ _ rfl) h.base.ref.r.1 (by simp [hl]) (ints_one _) (by omega) (by omega) fun a' c' w9 ho hf _ => ?_
  have h2 := h.stepB (s' := ⟨a', s.l + z.r.l, c'⟩) (xs' := R.rooms) hf (by simpa [OwnI] using ho)
  exact hK ⟨a', s.l + z.r.l, c'⟩ w9 ⟨_, h2⟩ h2.base.box
theorem CI.buildC (h : CI w0 w pb rb z R G fa fb fc fd) (hs : R.small) {K : Value → World → Prop} (hK : ∀ s w', CI w0 w' pb rb z R G fa fb (some (s, [])) fd → Blk w' pb z.cells 53 → K (.slice s.a s.l s.c) w') :
    XRun Try.prog (Instr.buildSlice 29 0 (List.toArray [])) w K := by
  obtain ⟨g, h⟩ := h
  refine xr_build T29 rfl (cs := []) (by rfl) rfl (by omega) fun w9 ho hf _ => ?_
  have h2 := h.stepC (s' := ⟨some ⟨w.heap.size, 0, none⟩, 0, 0⟩) (xs' := []) (hf _) (ho.mono (fun b _ hb => .inr (Nat.le_of_eq hb.symm)))
  exact hK ⟨some ⟨w.heap.size, 0, none⟩, 0, 0⟩ w9 ⟨_, h2⟩ h2.base.box
theorem CI.appC {s : Sl} (h : CI w0 w pb rb z R G fa fb (some (s, [])) fd) (hs : R.small) {K : Value → World → Prop} (hK : ∀ s w', CI w0 w' pb rb z R G fa fb (some (s, R.taken)) fd → Blk w' pb z.cells 53 → K (.slice s.a s.l s.c) w') :
    XRun Try.prog (Builtin.append_ #[29, 29] 29 (List.toArray [.slice s.a s.l s.c, .slice z.t.a z.t.l z.t.c])) w K := by
  obtain ⟨g, h⟩ := h
  have hl := h.base.ref.t.2
  have hb := hs.t
  have hs0 := (h.c _ _ rfl).len
  simp at hs0
  refine xr_append T29 rfl (h.c _ _ rfl) h.base.ref.t.1 (by simp [hl]) (ints_one _) (by omega) (by omega) fun a' c' w9 ho hf _ => ?_
  have h2 := h.stepC (s' := ⟨a', s.l + z.t.l, c'⟩) (xs' := R.taken) hf (by simpa [OwnI] using ho)
  exact hK ⟨a', s.l + z.t.l, c'⟩ w9 ⟨_, h2⟩ h2.base.box
theorem CI.allocD (h : CI w0 w pb rb z R G fa fb fc fd) : CI w0 (w.alloc (.cells #[.slice none 0 0, .slice none 0 0, .slice none 0 0, .slice none 0 0, .slice none 0 0] 53)) pb rb z R G fa fb fc (some w.heap.size) := by
  obtain ⟨g, h⟩ := h
  exact ⟨_, h.stepD⟩
theorem CI.allocB (h : CI w0 w pb rb z R G fa fb fc fd) : Blk (w.alloc (.cells #[.slice none 0 0, .slice none 0 0, .slice none 0 0, .slice none 0 0, .slice none 0 0] 53)) pb z.cells 53 := by
  obtain ⟨g, h⟩ := h
  exact h.stepD.base.box
end

set_option maxHeartbeats 4000000 in
theorem copy_region {w0 w : World} {pb rb : Nat} {z : S5} {R : RR} {G : Nat → Prop} (hI : CI w0 w pb rb z R G none none none none) (hs : R.small) {kb : Option Addr → World → Prop}
    (hkb : ∀ (u : World) (a b c : Sl) (d : Nat), CI w0 u pb rb z R G (some (a, R.owners)) (some (b, R.rooms)) (some (c, R.taken)) (some d) →
      storesAt ⟨d, 0, none⟩ 0 [.slice a.a a.l a.c, .slice none 0 0, .slice b.a b.l b.c, .slice none 0 0, .slice c.a c.l c.c] u fun u' => kb (some ⟨d, 0, none⟩) u') :
    ∃ S4 : World → Prop, S4 (World.drew w) ∧ (let w24 : World := World.drew w; ∃ (a31 : Option Addr) (l31 : Nat) (c31 : Nat), (∀ w25 : World, S4 w25 → World.cell? w25 (Addr.add ⟨pb, 0, none⟩ 0) = some (.slice a31 l31 c31)) ∧ ∃ (a32 : Option Addr) (l32 : Nat) (c32 : Nat), (∀ w26 : World, S4 w26 → World.cell? w26 (Addr.add ⟨pb, 0, none⟩ 2) = some (.slice a32 l32 c32)) ∧ ∃ (a33 : Option Addr) (l33 : Nat) (c33 : Nat), (∀ w27 : World, S4 w27 → World.cell? w27 (Addr.add ⟨pb, 0, none⟩ 4) = some (.slice a33 l33 c33)) ∧ (XRun Try.prog (Instr.buildSlice 29 0 (List.toArray [])) w24 fun v8 w28 => ∃ (a34 : Option Addr) (l34 : Nat) (c34 : Nat), v8 = (.slice a34 l34 c34) ∧ S4 w28 ∧ (XRun Try.prog (Builtin.append_ #[29, 29] 29 (List.toArray [(.slice a34 l34 c34), (.slice a31 l31 c31)])) w28 fun v9 w29 => ∃ (a35 : Option Addr) (l35 : Nat) (c35 : Nat), v9 = (.slice a35 l35 c35) ∧ S4 w29 ∧ (XRun Try.prog (Instr.buildSlice 29 0 (List.toArray [])) w29 fun v10 w30 => ∃ (a36 : Option Addr) (l36 : Nat) (c36 : Nat), v10 = (.slice a36 l36 c36) ∧ S4 w30 ∧ (XRun Try.prog (Builtin.append_ #[29, 29] 29 (List.toArray [(.slice a36 l36 c36), (.slice a32 l32 c32)])) w30 fun v11 w31 => ∃ (a37 : Option Addr) (l37 : Nat) (c37 : Nat), v11 = (.slice a37 l37 c37) ∧ S4 w31 ∧ (XRun Try.prog (Instr.buildSlice 29 0 (List.toArray [])) w31 fun v12 w32 => ∃ (a38 : Option Addr) (l38 : Nat) (c38 : Nat), v12 = (.slice a38 l38 c38) ∧ S4 w32 ∧ (XRun Try.prog (Builtin.append_ #[29, 29] 29 (List.toArray [(.slice a38 l38 c38), (.slice a33 l33 c33)])) w32 fun v13 w33 => ∃ (a39 : Option Addr) (l39 : Nat) (c39 : Nat), v13 = (.slice a39 l39 c39) ∧ S4 w33 ∧ let w34 : World := World.alloc w33 (.cells #[(.slice none 0 0), (.slice none 0 0), (.slice none 0 0), (.slice none 0 0), (.slice none 0 0)] 53); let p9 : Addr := ⟨Array.size (World.heap w33), 0, none⟩; S4 w34 ∧ storesAt p9 0 [(.slice a35 l35 c35), (.slice none 0 0), (.slice a37 l37 c37), (.slice none 0 0), (.slice a39 l39 c39)] w34 fun w35 => kb (some p9) w35) ∧ let w36 : World := World.alloc w32 (.cells #[(.slice none 0 0), (.slice none 0 0), (.slice none 0 0), (.slice none 0 0), (.slice none 0 0)] 53); let p10 : Addr := ⟨Array.size (World.heap w32), 0, none⟩; S4 w36 ∧ XRun Try.prog (Builtin.append_ #[29, 29] 29 (List.toArray [(.slice a38 l38 c38), (.slice a33 l33 c33)])) w36 fun v14 w37 => ∃ (a40 : Option Addr) (l40 : Nat) (c40 : Nat), v14 = (.slice a40 l40 c40) ∧ S4 w37 ∧ storesAt p10 0 [(.slice a35 l35 c35), (.slice none 0 0), (.slice a37 l37 c37), (.slice none 0 0), (.slice a40 l40 c40)] w37 fun w38 => kb (some p10) w38) ∧ let w39 : World := World.alloc w31 (.cells #[(.slice none 0 0), (.slice none 0 0), (.slice none 0 0), (.slice none 0 0), (.slice none 0 0)] 53); let p11 : Addr := ⟨Array.size (World.heap w31), 0, none⟩; S4 w39 ∧ XRun Try.prog (Instr.buildSlice 29 0 (List.toArray [])) w39 fun v15 w40 => ∃ (a41 : Option Addr) (l41 : Nat) (c41 : Nat), v15 = (.slice a41 l41 c41) ∧ S4 w40 ∧ XRun Try.prog (Builtin.append_ #[29, 29] 29 (List.toArray [(.slice a41 l41 c41), (.slice a33 l33 c33)])) w40 fun v16 w41 => ∃ (a42 : Option Addr) (l42 : Nat) (c42 : Nat), v16 = (.slice a42 l42 c42) ∧ S4 w41 ∧ storesAt p11 0 [(.slice a35 l35 c35), (.slice none 0 0), (.slice a37 l37 c37), (.slice none 0 0), (.slice a42 l42 c42)] w41 fun w42 => kb (some p11) w42) ∧ (XRun Try.prog (Instr.buildSlice 29 0 (List.toArray [])) w30 fun v17 w43 => ∃ (a43 : Option Addr) (l43 : Nat) (c43 : Nat), v17 = (.slice a43 l43 c43) ∧ S4 w43 ∧ (XRun Try.prog (Builtin.append_ #[29, 29] 29 (List.toArray [(.slice a36 l36 c36), (.slice a32 l32 c32)])) w43 fun v18 w44 => ∃ (a44 : Option Addr) (l44 : Nat) (c44 : Nat), v18 = (.slice a44 l44 c44) ∧ S4 w44 ∧ (XRun Try.prog (Builtin.append_ #[29, 29] 29 (List.toArray [(.slice a43 l43 c43), (.slice a33 l33 c33)])) w44 fun v19 w45 => ∃ (a45 : Option Addr) (l45 : Nat) (c45 : Nat), v19 = (.slice a45 l45 c45) ∧ S4 w45 ∧ let w46 : World := World.alloc w45 (.cells #[(.slice none 0 0), (.slice none 0 0), (.slice none 0 0), (.slice none 0 0), (.slice none 0 0)] 53); let p12 : Addr := ⟨Array.size (World.heap w45), 0, none⟩; S4 w46 ∧ storesAt p12 0 [(.slice a35 l35 c35), (.slice none 0 0), (.slice a44 l44 c44), (.slice none 0 0), (.slice a45 l45 c45)] w46 fun w47 => kb (some p12) w47) ∧ let w48 : World := World.alloc w44 (.cells #[(.slice none 0 0), (.slice none 0 0), (.slice none 0 0), (.slice none 0 0), (.slice none 0 0)] 53); let p13 : Addr := ⟨Array.size (World.heap w44), 0, none⟩; S4 w48 ∧ XRun Try.prog (Builtin.append_ #[29, 29] 29 (List.toArray [(.slice a43 l43 c43), (.slice a33 l33 c33)])) w48 fun v20 w49 => ∃ (a46 : Option Addr) (l46 : Nat) (c46 : Nat), v20 = (.slice a46 l46 c46) ∧ S4 w49 ∧ storesAt p13 0 [(.slice a35 l35 c35), (.slice none 0 0), (.slice a44 l44 c44), (.slice none 0 0), (.slice a46 l46 c46)] w49 fun w50 => kb (some p13) w50) ∧ let w51 : World := World.alloc w43 (.cells #[(.slice none 0 0), (.slice none 0 0), (.slice none 0 0), (.slice none 0 0), (.slice none 0 0)] 53); let p14 : Addr := ⟨Array.size (World.heap w43), 0, none⟩; S4 w51 ∧ XRun Try.prog (Builtin.append_ #[29, 29] 29 (List.toArray [(.slice a36 l36 c36), (.slice a32 l32 c32)])) w51 fun v21 w52 => ∃ (a47 : Option Addr) (l47 : Nat) (c47 : Nat), v21 = (.slice a47 l47 c47) ∧ S4 w52 ∧ XRun Try.prog (Builtin.append_ #[29, 29] 29 (List.toArray [(.slice a43 l43 c43), (.slice a33 l33 c33)])) w52 fun v22 w53 => ∃ (a48 : Option Addr) (l48 : Nat) (c48 : Nat), v22 = (.slice a48 l48 c48) ∧ S4 w53 ∧ storesAt p14 0 [(.slice a35 l35 c35), (.slice none 0 0), (.slice a47 l47 c47), (.slice none 0 0), (.slice a48 l48 c48)] w53 fun w54 => kb (some p14) w54) ∧ let w55 : World := World.alloc w30 (.cells #[(.slice none 0 0), (.slice none 0 0), (.slice none 0 0), (.slice none 0 0), (.slice none 0 0)] 53); let p15 : Addr := ⟨Array.size (World.heap w30), 0, none⟩; S4 w55 ∧ (XRun Try.prog (Builtin.append_ #[29, 29] 29 (List.toArray [(.slice a36 l36 c36), (.slice a32 l32 c32)])) w55 fun v23 w56 => ∃ (a49 : Option Addr) (l49 : Nat) (c49 : Nat), v23 = (.slice a49 l49 c49) ∧ S4 w56 ∧ XRun Try.prog (Instr.buildSlice 29 0 (List.toArray [])) w56 fun v24 w57 => ∃ (a50 : Option Addr) (l50 : Nat) (c50 : Nat), v24 = (.slice a50 l50 c50) ∧ S4 w57 ∧ XRun Try.prog (Builtin.append_ #[29, 29] 29 (List.toArray [(.slice a50 l50 c50), (.slice a33 l33 c33)])) w57 fun v25 w58 => ∃ (a51 : Option Addr) (l51 : Nat) (c51 : Nat), v25 = (.slice a51 l51 c51) ∧ S4 w58 ∧ storesAt p15 0 [(.slice a35 l35 c35), (.slice none 0 0), (.slice a49 l49 c49), (.slice none 0 0), (.slice a51 l51 c51)] w58 fun w59 => kb (some p15) w59) ∧ XRun Try.prog (Instr.buildSlice 29 0 (List.toArray [])) w55 fun v26 w60 => ∃ (a52 : Option Addr) (l52 : Nat) (c52 : Nat), v26 = (.slice a52 l52 c52) ∧ S4 w60 ∧ XRun Try.prog (Builtin.append_ #[29, 29] 29 (List.toArray [(.slice a36 l36 c36), (.slice a32 l32 c32)])) w60 fun v27 w61 => ∃ (a53 : Option Addr) (l53 : Nat) (c53 : Nat), v27 = (.slice a53 l53 c53) ∧ S4 w61 ∧ XRun Try.prog (Builtin.append_ #[29, 29] 29 (List.toArray [(.slice a52 l52 c52), (.slice a33 l33 c33)])) w61 fun v28 w62 => ∃ (a54 : Option Addr) (l54 : Nat) (c54 : Nat), v28 = (.slice a54 l54 c54) ∧ S4 w62 ∧ storesAt p15 0 [(.slice a35 l35 c35), (.slice none 0 0), (.slice a53 l53 c53), (.slice none 0 0), (.slice a54 l54 c54)] w62 fun w63 => kb (some p15) w63) ∧ (XRun Try.prog (Instr.buildSlice 29 0 (List.toArray [])) w29 fun v29 w64 => ∃ (a55 : Option Addr) (l55 : Nat) (c55 : Nat), v29 = (.slice a55 l55 c55) ∧ S4 w64 ∧ (XRun Try.prog (Instr.buildSlice 29 0 (List.toArray [])) w64 fun v30 w65 => ∃ (a56 : Option Addr) (l56 : Nat) (c56 : Nat), v30 = (.slice a56 l56 c56) ∧ S4 w65 ∧ (XRun Try.prog (Builtin.append_ #[29, 29] 29 (List.toArray [(.slice a56 l56 c56), (.slice a32 l32 c32)])) w65 fun v31 w66 => ∃ (a57 : Option Addr) (l57 : Nat) (c57 : Nat), v31 = (.slice a57 l57 c57) ∧ S4 w66 ∧ (XRun Try.prog (Builtin.append_ #[29, 29] 29 (List.toArray [(.slice a55 l55 c55), (.slice a33 l33 c33)])) w66 fun v32 w67 => ∃ (a58 : Option Addr) (l58 : Nat) (c58 : Nat), v32 = (.slice a58 l58 c58) ∧ S4 w67 ∧ let w68 : World := World.alloc w67 (.cells #[(.slice none 0 0), (.slice none 0 0), (.slice none 0 0), (.slice none 0 0), (.slice none 0 0)] 53); let p16 : Addr := ⟨Array.size (World.heap w67), 0, none⟩; S4 w68 ∧ storesAt p16 0 [(.slice a35 l35 c35), (.slice none 0 0), (.slice a57 l57 c57), (.slice none 0 0), (.slice a58 l58 c58)] w68 fun w69 => kb (some p16) w69) ∧ let w70 : World := World.alloc w66 (.cells #[(.slice none 0 0), (.slice none 0 0), (.slice none 0 0), (.slice none 0 0), (.slice none 0 0)] 53); let p17 : Addr := ⟨Array.size (World.heap w66), 0, none⟩; S4 w70 ∧ XRun Try.prog (Builtin.append_ #[29, 29] 29 (List.toArray [(.slice a55 l55 c55), (.slice a33 l33 c33)])) w70 fun v33 w71 => ∃ (a59 : Option Addr) (l59 : Nat) (c59 : Nat), v33 = (.slice a59 l59 c59) ∧ S4 w71 ∧ storesAt p17 0 [(.slice a35 l35 c35), (.slice none 0 0), (.slice a57 l57 c57), (.slice none 0 0), (.slice a59 l59 c59)] w71 fun w72 => kb (some p17) w72) ∧ let w73 : World := World.alloc w65 (.cells #[(.slice none 0 0), (.slice none 0 0), (.slice none 0 0), (.slice none 0 0), (.slice none 0 0)] 53); let p18 : Addr := ⟨Array.size (World.heap w65), 0, none⟩; S4 w73 ∧ XRun Try.prog (Builtin.append_ #[29, 29] 29 (List.toArray [(.slice a56 l56 c56), (.slice a32 l32 c32)])) w73 fun v34 w74 => ∃ (a60 : Option Addr) (l60 : Nat) (c60 : Nat), v34 = (.slice a60 l60 c60) ∧ S4 w74 ∧ XRun Try.prog (Builtin.append_ #[29, 29] 29 (List.toArray [(.slice a55 l55 c55), (.slice a33 l33 c33)])) w74 fun v35 w75 => ∃ (a61 : Option Addr) (l61 : Nat) (c61 : Nat), v35 = (.slice a61 l61 c61) ∧ S4 w75 ∧ storesAt p18 0 [(.slice a35 l35 c35), (.slice none 0 0), (.slice a60 l60 c60), (.slice none 0 0), (.slice a61 l61 c61)] w75 fun w76 => kb (some p18) w76) ∧ let w77 : World := World.alloc w64 (.cells #[(.slice none 0 0), (.slice none 0 0), (.slice none 0 0), (.slice none 0 0), (.slice none 0 0)] 53); let p19 : Addr := ⟨Array.size (World.heap w64), 0, none⟩; S4 w77 ∧ XRun Try.prog (Instr.buildSlice 29 0 (List.toArray [])) w77 fun v36 w78 => ∃ (a62 : Option Addr) (l62 : Nat) (c62 : Nat), v36 = (.slice a62 l62 c62) ∧ S4 w78 ∧ XRun Try.prog (Builtin.append_ #[29, 29] 29 (List.toArray [(.slice a62 l62 c62), (.slice a32 l32 c32)])) w78 fun v37 w79 => ∃ (a63 : Option Addr) (l63 : Nat) (c63 : Nat), v37 = (.slice a63 l63 c63) ∧ S4 w79 ∧ XRun Try.prog (Builtin.append_ #[29, 29] 29 (List.toArray [(.slice a55 l55 c55), (.slice a33 l33 c33)])) w79 fun v38 w80 => ∃ (a64 : Option Addr) (l64 : Nat) (c64 : Nat), v38 = (.slice a64 l64 c64) ∧ S4 w80 ∧ storesAt p19 0 [(.slice a35 l35 c35), (.slice none 0 0), (.slice a63 l63 c63), (.slice none 0 0), (.slice a64 l64 c64)] w80 fun w81 => kb (some p19) w81) ∧ let w82 : World := World.alloc w29 (.cells #[(.slice none 0 0), (.slice none 0 0), (.slice none 0 0), (.slice none 0 0), (.slice none 0 0)] 53); let p20 : Addr := ⟨Array.size (World.heap w29), 0, none⟩; S4 w82 ∧ (XRun Try.prog (Instr.buildSlice 29 0 (List.toArray [])) w82 fun v39 w83 => ∃ (a65 : Option Addr) (l65 : Nat) (c65 : Nat), v39 = (.slice a65 l65 c65) ∧ S4 w83 ∧ (XRun Try.prog (Builtin.append_ #[29, 29] 29 (List.toArray [(.slice a65 l65 c65), (.slice a32 l32 c32)])) w83 fun v40 w84 => ∃ (a66 : Option Addr) (l66 : Nat) (c66 : Nat), v40 = (.slice a66 l66 c66) ∧ S4 w84 ∧ XRun Try.prog (Instr.buildSlice 29 0 (List.toArray [])) w84 fun v41 w85 => ∃ (a67 : Option Addr) (l67 : Nat) (c67 : Nat), v41 = (.slice a67 l67 c67) ∧ S4 w85 ∧ XRun Try.prog (Builtin.append_ #[29, 29] 29 (List.toArray [(.slice a67 l67 c67), (.slice a33 l33 c33)])) w85 fun v42 w86 => ∃ (a68 : Option Addr) (l68 : Nat) (c68 : Nat), v42 = (.slice a68 l68 c68) ∧ S4 w86 ∧ storesAt p20 0 [(.slice a35 l35 c35), (.slice none 0 0), (.slice a66 l66 c66), (.slice none 0 0), (.slice a68 l68 c68)] w86 fun w87 => kb (some p20) w87) ∧ XRun Try.prog (Instr.buildSlice 29 0 (List.toArray [])) w83 fun v43 w88 => ∃ (a69 : Option Addr) (l69 : Nat) (c69 : Nat), v43 = (.slice a69 l69 c69) ∧ S4 w88 ∧ XRun Try.prog (Builtin.append_ #[29, 29] 29 (List.toArray [(.slice a65 l65 c65), (.slice a32 l32 c32)])) w88 fun v44 w89 => ∃ (a70 : Option Addr) (l70 : Nat) (c70 : Nat), v44 = (.slice a70 l70 c70) ∧ S4 w89 ∧ XRun Try.prog (Builtin.append_ #[29, 29] 29 (List.toArray [(.slice a69 l69 c69), (.slice a33 l33 c33)])) w89 fun v45 w90 => ∃ (a71 : Option Addr) (l71 : Nat) (c71 : Nat), v45 = (.slice a71 l71 c71) ∧ S4 w90 ∧ storesAt p20 0 [(.slice a35 l35 c35), (.slice none 0 0), (.slice a70 l70 c70), (.slice none 0 0), (.slice a71 l71 c71)] w90 fun w91 => kb (some p20) w91) ∧ XRun Try.prog (Instr.buildSlice 29 0 (List.toArray [])) w82 fun v46 w92 => ∃ (a72 : Option Addr) (l72 : Nat) (c72 : Nat), v46 = (.slice a72 l72 c72) ∧ S4 w92 ∧ XRun Try.prog (Instr.buildSlice 29 0 (List.toArray [])) w92 fun v47 w93 => ∃ (a73 : Option Addr) (l73 : Nat) (c73 : Nat), v47 = (.slice a73 l73 c73) ∧ S4 w93 ∧ XRun Try.prog (Builtin.append_ #[29, 29] 29 (List.toArray [(.slice a73 l73 c73), (.slice a32 l32 c32)])) w93 fun v48 w94 => ∃ (a74 : Option Addr) (l74 : Nat) (c74 : Nat), v48 = (.slice a74 l74 c74) ∧ S4 w94 ∧ XRun Try.prog (Builtin.append_ #[29, 29] 29 (List.toArray [(.slice a72 l72 c72), (.slice a33 l33 c33)])) w94 fun v49 w95 => ∃ (a75 : Option Addr) (l75 : Nat) (c75 : Nat), v49 = (.slice a75 l75 c75) ∧ S4 w95 ∧ storesAt p20 0 [(.slice a35 l35 c35), (.slice none 0 0), (.slice a74 l74 c74), (.slice none 0 0), (.slice a75 l75 c75)] w95 fun w96 => kb (some p20) w96) ∧ (XRun Try.prog (Instr.buildSlice 29 0 (List.toArray [])) w28 fun v50 w97 => ∃ (a76 : Option Addr) (l76 : Nat) (c76 : Nat), v50 = (.slice a76 l76 c76) ∧ S4 w97 ∧ (XRun Try.prog (Builtin.append_ #[29, 29] 29 (List.toArray [(.slice a34 l34 c34), (.slice a31 l31 c31)])) w97 fun v51 w98 => ∃ (a77 : Option Addr) (l77 : Nat) (c77 : Nat), v51 = (.slice a77 l77 c77) ∧ S4 w98 ∧ (XRun Try.prog (Builtin.append_ #[29, 29] 29 (List.toArray [(.slice a76 l76 c76), (.slice a32 l32 c32)])) w98 fun v52 w99 => ∃ (a78 : Option Addr) (l78 : Nat) (c78 : Nat), v52 = (.slice a78 l78 c78) ∧ S4 w99 ∧ (XRun Try.prog (Instr.buildSlice 29 0 (List.toArray [])) w99 fun v53 w100 => ∃ (a79 : Option Addr) (l79 : Nat) (c79 : Nat), v53 = (.slice a79 l79 c79) ∧ S4 w100 ∧ (XRun Try.prog (Builtin.append_ #[29, 29] 29 (List.toArray [(.slice a79 l79 c79), (.slice a33 l33 c33)])) w100 fun v54 w101 => ∃ (a80 : Option Addr) (l80 : Nat) (c80 : Nat), v54 = (.slice a80 l80 c80) ∧ S4 w101 ∧ let w102 : World := World.alloc w101 (.cells #[(.slice none 0 0), (.slice none 0 0), (.slice none 0 0), (.slice none 0 0), (.slice none 0 0)] 53); let p21 : Addr := ⟨Array.size (World.heap w101), 0, none⟩; S4 w102 ∧ storesAt p21 0 [(.slice a77 l77 c77), (.slice none 0 0), (.slice a78 l78 c78), (.slice none 0 0), (.slice a80 l80 c80)] w102 fun w103 => kb (some p21) w103) ∧ let w104 : World := World.alloc w100 (.cells #[(.slice none 0 0), (.slice none 0 0), (.slice none 0 0), (.slice none 0 0), (.slice none 0 0)] 53); let p22 : Addr := ⟨Array.size (World.heap w100), 0, none⟩; S4 w104 ∧ XRun Try.prog (Builtin.append_ #[29, 29] 29 (List.toArray [(.slice a79 l79 c79), (.slice a33 l33 c33)])) w104 fun v55 w105 => ∃ (a81 : Option Addr) (l81 : Nat) (c81 : Nat), v55 = (.slice a81 l81 c81) ∧ S4 w105 ∧ storesAt p22 0 [(.slice a77 l77 c77), (.slice none 0 0), (.slice a78 l78 c78), (.slice none 0 0), (.slice a81 l81 c81)] w105 fun w106 => kb (some p22) w106) ∧ let w107 : World := World.alloc w99 (.cells #[(.slice none 0 0), (.slice none 0 0), (.slice none 0 0), (.slice none 0 0), (.slice none 0 0)] 53); let p23 : Addr := ⟨Array.size (World.heap w99), 0, none⟩; S4 w107 ∧ XRun Try.prog (Instr.buildSlice 29 0 (List.toArray [])) w107 fun v56 w108 => ∃ (a82 : Option Addr) (l82 : Nat) (c82 : Nat), v56 = (.slice a82 l82 c82) ∧ S4 w108 ∧ XRun Try.prog (Builtin.append_ #[29, 29] 29 (List.toArray [(.slice a82 l82 c82), (.slice a33 l33 c33)])) w108 fun v57 w109 => ∃ (a83 : Option Addr) (l83 : Nat) (c83 : Nat), v57 = (.slice a83 l83 c83) ∧ S4 w109 ∧ storesAt p23 0 [(.slice a77 l77 c77), (.slice none 0 0), (.slice a78 l78 c78), (.slice none 0 0), (.slice a83 l83 c83)] w109 fun w110 => kb (some p23) w110) ∧ (XRun Try.prog (Instr.buildSlice 29 0 (List.toArray [])) w98 fun v58 w111 => ∃ (a84 : Option Addr) (l84 : Nat) (c84 : Nat), v58 = (.slice a84 l84 c84) ∧ S4 w111 ∧ (XRun Try.prog (Builtin.append_ #[29, 29] 29 (List.toArray [(.slice a76 l76 c76), (.slice a32 l32 c32)])) w111 fun v59 w112 => ∃ (a85 : Option Addr) (l85 : Nat) (c85 : Nat), v59 = (.slice a85 l85 c85) ∧ S4 w112 ∧ (XRun Try.prog (Builtin.append_ #[29, 29] 29 (List.toArray [(.slice a84 l84 c84), (.slice a33 l33 c33)])) w112 fun v60 w113 => ∃ (a86 : Option Addr) (l86 : Nat) (c86 : Nat), v60 = (.slice a86 l86 c86) ∧ S4 w113 ∧ let w114 : World := World.alloc w113 (.cells #[(.slice none 0 0), (.slice none 0 0), (.slice none 0 0), (.slice none 0 0), (.slice none 0 0)] 53); let p24 : Addr := ⟨Array.size (World.heap w113), 0, none⟩; S4 w114 ∧ storesAt p24 0 [(.slice a77 l77 c77), (.slice none 0 0), (.slice a85 l85 c85), (.slice none 0 0), (.slice a86 l86 c86)] w114 fun w115 => kb (some p24) w115) ∧ let w116 : World := World.alloc w112 (.cells #[(.slice none 0 0), (.slice none 0 0), (.slice none 0 0), (.slice none 0 0), (.slice none 0 0)] 53); let p25 : Addr := ⟨Array.size (World.heap w112), 0, none⟩; S4 w116 ∧ XRun Try.prog (Builtin.append_ #[29, 29] 29 (List.toArray [(.slice a84 l84 c84), (.slice a33 l33 c33)])) w116 fun v61 w117 => ∃ (a87 : Option Addr) (l87 : Nat) (c87 : Nat), v61 = (.slice a87 l87 c87) ∧ S4 w117 ∧ storesAt p25 0 [(.slice a77 l77 c77), (.slice none 0 0), (.slice a85 l85 c85), (.slice none 0 0), (.slice a87 l87 c87)] w117 fun w118 => kb (some p25) w118) ∧ let w119 : World := World.alloc w111 (.cells #[(.slice none 0 0), (.slice none 0 0), (.slice none 0 0), (.slice none 0 0), (.slice none 0 0)] 53); let p26 : Addr := ⟨Array.size (World.heap w111), 0, none⟩; S4 w119 ∧ XRun Try.prog (Builtin.append_ #[29, 29] 29 (List.toArray [(.slice a76 l76 c76), (.slice a32 l32 c32)])) w119 fun v62 w120 => ∃ (a88 : Option Addr) (l88 : Nat) (c88 : Nat), v62 = (.slice a88 l88 c88) ∧ S4 w120 ∧ XRun Try.prog (Builtin.append_ #[29, 29] 29 (List.toArray [(.slice a84 l84 c84), (.slice a33 l33 c33)])) w120 fun v63 w121 => ∃ (a89 : Option Addr) (l89 : Nat) (c89 : Nat), v63 = (.slice a89 l89 c89) ∧ S4 w121 ∧ storesAt p26 0 [(.slice a77 l77 c77), (.slice none 0 0), (.slice a88 l88 c88), (.slice none 0 0), (.slice a89 l89 c89)] w121 fun w122 => kb (some p26) w122) ∧ let w123 : World := World.alloc w98 (.cells #[(.slice none 0 0), (.slice none 0 0), (.slice none 0 0), (.slice none 0 0), (.slice none 0 0)] 53); let p27 : Addr := ⟨Array.size (World.heap w98), 0, none⟩; S4 w123 ∧ (XRun Try.prog (Builtin.append_ #[29, 29] 29 (List.toArray [(.slice a76 l76 c76), (.slice a32 l32 c32)])) w123 fun v64 w124 => ∃ (a90 : Option Addr) (l90 : Nat) (c90 : Nat), v64 = (.slice a90 l90 c90) ∧ S4 w124 ∧ XRun Try.prog (Instr.buildSlice 29 0 (List.toArray [])) w124 fun v65 w125 => ∃ (a91 : Option Addr) (l91 : Nat) (c91 : Nat), v65 = (.slice a91 l91 c91) ∧ S4 w125 ∧ XRun Try.prog (Builtin.append_ #[29, 29] 29 (List.toArray [(.slice a91 l91 c91), (.slice a33 l33 c33)])) w125 fun v66 w126 => ∃ (a92 : Option Addr) (l92 : Nat) (c92 : Nat), v66 = (.slice a92 l92 c92) ∧ S4 w126 ∧ storesAt p27 0 [(.slice a77 l77 c77), (.slice none 0 0), (.slice a90 l90 c90), (.slice none 0 0), (.slice a92 l92 c92)] w126 fun w127 => kb (some p27) w127) ∧ XRun Try.prog (Instr.buildSlice 29 0 (List.toArray [])) w123 fun v67 w128 => ∃ (a93 : Option Addr) (l93 : Nat) (c93 : Nat), v67 = (.slice a93 l93 c93) ∧ S4 w128 ∧ XRun Try.prog (Builtin.append_ #[29, 29] 29 (List.toArray [(.slice a76 l76 c76), (.slice a32 l32 c32)])) w128 fun v68 w129 => ∃ (a94 : Option Addr) (l94 : Nat) (c94 : Nat), v68 = (.slice a94 l94 c94) ∧ S4 w129 ∧ XRun Try.prog (Builtin.append_ #[29, 29] 29 (List.toArray [(.slice a93 l93 c93), (.slice a33 l33 c33)])) w129 fun v69 w130 => ∃ (a95 : Option Addr) (l95 : Nat) (c95 : Nat), v69 = (.slice a95 l95 c95) ∧ S4 w130 ∧ storesAt p27 0 [(.slice a77 l77 c77), (.slice none 0 0), (.slice a94 l94 c94), (.slice none 0 0), (.slice a95 l95 c95)] w130 fun w131 => kb (some p27) w131) ∧ (XRun Try.prog (Instr.buildSlice 29 0 (List.toArray [])) w97 fun v70 w132 => ∃ (a96 : Option Addr) (l96 : Nat) (c96 : Nat), v70 = (.slice a96 l96 c96) ∧ S4 w132 ∧ (XRun Try.prog (Builtin.append_ #[29, 29] 29 (List.toArray [(.slice a34 l34 c34), (.slice a31 l31 c31)])) w132 fun v71 w133 => ∃ (a97 : Option Addr) (l97 : Nat) (c97 : Nat), v71 = (.slice a97 l97 c97) ∧ S4 w133 ∧ (XRun Try.prog (Builtin.append_ #[29, 29] 29 (List.toArray [(.slice a76 l76 c76), (.slice a32 l32 c32)])) w133 fun v72 w134 => ∃ (a98 : Option Addr) (l98 : Nat) (c98 : Nat), v72 = (.slice a98 l98 c98) ∧ S4 w134 ∧ (XRun Try.prog (Builtin.append_ #[29, 29] 29 (List.toArray [(.slice a96 l96 c96), (.slice a33 l33 c33)])) w134 fun v73 w135 => ∃ (a99 : Option Addr) (l99 : Nat) (c99 : Nat), v73 = (.slice a99 l99 c99) ∧ S4 w135 ∧ let w136 : World := World.alloc w135 (.cells #[(.slice none 0 0), (.slice none 0 0), (.slice none 0 0), (.slice none 0 0), (.slice none 0 0)] 53); let p28 : Addr := ⟨Array.size (World.heap w135), 0, none⟩; S4 w136 ∧ storesAt p28 0 [(.slice a97 l97 c97), (.slice none 0 0), (.slice a98 l98 c98), (.slice none 0 0), (.slice a99 l99 c99)] w136 fun w137 => kb (some p28) w137) ∧ let w138 : World := World.alloc w134 (.cells #[(.slice none 0 0), (.slice none 0 0), (.slice none 0 0), (.slice none 0 0), (.slice none 0 0)] 53); let p29 : Addr := ⟨Array.size (World.heap w134), 0, none⟩; S4 w138 ∧ XRun Try.prog (Builtin.append_ #[29, 29] 29 (List.toArray [(.slice a96 l96 c96), (.slice a33 l33 c33)])) w138 fun v74 w139 => ∃ (a100 : Option Addr) (l100 : Nat) (c100 : Nat), v74 = (.slice a100 l100 c100) ∧ S4 w139 ∧ storesAt p29 0 [(.slice a97 l97 c97), (.slice none 0 0), (.slice a98 l98 c98), (.slice none 0 0), (.slice a100 l100 c100)] w139 fun w140 => kb (some p29) w140) ∧ let w141 : World := World.alloc w133 (.cells #[(.slice none 0 0), (.slice none 0 0), (.slice none 0 0), (.slice none 0 0), (.slice none 0 0)] 53); let p30 : Addr := ⟨Array.size (World.heap w133), 0, none⟩; S4 w141 ∧ XRun Try.prog (Builtin.append_ #[29, 29] 29 (List.toArray [(.slice a76 l76 c76), (.slice a32 l32 c32)])) w141 fun v75 w142 => ∃ (a101 : Option Addr) (l101 : Nat) (c101 : Nat), v75 = (.slice a101 l101 c101) ∧ S4 w142 ∧ XRun Try.prog (Builtin.append_ #[29, 29] 29 (List.toArray [(.slice a96 l96 c96), (.slice a33 l33 c33)])) w142 fun v76 w143 => ∃ (a102 : Option Addr) (l102 : Nat) (c102 : Nat), v76 = (.slice a102 l102 c102) ∧ S4 w143 ∧ storesAt p30 0 [(.slice a97 l97 c97), (.slice none 0 0), (.slice a101 l101 c101), (.slice none 0 0), (.slice a102 l102 c102)] w143 fun w144 => kb (some p30) w144) ∧ let w145 : World := World.alloc w132 (.cells #[(.slice none 0 0), (.slice none 0 0), (.slice none 0 0), (.slice none 0 0), (.slice none 0 0)] 53); let p31 : Addr := ⟨Array.size (World.heap w132), 0, none⟩; S4 w145 ∧ XRun Try.prog (Builtin.append_ #[29, 29] 29 (List.toArray [(.slice a34 l34 c34), (.slice a31 l31 c31)])) w145 fun v77 w146 => ∃ (a103 : Option Addr) (l103 : Nat) (c103 : Nat), v77 = (.slice a103 l103 c103) ∧ S4 w146 ∧ XRun Try.prog (Builtin.append_ #[29, 29] 29 (List.toArray [(.slice a76 l76 c76), (.slice a32 l32 c32)])) w146 fun v78 w147 => ∃ (a104 : Option Addr) (l104 : Nat) (c104 : Nat), v78 = (.slice a104 l104 c104) ∧ S4 w147 ∧ XRun Try.prog (Builtin.append_ #[29, 29] 29 (List.toArray [(.slice a96 l96 c96), (.slice a33 l33 c33)])) w147 fun v79 w148 => ∃ (a105 : Option Addr) (l105 : Nat) (c105 : Nat), v79 = (.slice a105 l105 c105) ∧ S4 w148 ∧ storesAt p31 0 [(.slice a103 l103 c103), (.slice none 0 0), (.slice a104 l104 c104), (.slice none 0 0), (.slice a105 l105 c105)] w148 fun w149 => kb (some p31) w149) ∧ let w150 : World := World.alloc w97 (.cells #[(.slice none 0 0), (.slice none 0 0), (.slice none 0 0), (.slice none 0 0), (.slice none 0 0)] 53); let p32 : Addr := ⟨Array.size (World.heap w97), 0, none⟩; S4 w150 ∧ (XRun Try.prog (Builtin.append_ #[29, 29] 29 (List.toArray [(.slice a34 l34 c34), (.slice a31 l31 c31)])) w150 fun v80 w151 => ∃ (a106 : Option Addr) (l106 : Nat) (c106 : Nat), v80 = (.slice a106 l106 c106) ∧ S4 w151 ∧ (XRun Try.prog (Builtin.append_ #[29, 29] 29 (List.toArray [(.slice a76 l76 c76), (.slice a32 l32 c32)])) w151 fun v81 w152 => ∃ (a107 : Option Addr) (l107 : Nat) (c107 : Nat), v81 = (.slice a107 l107 c107) ∧ S4 w152 ∧ XRun Try.prog (Instr.buildSlice 29 0 (List.toArray [])) w152 fun v82 w153 => ∃ (a108 : Option Addr) (l108 : Nat) (c108 : Nat), v82 = (.slice a108 l108 c108) ∧ S4 w153 ∧ XRun Try.prog (Builtin.append_ #[29, 29] 29 (List.toArray [(.slice a108 l108 c108), (.slice a33 l33 c33)])) w153 fun v83 w154 => ∃ (a109 : Option Addr) (l109 : Nat) (c109 : Nat), v83 = (.slice a109 l109 c109) ∧ S4 w154 ∧ storesAt p32 0 [(.slice a106 l106 c106), (.slice none 0 0), (.slice a107 l107 c107), (.slice none 0 0), (.slice a109 l109 c109)] w154 fun w155 => kb (some p32) w155) ∧ XRun Try.prog (Instr.buildSlice 29 0 (List.toArray [])) w151 fun v84 w156 => ∃ (a110 : Option Addr) (l110 : Nat) (c110 : Nat), v84 = (.slice a110 l110 c110) ∧ S4 w156 ∧ XRun Try.prog (Builtin.append_ #[29, 29] 29 (List.toArray [(.slice a76 l76 c76), (.slice a32 l32 c32)])) w156 fun v85 w157 => ∃ (a111 : Option Addr) (l111 : Nat) (c111 : Nat), v85 = (.slice a111 l111 c111) ∧ S4 w157 ∧ XRun Try.prog (Builtin.append_ #[29, 29] 29 (List.toArray [(.slice a110 l110 c110), (.slice a33 l33 c33)])) w157 fun v86 w158 => ∃ (a112 : Option Addr) (l112 : Nat) (c112 : Nat), v86 = (.slice a112 l112 c112) ∧ S4 w158 ∧ storesAt p32 0 [(.slice a106 l106 c106), (.slice none 0 0), (.slice a111 l111 c111), (.slice none 0 0), (.slice a112 l112 c112)] w158 fun w159 => kb (some p32) w159) ∧ XRun Try.prog (Instr.buildSlice 29 0 (List.toArray [])) w150 fun v87 w160 => ∃ (a113 : Option Addr) (l113 : Nat) (c113 : Nat), v87 = (.slice a113 l113 c113) ∧ S4 w160 ∧ XRun Try.prog (Builtin.append_ #[29, 29] 29 (List.toArray [(.slice a34 l34 c34), (.slice a31 l31 c31)])) w160 fun v88 w161 => ∃ (a114 : Option Addr) (l114 : Nat) (c114 : Nat), v88 = (.slice a114 l114 c114) ∧ S4 w161 ∧ XRun Try.prog (Builtin.append_ #[29, 29] 29 (List.toArray [(.slice a76 l76 c76), (.slice a32 l32 c32)])) w161 fun v89 w162 => ∃ (a115 : Option Addr) (l115 : Nat) (c115 : Nat), v89 = (.slice a115 l115 c115) ∧ S4 w162 ∧ XRun Try.prog (Builtin.append_ #[29, 29] 29 (List.toArray [(.slice a113 l113 c113), (.slice a33 l33 c33)])) w162 fun v90 w163 => ∃ (a116 : Option Addr) (l116 : Nat) (c116 : Nat), v90 = (.slice a116 l116 c116) ∧ S4 w163 ∧ storesAt p32 0 [(.slice a114 l114 c114), (.slice none 0 0), (.slice a115 l115 c115), (.slice none 0 0), (.slice a116 l116 c116)] w163 fun w164 => kb (some p32) w164) ∧ (XRun Try.prog (Instr.buildSlice 29 0 (List.toArray [])) w28 fun v91 w165 => ∃ (a117 : Option Addr) (l117 : Nat) (c117 : Nat), v91 = (.slice a117 l117 c117) ∧ S4 w165 ∧ (XRun Try.prog (Builtin.append_ #[29, 29] 29 (List.toArray [(.slice a34 l34 c34), (.slice a31 l31 c31)])) w165 fun v92 w166 => ∃ (a118 : Option Addr) (l118 : Nat) (c118 : Nat), v92 = (.slice a118 l118 c118) ∧ S4 w166 ∧ (XRun Try.prog (Instr.buildSlice 29 0 (List.toArray [])) w166 fun v93 w167 => ∃ (a119 : Option Addr) (l119 : Nat) (c119 : Nat), v93 = (.slice a119 l119 c119) ∧ S4 w167 ∧ (XRun Try.prog (Builtin.append_ #[29, 29] 29 (List.toArray [(.slice a119 l119 c119), (.slice a32 l32 c32)])) w167 fun v94 w168 => ∃ (a120 : Option Addr) (l120 : Nat) (c120 : Nat), v94 = (.slice a120 l120 c120) ∧ S4 w168 ∧ (XRun Try.prog (Builtin.append_ #[29, 29] 29 (List.toArray [(.slice a117 l117 c117), (.slice a33 l33 c33)])) w168 fun v95 w169 => ∃ (a121 : Option Addr) (l121 : Nat) (c121 : Nat), v95 = (.slice a121 l121 c121) ∧ S4 w169 ∧ let w170 : World := World.alloc w169 (.cells #[(.slice none 0 0), (.slice none 0 0), (.slice none 0 0), (.slice none 0 0), (.slice none 0 0)] 53); let p33 : Addr := ⟨Array.size (World.heap w169), 0, none⟩; S4 w170 ∧ storesAt p33 0 [(.slice a118 l118 c118), (.slice none 0 0), (.slice a120 l120 c120), (.slice none 0 0), (.slice a121 l121 c121)] w170 fun w171 => kb (some p33) w171) ∧ let w172 : World := World.alloc w168 (.cells #[(.slice none 0 0), (.slice none 0 0), (.slice none 0 0), (.slice none 0 0), (.slice none 0 0)] 53); let p34 : Addr := ⟨Array.size (World.heap w168), 0, none⟩; S4 w172 ∧ XRun Try.prog (Builtin.append_ #[29, 29] 29 (List.toArray [(.slice a117 l117 c117), (.slice a33 l33 c33)])) w172 fun v96 w173 => ∃ (a122 : Option Addr) (l122 : Nat) (c122 : Nat), v96 = (.slice a122 l122 c122) ∧ S4 w173 ∧ storesAt p34 0 [(.slice a118 l118 c118), (.slice none 0 0), (.slice a120 l120 c120), (.slice none 0 0), (.slice a122 l122 c122)] w173 fun w174 => kb (some p34) w174) ∧ let w175 : World := World.alloc w167 (.cells #[(.slice none 0 0), (.slice none 0 0), (.slice none 0 0), (.slice none 0 0), (.slice none 0 0)] 53); let p35 : Addr := ⟨Array.size (World.heap w167), 0, none⟩; S4 w175 ∧ XRun Try.prog (Builtin.append_ #[29, 29] 29 (List.toArray [(.slice a119 l119 c119), (.slice a32 l32 c32)])) w175 fun v97 w176 => ∃ (a123 : Option Addr) (l123 : Nat) (c123 : Nat), v97 = (.slice a123 l123 c123) ∧ S4 w176 ∧ XRun Try.prog (Builtin.append_ #[29, 29] 29 (List.toArray [(.slice a117 l117 c117), (.slice a33 l33 c33)])) w176 fun v98 w177 => ∃ (a124 : Option Addr) (l124 : Nat) (c124 : Nat), v98 = (.slice a124 l124 c124) ∧ S4 w177 ∧ storesAt p35 0 [(.slice a118 l118 c118), (.slice none 0 0), (.slice a123 l123 c123), (.slice none 0 0), (.slice a124 l124 c124)] w177 fun w178 => kb (some p35) w178) ∧ let w179 : World := World.alloc w166 (.cells #[(.slice none 0 0), (.slice none 0 0), (.slice none 0 0), (.slice none 0 0), (.slice none 0 0)] 53); let p36 : Addr := ⟨Array.size (World.heap w166), 0, none⟩; S4 w179 ∧ XRun Try.prog (Instr.buildSlice 29 0 (List.toArray [])) w179 fun v99 w180 => ∃ (a125 : Option Addr) (l125 : Nat) (c125 : Nat), v99 = (.slice a125 l125 c125) ∧ S4 w180 ∧ XRun Try.prog (Builtin.append_ #[29, 29] 29 (List.toArray [(.slice a125 l125 c125), (.slice a32 l32 c32)])) w180 fun v100 w181 => ∃ (a126 : Option Addr) (l126 : Nat) (c126 : Nat), v100 = (.slice a126 l126 c126) ∧ S4 w181 ∧ XRun Try.prog (Builtin.append_ #[29, 29] 29 (List.toArray [(.slice a117 l117 c117), (.slice a33 l33 c33)])) w181 fun v101 w182 => ∃ (a127 : Option Addr) (l127 : Nat) (c127 : Nat), v101 = (.slice a127 l127 c127) ∧ S4 w182 ∧ storesAt p36 0 [(.slice a118 l118 c118), (.slice none 0 0), (.slice a126 l126 c126), (.slice none 0 0), (.slice a127 l127 c127)] w182 fun w183 => kb (some p36) w183) ∧ (XRun Try.prog (Instr.buildSlice 29 0 (List.toArray [])) w165 fun v102 w184 => ∃ (a128 : Option Addr) (l128 : Nat) (c128 : Nat), v102 = (.slice a128 l128 c128) ∧ S4 w184 ∧ (XRun Try.prog (Builtin.append_ #[29, 29] 29 (List.toArray [(.slice a34 l34 c34), (.slice a31 l31 c31)])) w184 fun v103 w185 => ∃ (a129 : Option Addr) (l129 : Nat) (c129 : Nat), v103 = (.slice a129 l129 c129) ∧ S4 w185 ∧ (XRun Try.prog (Builtin.append_ #[29, 29] 29 (List.toArray [(.slice a128 l128 c128), (.slice a32 l32 c32)])) w185 fun v104 w186 => ∃ (a130 : Option Addr) (l130 : Nat) (c130 : Nat), v104 = (.slice a130 l130 c130) ∧ S4 w186 ∧ (XRun Try.prog (Builtin.append_ #[29, 29] 29 (List.toArray [(.slice a117 l117 c117), (.slice a33 l33 c33)])) w186 fun v105 w187 => ∃ (a131 : Option Addr) (l131 : Nat) (c131 : Nat), v105 = (.slice a131 l131 c131) ∧ S4 w187 ∧ let w188 : World := World.alloc w187 (.cells #[(.slice none 0 0), (.slice none 0 0), (.slice none 0 0), (.slice none 0 0), (.slice none 0 0)] 53); let p37 : Addr := ⟨Array.size (World.heap w187), 0, none⟩; S4 w188 ∧ storesAt p37 0 [(.slice a129 l129 c129), (.slice none 0 0), (.slice a130 l130 c130), (.slice none 0 0), (.slice a131 l131 c131)] w188 fun w189 => kb (some p37) w189) ∧ let w190 : World := World.alloc w186 (.cells #[(.slice none 0 0), (.slice none 0 0), (.slice none 0 0), (.slice none 0 0), (.slice none 0 0)] 53); let p38 : Addr := ⟨Array.size (World.heap w186), 0, none⟩; S4 w190 ∧ XRun Try.prog (Builtin.append_ #[29, 29] 29 (List.toArray [(.slice a117 l117 c117), (.slice a33 l33 c33)])) w190 fun v106 w191 => ∃ (a132 : Option Addr) (l132 : Nat) (c132 : Nat), v106 = (.slice a132 l132 c132) ∧ S4 w191 ∧ storesAt p38 0 [(.slice a129 l129 c129), (.slice none 0 0), (.slice a130 l130 c130), (.slice none 0 0), (.slice a132 l132 c132)] w191 fun w192 => kb (some p38) w192) ∧ let w193 : World := World.alloc w185 (.cells #[(.slice none 0 0), (.slice none 0 0), (.slice none 0 0), (.slice none 0 0), (.slice none 0 0)] 53); let p39 : Addr := ⟨Array.size (World.heap w185), 0, none⟩; S4 w193 ∧ XRun Try.prog (Builtin.append_ #[29, 29] 29 (List.toArray [(.slice a128 l128 c128), (.slice a32 l32 c32)])) w193 fun v107 w194 => ∃ (a133 : Option Addr) (l133 : Nat) (c133 : Nat), v107 = (.slice a133 l133 c133) ∧ S4 w194 ∧ XRun Try.prog (Builtin.append_ #[29, 29] 29 (List.toArray [(.slice a117 l117 c117), (.slice a33 l33 c33)])) w194 fun v108 w195 => ∃ (a134 : Option Addr) (l134 : Nat) (c134 : Nat), v108 = (.slice a134 l134 c134) ∧ S4 w195 ∧ storesAt p39 0 [(.slice a129 l129 c129), (.slice none 0 0), (.slice a133 l133 c133), (.slice none 0 0), (.slice a134 l134 c134)] w195 fun w196 => kb (some p39) w196) ∧ let w197 : World := World.alloc w184 (.cells #[(.slice none 0 0), (.slice none 0 0), (.slice none 0 0), (.slice none 0 0), (.slice none 0 0)] 53); let p40 : Addr := ⟨Array.size (World.heap w184), 0, none⟩; S4 w197 ∧ XRun Try.prog (Builtin.append_ #[29, 29] 29 (List.toArray [(.slice a34 l34 c34), (.slice a31 l31 c31)])) w197 fun v109 w198 => ∃ (a135 : Option Addr) (l135 : Nat) (c135 : Nat), v109 = (.slice a135 l135 c135) ∧ S4 w198 ∧ XRun Try.prog (Builtin.append_ #[29, 29] 29 (List.toArray [(.slice a128 l128 c128), (.slice a32 l32 c32)])) w198 fun v110 w199 => ∃ (a136 : Option Addr) (l136 : Nat) (c136 : Nat), v110 = (.slice a136 l136 c136) ∧ S4 w199 ∧ XRun Try.prog (Builtin.append_ #[29, 29] 29 (List.toArray [(.slice a117 l117 c117), (.slice a33 l33 c33)])) w199 fun v111 w200 => ∃ (a137 : Option Addr) (l137 : Nat) (c137 : Nat), v111 = (.slice a137 l137 c137) ∧ S4 w200 ∧ storesAt p40 0 [(.slice a135 l135 c135), (.slice none 0 0), (.slice a136 l136 c136), (.slice none 0 0), (.slice a137 l137 c137)] w200 fun w201 => kb (some p40) w201) ∧ let w202 : World := World.alloc w165 (.cells #[(.slice none 0 0), (.slice none 0 0), (.slice none 0 0), (.slice none 0 0), (.slice none 0 0)] 53); let p41 : Addr := ⟨Array.size (World.heap w165), 0, none⟩; S4 w202 ∧ (XRun Try.prog (Builtin.append_ #[29, 29] 29 (List.toArray [(.slice a34 l34 c34), (.slice a31 l31 c31)])) w202 fun v112 w203 => ∃ (a138 : Option Addr) (l138 : Nat) (c138 : Nat), v112 = (.slice a138 l138 c138) ∧ S4 w203 ∧ XRun Try.prog (Instr.buildSlice 29 0 (List.toArray [])) w203 fun v113 w204 => ∃ (a139 : Option Addr) (l139 : Nat) (c139 : Nat), v113 = (.slice a139 l139 c139) ∧ S4 w204 ∧ XRun Try.prog (Builtin.append_ #[29, 29] 29 (List.toArray [(.slice a139 l139 c139), (.slice a32 l32 c32)])) w204 fun v114 w205 => ∃ (a140 : Option Addr) (l140 : Nat) (c140 : Nat), v114 = (.slice a140 l140 c140) ∧ S4 w205 ∧ XRun Try.prog (Builtin.append_ #[29, 29] 29 (List.toArray [(.slice a117 l117 c117), (.slice a33 l33 c33)])) w205 fun v115 w206 => ∃ (a141 : Option Addr) (l141 : Nat) (c141 : Nat), v115 = (.slice a141 l141 c141) ∧ S4 w206 ∧ storesAt p41 0 [(.slice a138 l138 c138), (.slice none 0 0), (.slice a140 l140 c140), (.slice none 0 0), (.slice a141 l141 c141)] w206 fun w207 => kb (some p41) w207) ∧ XRun Try.prog (Instr.buildSlice 29 0 (List.toArray [])) w202 fun v116 w208 => ∃ (a142 : Option Addr) (l142 : Nat) (c142 : Nat), v116 = (.slice a142 l142 c142) ∧ S4 w208 ∧ XRun Try.prog (Builtin.append_ #[29, 29] 29 (List.toArray [(.slice a34 l34 c34), (.slice a31 l31 c31)])) w208 fun v117 w209 => ∃ (a143 : Option Addr) (l143 : Nat) (c143 : Nat), v117 = (.slice a143 l143 c143) ∧ S4 w209 ∧ XRun Try.prog (Builtin.append_ #[29, 29] 29 (List.toArray [(.slice a142 l142 c142), (.slice a32 l32 c32)])) w209 fun v118 w210 => ∃ (a144 : Option Addr) (l144 : Nat) (c144 : Nat), v118 = (.slice a144 l144 c144) ∧ S4 w210 ∧ XRun Try.prog (Builtin.append_ #[29, 29] 29 (List.toArray [(.slice a117 l117 c117), (.slice a33 l33 c33)])) w210 fun v119 w211 => ∃ (a145 : Option Addr) (l145 : Nat) (c145 : Nat), v119 = (.slice a145 l145 c145) ∧ S4 w211 ∧ storesAt p41 0 [(.slice a143 l143 c143), (.slice none 0 0), (.slice a144 l144 c144), (.slice none 0 0), (.slice a145 l145 c145)] w211 fun w212 => kb (some p41) w212) ∧ let w213 : World := World.alloc w28 (.cells #[(.slice none 0 0), (.slice none 0 0), (.slice none 0 0), (.slice none 0 0), (.slice none 0 0)] 53); let p42 : Addr := ⟨Array.size (World.heap w28), 0, none⟩; S4 w213 ∧ (XRun Try.prog (Builtin.append_ #[29, 29] 29 (List.toArray [(.slice a34 l34 c34), (.slice a31 l31 c31)])) w213 fun v120 w214 => ∃ (a146 : Option Addr) (l146 : Nat) (c146 : Nat), v120 = (.slice a146 l146 c146) ∧ S4 w214 ∧ (XRun Try.prog (Instr.buildSlice 29 0 (List.toArray [])) w214 fun v121 w215 => ∃ (a147 : Option Addr) (l147 : Nat) (c147 : Nat), v121 = (.slice a147 l147 c147) ∧ S4 w215 ∧ (XRun Try.prog (Builtin.append_ #[29, 29] 29 (List.toArray [(.slice a147 l147 c147), (.slice a32 l32 c32)])) w215 fun v122 w216 => ∃ (a148 : Option Addr) (l148 : Nat) (c148 : Nat), v122 = (.slice a148 l148 c148) ∧ S4 w216 ∧ XRun Try.prog (Instr.buildSlice 29 0 (List.toArray [])) w216 fun v123 w217 => ∃ (a149 : Option Addr) (l149 : Nat) (c149 : Nat), v123 = (.slice a149 l149 c149) ∧ S4 w217 ∧ XRun Try.prog (Builtin.append_ #[29, 29] 29 (List.toArray [(.slice a149 l149 c149), (.slice a33 l33 c33)])) w217 fun v124 w218 => ∃ (a150 : Option Addr) (l150 : Nat) (c150 : Nat), v124 = (.slice a150 l150 c150) ∧ S4 w218 ∧ storesAt p42 0 [(.slice a146 l146 c146), (.slice none 0 0), (.slice a148 l148 c148), (.slice none 0 0), (.slice a150 l150 c150)] w218 fun w219 => kb (some p42) w219) ∧ XRun Try.prog (Instr.buildSlice 29 0 (List.toArray [])) w215 fun v125 w220 => ∃ (a151 : Option Addr) (l151 : Nat) (c151 : Nat), v125 = (.slice a151 l151 c151) ∧ S4 w220 ∧ XRun Try.prog (Builtin.append_ #[29, 29] 29 (List.toArray [(.slice a147 l147 c147), (.slice a32 l32 c32)])) w220 fun v126 w221 => ∃ (a152 : Option Addr) (l152 : Nat) (c152 : Nat), v126 = (.slice a152 l152 c152) ∧ S4 w221 ∧ XRun Try.prog (Builtin.append_ #[29, 29] 29 (List.toArray [(.slice a151 l151 c151), (.slice a33 l33 c33)])) w221 fun v127 w222 => ∃ (a153 : Option Addr) (l153 : Nat) (c153 : Nat), v127 = (.slice a153 l153 c153) ∧ S4 w222 ∧ storesAt p42 0 [(.slice a146 l146 c146), (.slice none 0 0), (.slice a152 l152 c152), (.slice none 0 0), (.slice a153 l153 c153)] w222 fun w223 => kb (some p42) w223) ∧ XRun Try.prog (Instr.buildSlice 29 0 (List.toArray [])) w214 fun v128 w224 => ∃ (a154 : Option Addr) (l154 : Nat) (c154 : Nat), v128 = (.slice a154 l154 c154) ∧ S4 w224 ∧ XRun Try.prog (Instr.buildSlice 29 0 (List.toArray [])) w224 fun v129 w225 => ∃ (a155 : Option Addr) (l155 : Nat) (c155 : Nat), v129 = (.slice a155 l155 c155) ∧ S4 w225 ∧ XRun Try.prog (Builtin.append_ #[29, 29] 29 (List.toArray [(.slice a155 l155 c155), (.slice a32 l32 c32)])) w225 fun v130 w226 => ∃ (a156 : Option Addr) (l156 : Nat) (c156 : Nat), v130 = (.slice a156 l156 c156) ∧ S4 w226 ∧ XRun Try.prog (Builtin.append_ #[29, 29] 29 (List.toArray [(.slice a154 l154 c154), (.slice a33 l33 c33)])) w226 fun v131 w227 => ∃ (a157 : Option Addr) (l157 : Nat) (c157 : Nat), v131 = (.slice a157 l157 c157) ∧ S4 w227 ∧ storesAt p42 0 [(.slice a146 l146 c146), (.slice none 0 0), (.slice a156 l156 c156), (.slice none 0 0), (.slice a157 l157 c157)] w227 fun w228 => kb (some p42) w228) ∧ (XRun Try.prog (Instr.buildSlice 29 0 (List.toArray [])) w213 fun v132 w229 => ∃ (a158 : Option Addr) (l158 : Nat) (c158 : Nat), v132 = (.slice a158 l158 c158) ∧ S4 w229 ∧ (XRun Try.prog (Builtin.append_ #[29, 29] 29 (List.toArray [(.slice a34 l34 c34), (.slice a31 l31 c31)])) w229 fun v133 w230 => ∃ (a159 : Option Addr) (l159 : Nat) (c159 : Nat), v133 = (.slice a159 l159 c159) ∧ S4 w230 ∧ (XRun Try.prog (Builtin.append_ #[29, 29] 29 (List.toArray [(.slice a158 l158 c158), (.slice a32 l32 c32)])) w230 fun v134 w231 => ∃ (a160 : Option Addr) (l160 : Nat) (c160 : Nat), v134 = (.slice a160 l160 c160) ∧ S4 w231 ∧ XRun Try.prog (Instr.buildSlice 29 0 (List.toArray [])) w231 fun v135 w232 => ∃ (a161 : Option Addr) (l161 : Nat) (c161 : Nat), v135 = (.slice a161 l161 c161) ∧ S4 w232 ∧ XRun Try.prog (Builtin.append_ #[29, 29] 29 (List.toArray [(.slice a161 l161 c161), (.slice a33 l33 c33)])) w232 fun v136 w233 => ∃ (a162 : Option Addr) (l162 : Nat) (c162 : Nat), v136 = (.slice a162 l162 c162) ∧ S4 w233 ∧ storesAt p42 0 [(.slice a159 l159 c159), (.slice none 0 0), (.slice a160 l160 c160), (.slice none 0 0), (.slice a162 l162 c162)] w233 fun w234 => kb (some p42) w234) ∧ XRun Try.prog (Instr.buildSlice 29 0 (List.toArray [])) w230 fun v137 w235 => ∃ (a163 : Option Addr) (l163 : Nat) (c163 : Nat), v137 = (.slice a163 l163 c163) ∧ S4 w235 ∧ XRun Try.prog (Builtin.append_ #[29, 29] 29 (List.toArray [(.slice a158 l158 c158), (.slice a32 l32 c32)])) w235 fun v138 w236 => ∃ (a164 : Option Addr) (l164 : Nat) (c164 : Nat), v138 = (.slice a164 l164 c164) ∧ S4 w236 ∧ XRun Try.prog (Builtin.append_ #[29, 29] 29 (List.toArray [(.slice a163 l163 c163), (.slice a33 l33 c33)])) w236 fun v139 w237 => ∃ (a165 : Option Addr) (l165 : Nat) (c165 : Nat), v139 = (.slice a165 l165 c165) ∧ S4 w237 ∧ storesAt p42 0 [(.slice a159 l159 c159), (.slice none 0 0), (.slice a164 l164 c164), (.slice none 0 0), (.slice a165 l165 c165)] w237 fun w238 => kb (some p42) w238) ∧ XRun Try.prog (Instr.buildSlice 29 0 (List.toArray [])) w229 fun v140 w239 => ∃ (a166 : Option Addr) (l166 : Nat) (c166 : Nat), v140 = (.slice a166 l166 c166) ∧ S4 w239 ∧ XRun Try.prog (Builtin.append_ #[29, 29] 29 (List.toArray [(.slice a34 l34 c34), (.slice a31 l31 c31)])) w239 fun v141 w240 => ∃ (a167 : Option Addr) (l167 : Nat) (c167 : Nat), v141 = (.slice a167 l167 c167) ∧ S4 w240 ∧ XRun Try.prog (Builtin.append_ #[29, 29] 29 (List.toArray [(.slice a158 l158 c158), (.slice a32 l32 c32)])) w240 fun v142 w241 => ∃ (a168 : Option Addr) (l168 : Nat) (c168 : Nat), v142 = (.slice a168 l168 c168) ∧ S4 w241 ∧ XRun Try.prog (Builtin.append_ #[29, 29] 29 (List.toArray [(.slice a166 l166 c166), (.slice a33 l33 c33)])) w241 fun v143 w242 => ∃ (a169 : Option Addr) (l169 : Nat) (c169 : Nat), v143 = (.slice a169 l169 c169) ∧ S4 w242 ∧ storesAt p42 0 [(.slice a167 l167 c167), (.slice none 0 0), (.slice a168 l168 c168), (.slice none 0 0), (.slice a169 l169 c169)] w242 fun w243 => kb (some p42) w243) ∧ XRun Try.prog (Instr.buildSlice 29 0 (List.toArray [])) w213 fun v144 w244 => ∃ (a170 : Option Addr) (l170 : Nat) (c170 : Nat), v144 = (.slice a170 l170 c170) ∧ S4 w244 ∧ (XRun Try.prog (Builtin.append_ #[29, 29] 29 (List.toArray [(.slice a34 l34 c34), (.slice a31 l31 c31)])) w244 fun v145 w245 => ∃ (a171 : Option Addr) (l171 : Nat) (c171 : Nat), v145 = (.slice a171 l171 c171) ∧ S4 w245 ∧ XRun Try.prog (Instr.buildSlice 29 0 (List.toArray [])) w245 fun v146 w246 => ∃ (a172 : Option Addr) (l172 : Nat) (c172 : Nat), v146 = (.slice a172 l172 c172) ∧ S4 w246 ∧ XRun Try.prog (Builtin.append_ #[29, 29] 29 (List.toArray [(.slice a172 l172 c172), (.slice a32 l32 c32)])) w246 fun v147 w247 => ∃ (a173 : Option Addr) (l173 : Nat) (c173 : Nat), v147 = (.slice a173 l173 c173) ∧ S4 w247 ∧ XRun Try.prog (Builtin.append_ #[29, 29] 29 (List.toArray [(.slice a170 l170 c170), (.slice a33 l33 c33)])) w247 fun v148 w248 => ∃ (a174 : Option Addr) (l174 : Nat) (c174 : Nat), v148 = (.slice a174 l174 c174) ∧ S4 w248 ∧ storesAt p42 0 [(.slice a171 l171 c171), (.slice none 0 0), (.slice a173 l173 c173), (.slice none 0 0), (.slice a174 l174 c174)] w248 fun w249 => kb (some p42) w249) ∧ XRun Try.prog (Instr.buildSlice 29 0 (List.toArray [])) w244 fun v149 w250 => ∃ (a175 : Option Addr) (l175 : Nat) (c175 : Nat), v149 = (.slice a175 l175 c175) ∧ S4 w250 ∧ XRun Try.prog (Builtin.append_ #[29, 29] 29 (List.toArray [(.slice a34 l34 c34), (.slice a31 l31 c31)])) w250 fun v150 w251 => ∃ (a176 : Option Addr) (l176 : Nat) (c176 : Nat), v150 = (.slice a176 l176 c176) ∧ S4 w251 ∧ XRun Try.prog (Builtin.append_ #[29, 29] 29 (List.toArray [(.slice a175 l175 c175), (.slice a32 l32 c32)])) w251 fun v151 w252 => ∃ (a177 : Option Addr) (l177 : Nat) (c177 : Nat), v151 = (.slice a177 l177 c177) ∧ S4 w252 ∧ XRun Try.prog (Builtin.append_ #[29, 29] 29 (List.toArray [(.slice a170 l170 c170), (.slice a33 l33 c33)])) w252 fun v152 w253 => ∃ (a178 : Option Addr) (l178 : Nat) (c178 : Nat), v152 = (.slice a178 l178 c178) ∧ S4 w253 ∧ storesAt p42 0 [(.slice a176 l176 c176), (.slice none 0 0), (.slice a177 l177 c177), (.slice none 0 0), (.slice a178 l178 c178)] w253 fun w254 => kb (some p42) w254) ∧ (XRun Try.prog (Instr.buildSlice 29 0 (List.toArray [])) w24 fun v153 w255 => ∃ (a179 : Option Addr) (l179 : Nat) (c179 : Nat), v153 = (.slice a179 l179 c179) ∧ S4 w255 ∧ (XRun Try.prog (Instr.buildSlice 29 0 (List.toArray [])) w255 fun v154 w256 => ∃ (a180 : Option Addr) (l180 : Nat) (c180 : Nat), v154 = (.slice a180 l180 c180) ∧ S4 w256 ∧ (XRun Try.prog (Builtin.append_ #[29, 29] 29 (List.toArray [(.slice a180 l180 c180), (.slice a31 l31 c31)])) w256 fun v155 w257 => ∃ (a181 : Option Addr) (l181 : Nat) (c181 : Nat), v155 = (.slice a181 l181 c181) ∧ S4 w257 ∧ (XRun Try.prog (Builtin.append_ #[29, 29] 29 (List.toArray [(.slice a179 l179 c179), (.slice a32 l32 c32)])) w257 fun v156 w258 => ∃ (a182 : Option Addr) (l182 : Nat) (c182 : Nat), v156 = (.slice a182 l182 c182) ∧ S4 w258 ∧ (XRun Try.prog (Instr.buildSlice 29 0 (List.toArray [])) w258 fun v157 w259 => ∃ (a183 : Option Addr) (l183 : Nat) (c183 : Nat), v157 = (.slice a183 l183 c183) ∧ S4 w259 ∧ (XRun Try.prog (Builtin.append_ #[29, 29] 29 (List.toArray [(.slice a183 l183 c183), (.slice a33 l33 c33)])) w259 fun v158 w260 => ∃ (a184 : Option Addr) (l184 : Nat) (c184 : Nat), v158 = (.slice a184 l184 c184) ∧ S4 w260 ∧ let w261 : World := World.alloc w260 (.cells #[(.slice none 0 0), (.slice none 0 0), (.slice none 0 0), (.slice none 0 0), (.slice none 0 0)] 53); let p43 : Addr := ⟨Array.size (World.heap w260), 0, none⟩; S4 w261 ∧ storesAt p43 0 [(.slice a181 l181 c181), (.slice none 0 0), (.slice a182 l182 c182), (.slice none 0 0), (.slice a184 l184 c184)] w261 fun w262 => kb (some p43) w262) ∧ let w263 : World := World.alloc w259 (.cells #[(.slice none 0 0), (.slice none 0 0), (.slice none 0 0), (.slice none 0 0), (.slice none 0 0)] 53); let p44 : Addr := ⟨Array.size (World.heap w259), 0, none⟩; S4 w263 ∧ XRun Try.prog (Builtin.append_ #[29, 29] 29 (List.toArray [(.slice a183 l183 c183), (.slice a33 l33 c33)])) w263 fun v159 w264 => ∃ (a185 : Option Addr) (l185 : Nat) (c185 : Nat), v159 = (.slice a185 l185 c185) ∧ S4 w264 ∧ storesAt p44 0 [(.slice a181 l181 c181), (.slice none 0 0), (.slice a182 l182 c182), (.slice none 0 0), (.slice a185 l185 c185)] w264 fun w265 => kb (some p44) w265) ∧ let w266 : World := World.alloc w258 (.cells #[(.slice none 0 0), (.slice none 0 0), (.slice none 0 0), (.slice none 0 0), (.slice none 0 0)] 53); let p45 : Addr := ⟨Array.size (World.heap w258), 0, none⟩; S4 w266 ∧ XRun Try.prog (Instr.buildSlice 29 0 (List.toArray [])) w266 fun v160 w267 => ∃ (a186 : Option Addr) (l186 : Nat) (c186 : Nat), v160 = (.slice a186 l186 c186) ∧ S4 w267 ∧ XRun Try.prog (Builtin.append_ #[29, 29] 29 (List.toArray [(.slice a186 l186 c186), (.slice a33 l33 c33)])) w267 fun v161 w268 => ∃ (a187 : Option Addr) (l187 : Nat) (c187 : Nat), v161 = (.slice a187 l187 c187) ∧ S4 w268 ∧ storesAt p45 0 [(.slice a181 l181 c181), (.slice none 0 0), (.slice a182 l182 c182), (.slice none 0 0), (.slice a187 l187 c187)] w268 fun w269 => kb (some p45) w269) ∧ (XRun Try.prog (Instr.buildSlice 29 0 (List.toArray [])) w257 fun v162 w270 => ∃ (a188 : Option Addr) (l188 : Nat) (c188 : Nat), v162 = (.slice a188 l188 c188) ∧ S4 w270 ∧ (XRun Try.prog (Builtin.append_ #[29, 29] 29 (List.toArray [(.slice a179 l179 c179), (.slice a32 l32 c32)])) w270 fun v163 w271 => ∃ (a189 : Option Addr) (l189 : Nat) (c189 : Nat), v163 = (.slice a189 l189 c189) ∧ S4 w271 ∧ (XRun Try.prog (Builtin.append_ #[29, 29] 29 (List.toArray [(.slice a188 l188 c188), (.slice a33 l33 c33)])) w271 fun v164 w272 => ∃ (a190 : Option Addr) (l190 : Nat) (c190 : Nat), v164 = (.slice a190 l190 c190) ∧ S4 w272 ∧ let w273 : World := World.alloc w272 (.cells #[(.slice none 0 0), (.slice none 0 0), (.slice none 0 0), (.slice none 0 0), (.slice none 0 0)] 53); let p46 : Addr := ⟨Array.size (World.heap w272), 0, none⟩; S4 w273 ∧ storesAt p46 0 [(.slice a181 l181 c181), (.slice none 0 0), (.slice a189 l189 c189), (.slice none 0 0), (.slice a190 l190 c190)] w273 fun w274 => kb (some p46) w274) ∧ let w275 : World := World.alloc w271 (.cells #[(.slice none 0 0), (.slice none 0 0), (.slice none 0 0), (.slice none 0 0), (.slice none 0 0)] 53); let p47 : Addr := ⟨Array.size (World.heap w271), 0, none⟩; S4 w275 ∧ XRun Try.prog (Builtin.append_ #[29, 29] 29 (List.toArray [(.slice a188 l188 c188), (.slice a33 l33 c33)])) w275 fun v165 w276 => ∃ (a191 : Option Addr) (l191 : Nat) (c191 : Nat), v165 = (.slice a191 l191 c191) ∧ S4 w276 ∧ storesAt p47 0 [(.slice a181 l181 c181), (.slice none 0 0), (.slice a189 l189 c189), (.slice none 0 0), (.slice a191 l191 c191)] w276 fun w277 => kb (some p47) w277) ∧ let w278 : World := World.alloc w270 (.cells #[(.slice none 0 0), (.slice none 0 0), (.slice none 0 0), (.slice none 0 0), (.slice none 0 0)] 53); let p48 : Addr := ⟨Array.size (World.heap w270), 0, none⟩; S4 w278 ∧ XRun Try.prog (Builtin.append_ #[29, 29] 29 (List.toArray [(.slice a179 l179 c179), (.slice a32 l32 c32)])) w278 fun v166 w279 => ∃ (a192 : Option Addr) (l192 : Nat) (c192 : Nat), v166 = (.slice a192 l192 c192) ∧ S4 w279 ∧ XRun Try.prog (Builtin.append_ #[29, 29] 29 (List.toArray [(.slice a188 l188 c188), (.slice a33 l33 c33)])) w279 fun v167 w280 => ∃ (a193 : Option Addr) (l193 : Nat) (c193 : Nat), v167 = (.slice a193 l193 c193) ∧ S4 w280 ∧ storesAt p48 0 [(.slice a181 l181 c181), (.slice none 0 0), (.slice a192 l192 c192), (.slice none 0 0), (.slice a193 l193 c193)] w280 fun w281 => kb (some p48) w281) ∧ let w282 : World := World.alloc w257 (.cells #[(.slice none 0 0), (.slice none 0 0), (.slice none 0 0), (.slice none 0 0), (.slice none 0 0)] 53); let p49 : Addr := ⟨Array.size (World.heap w257), 0, none⟩; S4 w282 ∧ (XRun Try.prog (Builtin.append_ #[29, 29] 29 (List.toArray [(.slice a179 l179 c179), (.slice a32 l32 c32)])) w282 fun v168 w283 => ∃ (a194 : Option Addr) (l194 : Nat) (c194 : Nat), v168 = (.slice a194 l194 c194) ∧ S4 w283 ∧ XRun Try.prog (Instr.buildSlice 29 0 (List.toArray [])) w283 fun v169 w284 => ∃ (a195 : Option Addr) (l195 : Nat) (c195 : Nat), v169 = (.slice a195 l195 c195) ∧ S4 w284 ∧ XRun Try.prog (Builtin.append_ #[29, 29] 29 (List.toArray [(.slice a195 l195 c195), (.slice a33 l33 c33)])) w284 fun v170 w285 => ∃ (a196 : Option Addr) (l196 : Nat) (c196 : Nat), v170 = (.slice a196 l196 c196) ∧ S4 w285 ∧ storesAt p49 0 [(.slice a181 l181 c181), (.slice none 0 0), (.slice a194 l194 c194), (.slice none 0 0), (.slice a196 l196 c196)] w285 fun w286 => kb (some p49) w286) ∧ XRun Try.prog (Instr.buildSlice 29 0 (List.toArray [])) w282 fun v171 w287 => ∃ (a197 : Option Addr) (l197 : Nat) (c197 : Nat), v171 = (.slice a197 l197 c197) ∧ S4 w287 ∧ XRun Try.prog (Builtin.append_ #[29, 29] 29 (List.toArray [(.slice a179 l179 c179), (.slice a32 l32 c32)])) w287 fun v172 w288 => ∃ (a198 : Option Addr) (l198 : Nat) (c198 : Nat), v172 = (.slice a198 l198 c198) ∧ S4 w288 ∧ XRun Try.prog (Builtin.append_ #[29, 29] 29 (List.toArray [(.slice a197 l197 c197), (.slice a33 l33 c33)])) w288 fun v173 w289 => ∃ (a199 : Option Addr) (l199 : Nat) (c199 : Nat), v173 = (.slice a199 l199 c199) ∧ S4 w289 ∧ storesAt p49 0 [(.slice a181 l181 c181), (.slice none 0 0), (.slice a198 l198 c198), (.slice none 0 0), (.slice a199 l199 c199)] w289 fun w290 => kb (some p49) w290) ∧ (XRun Try.prog (Instr.buildSlice 29 0 (List.toArray [])) w256 fun v174 w291 => ∃ (a200 : Option Addr) (l200 : Nat) (c200 : Nat), v174 = (.slice a200 l200 c200) ∧ S4 w291 ∧ (XRun Try.prog (Builtin.append_ #[29, 29] 29 (List.toArray [(.slice a180 l180 c180), (.slice a31 l31 c31)])) w291 fun v175 w292 => ∃ (a201 : Option Addr) (l201 : Nat) (c201 : Nat), v175 = (.slice a201 l201 c201) ∧ S4 w292 ∧ (XRun Try.prog (Builtin.append_ #[29, 29] 29 (List.toArray [(.slice a179 l179 c179), (.slice a32 l32 c32)])) w292 fun v176 w293 => ∃ (a202 : Option Addr) (l202 : Nat) (c202 : Nat), v176 = (.slice a202 l202 c202) ∧ S4 w293 ∧ (XRun Try.prog (Builtin.append_ #[29, 29] 29 (List.toArray [(.slice a200 l200 c200), (.slice a33 l33 c33)])) w293 fun v177 w294 => ∃ (a203 : Option Addr) (l203 : Nat) (c203 : Nat), v177 = (.slice a203 l203 c203) ∧ S4 w294 ∧ let w295 : World := World.alloc w294 (.cells #[(.slice none 0 0), (.slice none 0 0), (.slice none 0 0), (.slice none 0 0), (.slice none 0 0)] 53); let p50 : Addr := ⟨Array.size (World.heap w294), 0, none⟩; S4 w295 ∧ storesAt p50 0 [(.slice a201 l201 c201), (.slice none 0 0), (.slice a202 l202 c202), (.slice none 0 0), (.slice a203 l203 c203)] w295 fun w296 => kb (some p50) w296) ∧ let w297 : World := World.alloc w293 (.cells #[(.slice none 0 0), (.slice none 0 0), (.slice none 0 0), (.slice none 0 0), (.slice none 0 0)] 53); let p51 : Addr := ⟨Array.size (World.heap w293), 0, none⟩; S4 w297 ∧ XRun Try.prog (Builtin.append_ #[29, 29] 29 (List.toArray [(.slice a200 l200 c200), (.slice a33 l33 c33)])) w297 fun v178 w298 => ∃ (a204 : Option Addr) (l204 : Nat) (c204 : Nat), v178 = (.slice a204 l204 c204) ∧ S4 w298 ∧ storesAt p51 0 [(.slice a201 l201 c201), (.slice none 0 0), (.slice a202 l202 c202), (.slice none 0 0), (.slice a204 l204 c204)] w298 fun w299 => kb (some p51) w299) ∧ let w300 : World := World.alloc w292 (.cells #[(.slice none 0 0), (.slice none 0 0), (.slice none 0 0), (.slice none 0 0), (.slice none 0 0)] 53); let p52 : Addr := ⟨Array.size (World.heap w292), 0, none⟩; S4 w300 ∧ XRun Try.prog (Builtin.append_ #[29, 29] 29 (List.toArray [(.slice a179 l179 c179), (.slice a32 l32 c32)])) w300 fun v179 w301 => ∃ (a205 : Option Addr) (l205 : Nat) (c205 : Nat), v179 = (.slice a205 l205 c205) ∧ S4 w301 ∧ XRun Try.prog (Builtin.append_ #[29, 29] 29 (List.toArray [(.slice a200 l200 c200), (.slice a33 l33 c33)])) w301 fun v180 w302 => ∃ (a206 : Option Addr) (l206 : Nat) (c206 : Nat), v180 = (.slice a206 l206 c206) ∧ S4 w302 ∧ storesAt p52 0 [(.slice a201 l201 c201), (.slice none 0 0), (.slice a205 l205 c205), (.slice none 0 0), (.slice a206 l206 c206)] w302 fun w303 => kb (some p52) w303) ∧ let w304 : World := World.alloc w291 (.cells #[(.slice none 0 0), (.slice none 0 0), (.slice none 0 0), (.slice none 0 0), (.slice none 0 0)] 53); let p53 : Addr := ⟨Array.size (World.heap w291), 0, none⟩; S4 w304 ∧ XRun Try.prog (Builtin.append_ #[29, 29] 29 (List.toArray [(.slice a180 l180 c180), (.slice a31 l31 c31)])) w304 fun v181 w305 => ∃ (a207 : Option Addr) (l207 : Nat) (c207 : Nat), v181 = (.slice a207 l207 c207) ∧ S4 w305 ∧ XRun Try.prog (Builtin.append_ #[29, 29] 29 (List.toArray [(.slice a179 l179 c179), (.slice a32 l32 c32)])) w305 fun v182 w306 => ∃ (a208 : Option Addr) (l208 : Nat) (c208 : Nat), v182 = (.slice a208 l208 c208) ∧ S4 w306 ∧ XRun Try.prog (Builtin.append_ #[29, 29] 29 (List.toArray [(.slice a200 l200 c200), (.slice a33 l33 c33)])) w306 fun v183 w307 => ∃ (a209 : Option Addr) (l209 : Nat) (c209 : Nat), v183 = (.slice a209 l209 c209) ∧ S4 w307 ∧ storesAt p53 0 [(.slice a207 l207 c207), (.slice none 0 0), (.slice a208 l208 c208), (.slice none 0 0), (.slice a209 l209 c209)] w307 fun w308 => kb (some p53) w308) ∧ let w309 : World := World.alloc w256 (.cells #[(.slice none 0 0), (.slice none 0 0), (.slice none 0 0), (.slice none 0 0), (.slice none 0 0)] 53); let p54 : Addr := ⟨Array.size (World.heap w256), 0, none⟩; S4 w309 ∧ (XRun Try.prog (Builtin.append_ #[29, 29] 29 (List.toArray [(.slice a180 l180 c180), (.slice a31 l31 c31)])) w309 fun v184 w310 => ∃ (a210 : Option Addr) (l210 : Nat) (c210 : Nat), v184 = (.slice a210 l210 c210) ∧ S4 w310 ∧ (XRun Try.prog (Builtin.append_ #[29, 29] 29 (List.toArray [(.slice a179 l179 c179), (.slice a32 l32 c32)])) w310 fun v185 w311 => ∃ (a211 : Option Addr) (l211 : Nat) (c211 : Nat), v185 = (.slice a211 l211 c211) ∧ S4 w311 ∧ XRun Try.prog (Instr.buildSlice 29 0 (List.toArray [])) w311 fun v186 w312 => ∃ (a212 : Option Addr) (l212 : Nat) (c212 : Nat), v186 = (.slice a212 l212 c212) ∧ S4 w312 ∧ XRun Try.prog (Builtin.append_ #[29, 29] 29 (List.toArray [(.slice a212 l212 c212), (.slice a33 l33 c33)])) w312 fun v187 w313 => ∃ (a213 : Option Addr) (l213 : Nat) (c213 : Nat), v187 = (.slice a213 l213 c213) ∧ S4 w313 ∧ storesAt p54 0 [(.slice a210 l210 c210), (.slice none 0 0), (.slice a211 l211 c211), (.slice none 0 0), (.slice a213 l213 c213)] w313 fun w314 => kb (some p54) w314) ∧ XRun Try.prog (Instr.buildSlice 29 0 (List.toArray [])) w310 fun v188 w315 => ∃ (a214 : Option Addr) (l214 : Nat) (c214 : Nat), v188 = (.slice a214 l214 c214) ∧ S4 w315 ∧ XRun Try.prog (Builtin.append_ #[29, 29] 29 (List.toArray [(.slice a179 l179 c179), (.slice a32 l32 c32)])) w315 fun v189 w316 => ∃ (a215 : Option Addr) (l215 : Nat) (c215 : Nat), v189 = (.slice a215 l215 c215) ∧ S4 w316 ∧ XRun Try.prog (Builtin.append_ #[29, 29] 29 (List.toArray [(.slice a214 l214 c214), (.slice a33 l33 c33)])) w316 fun v190 w317 => ∃ (a216 : Option Addr) (l216 : Nat) (c216 : Nat), v190 = (.slice a216 l216 c216) ∧ S4 w317 ∧ storesAt p54 0 [(.slice a210 l210 c210), (.slice none 0 0), (.slice a215 l215 c215), (.slice none 0 0), (.slice a216 l216 c216)] w317 fun w318 => kb (some p54) w318) ∧ XRun Try.prog (Instr.buildSlice 29 0 (List.toArray [])) w309 fun v191 w319 => ∃ (a217 : Option Addr) (l217 : Nat) (c217 : Nat), v191 = (.slice a217 l217 c217) ∧ S4 w319 ∧ XRun Try.prog (Builtin.append_ #[29, 29] 29 (List.toArray [(.slice a180 l180 c180), (.slice a31 l31 c31)])) w319 fun v192 w320 => ∃ (a218 : Option Addr) (l218 : Nat) (c218 : Nat), v192 = (.slice a218 l218 c218) ∧ S4 w320 ∧ XRun Try.prog (Builtin.append_ #[29, 29] 29 (List.toArray [(.slice a179 l179 c179), (.slice a32 l32 c32)])) w320 fun v193 w321 => ∃ (a219 : Option Addr) (l219 : Nat) (c219 : Nat), v193 = (.slice a219 l219 c219) ∧ S4 w321 ∧ XRun Try.prog (Builtin.append_ #[29, 29] 29 (List.toArray [(.slice a217 l217 c217), (.slice a33 l33 c33)])) w321 fun v194 w322 => ∃ (a220 : Option Addr) (l220 : Nat) (c220 : Nat), v194 = (.slice a220 l220 c220) ∧ S4 w322 ∧ storesAt p54 0 [(.slice a218 l218 c218), (.slice none 0 0), (.slice a219 l219 c219), (.slice none 0 0), (.slice a220 l220 c220)] w322 fun w323 => kb (some p54) w323) ∧ (XRun Try.prog (Instr.buildSlice 29 0 (List.toArray [])) w255 fun v195 w324 => ∃ (a221 : Option Addr) (l221 : Nat) (c221 : Nat), v195 = (.slice a221 l221 c221) ∧ S4 w324 ∧ (XRun Try.prog (Instr.buildSlice 29 0 (List.toArray [])) w324 fun v196 w325 => ∃ (a222 : Option Addr) (l222 : Nat) (c222 : Nat), v196 = (.slice a222 l222 c222) ∧ S4 w325 ∧ (XRun Try.prog (Builtin.append_ #[29, 29] 29 (List.toArray [(.slice a222 l222 c222), (.slice a31 l31 c31)])) w325 fun v197 w326 => ∃ (a223 : Option Addr) (l223 : Nat) (c223 : Nat), v197 = (.slice a223 l223 c223) ∧ S4 w326 ∧ (XRun Try.prog (Builtin.append_ #[29, 29] 29 (List.toArray [(.slice a179 l179 c179), (.slice a32 l32 c32)])) w326 fun v198 w327 => ∃ (a224 : Option Addr) (l224 : Nat) (c224 : Nat), v198 = (.slice a224 l224 c224) ∧ S4 w327 ∧ (XRun Try.prog (Builtin.append_ #[29, 29] 29 (List.toArray [(.slice a221 l221 c221), (.slice a33 l33 c33)])) w327 fun v199 w328 => ∃ (a225 : Option Addr) (l225 : Nat) (c225 : Nat), v199 = (.slice a225 l225 c225) ∧ S4 w328 ∧ let w329 : World := World.alloc w328 (.cells #[(.slice none 0 0), (.slice none 0 0), (.slice none 0 0), (.slice none 0 0), (.slice none 0 0)] 53); let p55 : Addr := ⟨Array.size (World.heap w328), 0, none⟩; S4 w329 ∧ storesAt p55 0 [(.slice a223 l223 c223), (.slice none 0 0), (.slice a224 l224 c224), (.slice none 0 0), (.slice a225 l225 c225)] w329 fun w330 => kb (some p55) w330) ∧ let w331 : World := World.alloc w327 (.cells #[(.slice none 0 0), (.slice none 0 0), (.slice none 0 0), (.slice none 0 0), (.slice none 0 0)] 53); let p56 : Addr := ⟨Array.size (World.heap w327), 0, none⟩; S4 w331 ∧ XRun Try.prog (Builtin.append_ #[29, 29] 29 (List.toArray [(.slice a221 l221 c221), (.slice a33 l33 c33)])) w331 fun v200 w332 => ∃ (a226 : Option Addr) (l226 : Nat) (c226 : Nat), v200 = (.slice a226 l226 c226) ∧ S4 w332 ∧ storesAt p56 0 [(.slice a223 l223 c223), (.slice none 0 0), (.slice a224 l224 c224), (.slice none 0 0), (.slice a226 l226 c226)] w332 fun w333 => kb (some p56) w333) ∧ let w334 : World := World.alloc w326 (.cells #[(.slice none 0 0), (.slice none 0 0), (.slice none 0 0), (.slice none 0 0), (.slice none 0 0)] 53); let p57 : Addr := ⟨Array.size (World.heap w326), 0, none⟩; S4 w334 ∧ XRun Try.prog (Builtin.append_ #[29, 29] 29 (List.toArray [(.slice a179 l179 c179), (.slice a32 l32 c32)])) w334 fun v201 w335 => ∃ (a227 : Option Addr) (l227 : Nat) (c227 : Nat), v201 = (.slice a227 l227 c227) ∧ S4 w335 ∧ XRun Try.prog (Builtin.append_ #[29, 29] 29 (List.toArray [(.slice a221 l221 c221), (.slice a33 l33 c33)])) w335 fun v202 w336 => ∃ (a228 : Option Addr) (l228 : Nat) (c228 : Nat), v202 = (.slice a228 l228 c228) ∧ S4 w336 ∧ storesAt p57 0 [(.slice a223 l223 c223), (.slice none 0 0), (.slice a227 l227 c227), (.slice none 0 0), (.slice a228 l228 c228)] w336 fun w337 => kb (some p57) w337) ∧ let w338 : World := World.alloc w325 (.cells #[(.slice none 0 0), (.slice none 0 0), (.slice none 0 0), (.slice none 0 0), (.slice none 0 0)] 53); let p58 : Addr := ⟨Array.size (World.heap w325), 0, none⟩; S4 w338 ∧ XRun Try.prog (Builtin.append_ #[29, 29] 29 (List.toArray [(.slice a222 l222 c222), (.slice a31 l31 c31)])) w338 fun v203 w339 => ∃ (a229 : Option Addr) (l229 : Nat) (c229 : Nat), v203 = (.slice a229 l229 c229) ∧ S4 w339 ∧ XRun Try.prog (Builtin.append_ #[29, 29] 29 (List.toArray [(.slice a179 l179 c179), (.slice a32 l32 c32)])) w339 fun v204 w340 => ∃ (a230 : Option Addr) (l230 : Nat) (c230 : Nat), v204 = (.slice a230 l230 c230) ∧ S4 w340 ∧ XRun Try.prog (Builtin.append_ #[29, 29] 29 (List.toArray [(.slice a221 l221 c221), (.slice a33 l33 c33)])) w340 fun v205 w341 => ∃ (a231 : Option Addr) (l231 : Nat) (c231 : Nat), v205 = (.slice a231 l231 c231) ∧ S4 w341 ∧ storesAt p58 0 [(.slice a229 l229 c229), (.slice none 0 0), (.slice a230 l230 c230), (.slice none 0 0), (.slice a231 l231 c231)] w341 fun w342 => kb (some p58) w342) ∧ let w343 : World := World.alloc w324 (.cells #[(.slice none 0 0), (.slice none 0 0), (.slice none 0 0), (.slice none 0 0), (.slice none 0 0)] 53); let p59 : Addr := ⟨Array.size (World.heap w324), 0, none⟩; S4 w343 ∧ XRun Try.prog (Instr.buildSlice 29 0 (List.toArray [])) w343 fun v206 w344 => ∃ (a232 : Option Addr) (l232 : Nat) (c232 : Nat), v206 = (.slice a232 l232 c232) ∧ S4 w344 ∧ XRun Try.prog (Builtin.append_ #[29, 29] 29 (List.toArray [(.slice a232 l232 c232), (.slice a31 l31 c31)])) w344 fun v207 w345 => ∃ (a233 : Option Addr) (l233 : Nat) (c233 : Nat), v207 = (.slice a233 l233 c233) ∧ S4 w345 ∧ XRun Try.prog (Builtin.append_ #[29, 29] 29 (List.toArray [(.slice a179 l179 c179), (.slice a32 l32 c32)])) w345 fun v208 w346 => ∃ (a234 : Option Addr) (l234 : Nat) (c234 : Nat), v208 = (.slice a234 l234 c234) ∧ S4 w346 ∧ XRun Try.prog (Builtin.append_ #[29, 29] 29 (List.toArray [(.slice a221 l221 c221), (.slice a33 l33 c33)])) w346 fun v209 w347 => ∃ (a235 : Option Addr) (l235 : Nat) (c235 : Nat), v209 = (.slice a235 l235 c235) ∧ S4 w347 ∧ storesAt p59 0 [(.slice a233 l233 c233), (.slice none 0 0), (.slice a234 l234 c234), (.slice none 0 0), (.slice a235 l235 c235)] w347 fun w348 => kb (some p59) w348) ∧ let w349 : World := World.alloc w255 (.cells #[(.slice none 0 0), (.slice none 0 0), (.slice none 0 0), (.slice none 0 0), (.slice none 0 0)] 53); let p60 : Addr := ⟨Array.size (World.heap w255), 0, none⟩; S4 w349 ∧ (XRun Try.prog (Instr.buildSlice 29 0 (List.toArray [])) w349 fun v210 w350 => ∃ (a236 : Option Addr) (l236 : Nat) (c236 : Nat), v210 = (.slice a236 l236 c236) ∧ S4 w350 ∧ (XRun Try.prog (Builtin.append_ #[29, 29] 29 (List.toArray [(.slice a236 l236 c236), (.slice a31 l31 c31)])) w350 fun v211 w351 => ∃ (a237 : Option Addr) (l237 : Nat) (c237 : Nat), v211 = (.slice a237 l237 c237) ∧ S4 w351 ∧ (XRun Try.prog (Builtin.append_ #[29, 29] 29 (List.toArray [(.slice a179 l179 c179), (.slice a32 l32 c32)])) w351 fun v212 w352 => ∃ (a238 : Option Addr) (l238 : Nat) (c238 : Nat), v212 = (.slice a238 l238 c238) ∧ S4 w352 ∧ XRun Try.prog (Instr.buildSlice 29 0 (List.toArray [])) w352 fun v213 w353 => ∃ (a239 : Option Addr) (l239 : Nat) (c239 : Nat), v213 = (.slice a239 l239 c239) ∧ S4 w353 ∧ XRun Try.prog (Builtin.append_ #[29, 29] 29 (List.toArray [(.slice a239 l239 c239), (.slice a33 l33 c33)])) w353 fun v214 w354 => ∃ (a240 : Option Addr) (l240 : Nat) (c240 : Nat), v214 = (.slice a240 l240 c240) ∧ S4 w354 ∧ storesAt p60 0 [(.slice a237 l237 c237), (.slice none 0 0), (.slice a238 l238 c238), (.slice none 0 0), (.slice a240 l240 c240)] w354 fun w355 => kb (some p60) w355) ∧ XRun Try.prog (Instr.buildSlice 29 0 (List.toArray [])) w351 fun v215 w356 => ∃ (a241 : Option Addr) (l241 : Nat) (c241 : Nat), v215 = (.slice a241 l241 c241) ∧ S4 w356 ∧ XRun Try.prog (Builtin.append_ #[29, 29] 29 (List.toArray [(.slice a179 l179 c179), (.slice a32 l32 c32)])) w356 fun v216 w357 => ∃ (a242 : Option Addr) (l242 : Nat) (c242 : Nat), v216 = (.slice a242 l242 c242) ∧ S4 w357 ∧ XRun Try.prog (Builtin.append_ #[29, 29] 29 (List.toArray [(.slice a241 l241 c241), (.slice a33 l33 c33)])) w357 fun v217 w358 => ∃ (a243 : Option Addr) (l243 : Nat) (c243 : Nat), v217 = (.slice a243 l243 c243) ∧ S4 w358 ∧ storesAt p60 0 [(.slice a237 l237 c237), (.slice none 0 0), (.slice a242 l242 c242), (.slice none 0 0), (.slice a243 l243 c243)] w358 fun w359 => kb (some p60) w359) ∧ XRun Try.prog (Instr.buildSlice 29 0 (List.toArray [])) w350 fun v218 w360 => ∃ (a244 : Option Addr) (l244 : Nat) (c244 : Nat), v218 = (.slice a244 l244 c244) ∧ S4 w360 ∧ XRun Try.prog (Builtin.append_ #[29, 29] 29 (List.toArray [(.slice a236 l236 c236), (.slice a31 l31 c31)])) w360 fun v219 w361 => ∃ (a245 : Option Addr) (l245 : Nat) (c245 : Nat), v219 = (.slice a245 l245 c245) ∧ S4 w361 ∧ XRun Try.prog (Builtin.append_ #[29, 29] 29 (List.toArray [(.slice a179 l179 c179), (.slice a32 l32 c32)])) w361 fun v220 w362 => ∃ (a246 : Option Addr) (l246 : Nat) (c246 : Nat), v220 = (.slice a246 l246 c246) ∧ S4 w362 ∧ XRun Try.prog (Builtin.append_ #[29, 29] 29 (List.toArray [(.slice a244 l244 c244), (.slice a33 l33 c33)])) w362 fun v221 w363 => ∃ (a247 : Option Addr) (l247 : Nat) (c247 : Nat), v221 = (.slice a247 l247 c247) ∧ S4 w363 ∧ storesAt p60 0 [(.slice a245 l245 c245), (.slice none 0 0), (.slice a246 l246 c246), (.slice none 0 0), (.slice a247 l247 c247)] w363 fun w364 => kb (some p60) w364) ∧ XRun Try.prog (Instr.buildSlice 29 0 (List.toArray [])) w349 fun v222 w365 => ∃ (a248 : Option Addr) (l248 : Nat) (c248 : Nat), v222 = (.slice a248 l248 c248) ∧ S4 w365 ∧ XRun Try.prog (Instr.buildSlice 29 0 (List.toArray [])) w365 fun v223 w366 => ∃ (a249 : Option Addr) (l249 : Nat) (c249 : Nat), v223 = (.slice a249 l249 c249) ∧ S4 w366 ∧ XRun Try.prog (Builtin.append_ #[29, 29] 29 (List.toArray [(.slice a249 l249 c249), (.slice a31 l31 c31)])) w366 fun v224 w367 => ∃ (a250 : Option Addr) (l250 : Nat) (c250 : Nat), v224 = (.slice a250 l250 c250) ∧ S4 w367 ∧ XRun Try.prog (Builtin.append_ #[29, 29] 29 (List.toArray [(.slice a179 l179 c179), (.slice a32 l32 c32)])) w367 fun v225 w368 => ∃ (a251 : Option Addr) (l251 : Nat) (c251 : Nat), v225 = (.slice a251 l251 c251) ∧ S4 w368 ∧ XRun Try.prog (Builtin.append_ #[29, 29] 29 (List.toArray [(.slice a248 l248 c248), (.slice a33 l33 c33)])) w368 fun v226 w369 => ∃ (a252 : Option Addr) (l252 : Nat) (c252 : Nat), v226 = (.slice a252 l252 c252) ∧ S4 w369 ∧ storesAt p60 0 [(.slice a250 l250 c250), (.slice none 0 0), (.slice a251 l251 c251), (.slice none 0 0), (.slice a252 l252 c252)] w369 fun w370 => kb (some p60) w370) ∧ (XRun Try.prog (Instr.buildSlice 29 0 (List.toArray [])) w24 fun v227 w371 => ∃ (a253 : Option Addr) (l253 : Nat) (c253 : Nat), v227 = (.slice a253 l253 c253) ∧ S4 w371 ∧ (XRun Try.prog (Instr.buildSlice 29 0 (List.toArray [])) w371 fun v228 w372 => ∃ (a254 : Option Addr) (l254 : Nat) (c254 : Nat), v228 = (.slice a254 l254 c254) ∧ S4 w372 ∧ (XRun Try.prog (Builtin.append_ #[29, 29] 29 (List.toArray [(.slice a254 l254 c254), (.slice a31 l31 c31)])) w372 fun v229 w373 => ∃ (a255 : Option Addr) (l255 : Nat) (c255 : Nat), v229 = (.slice a255 l255 c255) ∧ S4 w373 ∧ (XRun Try.prog (Instr.buildSlice 29 0 (List.toArray [])) w373 fun v230 w374 => ∃ (a256 : Option Addr) (l256 : Nat) (c256 : Nat), v230 = (.slice a256 l256 c256) ∧ S4 w374 ∧ (XRun Try.prog (Builtin.append_ #[29, 29] 29 (List.toArray [(.slice a256 l256 c256), (.slice a32 l32 c32)])) w374 fun v231 w375 => ∃ (a257 : Option Addr) (l257 : Nat) (c257 : Nat), v231 = (.slice a257 l257 c257) ∧ S4 w375 ∧ (XRun Try.prog (Builtin.append_ #[29, 29] 29 (List.toArray [(.slice a253 l253 c253), (.slice a33 l33 c33)])) w375 fun v232 w376 => ∃ (a258 : Option Addr) (l258 : Nat) (c258 : Nat), v232 = (.slice a258 l258 c258) ∧ S4 w376 ∧ let w377 : World := World.alloc w376 (.cells #[(.slice none 0 0), (.slice none 0 0), (.slice none 0 0), (.slice none 0 0), (.slice none 0 0)] 53); let p61 : Addr := ⟨Array.size (World.heap w376), 0, none⟩; S4 w377 ∧ storesAt p61 0 [(.slice a255 l255 c255), (.slice none 0 0), (.slice a257 l257 c257), (.slice none 0 0), (.slice a258 l258 c258)] w377 fun w378 => kb (some p61) w378) ∧ let w379 : World := World.alloc w375 (.cells #[(.slice none 0 0), (.slice none 0 0), (.slice none 0 0), (.slice none 0 0), (.slice none 0 0)] 53); let p62 : Addr := ⟨Array.size (World.heap w375), 0, none⟩; S4 w379 ∧ XRun Try.prog (Builtin.append_ #[29, 29] 29 (List.toArray [(.slice a253 l253 c253), (.slice a33 l33 c33)])) w379 fun v233 w380 => ∃ (a259 : Option Addr) (l259 : Nat) (c259 : Nat), v233 = (.slice a259 l259 c259) ∧ S4 w380 ∧ storesAt p62 0 [(.slice a255 l255 c255), (.slice none 0 0), (.slice a257 l257 c257), (.slice none 0 0), (.slice a259 l259 c259)] w380 fun w381 => kb (some p62) w381) ∧ let w382 : World := World.alloc w374 (.cells #[(.slice none 0 0), (.slice none 0 0), (.slice none 0 0), (.slice none 0 0), (.slice none 0 0)] 53); let p63 : Addr := ⟨Array.size (World.heap w374), 0, none⟩; S4 w382 ∧ XRun Try.prog (Builtin.append_ #[29, 29] 29 (List.toArray [(.slice a256 l256 c256), (.slice a32 l32 c32)])) w382 fun v234 w383 => ∃ (a260 : Option Addr) (l260 : Nat) (c260 : Nat), v234 = (.slice a260 l260 c260) ∧ S4 w383 ∧ XRun Try.prog (Builtin.append_ #[29, 29] 29 (List.toArray [(.slice a253 l253 c253), (.slice a33 l33 c33)])) w383 fun v235 w384 => ∃ (a261 : Option Addr) (l261 : Nat) (c261 : Nat), v235 = (.slice a261 l261 c261) ∧ S4 w384 ∧ storesAt p63 0 [(.slice a255 l255 c255), (.slice none 0 0), (.slice a260 l260 c260), (.slice none 0 0), (.slice a261 l261 c261)] w384 fun w385 => kb (some p63) w385) ∧ let w386 : World := World.alloc w373 (.cells #[(.slice none 0 0), (.slice none 0 0), (.slice none 0 0), (.slice none 0 0), (.slice none 0 0)] 53); let p64 : Addr := ⟨Array.size (World.heap w373), 0, none⟩; S4 w386 ∧ XRun Try.prog (Instr.buildSlice 29 0 (List.toArray [])) w386 fun v236 w387 => ∃ (a262 : Option Addr) (l262 : Nat) (c262 : Nat), v236 = (.slice a262 l262 c262) ∧ S4 w387 ∧ XRun Try.prog (Builtin.append_ #[29, 29] 29 (List.toArray [(.slice a262 l262 c262), (.slice a32 l32 c32)])) w387 fun v237 w388 => ∃ (a263 : Option Addr) (l263 : Nat) (c263 : Nat), v237 = (.slice a263 l263 c263) ∧ S4 w388 ∧ XRun Try.prog (Builtin.append_ #[29, 29] 29 (List.toArray [(.slice a253 l253 c253), (.slice a33 l33 c33)])) w388 fun v238 w389 => ∃ (a264 : Option Addr) (l264 : Nat) (c264 : Nat), v238 = (.slice a264 l264 c264) ∧ S4 w389 ∧ storesAt p64 0 [(.slice a255 l255 c255), (.slice none 0 0), (.slice a263 l263 c263), (.slice none 0 0), (.slice a264 l264 c264)] w389 fun w390 => kb (some p64) w390) ∧ (XRun Try.prog (Instr.buildSlice 29 0 (List.toArray [])) w372 fun v239 w391 => ∃ (a265 : Option Addr) (l265 : Nat) (c265 : Nat), v239 = (.slice a265 l265 c265) ∧ S4 w391 ∧ (XRun Try.prog (Builtin.append_ #[29, 29] 29 (List.toArray [(.slice a254 l254 c254), (.slice a31 l31 c31)])) w391 fun v240 w392 => ∃ (a266 : Option Addr) (l266 : Nat) (c266 : Nat), v240 = (.slice a266 l266 c266) ∧ S4 w392 ∧ (XRun Try.prog (Builtin.append_ #[29, 29] 29 (List.toArray [(.slice a265 l265 c265), (.slice a32 l32 c32)])) w392 fun v241 w393 => ∃ (a267 : Option Addr) (l267 : Nat) (c267 : Nat), v241 = (.slice a267 l267 c267) ∧ S4 w393 ∧ (XRun Try.prog (Builtin.append_ #[29, 29] 29 (List.toArray [(.slice a253 l253 c253), (.slice a33 l33 c33)])) w393 fun v242 w394 => ∃ (a268 : Option Addr) (l268 : Nat) (c268 : Nat), v242 = (.slice a268 l268 c268) ∧ S4 w394 ∧ let w395 : World := World.alloc w394 (.cells #[(.slice none 0 0), (.slice none 0 0), (.slice none 0 0), (.slice none 0 0), (.slice none 0 0)] 53); let p65 : Addr := ⟨Array.size (World.heap w394), 0, none⟩; S4 w395 ∧ storesAt p65 0 [(.slice a266 l266 c266), (.slice none 0 0), (.slice a267 l267 c267), (.slice none 0 0), (.slice a268 l268 c268)] w395 fun w396 => kb (some p65) w396) ∧ let w397 : World := World.alloc w393 (.cells #[(.slice none 0 0), (.slice none 0 0), (.slice none 0 0), (.slice none 0 0), (.slice none 0 0)] 53); let p66 : Addr := ⟨Array.size (World.heap w393), 0, none⟩; S4 w397 ∧ XRun Try.prog (Builtin.append_ #[29, 29] 29 (List.toArray [(.slice a253 l253 c253), (.slice a33 l33 c33)])) w397 fun v243 w398 => ∃ (a269 : Option Addr) (l269 : Nat) (c269 : Nat), v243 = (.slice a269 l269 c269) ∧ S4 w398 ∧ storesAt p66 0 [(.slice a266 l266 c266), (.slice none 0 0), (.slice a267 l267 c267), (.slice none 0 0), (.slice a269 l269 c269)] w398 fun w399 => kb (some p66) w399) ∧ let w400 : World := World.alloc w392 (.cells #[(.slice none 0 0), (.slice none 0 0), (.slice none 0 0), (.slice none 0 0), (.slice none 0 0)] 53); let p67 : Addr := ⟨Array.size (World.heap w392), 0, none⟩; S4 w400 ∧ XRun Try.prog (Builtin.append_ #[29, 29] 29 (List.toArray [(.slice a265 l265 c265), (.slice a32 l32 c32)])) w400 fun v244 w401 => ∃ (a270 : Option Addr) (l270 : Nat) (c270 : Nat), v244 = (.slice a270 l270 c270) ∧ S4 w401 ∧ XRun Try.prog (Builtin.append_ #[29, 29] 29 (List.toArray [(.slice a253 l253 c253), (.slice a33 l33 c33)])) w401 fun v245 w402 => ∃ (a271 : Option Addr) (l271 : Nat) (c271 : Nat), v245 = (.slice a271 l271 c271) ∧ S4 w402 ∧ storesAt p67 0 [(.slice a266 l266 c266), (.slice none 0 0), (.slice a270 l270 c270), (.slice none 0 0), (.slice a271 l271 c271)] w402 fun w403 => kb (some p67) w403) ∧ let w404 : World := World.alloc w391 (.cells #[(.slice none 0 0), (.slice none 0 0), (.slice none 0 0), (.slice none 0 0), (.slice none 0 0)] 53); let p68 : Addr := ⟨Array.size (World.heap w391), 0, none⟩; S4 w404 ∧ XRun Try.prog (Builtin.append_ #[29, 29] 29 (List.toArray [(.slice a254 l254 c254), (.slice a31 l31 c31)])) w404 fun v246 w405 => ∃ (a272 : Option Addr) (l272 : Nat) (c272 : Nat), v246 = (.slice a272 l272 c272) ∧ S4 w405 ∧ XRun Try.prog (Builtin.append_ #[29, 29] 29 (List.toArray [(.slice a265 l265 c265), (.slice a32 l32 c32)])) w405 fun v247 w406 => ∃ (a273 : Option Addr) (l273 : Nat) (c273 : Nat), v247 = (.slice a273 l273 c273) ∧ S4 w406 ∧ XRun Try.prog (Builtin.append_ #[29, 29] 29 (List.toArray [(.slice a253 l253 c253), (.slice a33 l33 c33)])) w406 fun v248 w407 => ∃ (a274 : Option Addr) (l274 : Nat) (c274 : Nat), v248 = (.slice a274 l274 c274) ∧ S4 w407 ∧ storesAt p68 0 [(.slice a272 l272 c272), (.slice none 0 0), (.slice a273 l273 c273), (.slice none 0 0), (.slice a274 l274 c274)] w407 fun w408 => kb (some p68) w408) ∧ let w409 : World := World.alloc w372 (.cells #[(.slice none 0 0), (.slice none 0 0), (.slice none 0 0), (.slice none 0 0), (.slice none 0 0)] 53); let p69 : Addr := ⟨Array.size (World.heap w372), 0, none⟩; S4 w409 ∧ (XRun Try.prog (Builtin.append_ #[29, 29] 29 (List.toArray [(.slice a254 l254 c254), (.slice a31 l31 c31)])) w409 fun v249 w410 => ∃ (a275 : Option Addr) (l275 : Nat) (c275 : Nat), v249 = (.slice a275 l275 c275) ∧ S4 w410 ∧ XRun Try.prog (Instr.buildSlice 29 0 (List.toArray [])) w410 fun v250 w411 => ∃ (a276 : Option Addr) (l276 : Nat) (c276 : Nat), v250 = (.slice a276 l276 c276) ∧ S4 w411 ∧ XRun Try.prog (Builtin.append_ #[29, 29] 29 (List.toArray [(.slice a276 l276 c276), (.slice a32 l32 c32)])) w411 fun v251 w412 => ∃ (a277 : Option Addr) (l277 : Nat) (c277 : Nat), v251 = (.slice a277 l277 c277) ∧ S4 w412 ∧ XRun Try.prog (Builtin.append_ #[29, 29] 29 (List.toArray [(.slice a253 l253 c253), (.slice a33 l33 c33)])) w412 fun v252 w413 => ∃ (a278 : Option Addr) (l278 : Nat) (c278 : Nat), v252 = (.slice a278 l278 c278) ∧ S4 w413 ∧ storesAt p69 0 [(.slice a275 l275 c275), (.slice none 0 0), (.slice a277 l277 c277), (.slice none 0 0), (.slice a278 l278 c278)] w413 fun w414 => kb (some p69) w414) ∧ XRun Try.prog (Instr.buildSlice 29 0 (List.toArray [])) w409 fun v253 w415 => ∃ (a279 : Option Addr) (l279 : Nat) (c279 : Nat), v253 = (.slice a279 l279 c279) ∧ S4 w415 ∧ XRun Try.prog (Builtin.append_ #[29, 29] 29 (List.toArray [(.slice a254 l254 c254), (.slice a31 l31 c31)])) w415 fun v254 w416 => ∃ (a280 : Option Addr) (l280 : Nat) (c280 : Nat), v254 = (.slice a280 l280 c280) ∧ S4 w416 ∧ XRun Try.prog (Builtin.append_ #[29, 29] 29 (List.toArray [(.slice a279 l279 c279), (.slice a32 l32 c32)])) w416 fun v255 w417 => ∃ (a281 : Option Addr) (l281 : Nat) (c281 : Nat), v255 = (.slice a281 l281 c281) ∧ S4 w417 ∧ XRun Try.prog (Builtin.append_ #[29, 29] 29 (List.toArray [(.slice a253 l253 c253), (.slice a33 l33 c33)])) w417 fun v256 w418 => ∃ (a282 : Option Addr) (l282 : Nat) (c282 : Nat), v256 = (.slice a282 l282 c282) ∧ S4 w418 ∧ storesAt p69 0 [(.slice a280 l280 c280), (.slice none 0 0), (.slice a281 l281 c281), (.slice none 0 0), (.slice a282 l282 c282)] w418 fun w419 => kb (some p69) w419) ∧ (XRun Try.prog (Instr.buildSlice 29 0 (List.toArray [])) w371 fun v257 w420 => ∃ (a283 : Option Addr) (l283 : Nat) (c283 : Nat), v257 = (.slice a283 l283 c283) ∧ S4 w420 ∧ (XRun Try.prog (Instr.buildSlice 29 0 (List.toArray [])) w420 fun v258 w421 => ∃ (a284 : Option Addr) (l284 : Nat) (c284 : Nat), v258 = (.slice a284 l284 c284) ∧ S4 w421 ∧ (XRun Try.prog (Builtin.append_ #[29, 29] 29 (List.toArray [(.slice a284 l284 c284), (.slice a31 l31 c31)])) w421 fun v259 w422 => ∃ (a285 : Option Addr) (l285 : Nat) (c285 : Nat), v259 = (.slice a285 l285 c285) ∧ S4 w422 ∧ (XRun Try.prog (Builtin.append_ #[29, 29] 29 (List.toArray [(.slice a283 l283 c283), (.slice a32 l32 c32)])) w422 fun v260 w423 => ∃ (a286 : Option Addr) (l286 : Nat) (c286 : Nat), v260 = (.slice a286 l286 c286) ∧ S4 w423 ∧ (XRun Try.prog (Builtin.append_ #[29, 29] 29 (List.toArray [(.slice a253 l253 c253), (.slice a33 l33 c33)])) w423 fun v261 w424 => ∃ (a287 : Option Addr) (l287 : Nat) (c287 : Nat), v261 = (.slice a287 l287 c287) ∧ S4 w424 ∧ let w425 : World := World.alloc w424 (.cells #[(.slice none 0 0), (.slice none 0 0), (.slice none 0 0), (.slice none 0 0), (.slice none 0 0)] 53); let p70 : Addr := ⟨Array.size (World.heap w424), 0, none⟩; S4 w425 ∧ storesAt p70 0 [(.slice a285 l285 c285), (.slice none 0 0), (.slice a286 l286 c286), (.slice none 0 0), (.slice a287 l287 c287)] w425 fun w426 => kb (some p70) w426) ∧ let w427 : World := World.alloc w423 (.cells #[(.slice none 0 0), (.slice none 0 0), (.slice none 0 0), (.slice none 0 0), (.slice none 0 0)] 53); let p71 : Addr := ⟨Array.size (World.heap w423), 0, none⟩; S4 w427 ∧ XRun Try.prog (Builtin.append_ #[29, 29] 29 (List.toArray [(.slice a253 l253 c253), (.slice a33 l33 c33)])) w427 fun v262 w428 => ∃ (a288 : Option Addr) (l288 : Nat) (c288 : Nat), v262 = (.slice a288 l288 c288) ∧ S4 w428 ∧ storesAt p71 0 [(.slice a285 l285 c285), (.slice none 0 0), (.slice a286 l286 c286), (.slice none 0 0), (.slice a288 l288 c288)] w428 fun w429 => kb (some p71) w429) ∧ let w430 : World := World.alloc w422 (.cells #[(.slice none 0 0), (.slice none 0 0), (.slice none 0 0), (.slice none 0 0), (.slice none 0 0)] 53); let p72 : Addr := ⟨Array.size (World.heap w422), 0, none⟩; S4 w430 ∧ XRun Try.prog (Builtin.append_ #[29, 29] 29 (List.toArray [(.slice a283 l283 c283), (.slice a32 l32 c32)])) w430 fun v263 w431 => ∃ (a289 : Option Addr) (l289 : Nat) (c289 : Nat), v263 = (.slice a289 l289 c289) ∧ S4 w431 ∧ XRun Try.prog (Builtin.append_ #[29, 29] 29 (List.toArray [(.slice a253 l253 c253), (.slice a33 l33 c33)])) w431 fun v264 w432 => ∃ (a290 : Option Addr) (l290 : Nat) (c290 : Nat), v264 = (.slice a290 l290 c290) ∧ S4 w432 ∧ storesAt p72 0 [(.slice a285 l285 c285), (.slice none 0 0), (.slice a289 l289 c289), (.slice none 0 0), (.slice a290 l290 c290)] w432 fun w433 => kb (some p72) w433) ∧ let w434 : World := World.alloc w421 (.cells #[(.slice none 0 0), (.slice none 0 0), (.slice none 0 0), (.slice none 0 0), (.slice none 0 0)] 53); let p73 : Addr := ⟨Array.size (World.heap w421), 0, none⟩; S4 w434 ∧ XRun Try.prog (Builtin.append_ #[29, 29] 29 (List.toArray [(.slice a284 l284 c284), (.slice a31 l31 c31)])) w434 fun v265 w435 => ∃ (a291 : Option Addr) (l291 : Nat) (c291 : Nat), v265 = (.slice a291 l291 c291) ∧ S4 w435 ∧ XRun Try.prog (Builtin.append_ #[29, 29] 29 (List.toArray [(.slice a283 l283 c283), (.slice a32 l32 c32)])) w435 fun v266 w436 => ∃ (a292 : Option Addr) (l292 : Nat) (c292 : Nat), v266 = (.slice a292 l292 c292) ∧ S4 w436 ∧ XRun Try.prog (Builtin.append_ #[29, 29] 29 (List.toArray [(.slice a253 l253 c253), (.slice a33 l33 c33)])) w436 fun v267 w437 => ∃ (a293 : Option Addr) (l293 : Nat) (c293 : Nat), v267 = (.slice a293 l293 c293) ∧ S4 w437 ∧ storesAt p73 0 [(.slice a291 l291 c291), (.slice none 0 0), (.slice a292 l292 c292), (.slice none 0 0), (.slice a293 l293 c293)] w437 fun w438 => kb (some p73) w438) ∧ let w439 : World := World.alloc w420 (.cells #[(.slice none 0 0), (.slice none 0 0), (.slice none 0 0), (.slice none 0 0), (.slice none 0 0)] 53); let p74 : Addr := ⟨Array.size (World.heap w420), 0, none⟩; S4 w439 ∧ XRun Try.prog (Instr.buildSlice 29 0 (List.toArray [])) w439 fun v268 w440 => ∃ (a294 : Option Addr) (l294 : Nat) (c294 : Nat), v268 = (.slice a294 l294 c294) ∧ S4 w440 ∧ XRun Try.prog (Builtin.append_ #[29, 29] 29 (List.toArray [(.slice a294 l294 c294), (.slice a31 l31 c31)])) w440 fun v269 w441 => ∃ (a295 : Option Addr) (l295 : Nat) (c295 : Nat), v269 = (.slice a295 l295 c295) ∧ S4 w441 ∧ XRun Try.prog (Builtin.append_ #[29, 29] 29 (List.toArray [(.slice a283 l283 c283), (.slice a32 l32 c32)])) w441 fun v270 w442 => ∃ (a296 : Option Addr) (l296 : Nat) (c296 : Nat), v270 = (.slice a296 l296 c296) ∧ S4 w442 ∧ XRun Try.prog (Builtin.append_ #[29, 29] 29 (List.toArray [(.slice a253 l253 c253), (.slice a33 l33 c33)])) w442 fun v271 w443 => ∃ (a297 : Option Addr) (l297 : Nat) (c297 : Nat), v271 = (.slice a297 l297 c297) ∧ S4 w443 ∧ storesAt p74 0 [(.slice a295 l295 c295), (.slice none 0 0), (.slice a296 l296 c296), (.slice none 0 0), (.slice a297 l297 c297)] w443 fun w444 => kb (some p74) w444) ∧ let w445 : World := World.alloc w371 (.cells #[(.slice none 0 0), (.slice none 0 0), (.slice none 0 0), (.slice none 0 0), (.slice none 0 0)] 53); let p75 : Addr := ⟨Array.size (World.heap w371), 0, none⟩; S4 w445 ∧ (XRun Try.prog (Instr.buildSlice 29 0 (List.toArray [])) w445 fun v272 w446 => ∃ (a298 : Option Addr) (l298 : Nat) (c298 : Nat), v272 = (.slice a298 l298 c298) ∧ S4 w446 ∧ (XRun Try.prog (Builtin.append_ #[29, 29] 29 (List.toArray [(.slice a298 l298 c298), (.slice a31 l31 c31)])) w446 fun v273 w447 => ∃ (a299 : Option Addr) (l299 : Nat) (c299 : Nat), v273 = (.slice a299 l299 c299) ∧ S4 w447 ∧ XRun Try.prog (Instr.buildSlice 29 0 (List.toArray [])) w447 fun v274 w448 => ∃ (a300 : Option Addr) (l300 : Nat) (c300 : Nat), v274 = (.slice a300 l300 c300) ∧ S4 w448 ∧ XRun Try.prog (Builtin.append_ #[29, 29] 29 (List.toArray [(.slice a300 l300 c300), (.slice a32 l32 c32)])) w448 fun v275 w449 => ∃ (a301 : Option Addr) (l301 : Nat) (c301 : Nat), v275 = (.slice a301 l301 c301) ∧ S4 w449 ∧ XRun Try.prog (Builtin.append_ #[29, 29] 29 (List.toArray [(.slice a253 l253 c253), (.slice a33 l33 c33)])) w449 fun v276 w450 => ∃ (a302 : Option Addr) (l302 : Nat) (c302 : Nat), v276 = (.slice a302 l302 c302) ∧ S4 w450 ∧ storesAt p75 0 [(.slice a299 l299 c299), (.slice none 0 0), (.slice a301 l301 c301), (.slice none 0 0), (.slice a302 l302 c302)] w450 fun w451 => kb (some p75) w451) ∧ XRun Try.prog (Instr.buildSlice 29 0 (List.toArray [])) w446 fun v277 w452 => ∃ (a303 : Option Addr) (l303 : Nat) (c303 : Nat), v277 = (.slice a303 l303 c303) ∧ S4 w452 ∧ XRun Try.prog (Builtin.append_ #[29, 29] 29 (List.toArray [(.slice a298 l298 c298), (.slice a31 l31 c31)])) w452 fun v278 w453 => ∃ (a304 : Option Addr) (l304 : Nat) (c304 : Nat), v278 = (.slice a304 l304 c304) ∧ S4 w453 ∧ XRun Try.prog (Builtin.append_ #[29, 29] 29 (List.toArray [(.slice a303 l303 c303), (.slice a32 l32 c32)])) w453 fun v279 w454 => ∃ (a305 : Option Addr) (l305 : Nat) (c305 : Nat), v279 = (.slice a305 l305 c305) ∧ S4 w454 ∧ XRun Try.prog (Builtin.append_ #[29, 29] 29 (List.toArray [(.slice a253 l253 c253), (.slice a33 l33 c33)])) w454 fun v280 w455 => ∃ (a306 : Option Addr) (l306 : Nat) (c306 : Nat), v280 = (.slice a306 l306 c306) ∧ S4 w455 ∧ storesAt p75 0 [(.slice a304 l304 c304), (.slice none 0 0), (.slice a305 l305 c305), (.slice none 0 0), (.slice a306 l306 c306)] w455 fun w456 => kb (some p75) w456) ∧ XRun Try.prog (Instr.buildSlice 29 0 (List.toArray [])) w445 fun v281 w457 => ∃ (a307 : Option Addr) (l307 : Nat) (c307 : Nat), v281 = (.slice a307 l307 c307) ∧ S4 w457 ∧ XRun Try.prog (Instr.buildSlice 29 0 (List.toArray [])) w457 fun v282 w458 => ∃ (a308 : Option Addr) (l308 : Nat) (c308 : Nat), v282 = (.slice a308 l308 c308) ∧ S4 w458 ∧ XRun Try.prog (Builtin.append_ #[29, 29] 29 (List.toArray [(.slice a308 l308 c308), (.slice a31 l31 c31)])) w458 fun v283 w459 => ∃ (a309 : Option Addr) (l309 : Nat) (c309 : Nat), v283 = (.slice a309 l309 c309) ∧ S4 w459 ∧ XRun Try.prog (Builtin.append_ #[29, 29] 29 (List.toArray [(.slice a307 l307 c307), (.slice a32 l32 c32)])) w459 fun v284 w460 => ∃ (a310 : Option Addr) (l310 : Nat) (c310 : Nat), v284 = (.slice a310 l310 c310) ∧ S4 w460 ∧ XRun Try.prog (Builtin.append_ #[29, 29] 29 (List.toArray [(.slice a253 l253 c253), (.slice a33 l33 c33)])) w460 fun v285 w461 => ∃ (a311 : Option Addr) (l311 : Nat) (c311 : Nat), v285 = (.slice a311 l311 c311) ∧ S4 w461 ∧ storesAt p75 0 [(.slice a309 l309 c309), (.slice none 0 0), (.slice a310 l310 c310), (.slice none 0 0), (.slice a311 l311 c311)] w461 fun w462 => kb (some p75) w462) ∧ let w463 : World := World.alloc w24 (.cells #[(.slice none 0 0), (.slice none 0 0), (.slice none 0 0), (.slice none 0 0), (.slice none 0 0)] 53); let p76 : Addr := ⟨Array.size (World.heap w24), 0, none⟩; S4 w463 ∧ (XRun Try.prog (Instr.buildSlice 29 0 (List.toArray [])) w463 fun v286 w464 => ∃ (a312 : Option Addr) (l312 : Nat) (c312 : Nat), v286 = (.slice a312 l312 c312) ∧ S4 w464 ∧ (XRun Try.prog (Builtin.append_ #[29, 29] 29 (List.toArray [(.slice a312 l312 c312), (.slice a31 l31 c31)])) w464 fun v287 w465 => ∃ (a313 : Option Addr) (l313 : Nat) (c313 : Nat), v287 = (.slice a313 l313 c313) ∧ S4 w465 ∧ (XRun Try.prog (Instr.buildSlice 29 0 (List.toArray [])) w465 fun v288 w466 => ∃ (a314 : Option Addr) (l314 : Nat) (c314 : Nat), v288 = (.slice a314 l314 c314) ∧ S4 w466 ∧ (XRun Try.prog (Builtin.append_ #[29, 29] 29 (List.toArray [(.slice a314 l314 c314), (.slice a32 l32 c32)])) w466 fun v289 w467 => ∃ (a315 : Option Addr) (l315 : Nat) (c315 : Nat), v289 = (.slice a315 l315 c315) ∧ S4 w467 ∧ XRun Try.prog (Instr.buildSlice 29 0 (List.toArray [])) w467 fun v290 w468 => ∃ (a316 : Option Addr) (l316 : Nat) (c316 : Nat), v290 = (.slice a316 l316 c316) ∧ S4 w468 ∧ XRun Try.prog (Builtin.append_ #[29, 29] 29 (List.toArray [(.slice a316 l316 c316), (.slice a33 l33 c33)])) w468 fun v291 w469 => ∃ (a317 : Option Addr) (l317 : Nat) (c317 : Nat), v291 = (.slice a317 l317 c317) ∧ S4 w469 ∧ storesAt p76 0 [(.slice a313 l313 c313), (.slice none 0 0), (.slice a315 l315 c315), (.slice none 0 0), (.slice a317 l317 c317)] w469 fun w470 => kb (some p76) w470) ∧ XRun Try.prog (Instr.buildSlice 29 0 (List.toArray [])) w466 fun v292 w471 => ∃ (a318 : Option Addr) (l318 : Nat) (c318 : Nat), v292 = (.slice a318 l318 c318) ∧ S4 w471 ∧ XRun Try.prog (Builtin.append_ #[29, 29] 29 (List.toArray [(.slice a314 l314 c314), (.slice a32 l32 c32)])) w471 fun v293 w472 => ∃ (a319 : Option Addr) (l319 : Nat) (c319 : Nat), v293 = (.slice a319 l319 c319) ∧ S4 w472 ∧ XRun Try.prog (Builtin.append_ #[29, 29] 29 (List.toArray [(.slice a318 l318 c318), (.slice a33 l33 c33)])) w472 fun v294 w473 => ∃ (a320 : Option Addr) (l320 : Nat) (c320 : Nat), v294 = (.slice a320 l320 c320) ∧ S4 w473 ∧ storesAt p76 0 [(.slice a313 l313 c313), (.slice none 0 0), (.slice a319 l319 c319), (.slice none 0 0), (.slice a320 l320 c320)] w473 fun w474 => kb (some p76) w474) ∧ XRun Try.prog (Instr.buildSlice 29 0 (List.toArray [])) w465 fun v295 w475 => ∃ (a321 : Option Addr) (l321 : Nat) (c321 : Nat), v295 = (.slice a321 l321 c321) ∧ S4 w475 ∧ XRun Try.prog (Instr.buildSlice 29 0 (List.toArray [])) w475 fun v296 w476 => ∃ (a322 : Option Addr) (l322 : Nat) (c322 : Nat), v296 = (.slice a322 l322 c322) ∧ S4 w476 ∧ XRun Try.prog (Builtin.append_ #[29, 29] 29 (List.toArray [(.slice a322 l322 c322), (.slice a32 l32 c32)])) w476 fun v297 w477 => ∃ (a323 : Option Addr) (l323 : Nat) (c323 : Nat), v297 = (.slice a323 l323 c323) ∧ S4 w477 ∧ XRun Try.prog (Builtin.append_ #[29, 29] 29 (List.toArray [(.slice a321 l321 c321), (.slice a33 l33 c33)])) w477 fun v298 w478 => ∃ (a324 : Option Addr) (l324 : Nat) (c324 : Nat), v298 = (.slice a324 l324 c324) ∧ S4 w478 ∧ storesAt p76 0 [(.slice a313 l313 c313), (.slice none 0 0), (.slice a323 l323 c323), (.slice none 0 0), (.slice a324 l324 c324)] w478 fun w479 => kb (some p76) w479) ∧ (XRun Try.prog (Instr.buildSlice 29 0 (List.toArray [])) w464 fun v299 w480 => ∃ (a325 : Option Addr) (l325 : Nat) (c325 : Nat), v299 = (.slice a325 l325 c325) ∧ S4 w480 ∧ (XRun Try.prog (Builtin.append_ #[29, 29] 29 (List.toArray [(.slice a312 l312 c312), (.slice a31 l31 c31)])) w480 fun v300 w481 => ∃ (a326 : Option Addr) (l326 : Nat) (c326 : Nat), v300 = (.slice a326 l326 c326) ∧ S4 w481 ∧ (XRun Try.prog (Builtin.append_ #[29, 29] 29 (List.toArray [(.slice a325 l325 c325), (.slice a32 l32 c32)])) w481 fun v301 w482 => ∃ (a327 : Option Addr) (l327 : Nat) (c327 : Nat), v301 = (.slice a327 l327 c327) ∧ S4 w482 ∧ XRun Try.prog (Instr.buildSlice 29 0 (List.toArray [])) w482 fun v302 w483 => ∃ (a328 : Option Addr) (l328 : Nat) (c328 : Nat), v302 = (.slice a328 l328 c328) ∧ S4 w483 ∧ XRun Try.prog (Builtin.append_ #[29, 29] 29 (List.toArray [(.slice a328 l328 c328), (.slice a33 l33 c33)])) w483 fun v303 w484 => ∃ (a329 : Option Addr) (l329 : Nat) (c329 : Nat), v303 = (.slice a329 l329 c329) ∧ S4 w484 ∧ storesAt p76 0 [(.slice a326 l326 c326), (.slice none 0 0), (.slice a327 l327 c327), (.slice none 0 0), (.slice a329 l329 c329)] w484 fun w485 => kb (some p76) w485) ∧ XRun Try.prog (Instr.buildSlice 29 0 (List.toArray [])) w481 fun v304 w486 => ∃ (a330 : Option Addr) (l330 : Nat) (c330 : Nat), v304 = (.slice a330 l330 c330) ∧ S4 w486 ∧ XRun Try.prog (Builtin.append_ #[29, 29] 29 (List.toArray [(.slice a325 l325 c325), (.slice a32 l32 c32)])) w486 fun v305 w487 => ∃ (a331 : Option Addr) (l331 : Nat) (c331 : Nat), v305 = (.slice a331 l331 c331) ∧ S4 w487 ∧ XRun Try.prog (Builtin.append_ #[29, 29] 29 (List.toArray [(.slice a330 l330 c330), (.slice a33 l33 c33)])) w487 fun v306 w488 => ∃ (a332 : Option Addr) (l332 : Nat) (c332 : Nat), v306 = (.slice a332 l332 c332) ∧ S4 w488 ∧ storesAt p76 0 [(.slice a326 l326 c326), (.slice none 0 0), (.slice a331 l331 c331), (.slice none 0 0), (.slice a332 l332 c332)] w488 fun w489 => kb (some p76) w489) ∧ XRun Try.prog (Instr.buildSlice 29 0 (List.toArray [])) w480 fun v307 w490 => ∃ (a333 : Option Addr) (l333 : Nat) (c333 : Nat), v307 = (.slice a333 l333 c333) ∧ S4 w490 ∧ XRun Try.prog (Builtin.append_ #[29, 29] 29 (List.toArray [(.slice a312 l312 c312), (.slice a31 l31 c31)])) w490 fun v308 w491 => ∃ (a334 : Option Addr) (l334 : Nat) (c334 : Nat), v308 = (.slice a334 l334 c334) ∧ S4 w491 ∧ XRun Try.prog (Builtin.append_ #[29, 29] 29 (List.toArray [(.slice a325 l325 c325), (.slice a32 l32 c32)])) w491 fun v309 w492 => ∃ (a335 : Option Addr) (l335 : Nat) (c335 : Nat), v309 = (.slice a335 l335 c335) ∧ S4 w492 ∧ XRun Try.prog (Builtin.append_ #[29, 29] 29 (List.toArray [(.slice a333 l333 c333), (.slice a33 l33 c33)])) w492 fun v310 w493 => ∃ (a336 : Option Addr) (l336 : Nat) (c336 : Nat), v310 = (.slice a336 l336 c336) ∧ S4 w493 ∧ storesAt p76 0 [(.slice a334 l334 c334), (.slice none 0 0), (.slice a335 l335 c335), (.slice none 0 0), (.slice a336 l336 c336)] w493 fun w494 => kb (some p76) w494) ∧ XRun Try.prog (Instr.buildSlice 29 0 (List.toArray [])) w464 fun v311 w495 => ∃ (a337 : Option Addr) (l337 : Nat) (c337 : Nat), v311 = (.slice a337 l337 c337) ∧ S4 w495 ∧ (XRun Try.prog (Builtin.append_ #[29, 29] 29 (List.toArray [(.slice a312 l312 c312), (.slice a31 l31 c31)])) w495 fun v312 w496 => ∃ (a338 : Option Addr) (l338 : Nat) (c338 : Nat), v312 = (.slice a338 l338 c338) ∧ S4 w496 ∧ XRun Try.prog (Instr.buildSlice 29 0 (List.toArray [])) w496 fun v313 w497 => ∃ (a339 : Option Addr) (l339 : Nat) (c339 : Nat), v313 = (.slice a339 l339 c339) ∧ S4 w497 ∧ XRun Try.prog (Builtin.append_ #[29, 29] 29 (List.toArray [(.slice a339 l339 c339), (.slice a32 l32 c32)])) w497 fun v314 w498 => ∃ (a340 : Option Addr) (l340 : Nat) (c340 : Nat), v314 = (.slice a340 l340 c340) ∧ S4 w498 ∧ XRun Try.prog (Builtin.append_ #[29, 29] 29 (List.toArray [(.slice a337 l337 c337), (.slice a33 l33 c33)])) w498 fun v315 w499 => ∃ (a341 : Option Addr) (l341 : Nat) (c341 : Nat), v315 = (.slice a341 l341 c341) ∧ S4 w499 ∧ storesAt p76 0 [(.slice a338 l338 c338), (.slice none 0 0), (.slice a340 l340 c340), (.slice none 0 0), (.slice a341 l341 c341)] w499 fun w500 => kb (some p76) w500) ∧ XRun Try.prog (Instr.buildSlice 29 0 (List.toArray [])) w495 fun v316 w501 => ∃ (a342 : Option Addr) (l342 : Nat) (c342 : Nat), v316 = (.slice a342 l342 c342) ∧ S4 w501 ∧ XRun Try.prog (Builtin.append_ #[29, 29] 29 (List.toArray [(.slice a312 l312 c312), (.slice a31 l31 c31)])) w501 fun v317 w502 => ∃ (a343 : Option Addr) (l343 : Nat) (c343 : Nat), v317 = (.slice a343 l343 c343) ∧ S4 w502 ∧ XRun Try.prog (Builtin.append_ #[29, 29] 29 (List.toArray [(.slice a342 l342 c342), (.slice a32 l32 c32)])) w502 fun v318 w503 => ∃ (a344 : Option Addr) (l344 : Nat) (c344 : Nat), v318 = (.slice a344 l344 c344) ∧ S4 w503 ∧ XRun Try.prog (Builtin.append_ #[29, 29] 29 (List.toArray [(.slice a337 l337 c337), (.slice a33 l33 c33)])) w503 fun v319 w504 => ∃ (a345 : Option Addr) (l345 : Nat) (c345 : Nat), v319 = (.slice a345 l345 c345) ∧ S4 w504 ∧ storesAt p76 0 [(.slice a343 l343 c343), (.slice none 0 0), (.slice a344 l344 c344), (.slice none 0 0), (.slice a345 l345 c345)] w504 fun w505 => kb (some p76) w505) ∧ (XRun Try.prog (Instr.buildSlice 29 0 (List.toArray [])) w463 fun v320 w506 => ∃ (a346 : Option Addr) (l346 : Nat) (c346 : Nat), v320 = (.slice a346 l346 c346) ∧ S4 w506 ∧ (XRun Try.prog (Instr.buildSlice 29 0 (List.toArray [])) w506 fun v321 w507 => ∃ (a347 : Option Addr) (l347 : Nat) (c347 : Nat), v321 = (.slice a347 l347 c347) ∧ S4 w507 ∧ (XRun Try.prog (Builtin.append_ #[29, 29] 29 (List.toArray [(.slice a347 l347 c347), (.slice a31 l31 c31)])) w507 fun v322 w508 => ∃ (a348 : Option Addr) (l348 : Nat) (c348 : Nat), v322 = (.slice a348 l348 c348) ∧ S4 w508 ∧ (XRun Try.prog (Builtin.append_ #[29, 29] 29 (List.toArray [(.slice a346 l346 c346), (.slice a32 l32 c32)])) w508 fun v323 w509 => ∃ (a349 : Option Addr) (l349 : Nat) (c349 : Nat), v323 = (.slice a349 l349 c349) ∧ S4 w509 ∧ XRun Try.prog (Instr.buildSlice 29 0 (List.toArray [])) w509 fun v324 w510 => ∃ (a350 : Option Addr) (l350 : Nat) (c350 : Nat), v324 = (.slice a350 l350 c350) ∧ S4 w510 ∧ XRun Try.prog (Builtin.append_ #[29, 29] 29 (List.toArray [(.slice a350 l350 c350), (.slice a33 l33 c33)])) w510 fun v325 w511 => ∃ (a351 : Option Addr) (l351 : Nat) (c351 : Nat), v325 = (.slice a351 l351 c351) ∧ S4 w511 ∧ storesAt p76 0 [(.slice a348 l348 c348), (.slice none 0 0), (.slice a349 l349 c349), (.slice none 0 0), (.slice a351 l351 c351)] w511 fun w512 => kb (some p76) w512) ∧ XRun Try.prog (Instr.buildSlice 29 0 (List.toArray [])) w508 fun v326 w513 => ∃ (a352 : Option Addr) (l352 : Nat) (c352 : Nat), v326 = (.slice a352 l352 c352) ∧ S4 w513 ∧ XRun Try.prog (Builtin.append_ #[29, 29] 29 (List.toArray [(.slice a346 l346 c346), (.slice a32 l32 c32)])) w513 fun v327 w514 => ∃ (a353 : Option Addr) (l353 : Nat) (c353 : Nat), v327 = (.slice a353 l353 c353) ∧ S4 w514 ∧ XRun Try.prog (Builtin.append_ #[29, 29] 29 (List.toArray [(.slice a352 l352 c352), (.slice a33 l33 c33)])) w514 fun v328 w515 => ∃ (a354 : Option Addr) (l354 : Nat) (c354 : Nat), v328 = (.slice a354 l354 c354) ∧ S4 w515 ∧ storesAt p76 0 [(.slice a348 l348 c348), (.slice none 0 0), (.slice a353 l353 c353), (.slice none 0 0), (.slice a354 l354 c354)] w515 fun w516 => kb (some p76) w516) ∧ XRun Try.prog (Instr.buildSlice 29 0 (List.toArray [])) w507 fun v329 w517 => ∃ (a355 : Option Addr) (l355 : Nat) (c355 : Nat), v329 = (.slice a355 l355 c355) ∧ S4 w517 ∧ XRun Try.prog (Builtin.append_ #[29, 29] 29 (List.toArray [(.slice a347 l347 c347), (.slice a31 l31 c31)])) w517 fun v330 w518 => ∃ (a356 : Option Addr) (l356 : Nat) (c356 : Nat), v330 = (.slice a356 l356 c356) ∧ S4 w518 ∧ XRun Try.prog (Builtin.append_ #[29, 29] 29 (List.toArray [(.slice a346 l346 c346), (.slice a32 l32 c32)])) w518 fun v331 w519 => ∃ (a357 : Option Addr) (l357 : Nat) (c357 : Nat), v331 = (.slice a357 l357 c357) ∧ S4 w519 ∧ XRun Try.prog (Builtin.append_ #[29, 29] 29 (List.toArray [(.slice a355 l355 c355), (.slice a33 l33 c33)])) w519 fun v332 w520 => ∃ (a358 : Option Addr) (l358 : Nat) (c358 : Nat), v332 = (.slice a358 l358 c358) ∧ S4 w520 ∧ storesAt p76 0 [(.slice a356 l356 c356), (.slice none 0 0), (.slice a357 l357 c357), (.slice none 0 0), (.slice a358 l358 c358)] w520 fun w521 => kb (some p76) w521) ∧ XRun Try.prog (Instr.buildSlice 29 0 (List.toArray [])) w506 fun v333 w522 => ∃ (a359 : Option Addr) (l359 : Nat) (c359 : Nat), v333 = (.slice a359 l359 c359) ∧ S4 w522 ∧ XRun Try.prog (Instr.buildSlice 29 0 (List.toArray [])) w522 fun v334 w523 => ∃ (a360 : Option Addr) (l360 : Nat) (c360 : Nat), v334 = (.slice a360 l360 c360) ∧ S4 w523 ∧ XRun Try.prog (Builtin.append_ #[29, 29] 29 (List.toArray [(.slice a360 l360 c360), (.slice a31 l31 c31)])) w523 fun v335 w524 => ∃ (a361 : Option Addr) (l361 : Nat) (c361 : Nat), v335 = (.slice a361 l361 c361) ∧ S4 w524 ∧ XRun Try.prog (Builtin.append_ #[29, 29] 29 (List.toArray [(.slice a346 l346 c346), (.slice a32 l32 c32)])) w524 fun v336 w525 => ∃ (a362 : Option Addr) (l362 : Nat) (c362 : Nat), v336 = (.slice a362 l362 c362) ∧ S4 w525 ∧ XRun Try.prog (Builtin.append_ #[29, 29] 29 (List.toArray [(.slice a359 l359 c359), (.slice a33 l33 c33)])) w525 fun v337 w526 => ∃ (a363 : Option Addr) (l363 : Nat) (c363 : Nat), v337 = (.slice a363 l363 c363) ∧ S4 w526 ∧ storesAt p76 0 [(.slice a361 l361 c361), (.slice none 0 0), (.slice a362 l362 c362), (.slice none 0 0), (.slice a363 l363 c363)] w526 fun w527 => kb (some p76) w527) ∧ XRun Try.prog (Instr.buildSlice 29 0 (List.toArray [])) w463 fun v338 w528 => ∃ (a364 : Option Addr) (l364 : Nat) (c364 : Nat), v338 = (.slice a364 l364 c364) ∧ S4 w528 ∧ (XRun Try.prog (Instr.buildSlice 29 0 (List.toArray [])) w528 fun v339 w529 => ∃ (a365 : Option Addr) (l365 : Nat) (c365 : Nat), v339 = (.slice a365 l365 c365) ∧ S4 w529 ∧ (XRun Try.prog (Builtin.append_ #[29, 29] 29 (List.toArray [(.slice a365 l365 c365), (.slice a31 l31 c31)])) w529 fun v340 w530 => ∃ (a366 : Option Addr) (l366 : Nat) (c366 : Nat), v340 = (.slice a366 l366 c366) ∧ S4 w530 ∧ XRun Try.prog (Instr.buildSlice 29 0 (List.toArray [])) w530 fun v341 w531 => ∃ (a367 : Option Addr) (l367 : Nat) (c367 : Nat), v341 = (.slice a367 l367 c367) ∧ S4 w531 ∧ XRun Try.prog (Builtin.append_ #[29, 29] 29 (List.toArray [(.slice a367 l367 c367), (.slice a32 l32 c32)])) w531 fun v342 w532 => ∃ (a368 : Option Addr) (l368 : Nat) (c368 : Nat), v342 = (.slice a368 l368 c368) ∧ S4 w532 ∧ XRun Try.prog (Builtin.append_ #[29, 29] 29 (List.toArray [(.slice a364 l364 c364), (.slice a33 l33 c33)])) w532 fun v343 w533 => ∃ (a369 : Option Addr) (l369 : Nat) (c369 : Nat), v343 = (.slice a369 l369 c369) ∧ S4 w533 ∧ storesAt p76 0 [(.slice a366 l366 c366), (.slice none 0 0), (.slice a368 l368 c368), (.slice none 0 0), (.slice a369 l369 c369)] w533 fun w534 => kb (some p76) w534) ∧ XRun Try.prog (Instr.buildSlice 29 0 (List.toArray [])) w529 fun v344 w535 => ∃ (a370 : Option Addr) (l370 : Nat) (c370 : Nat), v344 = (.slice a370 l370 c370) ∧ S4 w535 ∧ XRun Try.prog (Builtin.append_ #[29, 29] 29 (List.toArray [(.slice a365 l365 c365), (.slice a31 l31 c31)])) w535 fun v345 w536 => ∃ (a371 : Option Addr) (l371 : Nat) (c371 : Nat), v345 = (.slice a371 l371 c371) ∧ S4 w536 ∧ XRun Try.prog (Builtin.append_ #[29, 29] 29 (List.toArray [(.slice a370 l370 c370), (.slice a32 l32 c32)])) w536 fun v346 w537 => ∃ (a372 : Option Addr) (l372 : Nat) (c372 : Nat), v346 = (.slice a372 l372 c372) ∧ S4 w537 ∧ XRun Try.prog (Builtin.append_ #[29, 29] 29 (List.toArray [(.slice a364 l364 c364), (.slice a33 l33 c33)])) w537 fun v347 w538 => ∃ (a373 : Option Addr) (l373 : Nat) (c373 : Nat), v347 = (.slice a373 l373 c373) ∧ S4 w538 ∧ storesAt p76 0 [(.slice a371 l371 c371), (.slice none 0 0), (.slice a372 l372 c372), (.slice none 0 0), (.slice a373 l373 c373)] w538 fun w539 => kb (some p76) w539) ∧ XRun Try.prog (Instr.buildSlice 29 0 (List.toArray [])) w528 fun v348 w540 => ∃ (a374 : Option Addr) (l374 : Nat) (c374 : Nat), v348 = (.slice a374 l374 c374) ∧ S4 w540 ∧ XRun Try.prog (Instr.buildSlice 29 0 (List.toArray [])) w540 fun v349 w541 => ∃ (a375 : Option Addr) (l375 : Nat) (c375 : Nat), v349 = (.slice a375 l375 c375) ∧ S4 w541 ∧ XRun Try.prog (Builtin.append_ #[29, 29] 29 (List.toArray [(.slice a375 l375 c375), (.slice a31 l31 c31)])) w541 fun v350 w542 => ∃ (a376 : Option Addr) (l376 : Nat) (c376 : Nat), v350 = (.slice a376 l376 c376) ∧ S4 w542 ∧ XRun Try.prog (Builtin.append_ #[29, 29] 29 (List.toArray [(.slice a374 l374 c374), (.slice a32 l32 c32)])) w542 fun v351 w543 => ∃ (a377 : Option Addr) (l377 : Nat) (c377 : Nat), v351 = (.slice a377 l377 c377) ∧ S4 w543 ∧ XRun Try.prog (Builtin.append_ #[29, 29] 29 (List.toArray [(.slice a364 l364 c364), (.slice a33 l33 c33)])) w543 fun v352 w544 => ∃ (a378 : Option Addr) (l378 : Nat) (c378 : Nat), v352 = (.slice a378 l378 c378) ∧ S4 w544 ∧ storesAt p76 0 [(.slice a376 l376 c376), (.slice none 0 0), (.slice a377 l377 c377), (.slice none 0 0), (.slice a378 l378 c378)] w544 fun w545 => kb (some p76) w545) := by
  refine ⟨fun u => Blk u pb z.cells 53, hI.choose_spec.base.box, ?_⟩
  replace hI : CI w0 w.drew pb rb z R G none none none none := by
    obtain ⟨g, hI⟩ := hI
    exact ⟨g, { hI.base with box := hI.base.box.drew, res := hI.base.res.drew, ref := hI.base.ref.frame (Fr.drew (fun _ => False) w) (fun _ _ h => h), fr := fun D => (hI.base.fr D).trans (Fr.drew D w) (fun _ _ h => h) (fun _ _ h => h) }, (fun _ _ e => by cases e), (fun _ _ e => by cases e), (fun _ _ e => by cases e), (fun _ e => by cases e)⟩
  refine ⟨z.o.a, z.o.l, z.o.c, fun u hu => by rw [add_lit, hu.cell]; rfl, z.r.a, z.r.l, z.r.c, fun u hu => by rw [add_lit, hu.cell]; rfl, z.t.a, z.t.l, z.t.c, fun u hu => by rw [add_lit, hu.cell]; rfl, ?_⟩
  refine ⟨?_, ?_⟩
  · refine hI.buildA hs fun s9 w9 hI hB => ⟨_, _, _, rfl, hB, ?_⟩
    refine ⟨?_, ?_⟩
    · refine hI.appA hs fun s9 w9 hI hB => ⟨_, _, _, rfl, hB, ?_⟩
      refine ⟨?_, ?_⟩
      · refine hI.buildB hs fun s9 w9 hI hB => ⟨_, _, _, rfl, hB, ?_⟩
        refine ⟨?_, ?_⟩
        · refine hI.appB hs fun s9 w9 hI hB => ⟨_, _, _, rfl, hB, ?_⟩
          refine ⟨?_, ?_⟩
          · refine hI.buildC hs fun s9 w9 hI hB => ⟨_, _, _, rfl, hB, ?_⟩
            refine ⟨?_, ?_⟩
            · refine hI.appC hs fun s9 w9 hI hB => ⟨_, _, _, rfl, hB, ?_⟩
              refine ⟨hI.allocB, ?_⟩
              replace hI := hI.allocD
              exact hkb _ _ _ _ _ hI
            refine ⟨hI.allocB, ?_⟩
            replace hI := hI.allocD
            refine hI.appC hs fun s9 w9 hI hB => ⟨_, _, _, rfl, hB, ?_⟩
            exact hkb _ _ _ _ _ hI
          refine ⟨hI.allocB, ?_⟩
          replace hI := hI.allocD
          refine hI.buildC hs fun s9 w9 hI hB => ⟨_, _, _, rfl, hB, ?_⟩
          refine hI.appC hs fun s9 w9 hI hB => ⟨_, _, _, rfl, hB, ?_⟩
          exact hkb _ _ _ _ _ hI
        refine ⟨?_, ?_⟩
        · refine hI.buildC hs fun s9 w9 hI hB => ⟨_, _, _, rfl, hB, ?_⟩
          refine ⟨?_, ?_⟩
          · refine hI.appB hs fun s9 w9 hI hB => ⟨_, _, _, rfl, hB, ?_⟩
            refine ⟨?_, ?_⟩
            · refine hI.appC hs fun s9 w9 hI hB => ⟨_, _, _, rfl, hB, ?_⟩
              refine ⟨hI.allocB, ?_⟩
              replace hI := hI.allocD
              exact hkb _ _ _ _ _ hI
            refine ⟨hI.allocB, ?_⟩
            replace hI := hI.allocD
            refine hI.appC hs fun s9 w9 hI hB => ⟨_, _, _, rfl, hB, ?_⟩
            exact hkb _ _ _ _ _ hI
          refine ⟨hI.allocB, ?_⟩
          replace hI := hI.allocD
          refine hI.appB hs fun s9 w9 hI hB => ⟨_, _, _, rfl, hB, ?_⟩
          refine hI.appC hs fun s9 w9 hI hB => ⟨_, _, _, rfl, hB, ?_⟩
          exact hkb _ _ _ _ _ hI
        refine ⟨hI.allocB, ?_⟩
        replace hI := hI.allocD
        refine ⟨?_, ?_⟩
        · refine hI.appB hs fun s9 w9 hI hB => ⟨_, _, _, rfl, hB, ?_⟩
          refine hI.buildC hs fun s9 w9 hI hB => ⟨_, _, _, rfl, hB, ?_⟩
          refine hI.appC hs fun s9 w9 hI hB => ⟨_, _, _, rfl, hB, ?_⟩
          exact hkb _ _ _ _ _ hI
        refine hI.buildC hs fun s9 w9 hI hB => ⟨_, _, _, rfl, hB, ?_⟩
        refine hI.appB hs fun s9 w9 hI hB => ⟨_, _, _, rfl, hB, ?_⟩
        refine hI.appC hs fun s9 w9 hI hB => ⟨_, _, _, rfl, hB, ?_⟩
        exact hkb _ _ _ _ _ hI
      refine ⟨?_, ?_⟩
      · refine hI.buildC hs fun s9 w9 hI hB => ⟨_, _, _, rfl, hB, ?_⟩
        refine ⟨?_, ?_⟩
        · refine hI.buildB hs fun s9 w9 hI hB => ⟨_, _, _, rfl, hB, ?_⟩
          refine ⟨?_, ?_⟩
          · refine hI.appB hs fun s9 w9 hI hB => ⟨_, _, _, rfl, hB, ?_⟩
            refine ⟨?_, ?_⟩
            · refine hI.appC hs fun s9 w9 hI hB => ⟨_, _, _, rfl, hB, ?_⟩
              refine ⟨hI.allocB, ?_⟩
              replace hI := hI.allocD
              exact hkb _ _ _ _ _ hI
            refine ⟨hI.allocB, ?_⟩
            replace hI := hI.allocD
            refine hI.appC hs fun s9 w9 hI hB => ⟨_, _, _, rfl, hB, ?_⟩
            exact hkb _ _ _ _ _ hI
          refine ⟨hI.allocB, ?_⟩
          replace hI := hI.allocD
          refine hI.appB hs fun s9 w9 hI hB => ⟨_, _, _, rfl, hB, ?_⟩
          refine hI.appC hs fun s9 w9 hI hB => ⟨_, _, _, rfl, hB, ?_⟩
          exact hkb _ _ _ _ _ hI
        refine ⟨hI.allocB, ?_⟩
        replace hI := hI.allocD
        refine hI.buildB hs fun s9 w9 hI hB => ⟨_, _, _, rfl, hB, ?_⟩
        refine hI.appB hs fun s9 w9 hI hB => ⟨_, _, _, rfl, hB, ?_⟩
        refine hI.appC hs fun s9 w9 hI hB => ⟨_, _, _, rfl, hB, ?_⟩
        exact hkb _ _ _ _ _ hI
      refine ⟨hI.allocB, ?_⟩
      replace hI := hI.allocD
      refine ⟨?_, ?_⟩
      · refine hI.buildB hs fun s9 w9 hI hB => ⟨_, _, _, rfl, hB, ?_⟩
        refine ⟨?_, ?_⟩
        · refine hI.appB hs fun s9 w9 hI hB => ⟨_, _, _, rfl, hB, ?_⟩
          refine hI.buildC hs fun s9 w9 hI hB => ⟨_, _, _, rfl, hB, ?_⟩
          refine hI.appC hs fun s9 w9 hI hB => ⟨_, _, _, rfl, hB, ?_⟩
          exact hkb _ _ _ _ _ hI
        refine hI.buildC hs fun s9 w9 hI hB => ⟨_, _, _, rfl, hB, ?_⟩
        refine hI.appB hs fun s9 w9 hI hB => ⟨_, _, _, rfl, hB, ?_⟩
        refine hI.appC hs fun s9 w9 hI hB => ⟨_, _, _, rfl, hB, ?_⟩
        exact hkb _ _ _ _ _ hI
      refine hI.buildC hs fun s9 w9 hI hB => ⟨_, _, _, rfl, hB, ?_⟩
      refine hI.buildB hs fun s9 w9 hI hB => ⟨_, _, _, rfl, hB, ?_⟩
      refine hI.appB hs fun s9 w9 hI hB => ⟨_, _, _, rfl, hB, ?_⟩
      refine hI.appC hs fun s9 w9 hI hB => ⟨_, _, _, rfl, hB, ?_⟩
      exact hkb _ _ _ _ _ hI
    refine ⟨?_, ?_⟩
    · refine hI.buildB hs fun s9 w9 hI hB => ⟨_, _, _, rfl, hB, ?_⟩
      refine ⟨?_, ?_⟩
      · refine hI.appA hs fun s9 w9 hI hB => ⟨_, _, _, rfl, hB, ?_⟩
        refine ⟨?_, ?_⟩
        · refine hI.appB hs fun s9 w9 hI hB => ⟨_, _, _, rfl, hB, ?_⟩
          refine ⟨?_, ?_⟩
          · refine hI.buildC hs fun s9 w9 hI hB => ⟨_, _, _, rfl, hB, ?_⟩
            refine ⟨?_, ?_⟩
            · refine hI.appC hs fun s9 w9 hI hB => ⟨_, _, _, rfl, hB, ?_⟩
              refine ⟨hI.allocB, ?_⟩
              replace hI := hI.allocD
              exact hkb _ _ _ _ _ hI
            refine ⟨hI.allocB, ?_⟩
            replace hI := hI.allocD
            refine hI.appC hs fun s9 w9 hI hB => ⟨_, _, _, rfl, hB, ?_⟩
            exact hkb _ _ _ _ _ hI
          refine ⟨hI.allocB, ?_⟩
          replace hI := hI.allocD
          refine hI.buildC hs fun s9 w9 hI hB => ⟨_, _, _, rfl, hB, ?_⟩
          refine hI.appC hs fun s9 w9 hI hB => ⟨_, _, _, rfl, hB, ?_⟩
          exact hkb _ _ _ _ _ hI
        refine ⟨?_, ?_⟩
        · refine hI.buildC hs fun s9 w9 hI hB => ⟨_, _, _, rfl, hB, ?_⟩
          refine ⟨?_, ?_⟩
          · refine hI.appB hs fun s9 w9 hI hB => ⟨_, _, _, rfl, hB, ?_⟩
            refine ⟨?_, ?_⟩
            · refine hI.appC hs fun s9 w9 hI hB => ⟨_, _, _, rfl, hB, ?_⟩
              refine ⟨hI.allocB, ?_⟩
              replace hI := hI.allocD
              exact hkb _ _ _ _ _ hI
            refine ⟨hI.allocB, ?_⟩
            replace hI := hI.allocD
            refine hI.appC hs fun s9 w9 hI hB => ⟨_, _, _, rfl, hB, ?_⟩
            exact hkb _ _ _ _ _ hI
          refine ⟨hI.allocB, ?_⟩
          replace hI := hI.allocD
          refine hI.appB hs fun s9 w9 hI hB => ⟨_, _, _, rfl, hB, ?_⟩
          refine hI.appC hs fun s9 w9 hI hB => ⟨_, _, _, rfl, hB, ?_⟩
          exact hkb _ _ _ _ _ hI
        refine ⟨hI.allocB, ?_⟩
        replace hI := hI.allocD
        refine ⟨?_, ?_⟩
        · refine hI.appB hs fun s9 w9 hI hB => ⟨_, _, _, rfl, hB, ?_⟩
          refine hI.buildC hs fun s9 w9 hI hB => ⟨_, _, _, rfl, hB, ?_⟩
          refine hI.appC hs fun s9 w9 hI hB => ⟨_, _, _, rfl, hB, ?_⟩
          exact hkb _ _ _ _ _ hI
        refine hI.buildC hs fun s9 w9 hI hB => ⟨_, _, _, rfl, hB, ?_⟩
        refine hI.appB hs fun s9 w9 hI hB => ⟨_, _, _, rfl, hB, ?_⟩
        refine hI.appC hs fun s9 w9 hI hB => ⟨_, _, _, rfl, hB, ?_⟩
        exact hkb _ _ _ _ _ hI
      refine ⟨?_, ?_⟩
      · refine hI.buildC hs fun s9 w9 hI hB => ⟨_, _, _, rfl, hB, ?_⟩
        refine ⟨?_, ?_⟩
        · refine hI.appA hs fun s9 w9 hI hB => ⟨_, _, _, rfl, hB, ?_⟩
          refine ⟨?_, ?_⟩
          · refine hI.appB hs fun s9 w9 hI hB => ⟨_, _, _, rfl, hB, ?_⟩
            refine ⟨?_, ?_⟩
            · refine hI.appC hs fun s9 w9 hI hB => ⟨_, _, _, rfl, hB, ?_⟩
              refine ⟨hI.allocB, ?_⟩
              replace hI := hI.allocD
              exact hkb _ _ _ _ _ hI
            refine ⟨hI.allocB, ?_⟩
            replace hI := hI.allocD
            refine hI.appC hs fun s9 w9 hI hB => ⟨_, _, _, rfl, hB, ?_⟩
            exact hkb _ _ _ _ _ hI
          refine ⟨hI.allocB, ?_⟩
          replace hI := hI.allocD
          refine hI.appB hs fun s9 w9 hI hB => ⟨_, _, _, rfl, hB, ?_⟩
          refine hI.appC hs fun s9 w9 hI hB => ⟨_, _, _, rfl, hB, ?_⟩
          exact hkb _ _ _ _ _ hI
        refine ⟨hI.allocB, ?_⟩
        replace hI := hI.allocD
        refine hI.appA hs fun s9 w9 hI hB => ⟨_, _, _, rfl, hB, ?_⟩
        refine hI.appB hs fun s9 w9 hI hB => ⟨_, _, _, rfl, hB, ?_⟩
        refine hI.appC hs fun s9 w9 hI hB => ⟨_, _, _, rfl, hB, ?_⟩
        exact hkb _ _ _ _ _ hI
      refine ⟨hI.allocB, ?_⟩
      replace hI := hI.allocD
      refine ⟨?_, ?_⟩
      · refine hI.appA hs fun s9 w9 hI hB => ⟨_, _, _, rfl, hB, ?_⟩
        refine ⟨?_, ?_⟩
        · refine hI.appB hs fun s9 w9 hI hB => ⟨_, _, _, rfl, hB, ?_⟩
          refine hI.buildC hs fun s9 w9 hI hB => ⟨_, _, _, rfl, hB, ?_⟩
          refine hI.appC hs fun s9 w9 hI hB => ⟨_, _, _, rfl, hB, ?_⟩
          exact hkb _ _ _ _ _ hI
        refine hI.buildC hs fun s9 w9 hI hB => ⟨_, _, _, rfl, hB, ?_⟩
        refine hI.appB hs fun s9 w9 hI hB => ⟨_, _, _, rfl, hB, ?_⟩
        refine hI.appC hs fun s9 w9 hI hB => ⟨_, _, _, rfl, hB, ?_⟩
        exact hkb _ _ _ _ _ hI
      refine hI.buildC hs fun s9 w9 hI hB => ⟨_, _, _, rfl, hB, ?_⟩
      refine hI.appA hs fun s9 w9 hI hB => ⟨_, _, _, rfl, hB, ?_⟩
      refine hI.appB hs fun s9 w9 hI hB => ⟨_, _, _, rfl, hB, ?_⟩
      refine hI.appC hs fun s9 w9 hI hB => ⟨_, _, _, rfl, hB, ?_⟩
      exact hkb _ _ _ _ _ hI
    refine ⟨?_, ?_⟩
    · refine hI.buildC hs fun s9 w9 hI hB => ⟨_, _, _, rfl, hB, ?_⟩
      refine ⟨?_, ?_⟩
      · refine hI.appA hs fun s9 w9 hI hB => ⟨_, _, _, rfl, hB, ?_⟩
        refine ⟨?_, ?_⟩
        · refine hI.buildB hs fun s9 w9 hI hB => ⟨_, _, _, rfl, hB, ?_⟩
          refine ⟨?_, ?_⟩
          · refine hI.appB hs fun s9 w9 hI hB => ⟨_, _, _, rfl, hB, ?_⟩
            refine ⟨?_, ?_⟩
            · refine hI.appC hs fun s9 w9 hI hB => ⟨_, _, _, rfl, hB, ?_⟩
              refine ⟨hI.allocB, ?_⟩
              replace hI := hI.allocD
              exact hkb _ _ _ _ _ hI
            refine ⟨hI.allocB, ?_⟩
            replace hI := hI.allocD
            refine hI.appC hs fun s9 w9 hI hB => ⟨_, _, _, rfl, hB, ?_⟩
            exact hkb _ _ _ _ _ hI
          refine ⟨hI.allocB, ?_⟩
          replace hI := hI.allocD
          refine hI.appB hs fun s9 w9 hI hB => ⟨_, _, _, rfl, hB, ?_⟩
          refine hI.appC hs fun s9 w9 hI hB => ⟨_, _, _, rfl, hB, ?_⟩
          exact hkb _ _ _ _ _ hI
        refine ⟨hI.allocB, ?_⟩
        replace hI := hI.allocD
        refine hI.buildB hs fun s9 w9 hI hB => ⟨_, _, _, rfl, hB, ?_⟩
        refine hI.appB hs fun s9 w9 hI hB => ⟨_, _, _, rfl, hB, ?_⟩
        refine hI.appC hs fun s9 w9 hI hB => ⟨_, _, _, rfl, hB, ?_⟩
        exact hkb _ _ _ _ _ hI
      refine ⟨?_, ?_⟩
      · refine hI.buildB hs fun s9 w9 hI hB => ⟨_, _, _, rfl, hB, ?_⟩
        refine ⟨?_, ?_⟩
        · refine hI.appA hs fun s9 w9 hI hB => ⟨_, _, _, rfl, hB, ?_⟩
          refine ⟨?_, ?_⟩
          · refine hI.appB hs fun s9 w9 hI hB => ⟨_, _, _, rfl, hB, ?_⟩
            refine ⟨?_, ?_⟩
            · refine hI.appC hs fun s9 w9 hI hB => ⟨_, _, _, rfl, hB, ?_⟩
              refine ⟨hI.allocB, ?_⟩
              replace hI := hI.allocD
              exact hkb _ _ _ _ _ hI
            refine ⟨hI.allocB, ?_⟩
            replace hI := hI.allocD
            refine hI.appC hs fun s9 w9 hI hB => ⟨_, _, _, rfl, hB, ?_⟩
            exact hkb _ _ _ _ _ hI
          refine ⟨hI.allocB, ?_⟩
          replace hI := hI.allocD
          refine hI.appB hs fun s9 w9 hI hB => ⟨_, _, _, rfl, hB, ?_⟩
          refine hI.appC hs fun s9 w9 hI hB => ⟨_, _, _, rfl, hB, ?_⟩
          exact hkb _ _ _ _ _ hI
        refine ⟨hI.allocB, ?_⟩
        replace hI := hI.allocD
        refine hI.appA hs fun s9 w9 hI hB => ⟨_, _, _, rfl, hB, ?_⟩
        refine hI.appB hs fun s9 w9 hI hB => ⟨_, _, _, rfl, hB, ?_⟩
        refine hI.appC hs fun s9 w9 hI hB => ⟨_, _, _, rfl, hB, ?_⟩
        exact hkb _ _ _ _ _ hI
      refine ⟨hI.allocB, ?_⟩
      replace hI := hI.allocD
      refine ⟨?_, ?_⟩
      · refine hI.appA hs fun s9 w9 hI hB => ⟨_, _, _, rfl, hB, ?_⟩
        refine hI.buildB hs fun s9 w9 hI hB => ⟨_, _, _, rfl, hB, ?_⟩
        refine hI.appB hs fun s9 w9 hI hB => ⟨_, _, _, rfl, hB, ?_⟩
        refine hI.appC hs fun s9 w9 hI hB => ⟨_, _, _, rfl, hB, ?_⟩
        exact hkb _ _ _ _ _ hI
      refine hI.buildB hs fun s9 w9 hI hB => ⟨_, _, _, rfl, hB, ?_⟩
      refine hI.appA hs fun s9 w9 hI hB => ⟨_, _, _, rfl, hB, ?_⟩
      refine hI.appB hs fun s9 w9 hI hB => ⟨_, _, _, rfl, hB, ?_⟩
      refine hI.appC hs fun s9 w9 hI hB => ⟨_, _, _, rfl, hB, ?_⟩
      exact hkb _ _ _ _ _ hI
    refine ⟨hI.allocB, ?_⟩
    replace hI := hI.allocD
    refine ⟨?_, ?_⟩
    · refine hI.appA hs fun s9 w9 hI hB => ⟨_, _, _, rfl, hB, ?_⟩
      refine ⟨?_, ?_⟩
      · refine hI.buildB hs fun s9 w9 hI hB => ⟨_, _, _, rfl, hB, ?_⟩
        refine ⟨?_, ?_⟩
        · refine hI.appB hs fun s9 w9 hI hB => ⟨_, _, _, rfl, hB, ?_⟩
          refine hI.buildC hs fun s9 w9 hI hB => ⟨_, _, _, rfl, hB, ?_⟩
          refine hI.appC hs fun s9 w9 hI hB => ⟨_, _, _, rfl, hB, ?_⟩
          exact hkb _ _ _ _ _ hI
        refine hI.buildC hs fun s9 w9 hI hB => ⟨_, _, _, rfl, hB, ?_⟩
        refine hI.appB hs fun s9 w9 hI hB => ⟨_, _, _, rfl, hB, ?_⟩
        refine hI.appC hs fun s9 w9 hI hB => ⟨_, _, _, rfl, hB, ?_⟩
        exact hkb _ _ _ _ _ hI
      refine hI.buildC hs fun s9 w9 hI hB => ⟨_, _, _, rfl, hB, ?_⟩
      refine hI.buildB hs fun s9 w9 hI hB => ⟨_, _, _, rfl, hB, ?_⟩
      refine hI.appB hs fun s9 w9 hI hB => ⟨_, _, _, rfl, hB, ?_⟩
      refine hI.appC hs fun s9 w9 hI hB => ⟨_, _, _, rfl, hB, ?_⟩
      exact hkb _ _ _ _ _ hI
    refine ⟨?_, ?_⟩
    · refine hI.buildB hs fun s9 w9 hI hB => ⟨_, _, _, rfl, hB, ?_⟩
      refine ⟨?_, ?_⟩
      · refine hI.appA hs fun s9 w9 hI hB => ⟨_, _, _, rfl, hB, ?_⟩
        refine ⟨?_, ?_⟩
        · refine hI.appB hs fun s9 w9 hI hB => ⟨_, _, _, rfl, hB, ?_⟩
          refine hI.buildC hs fun s9 w9 hI hB => ⟨_, _, _, rfl, hB, ?_⟩
          refine hI.appC hs fun s9 w9 hI hB => ⟨_, _, _, rfl, hB, ?_⟩
          exact hkb _ _ _ _ _ hI
        refine hI.buildC hs fun s9 w9 hI hB => ⟨_, _, _, rfl, hB, ?_⟩
        refine hI.appB hs fun s9 w9 hI hB => ⟨_, _, _, rfl, hB, ?_⟩
        refine hI.appC hs fun s9 w9 hI hB => ⟨_, _, _, rfl, hB, ?_⟩
        exact hkb _ _ _ _ _ hI
      refine hI.buildC hs fun s9 w9 hI hB => ⟨_, _, _, rfl, hB, ?_⟩
      refine hI.appA hs fun s9 w9 hI hB => ⟨_, _, _, rfl, hB, ?_⟩
      refine hI.appB hs fun s9 w9 hI hB => ⟨_, _, _, rfl, hB, ?_⟩
      refine hI.appC hs fun s9 w9 hI hB => ⟨_, _, _, rfl, hB, ?_⟩
      exact hkb _ _ _ _ _ hI
    refine hI.buildC hs fun s9 w9 hI hB => ⟨_, _, _, rfl, hB, ?_⟩
    refine ⟨?_, ?_⟩
    · refine hI.appA hs fun s9 w9 hI hB => ⟨_, _, _, rfl, hB, ?_⟩
      refine hI.buildB hs fun s9 w9 hI hB => ⟨_, _, _, rfl, hB, ?_⟩
      refine hI.appB hs fun s9 w9 hI hB => ⟨_, _, _, rfl, hB, ?_⟩
      refine hI.appC hs fun s9 w9 hI hB => ⟨_, _, _, rfl, hB, ?_⟩
      exact hkb _ _ _ _ _ hI
    refine hI.buildB hs fun s9 w9 hI hB => ⟨_, _, _, rfl, hB, ?_⟩
    refine hI.appA hs fun s9 w9 hI hB => ⟨_, _, _, rfl, hB, ?_⟩
    refine hI.appB hs fun s9 w9 hI hB => ⟨_, _, _, rfl, hB, ?_⟩
    refine hI.appC hs fun s9 w9 hI hB => ⟨_, _, _, rfl, hB, ?_⟩
    exact hkb _ _ _ _ _ hI
  refine ⟨?_, ?_⟩
  · refine hI.buildB hs fun s9 w9 hI hB => ⟨_, _, _, rfl, hB, ?_⟩
    refine ⟨?_, ?_⟩
    · refine hI.buildA hs fun s9 w9 hI hB => ⟨_, _, _, rfl, hB, ?_⟩
      refine ⟨?_, ?_⟩
      · refine hI.appA hs fun s9 w9 hI hB => ⟨_, _, _, rfl, hB, ?_⟩
        refine ⟨?_, ?_⟩
        · refine hI.appB hs fun s9 w9 hI hB => ⟨_, _, _, rfl, hB, ?_⟩
          refine ⟨?_, ?_⟩
          · refine hI.buildC hs fun s9 w9 hI hB => ⟨_, _, _, rfl, hB, ?_⟩
            refine ⟨?_, ?_⟩
            · refine hI.appC hs fun s9 w9 hI hB => ⟨_, _, _, rfl, hB, ?_⟩
              refine ⟨hI.allocB, ?_⟩
              replace hI := hI.allocD
              exact hkb _ _ _ _ _ hI
            refine ⟨hI.allocB, ?_⟩
            replace hI := hI.allocD
            refine hI.appC hs fun s9 w9 hI hB => ⟨_, _, _, rfl, hB, ?_⟩
            exact hkb _ _ _ _ _ hI
          refine ⟨hI.allocB, ?_⟩
          replace hI := hI.allocD
          refine hI.buildC hs fun s9 w9 hI hB => ⟨_, _, _, rfl, hB, ?_⟩
          refine hI.appC hs fun s9 w9 hI hB => ⟨_, _, _, rfl, hB, ?_⟩
          exact hkb _ _ _ _ _ hI
        refine ⟨?_, ?_⟩
        · refine hI.buildC hs fun s9 w9 hI hB => ⟨_, _, _, rfl, hB, ?_⟩
          refine ⟨?_, ?_⟩
          · refine hI.appB hs fun s9 w9 hI hB => ⟨_, _, _, rfl, hB, ?_⟩
            refine ⟨?_, ?_⟩
            · refine hI.appC hs fun s9 w9 hI hB => ⟨_, _, _, rfl, hB, ?_⟩
              refine ⟨hI.allocB, ?_⟩
              replace hI := hI.allocD
              exact hkb _ _ _ _ _ hI
            refine ⟨hI.allocB, ?_⟩
            replace hI := hI.allocD
            refine hI.appC hs fun s9 w9 hI hB => ⟨_, _, _, rfl, hB, ?_⟩
            exact hkb _ _ _ _ _ hI
          refine ⟨hI.allocB, ?_⟩
          replace hI := hI.allocD
          refine hI.appB hs fun s9 w9 hI hB => ⟨_, _, _, rfl, hB, ?_⟩
          refine hI.appC hs fun s9 w9 hI hB => ⟨_, _, _, rfl, hB, ?_⟩
          exact hkb _ _ _ _ _ hI
        refine ⟨hI.allocB, ?_⟩
        replace hI := hI.allocD
        refine ⟨?_, ?_⟩
        · refine hI.appB hs fun s9 w9 hI hB => ⟨_, _, _, rfl, hB, ?_⟩
          refine hI.buildC hs fun s9 w9 hI hB => ⟨_, _, _, rfl, hB, ?_⟩
          refine hI.appC hs fun s9 w9 hI hB => ⟨_, _, _, rfl, hB, ?_⟩
          exact hkb _ _ _ _ _ hI
        refine hI.buildC hs fun s9 w9 hI hB => ⟨_, _, _, rfl, hB, ?_⟩
        refine hI.appB hs fun s9 w9 hI hB => ⟨_, _, _, rfl, hB, ?_⟩
        refine hI.appC hs fun s9 w9 hI hB => ⟨_, _, _, rfl, hB, ?_⟩
        exact hkb _ _ _ _ _ hI
      refine ⟨?_, ?_⟩
      · refine hI.buildC hs fun s9 w9 hI hB => ⟨_, _, _, rfl, hB, ?_⟩
        refine ⟨?_, ?_⟩
        · refine hI.appA hs fun s9 w9 hI hB => ⟨_, _, _, rfl, hB, ?_⟩
          refine ⟨?_, ?_⟩
          · refine hI.appB hs fun s9 w9 hI hB => ⟨_, _, _, rfl, hB, ?_⟩
            refine ⟨?_, ?_⟩
            · refine hI.appC hs fun s9 w9 hI hB => ⟨_, _, _, rfl, hB, ?_⟩
              refine ⟨hI.allocB, ?_⟩
              replace hI := hI.allocD
              exact hkb _ _ _ _ _ hI
            refine ⟨hI.allocB, ?_⟩
            replace hI := hI.allocD
            refine hI.appC hs fun s9 w9 hI hB => ⟨_, _, _, rfl, hB, ?_⟩
            exact hkb _ _ _ _ _ hI
          refine ⟨hI.allocB, ?_⟩
          replace hI := hI.allocD
          refine hI.appB hs fun s9 w9 hI hB => ⟨_, _, _, rfl, hB, ?_⟩
          refine hI.appC hs fun s9 w9 hI hB => ⟨_, _, _, rfl, hB, ?_⟩
          exact hkb _ _ _ _ _ hI
        refine ⟨hI.allocB, ?_⟩
        replace hI := hI.allocD
        refine hI.appA hs fun s9 w9 hI hB => ⟨_, _, _, rfl, hB, ?_⟩
        refine hI.appB hs fun s9 w9 hI hB => ⟨_, _, _, rfl, hB, ?_⟩
        refine hI.appC hs fun s9 w9 hI hB => ⟨_, _, _, rfl, hB, ?_⟩
        exact hkb _ _ _ _ _ hI
      refine ⟨hI.allocB, ?_⟩
      replace hI := hI.allocD
      refine ⟨?_, ?_⟩
      · refine hI.appA hs fun s9 w9 hI hB => ⟨_, _, _, rfl, hB, ?_⟩
        refine ⟨?_, ?_⟩
        · refine hI.appB hs fun s9 w9 hI hB => ⟨_, _, _, rfl, hB, ?_⟩
          refine hI.buildC hs fun s9 w9 hI hB => ⟨_, _, _, rfl, hB, ?_⟩
          refine hI.appC hs fun s9 w9 hI hB => ⟨_, _, _, rfl, hB, ?_⟩
          exact hkb _ _ _ _ _ hI
        refine hI.buildC hs fun s9 w9 hI hB => ⟨_, _, _, rfl, hB, ?_⟩
        refine hI.appB hs fun s9 w9 hI hB => ⟨_, _, _, rfl, hB, ?_⟩
        refine hI.appC hs fun s9 w9 hI hB => ⟨_, _, _, rfl, hB, ?_⟩
        exact hkb _ _ _ _ _ hI
      refine hI.buildC hs fun s9 w9 hI hB => ⟨_, _, _, rfl, hB, ?_⟩
      refine hI.appA hs fun s9 w9 hI hB => ⟨_, _, _, rfl, hB, ?_⟩
      refine hI.appB hs fun s9 w9 hI hB => ⟨_, _, _, rfl, hB, ?_⟩
      refine hI.appC hs fun s9 w9 hI hB => ⟨_, _, _, rfl, hB, ?_⟩
      exact hkb _ _ _ _ _ hI
    refine ⟨?_, ?_⟩
    · refine hI.buildC hs fun s9 w9 hI hB => ⟨_, _, _, rfl, hB, ?_⟩
      refine ⟨?_, ?_⟩
      · refine hI.buildA hs fun s9 w9 hI hB => ⟨_, _, _, rfl, hB, ?_⟩
        refine ⟨?_, ?_⟩
        · refine hI.appA hs fun s9 w9 hI hB => ⟨_, _, _, rfl, hB, ?_⟩
          refine ⟨?_, ?_⟩
          · refine hI.appB hs fun s9 w9 hI hB => ⟨_, _, _, rfl, hB, ?_⟩
            refine ⟨?_, ?_⟩
            · refine hI.appC hs fun s9 w9 hI hB => ⟨_, _, _, rfl, hB, ?_⟩
              refine ⟨hI.allocB, ?_⟩
              replace hI := hI.allocD
              exact hkb _ _ _ _ _ hI
            refine ⟨hI.allocB, ?_⟩
            replace hI := hI.allocD
            refine hI.appC hs fun s9 w9 hI hB => ⟨_, _, _, rfl, hB, ?_⟩
            exact hkb _ _ _ _ _ hI
          refine ⟨hI.allocB, ?_⟩
          replace hI := hI.allocD
          refine hI.appB hs fun s9 w9 hI hB => ⟨_, _, _, rfl, hB, ?_⟩
          refine hI.appC hs fun s9 w9 hI hB => ⟨_, _, _, rfl, hB, ?_⟩
          exact hkb _ _ _ _ _ hI
        refine ⟨hI.allocB, ?_⟩
        replace hI := hI.allocD
        refine hI.appA hs fun s9 w9 hI hB => ⟨_, _, _, rfl, hB, ?_⟩
        refine hI.appB hs fun s9 w9 hI hB => ⟨_, _, _, rfl, hB, ?_⟩
        refine hI.appC hs fun s9 w9 hI hB => ⟨_, _, _, rfl, hB, ?_⟩
        exact hkb _ _ _ _ _ hI
      refine ⟨hI.allocB, ?_⟩
      replace hI := hI.allocD
      refine hI.buildA hs fun s9 w9 hI hB => ⟨_, _, _, rfl, hB, ?_⟩
      refine hI.appA hs fun s9 w9 hI hB => ⟨_, _, _, rfl, hB, ?_⟩
      refine hI.appB hs fun s9 w9 hI hB => ⟨_, _, _, rfl, hB, ?_⟩
      refine hI.appC hs fun s9 w9 hI hB => ⟨_, _, _, rfl, hB, ?_⟩
      exact hkb _ _ _ _ _ hI
    refine ⟨hI.allocB, ?_⟩
    replace hI := hI.allocD
    refine ⟨?_, ?_⟩
    · refine hI.buildA hs fun s9 w9 hI hB => ⟨_, _, _, rfl, hB, ?_⟩
      refine ⟨?_, ?_⟩
      · refine hI.appA hs fun s9 w9 hI hB => ⟨_, _, _, rfl, hB, ?_⟩
        refine ⟨?_, ?_⟩
        · refine hI.appB hs fun s9 w9 hI hB => ⟨_, _, _, rfl, hB, ?_⟩
          refine hI.buildC hs fun s9 w9 hI hB => ⟨_, _, _, rfl, hB, ?_⟩
          refine hI.appC hs fun s9 w9 hI hB => ⟨_, _, _, rfl, hB, ?_⟩
          exact hkb _ _ _ _ _ hI
        refine hI.buildC hs fun s9 w9 hI hB => ⟨_, _, _, rfl, hB, ?_⟩
        refine hI.appB hs fun s9 w9 hI hB => ⟨_, _, _, rfl, hB, ?_⟩
        refine hI.appC hs fun s9 w9 hI hB => ⟨_, _, _, rfl, hB, ?_⟩
        exact hkb _ _ _ _ _ hI
      refine hI.buildC hs fun s9 w9 hI hB => ⟨_, _, _, rfl, hB, ?_⟩
      refine hI.appA hs fun s9 w9 hI hB => ⟨_, _, _, rfl, hB, ?_⟩
      refine hI.appB hs fun s9 w9 hI hB => ⟨_, _, _, rfl, hB, ?_⟩
      refine hI.appC hs fun s9 w9 hI hB => ⟨_, _, _, rfl, hB, ?_⟩
      exact hkb _ _ _ _ _ hI
    refine hI.buildC hs fun s9 w9 hI hB => ⟨_, _, _, rfl, hB, ?_⟩
    refine hI.buildA hs fun s9 w9 hI hB => ⟨_, _, _, rfl, hB, ?_⟩
    refine hI.appA hs fun s9 w9 hI hB => ⟨_, _, _, rfl, hB, ?_⟩
    refine hI.appB hs fun s9 w9 hI hB => ⟨_, _, _, rfl, hB, ?_⟩
    refine hI.appC hs fun s9 w9 hI hB => ⟨_, _, _, rfl, hB, ?_⟩
    exact hkb _ _ _ _ _ hI
  refine ⟨?_, ?_⟩
  · refine hI.buildC hs fun s9 w9 hI hB => ⟨_, _, _, rfl, hB, ?_⟩
    refine ⟨?_, ?_⟩
    · refine hI.buildA hs fun s9 w9 hI hB => ⟨_, _, _, rfl, hB, ?_⟩
      refine ⟨?_, ?_⟩
      · refine hI.appA hs fun s9 w9 hI hB => ⟨_, _, _, rfl, hB, ?_⟩
        refine ⟨?_, ?_⟩
        · refine hI.buildB hs fun s9 w9 hI hB => ⟨_, _, _, rfl, hB, ?_⟩
          refine ⟨?_, ?_⟩
          · refine hI.appB hs fun s9 w9 hI hB => ⟨_, _, _, rfl, hB, ?_⟩
            refine ⟨?_, ?_⟩
            · refine hI.appC hs fun s9 w9 hI hB => ⟨_, _, _, rfl, hB, ?_⟩
              refine ⟨hI.allocB, ?_⟩
              replace hI := hI.allocD
              exact hkb _ _ _ _ _ hI
            refine ⟨hI.allocB, ?_⟩
            replace hI := hI.allocD
            refine hI.appC hs fun s9 w9 hI hB => ⟨_, _, _, rfl, hB, ?_⟩
            exact hkb _ _ _ _ _ hI
          refine ⟨hI.allocB, ?_⟩
          replace hI := hI.allocD
          refine hI.appB hs fun s9 w9 hI hB => ⟨_, _, _, rfl, hB, ?_⟩
          refine hI.appC hs fun s9 w9 hI hB => ⟨_, _, _, rfl, hB, ?_⟩
          exact hkb _ _ _ _ _ hI
        refine ⟨hI.allocB, ?_⟩
        replace hI := hI.allocD
        refine hI.buildB hs fun s9 w9 hI hB => ⟨_, _, _, rfl, hB, ?_⟩
        refine hI.appB hs fun s9 w9 hI hB => ⟨_, _, _, rfl, hB, ?_⟩
        refine hI.appC hs fun s9 w9 hI hB => ⟨_, _, _, rfl, hB, ?_⟩
        exact hkb _ _ _ _ _ hI
      refine ⟨?_, ?_⟩
      · refine hI.buildB hs fun s9 w9 hI hB => ⟨_, _, _, rfl, hB, ?_⟩
        refine ⟨?_, ?_⟩
        · refine hI.appA hs fun s9 w9 hI hB => ⟨_, _, _, rfl, hB, ?_⟩
          refine ⟨?_, ?_⟩
          · refine hI.appB hs fun s9 w9 hI hB => ⟨_, _, _, rfl, hB, ?_⟩
            refine ⟨?_, ?_⟩
            · refine hI.appC hs fun s9 w9 hI hB => ⟨_, _, _, rfl, hB, ?_⟩
              refine ⟨hI.allocB, ?_⟩
              replace hI := hI.allocD
              exact hkb _ _ _ _ _ hI
            refine ⟨hI.allocB, ?_⟩
            replace hI := hI.allocD
            refine hI.appC hs fun s9 w9 hI hB => ⟨_, _, _, rfl, hB, ?_⟩
            exact hkb _ _ _ _ _ hI
          refine ⟨hI.allocB, ?_⟩
          replace hI := hI.allocD
          refine hI.appB hs fun s9 w9 hI hB => ⟨_, _, _, rfl, hB, ?_⟩
          refine hI.appC hs fun s9 w9 hI hB => ⟨_, _, _, rfl, hB, ?_⟩
          exact hkb _ _ _ _ _ hI
        refine ⟨hI.allocB, ?_⟩
        replace hI := hI.allocD
        refine hI.appA hs fun s9 w9 hI hB => ⟨_, _, _, rfl, hB, ?_⟩
        refine hI.appB hs fun s9 w9 hI hB => ⟨_, _, _, rfl, hB, ?_⟩
        refine hI.appC hs fun s9 w9 hI hB => ⟨_, _, _, rfl, hB, ?_⟩
        exact hkb _ _ _ _ _ hI
      refine ⟨hI.allocB, ?_⟩
      replace hI := hI.allocD
      refine ⟨?_, ?_⟩
      · refine hI.appA hs fun s9 w9 hI hB => ⟨_, _, _, rfl, hB, ?_⟩
        refine hI.buildB hs fun s9 w9 hI hB => ⟨_, _, _, rfl, hB, ?_⟩
        refine hI.appB hs fun s9 w9 hI hB => ⟨_, _, _, rfl, hB, ?_⟩
        refine hI.appC hs fun s9 w9 hI hB => ⟨_, _, _, rfl, hB, ?_⟩
        exact hkb _ _ _ _ _ hI
      refine hI.buildB hs fun s9 w9 hI hB => ⟨_, _, _, rfl, hB, ?_⟩
      refine hI.appA hs fun s9 w9 hI hB => ⟨_, _, _, rfl, hB, ?_⟩
      refine hI.appB hs fun s9 w9 hI hB => ⟨_, _, _, rfl, hB, ?_⟩
      refine hI.appC hs fun s9 w9 hI hB => ⟨_, _, _, rfl, hB, ?_⟩
      exact hkb _ _ _ _ _ hI
    refine ⟨?_, ?_⟩
    · refine hI.buildB hs fun s9 w9 hI hB => ⟨_, _, _, rfl, hB, ?_⟩
      refine ⟨?_, ?_⟩
      · refine hI.buildA hs fun s9 w9 hI hB => ⟨_, _, _, rfl, hB, ?_⟩
        refine ⟨?_, ?_⟩
        · refine hI.appA hs fun s9 w9 hI hB => ⟨_, _, _, rfl, hB, ?_⟩
          refine ⟨?_, ?_⟩
          · refine hI.appB hs fun s9 w9 hI hB => ⟨_, _, _, rfl, hB, ?_⟩
            refine ⟨?_, ?_⟩
            · refine hI.appC hs fun s9 w9 hI hB => ⟨_, _, _, rfl, hB, ?_⟩
              refine ⟨hI.allocB, ?_⟩
              replace hI := hI.allocD
              exact hkb _ _ _ _ _ hI
            refine ⟨hI.allocB, ?_⟩
            replace hI := hI.allocD
            refine hI.appC hs fun s9 w9 hI hB => ⟨_, _, _, rfl, hB, ?_⟩
            exact hkb _ _ _ _ _ hI
          refine ⟨hI.allocB, ?_⟩
          replace hI := hI.allocD
          refine hI.appB hs fun s9 w9 hI hB => ⟨_, _, _, rfl, hB, ?_⟩
          refine hI.appC hs fun s9 w9 hI hB => ⟨_, _, _, rfl, hB, ?_⟩
          exact hkb _ _ _ _ _ hI
        refine ⟨hI.allocB, ?_⟩
        replace hI := hI.allocD
        refine hI.appA hs fun s9 w9 hI hB => ⟨_, _, _, rfl, hB, ?_⟩
        refine hI.appB hs fun s9 w9 hI hB => ⟨_, _, _, rfl, hB, ?_⟩
        refine hI.appC hs fun s9 w9 hI hB => ⟨_, _, _, rfl, hB, ?_⟩
        exact hkb _ _ _ _ _ hI
      refine ⟨hI.allocB, ?_⟩
      replace hI := hI.allocD
      refine hI.buildA hs fun s9 w9 hI hB => ⟨_, _, _, rfl, hB, ?_⟩
      refine hI.appA hs fun s9 w9 hI hB => ⟨_, _, _, rfl, hB, ?_⟩
      refine hI.appB hs fun s9 w9 hI hB => ⟨_, _, _, rfl, hB, ?_⟩
      refine hI.appC hs fun s9 w9 hI hB => ⟨_, _, _, rfl, hB, ?_⟩
      exact hkb _ _ _ _ _ hI
    refine ⟨hI.allocB, ?_⟩
    replace hI := hI.allocD
    refine ⟨?_, ?_⟩
    · refine hI.buildA hs fun s9 w9 hI hB => ⟨_, _, _, rfl, hB, ?_⟩
      refine ⟨?_, ?_⟩
      · refine hI.appA hs fun s9 w9 hI hB => ⟨_, _, _, rfl, hB, ?_⟩
        refine hI.buildB hs fun s9 w9 hI hB => ⟨_, _, _, rfl, hB, ?_⟩
        refine hI.appB hs fun s9 w9 hI hB => ⟨_, _, _, rfl, hB, ?_⟩
        refine hI.appC hs fun s9 w9 hI hB => ⟨_, _, _, rfl, hB, ?_⟩
        exact hkb _ _ _ _ _ hI
      refine hI.buildB hs fun s9 w9 hI hB => ⟨_, _, _, rfl, hB, ?_⟩
      refine hI.appA hs fun s9 w9 hI hB => ⟨_, _, _, rfl, hB, ?_⟩
      refine hI.appB hs fun s9 w9 hI hB => ⟨_, _, _, rfl, hB, ?_⟩
      refine hI.appC hs fun s9 w9 hI hB => ⟨_, _, _, rfl, hB, ?_⟩
      exact hkb _ _ _ _ _ hI
    refine hI.buildB hs fun s9 w9 hI hB => ⟨_, _, _, rfl, hB, ?_⟩
    refine hI.buildA hs fun s9 w9 hI hB => ⟨_, _, _, rfl, hB, ?_⟩
    refine hI.appA hs fun s9 w9 hI hB => ⟨_, _, _, rfl, hB, ?_⟩
    refine hI.appB hs fun s9 w9 hI hB => ⟨_, _, _, rfl, hB, ?_⟩
    refine hI.appC hs fun s9 w9 hI hB => ⟨_, _, _, rfl, hB, ?_⟩
    exact hkb _ _ _ _ _ hI
  refine ⟨hI.allocB, ?_⟩
  replace hI := hI.allocD
  refine ⟨?_, ?_⟩
  · refine hI.buildA hs fun s9 w9 hI hB => ⟨_, _, _, rfl, hB, ?_⟩
    refine ⟨?_, ?_⟩
    · refine hI.appA hs fun s9 w9 hI hB => ⟨_, _, _, rfl, hB, ?_⟩
      refine ⟨?_, ?_⟩
      · refine hI.buildB hs fun s9 w9 hI hB => ⟨_, _, _, rfl, hB, ?_⟩
        refine ⟨?_, ?_⟩
        · refine hI.appB hs fun s9 w9 hI hB => ⟨_, _, _, rfl, hB, ?_⟩
          refine hI.buildC hs fun s9 w9 hI hB => ⟨_, _, _, rfl, hB, ?_⟩
          refine hI.appC hs fun s9 w9 hI hB => ⟨_, _, _, rfl, hB, ?_⟩
          exact hkb _ _ _ _ _ hI
        refine hI.buildC hs fun s9 w9 hI hB => ⟨_, _, _, rfl, hB, ?_⟩
        refine hI.appB hs fun s9 w9 hI hB => ⟨_, _, _, rfl, hB, ?_⟩
        refine hI.appC hs fun s9 w9 hI hB => ⟨_, _, _, rfl, hB, ?_⟩
        exact hkb _ _ _ _ _ hI
      refine hI.buildC hs fun s9 w9 hI hB => ⟨_, _, _, rfl, hB, ?_⟩
      refine hI.buildB hs fun s9 w9 hI hB => ⟨_, _, _, rfl, hB, ?_⟩
      refine hI.appB hs fun s9 w9 hI hB => ⟨_, _, _, rfl, hB, ?_⟩
      refine hI.appC hs fun s9 w9 hI hB => ⟨_, _, _, rfl, hB, ?_⟩
      exact hkb _ _ _ _ _ hI
    refine ⟨?_, ?_⟩
    · refine hI.buildB hs fun s9 w9 hI hB => ⟨_, _, _, rfl, hB, ?_⟩
      refine ⟨?_, ?_⟩
      · refine hI.appA hs fun s9 w9 hI hB => ⟨_, _, _, rfl, hB, ?_⟩
        refine ⟨?_, ?_⟩
        · refine hI.appB hs fun s9 w9 hI hB => ⟨_, _, _, rfl, hB, ?_⟩
          refine hI.buildC hs fun s9 w9 hI hB => ⟨_, _, _, rfl, hB, ?_⟩
          refine hI.appC hs fun s9 w9 hI hB => ⟨_, _, _, rfl, hB, ?_⟩
          exact hkb _ _ _ _ _ hI
        refine hI.buildC hs fun s9 w9 hI hB => ⟨_, _, _, rfl, hB, ?_⟩
        refine hI.appB hs fun s9 w9 hI hB => ⟨_, _, _, rfl, hB, ?_⟩
        refine hI.appC hs fun s9 w9 hI hB => ⟨_, _, _, rfl, hB, ?_⟩
        exact hkb _ _ _ _ _ hI
      refine hI.buildC hs fun s9 w9 hI hB => ⟨_, _, _, rfl, hB, ?_⟩
      refine hI.appA hs fun s9 w9 hI hB => ⟨_, _, _, rfl, hB, ?_⟩
      refine hI.appB hs fun s9 w9 hI hB => ⟨_, _, _, rfl, hB, ?_⟩
      refine hI.appC hs fun s9 w9 hI hB => ⟨_, _, _, rfl, hB, ?_⟩
      exact hkb _ _ _ _ _ hI
    refine hI.buildC hs fun s9 w9 hI hB => ⟨_, _, _, rfl, hB, ?_⟩
    refine ⟨?_, ?_⟩
    · refine hI.appA hs fun s9 w9 hI hB => ⟨_, _, _, rfl, hB, ?_⟩
      refine hI.buildB hs fun s9 w9 hI hB => ⟨_, _, _, rfl, hB, ?_⟩
      refine hI.appB hs fun s9 w9 hI hB => ⟨_, _, _, rfl, hB, ?_⟩
      refine hI.appC hs fun s9 w9 hI hB => ⟨_, _, _, rfl, hB, ?_⟩
      exact hkb _ _ _ _ _ hI
    refine hI.buildB hs fun s9 w9 hI hB => ⟨_, _, _, rfl, hB, ?_⟩
    refine hI.appA hs fun s9 w9 hI hB => ⟨_, _, _, rfl, hB, ?_⟩
    refine hI.appB hs fun s9 w9 hI hB => ⟨_, _, _, rfl, hB, ?_⟩
    refine hI.appC hs fun s9 w9 hI hB => ⟨_, _, _, rfl, hB, ?_⟩
    exact hkb _ _ _ _ _ hI
  refine ⟨?_, ?_⟩
  · refine hI.buildB hs fun s9 w9 hI hB => ⟨_, _, _, rfl, hB, ?_⟩
    refine ⟨?_, ?_⟩
    · refine hI.buildA hs fun s9 w9 hI hB => ⟨_, _, _, rfl, hB, ?_⟩
      refine ⟨?_, ?_⟩
      · refine hI.appA hs fun s9 w9 hI hB => ⟨_, _, _, rfl, hB, ?_⟩
        refine ⟨?_, ?_⟩
        · refine hI.appB hs fun s9 w9 hI hB => ⟨_, _, _, rfl, hB, ?_⟩
          refine hI.buildC hs fun s9 w9 hI hB => ⟨_, _, _, rfl, hB, ?_⟩
          refine hI.appC hs fun s9 w9 hI hB => ⟨_, _, _, rfl, hB, ?_⟩
          exact hkb _ _ _ _ _ hI
        refine hI.buildC hs fun s9 w9 hI hB => ⟨_, _, _, rfl, hB, ?_⟩
        refine hI.appB hs fun s9 w9 hI hB => ⟨_, _, _, rfl, hB, ?_⟩
        refine hI.appC hs fun s9 w9 hI hB => ⟨_, _, _, rfl, hB, ?_⟩
        exact hkb _ _ _ _ _ hI
      refine hI.buildC hs fun s9 w9 hI hB => ⟨_, _, _, rfl, hB, ?_⟩
      refine hI.appA hs fun s9 w9 hI hB => ⟨_, _, _, rfl, hB, ?_⟩
      refine hI.appB hs fun s9 w9 hI hB => ⟨_, _, _, rfl, hB, ?_⟩
      refine hI.appC hs fun s9 w9 hI hB => ⟨_, _, _, rfl, hB, ?_⟩
      exact hkb _ _ _ _ _ hI
    refine hI.buildC hs fun s9 w9 hI hB => ⟨_, _, _, rfl, hB, ?_⟩
    refine hI.buildA hs fun s9 w9 hI hB => ⟨_, _, _, rfl, hB, ?_⟩
    refine hI.appA hs fun s9 w9 hI hB => ⟨_, _, _, rfl, hB, ?_⟩
    refine hI.appB hs fun s9 w9 hI hB => ⟨_, _, _, rfl, hB, ?_⟩
    refine hI.appC hs fun s9 w9 hI hB => ⟨_, _, _, rfl, hB, ?_⟩
    exact hkb _ _ _ _ _ hI
  refine hI.buildC hs fun s9 w9 hI hB => ⟨_, _, _, rfl, hB, ?_⟩
  refine ⟨?_, ?_⟩
  · refine hI.buildA hs fun s9 w9 hI hB => ⟨_, _, _, rfl, hB, ?_⟩
    refine ⟨?_, ?_⟩
    · refine hI.appA hs fun s9 w9 hI hB => ⟨_, _, _, rfl, hB, ?_⟩
      refine hI.buildB hs fun s9 w9 hI hB => ⟨_, _, _, rfl, hB, ?_⟩
      refine hI.appB hs fun s9 w9 hI hB => ⟨_, _, _, rfl, hB, ?_⟩
      refine hI.appC hs fun s9 w9 hI hB => ⟨_, _, _, rfl, hB, ?_⟩
      exact hkb _ _ _ _ _ hI
    refine hI.buildB hs fun s9 w9 hI hB => ⟨_, _, _, rfl, hB, ?_⟩
    refine hI.appA hs fun s9 w9 hI hB => ⟨_, _, _, rfl, hB, ?_⟩
    refine hI.appB hs fun s9 w9 hI hB => ⟨_, _, _, rfl, hB, ?_⟩
    refine hI.appC hs fun s9 w9 hI hB => ⟨_, _, _, rfl, hB, ?_⟩
    exact hkb _ _ _ _ _ hI
  refine hI.buildB hs fun s9 w9 hI hB => ⟨_, _, _, rfl, hB, ?_⟩
  refine hI.buildA hs fun s9 w9 hI hB => ⟨_, _, _, rfl, hB, ?_⟩
  refine hI.appA hs fun s9 w9 hI hB => ⟨_, _, _, rfl, hB, ?_⟩
  refine hI.appB hs fun s9 w9 hI hB => ⟨_, _, _, rfl, hB, ?_⟩
  refine hI.appC hs fun s9 w9 hI hB => ⟨_, _, _, rfl, hB, ?_⟩
  exact hkb _ _ _ _ _ hI
end Go.Proofs.Ythegnnifbgikmaa
