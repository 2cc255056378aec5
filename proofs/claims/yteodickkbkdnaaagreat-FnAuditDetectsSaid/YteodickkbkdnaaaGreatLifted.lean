/-
  laws.FnAuditDetects returns true for every input and leaves the memory that was as it was, in the form that the row asks for.
-/
import Derived.Test.YteodickkbkdnaaaGreatKnown
import Derived.Test.YteodickkbkdnaaaGreatRunA
import Derived.Test.YteodickkbkdnaaaGreatRunB
import Derived.Test.YteodickkbkdnaaaGreatRows
import Derived.ProofKit

namespace Go.Sy
open Go Go.Proofs

def atv (len : Nat) (zs : List Int) (i : Nat) : Int := if i < len then zs.getD i 0 else ((i : Int) * 31 + len * 7) % 256
def fxOf (ao : Option Addr) (W : World) (b : Nat) : Option Obj := match ao with
  | some a => if b = a.block then W.heap[b]? else none
  | none => none
noncomputable def cxOf (ao : Option Addr) (len cap : Nat) (W : World) (zs : List Int) : Cx := ⟨Tryz.prog, atv len zs 0, atv len zs 1, fun _ => .slice ao len cap, fxOf ao W, fun _ => rfl⟩

section
variable {ao : Option Addr} {len cap : Nat} {W : World} {zs : List Int}
theorem atv_range (hz : len ≤ zs.length) (hwf : ∀ n, n ∈ zs → 0 ≤ n ∧ n < 256) (i : Nat) : 0 ≤ atv len zs i ∧ atv len zs i < 256 := by
  unfold atv
  split
  · rename_i h
    have h' : i < zs.length := by omega
    have : zs.getD i 0 = zs[i] := by simp [List.getD, h']
    rw [this]
    exact hwf _ (List.getElem_mem h')
  · omega
theorem cell_fx {a : Addr} {w : World} (hw : ∀ (b : Nat) (o : Obj), fxOf (some a) W b = some o → w.heap[b]? = some o) {i : Nat} {v : Value} (h : W.cell? (a.add i) = some v) : w.cell? (a.add i) = some v := by
  have hb : (a.add i).block = a.block := by unfold Addr.add; split <;> rfl
  unfold World.cell? at h ⊢
  rw [hb] at h ⊢
  cases ho : W.heap[a.block]? with
  | none => rw [ho] at h; cases h
  | some o =>
    have := hw a.block o (by simp only [fxOf, if_pos]; exact ho)
    rw [this]
    rw [ho] at h
    exact h
theorem hat (hl : len ≤ cap) (hm : cap ≤ maxLen) (hz : len ≤ zs.length) (hwf : ∀ n, n ∈ zs → 0 ≤ n ∧ n < 256) (hn : ao = none → len = 0)
    (hcell : ∀ a, ao = some a → ∀ i, i < len → W.cell? (a.add i) = some (.int .u8 (zs.getD i 0))) {i : Nat} (hi : i < 2) (w : World) (hw : ∀ (b : Nat) (o : Obj), fxOf ao W b = some o → w.heap[b]? = some o) :
    Calls Tryz.prog 7 #[.slice ao len cap, .int .i64 (i : Int)] w fun e w' => e = .returned (.int .i64 (atv len zs i)) ∧ w' = w := by
  by_cases h : i < len
  · cases ao with
    | none => rw [hn rfl] at h; omega
    | some a =>
      have hr := atv_range hz hwf i
      have e : atv len zs i = zs.getD i 0 := by unfold atv; rw [if_pos h]
      rw [e] at hr ⊢
      refine at_in a len cap i (zs.getD i 0) w (by omega) (by omega) hr ?_
      rw [Int.toNat_natCast]
      exact cell_fx hw (hcell a rfl i h)
  · have e : atv len zs i = ((i : Int) * 31 + len * 7) % 256 := by unfold atv; rw [if_neg h]
    rw [e]
    exact at_out ao len cap i w (by omega) (by omega) (by omega)

theorem root (hl : len ≤ cap) (hm : cap ≤ maxLen) (hz : len ≤ zs.length) (hwf : ∀ n, n ∈ zs → 0 ≤ n ∧ n < 256) (hn : ao = none → len = 0)
    (hcell : ∀ a, ao = some a → ∀ i, i < len → W.cell? (a.add i) = some (.int .u8 (zs.getD i 0))) :
    Calls Tryz.prog 3 #[.slice ao len cap] W fun e w' => e = .returned (.bool true) ∧ Kept W w' := by
  have hr0 := atv_range hz hwf 0
  have hr1 := atv_range hz hwf 1
  have hat0 := fun w hw => hat hl hm hz hwf hn hcell (i := 0) (by decide) w hw
  have hat1 := fun w hw => hat hl hm hz hwf hn hcell (i := 1) (by decide) w hw
  have hself : ∀ (b : Nat) (o : Obj), fxOf ao W b = some o → W.heap[b]? = some o := by
    intro b o h
    unfold fxOf at h
    split at h
    · split at h
      · exact h
      · cases h
    · cases h
  have hc : Cs (cxOf ao len cap W zs) Z0 [.x 0] [.slice ao len cap] := ⟨_, [], rfl, rfl, rfl⟩
  have key : ∀ (bg : Bool) (mv : SV) (D : Rg), bg = decide (1048576 < (len : Int)) → (mv = .y 3 0 1 0 ∨ (mv = .i 3 0 ∧ atv len zs 1 = 0)) → D.has (atv len zs 0) (atv len zs 1) →
      isB (evF dsG (mmR bg mv) (ftG D) 60 3 [.x 0] (Hp.new 7) 0) = true → Calls Tryz.prog 3 #[.slice ao len cap] W fun e w' => e = .returned (.bool true) ∧ Kept W w' := by
    intro bg mv D hb hmv hD hk
    obtain ⟨H', c', he⟩ := isB_ok hk
    have hmm : MmOK (cxOf ao len cap W zs) (mmR bg mv) := mmR_ok rfl (fun w _ => by rw [hb]; exact big_any ao len cap w) hat0 hat1 hmv
    exact (call0 (machine rfl hD hmm 60) hself hc he).2
  by_cases hbig : 1048576 < (len : Int)
  · exact key true (.y 3 0 1 0) D2 (by simp [hbig]) (.inl rfl) ⟨by simp [D2]; omega, by simp [D2]; omega, by simp [D2]; omega, by simp [D2]; omega⟩ krC
  · by_cases hm0 : atv len zs 1 = 0
    · exact key false (.i 3 0) D0 (by simp [hbig]) (.inr ⟨rfl, hm0⟩) ⟨by simp [D0]; omega, by simp [D0]; omega, by simp [D0]; omega, by simp [D0]; omega⟩ krB
    · exact key false (.y 3 0 1 0) D1 (by simp [hbig]) (.inl rfl) ⟨by simp [D1]; omega, by simp [D1]; omega, by simp [D1]; omega, by simp [D1]; omega⟩ krA
end
end Go.Sy

namespace Go.Proofs.YteodickkbkdnaaaGreat
open Go.ChangeShapes Go.WideShapes Go.ChangeAt Go.RowKit

theorem Tryz.own : ownKnob Tryz.prog.godebug = none := by kernel_rfl
theorem Tryz.laidOut : laidOutB Tryz.prog = true := by kernel_rfl
theorem Tryz.cells5 : Tryz.prog.cellsOf 5 = 1 := by kernel_rfl

theorem below_kept {W W' : World} (h : Go.Sy.Kept W W') : Below W.heap.size W W' := by
  obtain ⟨h1, h2, h3, h4, h5⟩ := h
  refine ⟨h1, h2, h3, h4, fun k hk => ?_⟩
  rw [h5 k _ (Array.getElem?_eq_getElem hk), Array.getElem?_eq_getElem hk]

set_option maxRecDepth 100000 in
theorem f_lifted (os : Os) (started : os.Started) (H : Type) (enc : TypeId × Value → H) :
    ReturnsInHanded {} Tryz.checked os 3 .any (Rows.fnAuditDetectsSpec.pre6 enc Tryz.prog Tryz.f3 Rows.fnAuditDetectsRow.domain false) (Rows.fnAuditDetectsSpec.post enc Tryz.prog Tryz.f3 false true false false) := by
  refine returnsInHanded_of_change (C := Tryz.checked) Tryz.own started (by kernel_rfl) Tryz.func3
    (ChangeSpec.witness6 (enc := enc) (C := Tryz.checked) false ⟨#[], #[.slice none 0 0], []⟩ 8 (by kernel_rfl) (by kernel_rfl) (by kernel_rfl) (by kernel_rfl)) ?_
  intro W base args ds gs before hval0 hW hcnd _
  have hval : ∀ (j : Nat) t v, Tryz.f3.params[j]? = some t → args[j]? = some v → Value.okWide Tryz.prog W .any base t v := hval0
  have hW' := hW
  obtain ⟨p, q, hA0, hV, rfl, hfz, hnd⟩ := hW
  have hA : DataW.TrodAll enc Tryz.prog W 0 (fun _ => true) true Tryz.f3.params.toList args.toList ds p := hA0
  rw [Tryz.params3] at hA hval
  obtain ⟨v0, d0, rfl, rfl, h0⟩ := trodAll_one hA
  obtain ⟨rfl, rfl⟩ := trodVars_none hV
  obtain ⟨a0, len, cap, rfl⟩ := okWide_slice Tryz.underlying22 (hval 0 22 v0 rfl rfl)
  have h0k := h0
  obtain ⟨fuel0, hf⟩ := h0
  clear hA0 hval0 hV
  simp only [List.append_nil] at hW'
  have hlt : ∀ x ∈ p, x.block < W.heap.size := fun x hx => by simpa using hW'.lt x hx
  have hcalls : Calls Tryz.prog 3 #[.slice a0 len cap] W fun e w' => e = .returned (.bool true) ∧ Go.Sy.Kept W w' := by
    rcases open_ints Tryz.underlying22 Tryz.underlying5 Tryz.cells5 hf with ⟨hcs, hx⟩ | ⟨a, len', cap', zs, hcs, _, hl, hm, hz, hx, hcell, hwz⟩
    · simp [Value.cells] at hcs
      obtain ⟨rfl, rfl, rfl⟩ := hcs
      exact Go.Sy.root (zs := []) (Nat.le_refl _) (by decide) (Nat.le_refl _) (fun n hn => by simp at hn) (fun _ => rfl) (fun a h => by cases h)
    · simp [Value.cells] at hcs
      obtain ⟨rfl, rfl, rfl⟩ := hcs
      simp only [if_true] at hz
      refine Go.Sy.root (zs := zs) hl hm (by omega) (fun n hn => ?_) (fun h => by cases h) (fun a' h i hi => ?_)
      · have := hwz n hn
        have h2 : IntKind.u8.min ≤ n ∧ n ≤ IntKind.u8.max := by simpa [Lit.wf] using this
        have e1 : IntKind.u8.min = 0 := by decide
        have e2 : IntKind.u8.max = 255 := by decide
        omega
      · cases h
        exact hcell i (by omega)
  refine hcalls.mono fun e W' ⟨he, hk⟩ => ?_
  subst he
  have hB := below_kept hk
  refine ⟨_, rfl, _, _, _, [], p, [], by simpa using hW', ?_, ?_, ?_, hB.frame _, fun h => by cases h⟩
  · exact trodAll_mk1 (shut_bool Tryz.underlying4 true)
  · exact trodAll_mk1 (Below.trod Tryz.laidOut (by kernel_rfl) (of_decide_eq_true (by kernel_rfl)) h0k hB hlt)
  · rfl

end Go.Proofs.YteodickkbkdnaaaGreat
