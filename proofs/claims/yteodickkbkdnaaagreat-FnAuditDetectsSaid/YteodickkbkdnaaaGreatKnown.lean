/-
  What is known of laws.big, laws.at and of the names that the law uses, for every world.
-/
import Derived.Test.YteodickkbkdnaaaGreatTables
import Derived.KernelRfl
import Derived.Test.YteodickkbkdnaaaGreatRows
import Derived.WalkKit
import Derived.WalkSpells
import Derived.WalkLawsBesides

namespace Go.Sy
open Go
open Go.Lgo (bytesOf)

/-- Of the memory that was, nothing turned. -/
def Kept (w w' : World) : Prop := w'.os = w.os ∧ w'.tape = w.tape ∧ w'.output = w.output ∧ w.heap.size ≤ w'.heap.size ∧ ∀ (b : Nat) (o : Obj), w.heap[b]? = some o → w'.heap[b]? = some o
def Z0 : Zm := ⟨fun _ => False, fun _ => 0, fun _ => 0, fun _ => 0, fun _ => 0⟩
section
variable {Γ : Cx} {w : World}
theorem hk0 : Hk Γ Z0 (Hp.new 7) (fun _ => False) w :=
  ⟨Hp.dp_new 7, fun β _ => (by rw [Hp.get_new]; trivial), fun β _ _ _ h => absurd (Hp.get_new 7 β) h, fun β h => h⟩
theorem fx0 (h : ∀ (b : Nat) (o : Obj), Γ.fx b = some o → w.heap[b]? = some o) : FX Γ Z0 (Hp.new 7) w := fun b o hb => ⟨h b o hb, fun β _ h => absurd (Hp.get_new 7 β) h⟩
/-- A call from an empty heap, whose result is a bool. -/
theorem call0 {cal : Call} (hcal : CalOK Γ cal) (h : ∀ (b : Nat) (o : Obj), Γ.fx b = some o → w.heap[b]? = some o) {f : Nat} {xs : List SV} {vs : List Value} (hc : Cs Γ Z0 xs vs) {r : Bool} {H' : Hp} {c' : Nat} (he : cal f xs (Hp.new 7) 0 = .ok (.b r) H' c') :
    (∃ fn code, Γ.P.funcs[f]? = some fn ∧ fn.body = some code ∧ (fn.name == "runtime.NumGoroutine") = false) ∧ Calls Γ.P f vs.toArray w fun e w' => e = .returned (.bool r) ∧ Kept w w' := by
  obtain ⟨h1, h2⟩ := hcal Z0 (Hp.new 7) (fun _ => False) 0 w f xs vs (.b r) H' c' (by decide) (fun _ _ _ h => h) hk0 (fx0 h) hc he
  refine ⟨h1, Calls.mono h2 fun e w' he => ?_⟩
  obtain ⟨u, Z', U', rfl, k1, k2, k3, k4⟩ := he
  have k1 : u = .bool r := k1
  subst k1
  exact ⟨rfl, k4.os, k4.tape, k4.out, k4.size, fun b o hb => k4.keep b o hb fun β _ hd => absurd (Hp.get_new 7 β) hd⟩
end

theorem mixed : Proofs.Tryz.prog.follows .mixedOrders = true := by kernel_rfl
/-- The machine over the program's tables is right. -/
theorem machine {Γ : Cx} (hP : Γ.P = Proofs.Tryz.prog) {D : Rg} (hD : D.has Γ.n Γ.m) {mm : Nat → List SV → Option SV} (hm : MmOK Γ mm) (n : Nat) : CalOK Γ (evF dsG mm (ftG D) n) := by
  have E : Env Γ.P odG dsG tt := by rw [hP]; exact envG
  have hx : Γ.P.follows .mixedOrders = true := by rw [hP]; exact mixed
  exact evF_ok E hD hm (ftG_ok hP D) (fun N n hc => rd_ok hx E hD hc (evF_le n) (evF_lb n)) n

/- Names. -/
noncomputable def mmE (_ : Nat) (_ : List SV) : Option SV := none
theorem mmE_ok {Γ : Cx} : MmOK Γ mmE := fun f xs v h => by cases h
noncomputable def chkN (f : Nat) (L : List (List Nat)) : Bool := List.rec (motive := fun _ => Bool) true (fun x _ ih => ifL (isB (evF dsG mmE (ftG D1) 20 f [.s x] (Hp.new 7) 0)) ih false) L
theorem chk64 : chkN 64 nms = true := by kernel_rfl
theorem chk102 : chkN 102 nms = true := by kernel_rfl
theorem chkN_ok {f : Nat} {L : List (List Nat)} (h : chkN f L = true) : ∀ l, l ∈ L → isB (evF dsG mmE (ftG D1) 20 f [.s l] (Hp.new 7) 0) = true := by
  induction L with
  | nil => intro l hl; simp at hl
  | cons x L ih =>
    have h : ifL (isB (evF dsG mmE (ftG D1) 20 f [.s x] (Hp.new 7) 0)) (chkN f L) false = true := h
    cases hb : isB (evF dsG mmE (ftG D1) 20 f [.s x] (Hp.new 7) 0) with
    | false => rw [hb] at h; cases h
    | true =>
      rw [hb, ifL_true] at h
      intro l hl
      rcases List.mem_cons.1 hl with rfl | hl
      · exact hb
      · exact ih h l hl
theorem sEqI (x : List Nat) : ∀ (y : List Nat), sEq x y = true → x = y := by
  induction x with
  | nil =>
    intro y h
    cases y with
    | nil => rfl
    | cons b y => cases h
  | cons a x ih =>
    intro y h
    cases y with
    | nil => cases h
    | cons b y =>
      have h : ifL (Nat.beq a b) (sEq x y) false = true := h
      cases hb : Nat.beq a b with
      | false => rw [hb] at h; cases h
      | true => rw [hb, ifL_true] at h; rw [beqI hb, ih y h]
theorem inN_ok {l : List Nat} {L : List (List Nat)} (h : inN l L = true) : l ∈ L := by
  induction L with
  | nil => cases h
  | cons x L ih =>
    have h : ifL (sEq l x) true (inN l L) = true := h
    cases hb : sEq l x with
    | true => rw [sEqI l x hb]; exact List.mem_cons_self
    | false => rw [hb, ifL_false] at h; exact List.mem_cons_of_mem _ (ih h)
noncomputable def Γ1 : Cx := ⟨Proofs.Tryz.prog, 0, 1, fun _ => .bool true, fun _ => none, fun _ => rfl⟩
theorem names {f : Nat} (hf : f = 64 ∨ f = 102) {l : List Nat} (hl : l ∈ nms) (w : World) : (∃ fn code, Proofs.Tryz.prog.funcs[f]? = some fn ∧ fn.body = some code ∧ (fn.name == "runtime.NumGoroutine") = false) ∧
    Calls Proofs.Tryz.prog f #[.string (bytesOf l)] w fun e w' => e = .returned (.bool true) ∧ Kept w w' := by
  have h : isB (evF dsG mmE (ftG D1) 20 f [.s l] (Hp.new 7) 0) = true := by
    rcases hf with rfl | rfl
    · exact chkN_ok chk64 l hl
    · exact chkN_ok chk102 l hl
  obtain ⟨H', c', he⟩ := isB_ok h
  have hlt : ∀ x, x ∈ l → x < 256 := by
    have : (nms.all fun l => l.all fun x => decide (x < 256)) = true := by decide
    have := List.all_eq_true.1 (List.all_eq_true.1 this l hl)
    intro x hx
    simpa using this x hx
  exact call0 (Γ := Γ1) (machine rfl ⟨by decide, by decide, by decide, by decide⟩ mmE_ok 20) (fun b o hb => by cases hb) (xs := [.s l]) (vs := [.string (bytesOf l)]) ⟨_, [], rfl, ⟨rfl, hlt⟩, rfl⟩ he

/-- All that is known of calls: laws.big and laws.at are asked for, names are known. -/
theorem mmR_ok {Γ : Cx} (hP : Γ.P = Proofs.Tryz.prog) {bg : Bool} {mv : SV} (hbig : ∀ w : World, (∀ (b : Nat) (o : Obj), Γ.fx b = some o → w.heap[b]? = some o) → Calls Γ.P 4 #[Γ.xv 0] w fun e w' => e = .returned (.bool bg) ∧ w' = w)
    (hat0 : ∀ w : World, (∀ (b : Nat) (o : Obj), Γ.fx b = some o → w.heap[b]? = some o) → Calls Γ.P 7 #[Γ.xv 0, .int .i64 0] w fun e w' => e = .returned (.int .i64 Γ.n) ∧ w' = w)
    (hat1 : ∀ w : World, (∀ (b : Nat) (o : Obj), Γ.fx b = some o → w.heap[b]? = some o) → Calls Γ.P 7 #[Γ.xv 0, .int .i64 1] w fun e w' => e = .returned (.int .i64 Γ.m) ∧ w' = w)
    (hmv : mv = .y 3 0 1 0 ∨ (mv = .i 3 0 ∧ Γ.m = 0)) : MmOK Γ (mmR bg mv) := by
  intro f xs v h
  have fnk : ∀ k, (k = 4 ∨ k = 7) ∨ (k = 64 ∨ k = 102) → ∃ fn code, Γ.P.funcs[k]? = some fn ∧ fn.body = some code ∧ (fn.name == "runtime.NumGoroutine") = false := by
    rw [hP]
    intro k hk
    rcases hk with (rfl | rfl) | (rfl | rfl)
    · exact ⟨_, _, Proofs.Tryz.func4, rfl, by kernel_rfl⟩
    · exact ⟨_, _, Proofs.Tryz.func7, rfl, by kernel_rfl⟩
    · exact ⟨_, _, Proofs.Tryz.func64, rfl, by kernel_rfl⟩
    · exact ⟨_, _, Proofs.Tryz.func102, rfl, by kernel_rfl⟩
  have same : ∀ w : World, w.heap.size ≤ w.heap.size ∧ ∀ (b : Nat) (o : Obj), w.heap[b]? = some o → w.heap[b]? = some o := fun w => ⟨Nat.le_refl _, fun _ _ h => h⟩
  unfold mmR at h
  cases h4 : Nat.beq f 4 with
  | true =>
    have e4 := beqI h4
    subst e4
    rw [h4, ifL_true] at h
    split at h
    · cases h
      refine ⟨fnk 4 (.inl (.inl rfl)), fun Z w vs hw hc => ?_⟩
      obtain ⟨u, rfl, hu⟩ := hc.one
      have hu : u = Γ.xv 0 := hu
      subst hu
      refine Calls.mono (hbig w hw) fun e w' he => ?_
      obtain ⟨rfl, rfl⟩ := he
      exact ⟨_, rfl, fun _ _ => rfl, rfl, rfl, rfl, same _⟩
    · cases h
  | false =>
    rw [h4, ifL_false] at h
    cases h7 : Nat.beq f 7 with
    | true =>
      have e7 := beqI h7
      subst e7
      rw [h7, ifL_true] at h
      split at h
      · rename_i k
        have two : ∀ (Z : Zm) (vs : List Value), Cs Γ Z [.x 0, .i 3 (.ofNat k)] vs → vs = [Γ.xv 0, .int .i64 k] := by
          intro Z vs hc
          obtain ⟨u, vs', rfl, h1, h2⟩ := hc
          obtain ⟨u2, rfl, h3⟩ := h2.one
          have h1 : u = Γ.xv 0 := h1
          have h3 : u2 = .int .i64 k := h3
          rw [h1, h3]
        refine ⟨fnk 7 (.inl (.inr rfl)), fun Z w vs hw hc => ?_⟩
        have hvs := two Z vs hc
        subst hvs
        cases h0 : Nat.beq k 0 with
        | true =>
          have e0 := beqI h0
          subst e0
          rw [h0, ifL_true] at h
          cases h
          refine Calls.mono (hat0 w hw) fun e w' he => ?_
          obtain ⟨rfl, rfl⟩ := he
          refine ⟨_, rfl, fun _ _ => ?_, rfl, rfl, rfl, same _⟩
          show _ = Value.int _ _
          congr 1
          omega
        | false =>
          rw [h0, ifL_false] at h
          cases h1 : Nat.beq k 1 with
          | false => rw [h1] at h; cases h
          | true =>
            have e1 := beqI h1
            subst e1
            rw [h1, ifL_true] at h
            cases h
            refine Calls.mono (hat1 w hw) fun e w' he => ?_
            obtain ⟨rfl, rfl⟩ := he
            refine ⟨_, rfl, fun _ _ => ?_, rfl, rfl, rfl, same _⟩
            rcases hmv with rfl | ⟨rfl, hm0⟩
            · show _ = Value.int _ _
              congr 1
              omega
            · rw [hm0]; rfl
      · cases h
    | false =>
      rw [h7, ifL_false] at h
      unfold mmN at h
      cases hor : (Nat.beq f 64 || Nat.beq f 102) with
      | false => rw [hor] at h; cases h
      | true =>
        rw [hor, ifL_true] at h
        split at h
        · rename_i l
          cases hin : inN l nms with
          | false => rw [hin] at h; cases h
          | true =>
            rw [hin, ifL_true] at h
            cases h
            have hf : f = 64 ∨ f = 102 := by
              rw [Bool.or_eq_true] at hor
              exact hor.imp beqI beqI
            refine ⟨fnk f (.inr hf), ?_⟩
            rw [hP]
            intro Z w vs hw hc
            obtain ⟨u, rfl, hu⟩ := hc.one
            obtain ⟨hu, _⟩ := hu
            subst hu
            refine Calls.mono (names hf (inN_ok hin) w).2 fun e w' he => ?_
            obtain ⟨rfl, k1, k2, k3, k4, k5⟩ := he
            exact ⟨_, rfl, fun _ _ => rfl, k1, k2, k3, k4, k5⟩
        · cases h

end Go.Sy

namespace Go.Sy
open Go Go.Proofs

theorem big_any (ao : Option Addr) (len cap : Nat) (w : World) :
    Calls Tryz.prog 4 #[.slice ao len cap] w fun e w' => e = .returned (.bool (decide (1048576 < (len : Int)))) ∧ w' = w := by
  go_enter Tryz.func4, Tryz.ntmps4
  go_wp2
  go_ret
  exact ⟨rfl, rfl⟩
theorem at_in (a : Addr) (len cap : Nat) (i : Int) (b : Int) (w : World) (h0 : 0 ≤ i) (hi : i < (len : Int)) (hb : 0 ≤ b ∧ b < 256) (hc : w.cell? (a.add i.toNat) = some (.int .u8 b)) :
    Calls Tryz.prog 7 #[.slice (some a) len cap, .int .i64 i] w fun e w' => e = .returned (.int .i64 b) ∧ w' = w := by
  go_enter Tryz.func7, Tryz.ntmps7
  go_wp2
  go_ret
  exact ⟨rfl, rfl⟩
theorem at_out (ao : Option Addr) (len cap : Nat) (i : Int) (w : World) (h0 : 0 ≤ i) (hi : ¬ i < (len : Int)) (hi2 : i < 2) :
    Calls Tryz.prog 7 #[.slice ao len cap, .int .i64 i] w fun e w' => e = .returned (.int .i64 ((i * 31 + len * 7) % 256)) ∧ w' = w := by
  go_enter Tryz.func7, Tryz.ntmps7
  go_wp2
  go_ret
  exact ⟨rfl, rfl⟩
end Go.Sy
