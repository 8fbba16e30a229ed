/- A play: any step. -/
import Derived.Test.YtdflfjcnogokgaaTJ
set_option linter.unusedVariables false
set_option linter.unusedSimpArgs false
namespace Go.Proofs.Ytdflfjcnogokgaa.PTableEnds
open Go.RowKit Go.Proofs.YtdflfjcnogokgaaW.PrintWords Go.Proofs.YtdflfjcnogokgaaW.PrintLast Go.Proofs.YtdflfjcnogokgaaW.PrintMore
open Go.FT Go.MuLone

theorem step_any (w0 w : World) (sb tb : Nat) (M : Nat → Nat) (cb : List Nat) (S : PS) (clv hv : Value) (n : Nat) (c : PCl) (x : S31) (rest : List S31) (hS : StAt w0 w sb tb M cb S clv hv) (hc : S.cls[n]? = some c) (hx : c.ops = x :: rest) (hI : CI c)
    (hn64 : S.cls.length ≤ 64) (hl : (S.hist.length + 1) * 120 ≤ 140737488355328) (hN : ((keysUp S.T 8).length + 1) * 16 ≤ 140737488355328) :
    Calls Try.prog 39 #[.pointer (some ⟨sb, 0, none⟩), .int .i64 n] w fun e w' => e = .returned (.tuple #[]) ∧ ∃ nb hv', StAt w0 w' sb tb M cb (pstep S n nb) clv hv' ∧ SameT w w' [23] := by
  have hk := hI.kind x (by rw [hx]; exact List.mem_cons_self)
  cases hb : c.begun with
  | false =>
    refine (step_begin w0 w sb tb M cb S clv hv n c x rest hS hc hx hb hn64 hl).mono ?_
    rintro e w' ⟨rfl, hv', h1, h2⟩
    refine ⟨rfl, 0, hv', ?_, h2⟩
    have e1 : pstep S n 0 = { S with cls := S.cls.set n { c with begun := true }, hist := S.hist ++ [⟨n, true, x, z42⟩] } := by
      unfold pstep
      rw [hc]
      simp only [hx]
      rw [if_pos hb]
    rw [e1]
    exact h1
  | true =>
    have hb' : ¬ c.begun = false := by simp [hb]
    cases hr : c.reply with
    | some r =>
      refine (step_end w0 w sb tb M cb S clv hv n c x rest hS hc hx hb r hr hn64 hl).mono ?_
      rintro e w' ⟨rfl, hv', h1, h2⟩
      refine ⟨rfl, 0, hv', ?_, h2⟩
      have e1 : pstep S n 0 = { S with cls := S.cls.set n { c with ops := rest, begun := false, reply := none }, hist := S.hist ++ [⟨n, false, x, r⟩] } := by
        unfold pstep
        rw [hc]
        simp only [hx]
        rw [if_neg hb']
        simp only [hr]
      rw [e1]
      exact h1
    | none =>
      by_cases h38 : x.f0 = 3 ∧ c.locked < 8
      · refine (step_lock w0 w sb tb M cb S clv hv n c x rest hS hc hx hb hr h38.1 h38.2 hn64).mono ?_
        rintro e w' ⟨rfl, h1, h2⟩
        refine ⟨rfl, 0, hv, ?_, h2⟩
        have e1 : pstep S n 0 = { S with lk := fun i => if i = c.locked then true else S.lk i, cls := S.cls.set n { c with locked := c.locked + 1 } } := by
          unfold pstep
          rw [hc]
          simp only [hx]
          rw [if_neg hb']
          simp only [hr]
          rw [if_pos h38]
        rw [e1]
        skip
        exact h1
      · have h8 : x.f0 = 3 → c.locked = 8 := fun h => by have := hI.le; have : ¬ c.locked < 8 := fun h' => h38 ⟨h, h'⟩; omega
        refine (step_effect w0 w sb tb M cb S clv hv n c x rest hS hc hx hb hr hk.1 hk.2 h8 hn64 hN).mono ?_
        rintro e w' ⟨rfl, nb, h1, h2⟩
        refine ⟨rfl, nb, hv, ?_, h2⟩
        have e1 : pstep S n nb = { T := effT S.T x nb, lk := effL x S.lk, cls := S.cls.set n (effC S.T x c), hist := S.hist } := by
          unfold pstep
          rw [hc]
          simp only [hx]
          rw [if_neg hb']
          simp only [hr]
          rw [if_neg h38]
        rw [e1]
        exact h1

theorem StAt.of_pick {w0 w w' : World} {sb tb : Nat} {M : Nat → Nat} {cb : List Nat} {S : PS} {clv hv : Value} (h : StAt w0 w sb tb M cb S clv hv) {scb : Nat} {cc : Array Value} (hsc : w.heap[scb]? = some (.cells cc 23 (0, 0))) (hb : w0.heap.size ≤ scb) (hg : w.grownBy w' (some scb)) : StAt w0 w' sb tb M cb S clv hv := by
  have hch : Chg (fun k => k = scb) w w' := Chg.of_grown hg (fun k e => by injection e with e; exact e.symm)
  have hno : ∀ (g : Nat) (cs : Array Value) (t : Nat) (z : Nat × Nat), t ≠ 23 → w.heap[g]? = some (Obj.cells cs t z) → ¬ g = scb := fun g cs t z ht hg e => by
    rw [e, hsc] at hg; injection hg with hg; injection hg with _ h2; exact ht h2.symm
  have hs : SameT w w' [87, 31, 42, 3, 9, 84, 44] := SameT.of_chg hch (fun g cs t ht hg => hno g cs t _ (by rintro rfl; simp at ht) hg)
  refine ⟨cell_chg hch h.st (hno _ _ _ _ (by decide) h.st), h.tab.chg hch (hno _ _ _ _ (by decide) h.tab.cells) (fun i hi e => ?_) (fun g cs hg => hno _ _ _ _ (by decide) hg), R_same h.cl hs (by intro q hq; simp [ptr, Kd.scalar] at hq; subst hq; decide), h.nd, h.cls.same hs (by simp) (by simp) (by simp) (by simp) (by simp), R44_same h.hist (hs.sub (by intro t ht; simp at ht; rcases ht with rfl | rfl | rfl <;> decide)), ?_, h.lsb, h.lcb, h.lM⟩
  · have := (h.tab.stripe i hi).1; rw [e, hsc] at this; cases this
  · exact h.below.grown hg h.below.size (fun k e => by injection e with e; omega)
theorem ScAt.same {w0 w w' : World} {scb : Nat} {script : List Int} (h : ScAt w0 w scb script) (hs : SameT w w' [23]) : ScAt w0 w' scb script := by
  obtain ⟨A, cap, hb, r⟩ := h
  exact ⟨A, cap, (hs 23 (by simp) scb _ hb).trans hb, r⟩
end Go.Proofs.Ytdflfjcnogokgaa.PTableEnds
