/- The stage: a stripe is locked; a call takes effect. -/
import Derived.Test.YtdflfjcnogokgaaTH
import Derived.Deep.RegionLaw
set_option linter.unusedVariables false
set_option linter.unusedSimpArgs false
namespace Go.Proofs.Ytdflfjcnogokgaa.PTableEnds
open Go.RowKit Go.Proofs.YtdflfjcnogokgaaW.PrintWords Go.Proofs.YtdflfjcnogokgaaW.PrintLast Go.Proofs.YtdflfjcnogokgaaW.PrintMore
open Go.FT Go.MuLone
open Go.ChangeMaps (setBlock)


theorem StAt.drew {w0 w : World} {sb tb : Nat} {M : Nat → Nat} {cb : List Nat} {S : PS} {clv hv : Value} (h : StAt w0 w sb tb M cb S clv hv) : StAt w0 w.drew sb tb M cb S clv hv := by
  have hs : SameT w w.drew [87, 31, 42, 3, 9, 84, 44] := fun _ _ _ _ _ => rfl
  exact ⟨h.st, ⟨h.tab.cells, h.tab.stripe, h.tab.apart⟩, R_same h.cl hs (by intro q hq; simp [ptr, Kd.scalar] at hq; subst hq; decide), h.nd, h.cls.same hs (by simp) (by simp) (by simp) (by simp) (by simp), R44_same h.hist (hs.sub (by intro t ht; simp at ht; rcases ht with rfl | rfl | rfl <;> decide)), h.below.drew, h.lsb, h.lcb, h.lM⟩
theorem stCells_set (tb : Nat) (lk : Nat → Bool) (clv hv : Value) (i : Nat) (hi : i < 8) : (stCells tb lk clv hv).setIfInBounds (1 + i) (.bool true) = stCells tb (fun j => if j = i then true else lk j) clv hv := by
  rcases lt8 hi with rfl | rfl | rfl | rfl | rfl | rfl | rfl | rfl <;> rfl
theorem step_lock_end {w0 w W1 : World} {sb tb : Nat} {M : Nat → Nat} {cb : List Nat} {S : PS} {clv hv : Value} {n b : Nat} {c : PCl} {ov rv : Value} (hS : StAt w0 w sb tb M cb S clv hv) (hbn : cb[n]? = some b) (hcl : ClAt w w0.heap.size b c ov rv) (h8 : c.locked < 8)
    (hB1 : Below w.heap.size w W1) (hcb1 : W1.heap[b]? = some (.cells #[ov, .bool c.begun, .int .i64 c.locked, rv] 87 (0, 0))) (hst1 : W1.heap[sb]? = some (.cells (stCells tb S.lk clv hv) 83 (0, 0))) (hbsb : sb ≠ b) :
    StAt w0 ((W1.setCell ⟨sb, 1 + c.locked, none⟩ (.bool true)).setCell ⟨b, 2, none⟩ (.int .i64 ((c.locked : Int) + 1))) sb tb M cb { S with lk := fun i => if i = c.locked then true else S.lk i, cls := S.cls.set n { c with locked := c.locked + 1 } } clv hv ∧ SameT w ((W1.setCell ⟨sb, 1 + c.locked, none⟩ (.bool true)).setCell ⟨b, 2, none⟩ (.int .i64 ((c.locked : Int) + 1))) [23] := by
  have e1 := heap_set_same hst1 (1 + c.locked) (.bool true)
  rw [stCells_set _ _ _ _ _ h8] at e1
  have hcb2 : (W1.setCell ⟨sb, 1 + c.locked, none⟩ (.bool true)).heap[b]? = some (.cells #[ov, .bool c.begun, .int .i64 c.locked, rv] 87 (0, 0)) := by
    rw [Below.heap_setCell _ _ _ _ (fun e => hbsb e.symm)]; exact hcb1
  have e2 := heap_set_same hcb2 2 (.int .i64 ((c.locked : Int) + 1))
  have hc : Chg (fun k => k = b ∨ k = sb ∨ some k = hv.ownBlock) w ((W1.setCell ⟨sb, 1 + c.locked, none⟩ (.bool true)).setCell ⟨b, 2, none⟩ (.int .i64 ((c.locked : Int) + 1))) :=
    ((Chg.of_below hB1).trans (Chg.set _ ⟨sb, 1 + c.locked, none⟩ _ (Or.inr (Or.inl rfl)))).trans (Chg.set _ ⟨b, 2, none⟩ _ (Or.inl rfl))
  have hcw := hc.mono (S' := Wr sb b M hv) (fun k h => by rcases h with h | h | h; exact Or.inl h; exact Or.inr (Or.inl h); exact Or.inr (Or.inr (Or.inl h)))
  have hs : SameT w _ [31, 42, 3, 9] := SameT.of_chg hcw (fun g cs t ht hg => Wr.types hS hcl.cells hg (by rintro rfl; simp at ht) (by rintro rfl; simp at ht) (by rintro rfl; simp at ht))
  refine ⟨?_, hS.keep23 hcl.cells hcw⟩
  refine hS.next hbn hcl hcw ?_ (c' := { c with locked := c.locked + 1 }) ⟨e2, hcl.ops.same hs (by simp), hcl.reply.same hs (by simp) (by simp) (by simp), by show c.locked + 1 ≤ 8; omega⟩ ?_ (hS.tab_keep hcl.cells hc)
  · rw [Below.heap_setCell _ _ _ _ hbsb]; exact e1
  · exact R44_same hS.hist (((SameT.of_below hB1 _).trans (SameT.set hst1 _ _ (by decide))).trans (SameT.set hcb2 2 _ (by decide)))

set_option maxRecDepth 100000 in
set_option maxHeartbeats 2000000 in
theorem step_lock (w0 w : World) (sb tb : Nat) (M : Nat → Nat) (cb : List Nat) (S : PS) (clv hv : Value) (n : Nat) (c : PCl) (x : S31) (rest : List S31) (hS : StAt w0 w sb tb M cb S clv hv) (hc : S.cls[n]? = some c) (hx : c.ops = x :: rest) (hb : c.begun = true) (hr : c.reply = none) (h3 : x.f0 = 3) (h8 : c.locked < 8)
    (hn64 : S.cls.length ≤ 64) :
    Calls Try.prog 39 #[.pointer (some ⟨sb, 0, none⟩), .int .i64 n] w fun e w' => e = .returned (.tuple #[]) ∧ StAt w0 w' sb tb M cb { S with lk := fun i => if i = c.locked then true else S.lk i, cls := S.cls.set n { c with locked := c.locked + 1 } } clv hv ∧ SameT w w' [23] := by
  have hlen := hS.cls.len
  have hnl : n < S.cls.length := (List.getElem?_eq_some_iff.1 hc).1
  obtain ⟨b, hbn⟩ : ∃ b, cb[n]? = some b := ⟨_, List.getElem?_eq_getElem (by omega)⟩
  obtain ⟨ov, rv, hcl⟩ := hS.cls.at_ n b c hbn hc
  obtain ⟨ob, o, N, cap, rfl, hN0, hobl, c0, c1, c2, c3, fb, k0, k1, k2, hNN, hNc, hcm, hobb⟩ := hcl.open_ hx
  rw [hb] at c1
  have hrep := hcl.reply
  rw [hr] at hrep
  have hrv : rv = .pointer none := hrep
  subst hrv
  clear hrep
  obtain ⟨A, cc, hclv, hcap, hC⟩ := Kd.R_reads hS.cl
  obtain ⟨ad, rfl, hx1⟩ := ptr_at hC n b hbn
  have s9 : w.cell? ⟨sb, 9, none⟩ = some (.slice (some ad) cb.length cc) := by rw [← hclv]; exact (cell_of_blk hS.st 9).trans rfl
  have hbl := lt_of_heap hcl.cells
  have c1a := cell_alloc c1
  have c3a := cell_alloc c3
  have c2a := cell_alloc c2
  have k3 : (x.f0 == 3) = true := by simp [h3]
  have k8 : decide (((c.locked : Nat) : Int) < 8) = true := decide_eq_true (by omega)
  have hl8 : ((c.locked : Nat) : Int) < 8 := by omega
  have H3 := Aside0.mk h3
  have H8 := Aside0.mk h8
  clear h3 h8
  have h64 : n < 64 := by omega
  have hnb : ((n : Nat) : Int) < ((cb.length : Nat) : Int) := by omega
  have hcb64 : cb.length ≤ 64 := by omega
  have HS := Aside0.mk hS
  have HC := Aside0.mk hc
  have HCL := Aside0.mk hcl
  have HX := Aside0.mk hx
  have HBG := Aside0.mk hb
  have HBN := Aside0.mk hbn
  have HCV := Aside0.mk hclv
  have HOB := Aside0.mk hobb
  have HNN := Aside0.mk hNN
  clear hr
  clear hS hc hcl hx hb hbn hclv hC hlen hnl hNN hobb fb hcap
  go_enter Try.func39, Try.ntmps39
  go_wp2
  obtain ⟨O, hO⟩ : ∃ O, O = Obj.cells #[.int .i64 x.f0, .int .i64 x.f1, .string x.f2] 31 := ⟨_, rfl⟩
  rw [← hO]
  have hst := HS.out.st
  have hbsb : sb ≠ b := fun e => by
    have := HCL.out.cells
    rw [← e, hst] at this
    cases this
  have hBW1 : Below w.heap.size w (w.alloc O) := (Below.refl _ _).alloc (Nat.le_refl _) O
  have hcb1 : (w.alloc O).heap[b]? = some (.cells #[.slice (some ⟨ob, o, none⟩) N cap, .bool c.begun, .int .i64 c.locked, .pointer none] 87 (0, 0)) := (Below.heap_alloc w O b hbl).trans HCL.out.cells
  have hst1 := (Below.heap_alloc w O sb (lt_of_heap hst)).trans hst
  generalize hW : (w.alloc O) = W1 at *
  have b2 : W1.cell? ⟨b, 2, none⟩ = some (.int .i64 c.locked) := (cell_of_blk hcb1 2).trans rfl
  have f2 : W1.frozen? ⟨b, 2, none⟩ = false := frozen_of_blk hcb1 2
  have sl : W1.cell? ⟨sb, 1 + c.locked, none⟩ = some (.bool (S.lk c.locked)) := by rw [Nat.add_comm]; exact (cell_of_blk hst1 _).trans (stCells_lk _ _ _ _ _ H8.out)
  have sf : W1.frozen? ⟨sb, 1 + c.locked, none⟩ = false := frozen_of_blk hst1 _
  have b2a : ∀ u, (W1.setCell ⟨sb, 1 + c.locked, none⟩ u).cell? ⟨b, 2, none⟩ = some (.int .i64 c.locked) := fun u => by
    rw [World.cell?_of_block (w := W1) (Below.heap_setCell _ _ _ _ (fun e => hbsb e.symm))]; exact b2
  have HB1 := Aside0.mk hBW1
  have HCB1 := Aside0.mk hcb1
  have HST1 := Aside0.mk hst1
  have HBSB := Aside0.mk hbsb
  clear hst hbsb hBW1 hcb1 hst1 hW hO c0 c1 c2 c1a c2a c3a k0 k1 k2 c3 hx1 s9
  go_region
  all_goals
    go_wp2
    go_end0
    have hfin := step_lock_end HS.out HBN.out HCL.out H8.out HB1.out HCB1.out HST1.out HBSB.out
    exact ⟨rfl, hfin.1.drew, hfin.2⟩

theorem StAt.of_below {w0 w w' : World} {sb tb : Nat} {M : Nat → Nat} {cb : List Nat} {S : PS} {clv hv : Value} (h : StAt w0 w sb tb M cb S clv hv) (hb : Below w.heap.size w w') : StAt w0 w' sb tb M cb S clv hv := by
  have hs : SameT w w' [87, 31, 42, 3, 9, 84, 44] := SameT.of_below hb _
  exact ⟨(hb.block _ (lt_of_heap h.st)).trans h.st, h.tab.below hb, R_same h.cl hs (by intro q hq; simp [ptr, Kd.scalar] at hq; subst hq; decide), h.nd, h.cls.same hs (by simp) (by simp) (by simp) (by simp) (by simp), R44_same h.hist (hs.sub (by intro t ht; simp at ht; rcases ht with rfl | rfl | rfl <;> decide)), below_then h.below h.below.size hb, h.lsb, h.lcb, h.lM⟩
theorem StAt.alloc {w0 w : World} {sb tb : Nat} {M : Nat → Nat} {cb : List Nat} {S : PS} {clv hv : Value} (h : StAt w0 w sb tb M cb S clv hv) (O : Obj) : StAt w0 (w.alloc O) sb tb M cb S clv hv := h.of_below ((Below.refl _ _).alloc (Nat.le_refl _) O)
def effL (x : S31) (lk : Nat → Bool) : Nat → Bool := if x.f0 = 3 then (fun _ => false) else lk
def effC (T : Nat → List Ent) (x : S31) (c : PCl) : PCl := { c with reply := some (effR T x), locked := if x.f0 = 3 then 0 else c.locked }
theorem effect_any {w0 w : World} {sb tb : Nat} {M : Nat → Nat} {cb : List Nat} {S : PS} {clv hv : Value} {n b : Nat} {c : PCl} {x : S31} {rest : List S31} (hS : StAt w0 w sb tb M cb S clv hv) (hc : S.cls[n]? = some c) (hx : c.ops = x :: rest) (hbn : cb[n]? = some b) (h1 : 1 ≤ x.f0) (h13 : x.f0 ≤ 3) (hN : ((keysUp S.T 8).length + 1) * 16 ≤ 140737488355328) :
    Calls Try.prog 66 #[.pointer (some ⟨sb, 0, none⟩), .pointer (some ⟨b, 0, none⟩)] w fun e w' => e = .returned (.tuple #[]) ∧ ∃ nb, StAt w0 w' sb tb M cb { T := effT S.T x nb, lk := effL x S.lk, cls := S.cls.set n (effC S.T x c), hist := S.hist } clv hv ∧ SameT w w' [23] := by
  obtain ⟨ov, rv, hcl⟩ := hS.cls.at_ n b c hbn hc
  have hb1 : ∀ k, k = b → Wr sb b M hv k := fun k h => Or.inl h
  by_cases h3 : x.f0 = 3
  · refine (effect_snapshot sb tb b w0.heap.size M S.T S.lk clv hv ov rv c x rest w hS.st hcl hx hS.tab h3 hN hS.below.size).mono ?_
    rintro e w' ⟨rfl, ⟨rv', hcl'⟩, hst', hch⟩
    have hch3 : Chg (fun k => k = b ∨ k = sb ∨ some k = hv.ownBlock) w w' := hch.mono (fun k h => by rcases h with h | h; exact Or.inl h; exact Or.inr (Or.inl h))
    have hcw : Chg (Wr sb b M hv) w w' := hch.mono (fun k h => by rcases h with h | h; exact Or.inl h; exact Or.inr (Or.inl h))
    have hT : effT S.T x 0 = S.T := by simp [effT, h3]
    refine ⟨rfl, 0, ?_⟩
    rw [show effL x S.lk = fun _ => false from by rw [effL, if_pos h3], hT]
    refine ⟨?_, hS.keep23 hcl.cells hcw⟩
    refine hS.next hbn hcl hcw hst' (c' := effC S.T x c) (by rw [effC, if_pos h3]; exact hcl') ?_ (hS.tab_keep hcl.cells hch3)
    refine R44_same hS.hist (SameT.of_chg hch (fun g cs t ht hg h => ?_))
    rcases h with h | h
    · rw [h, hcl.cells] at hg; injection hg with hg; injection hg with _ h2; subst h2; simp at ht
    · rw [h, hS.st] at hg; injection hg with hg; injection hg with _ h2; subst h2; simp at ht
  · by_cases h2 : x.f0 = 2
    · refine (effect_lookup sb tb b w0.heap.size M S.T S.lk clv hv ov rv c x rest w hS.st hcl hx hS.tab h2 hS.below.size).mono ?_
      rintro e w' ⟨rfl, ⟨rv', hcl'⟩, hch⟩
      have hch3 : Chg (fun k => k = b ∨ k = sb ∨ some k = hv.ownBlock) w w' := hch.mono (fun k h => Or.inl h)
      have hsb : ¬ sb = b := fun e => by have := hcl.cells; rw [← e, hS.st] at this; injection this with this; injection this with _ h; cases h
      have hT : effT S.T x 0 = S.T := by simp [effT, h2]
      refine ⟨rfl, 0, ?_⟩
      rw [show effL x S.lk = S.lk from by rw [effL, if_neg h3], hT]
      refine ⟨?_, hS.keep23 hcl.cells (hch.mono hb1)⟩
      refine hS.next hbn hcl (hch.mono hb1) (cell_chg hch hS.st hsb) (c' := effC S.T x c) (by rw [effC, if_neg h3]; exact hcl') ?_ (hS.tab_keep hcl.cells hch3)
      refine R44_same hS.hist (SameT.of_chg hch (fun g cs t ht hg h => ?_))
      rw [h, hcl.cells] at hg; injection hg with hg; injection hg with _ h2; subst h2; simp at ht
    · have h1' : x.f0 = 1 := by omega
      have hsb : ¬ sb = b := fun e => by have := hcl.cells; rw [← e, hS.st] at this; injection this with this; injection this with _ h; cases h
      cases hg : getE (S.T (plc x.f1)) x.f1 with
      | some e0 =>
        refine (effect_publish_old sb tb b w0.heap.size M S.T S.lk clv hv ov rv c x rest w hS.st hcl hx hS.tab h1' e0 hg hS.below.size).mono ?_
        rintro e w' ⟨rfl, ⟨rv', hcl'⟩, hch⟩
        have hch3 : Chg (fun k => k = b ∨ k = sb ∨ some k = hv.ownBlock) w w' := hch.mono (fun k h => Or.inl h)
        have hT : effT S.T x 0 = S.T := by simp [effT, h1', hg]
        refine ⟨rfl, 0, ?_⟩
        rw [show effL x S.lk = S.lk from by rw [effL, if_neg h3], hT]
        refine ⟨?_, hS.keep23 hcl.cells (hch.mono hb1)⟩
        refine hS.next hbn hcl (hch.mono hb1) (cell_chg hch hS.st hsb) (c' := effC S.T x c) (by rw [effC, if_neg h3]; exact hcl') ?_ (hS.tab_keep hcl.cells hch3)
        refine R44_same hS.hist (SameT.of_chg hch (fun g cs t ht hg h => ?_))
        rw [h, hcl.cells] at hg; injection hg with hg; injection hg with _ h2; subst h2; simp at ht
      | none =>
        refine (effect_publish_new sb tb b w0.heap.size M S.T S.lk clv hv ov rv c x rest w hS.st hcl hx hS.tab h1' hg hS.below.size).mono ?_
        rintro e w' ⟨rfl, ⟨rv', hcl'⟩, ⟨nb, hT'⟩, hch⟩
        have hcw : Chg (Wr sb b M hv) w w' := hch.mono (fun k h => by rcases h with h | h; exact Or.inl h; exact Or.inr (Or.inr (Or.inr ⟨_, plc_lt _, h⟩)))
        have hT : effT S.T x nb = pubT S.T x.f1 nb x.f2 := by simp [effT, h1', hg]
        have hmc : ∀ (g : Nat) (cs : Array Value) (t : Nat) (z : Nat × Nat), w.heap[g]? = some (Obj.cells cs t z) → ¬ g = M (plc x.f1) := fun g cs t z hg e => by
          rw [e, (hS.tab.stripe _ (plc_lt x.f1)).1] at hg; cases hg
        refine ⟨rfl, nb, ?_⟩
        rw [show effL x S.lk = S.lk from by rw [effL, if_neg h3], hT]
        refine ⟨?_, hS.keep23 hcl.cells hcw⟩
        refine hS.next hbn hcl hcw (cell_chg hch hS.st (fun h => by rcases h with h | h; exact hsb h; exact hmc _ _ _ _ hS.st h)) (c' := effC S.T x c) (by rw [effC, if_neg h3]; exact hcl') ?_ hT'
        refine R44_same hS.hist (SameT.of_chg hch (fun g cs t ht hg h => ?_))
        rcases h with h | h
        · rw [h, hcl.cells] at hg; injection hg with hg; injection hg with _ h2; subst h2; simp at ht
        · exact hmc _ _ _ _ hg h

set_option maxRecDepth 100000 in
set_option maxHeartbeats 2000000 in
theorem step_effect (w0 w : World) (sb tb : Nat) (M : Nat → Nat) (cb : List Nat) (S : PS) (clv hv : Value) (n : Nat) (c : PCl) (x : S31) (rest : List S31) (hS : StAt w0 w sb tb M cb S clv hv) (hc : S.cls[n]? = some c) (hx : c.ops = x :: rest) (hb : c.begun = true) (hr : c.reply = none) (h1 : 1 ≤ x.f0) (h13 : x.f0 ≤ 3) (h38 : x.f0 = 3 → c.locked = 8)
    (hn64 : S.cls.length ≤ 64) (hN : ((keysUp S.T 8).length + 1) * 16 ≤ 140737488355328) :
    Calls Try.prog 39 #[.pointer (some ⟨sb, 0, none⟩), .int .i64 n] w fun e w' => e = .returned (.tuple #[]) ∧ ∃ nb, StAt w0 w' sb tb M cb { T := effT S.T x nb, lk := effL x S.lk, cls := S.cls.set n (effC S.T x c), hist := S.hist } clv hv ∧ SameT w w' [23] := by
  have hlen := hS.cls.len
  have hnl : n < S.cls.length := (List.getElem?_eq_some_iff.1 hc).1
  obtain ⟨b, hbn⟩ : ∃ b, cb[n]? = some b := ⟨_, List.getElem?_eq_getElem (by omega)⟩
  obtain ⟨ov, rv, hcl⟩ := hS.cls.at_ n b c hbn hc
  obtain ⟨ob, o, N, cap, rfl, hN0, hobl, c0, c1, c2, c3, fb, k0, k1, k2, hNN, hNc, hcm, hobb⟩ := hcl.open_ hx
  rw [hb] at c1
  have hrep := hcl.reply
  rw [hr] at hrep
  have hrv : rv = .pointer none := hrep
  subst hrv
  clear hrep
  obtain ⟨A, cc, hclv, hcap, hC⟩ := Kd.R_reads hS.cl
  obtain ⟨ad, rfl, hx1⟩ := ptr_at hC n b hbn
  have s9 : w.cell? ⟨sb, 9, none⟩ = some (.slice (some ad) cb.length cc) := by rw [← hclv]; exact (cell_of_blk hS.st 9).trans rfl
  have hbl := lt_of_heap hcl.cells
  have c1a := cell_alloc c1
  have c3a := cell_alloc c3
  have c2a := cell_alloc c2
  have HK1 := Aside0.mk h1
  have HK3 := Aside0.mk h13
  have H38 := Aside0.mk h38
  have HKN := Aside0.mk hN
  have HSS := Aside0.mk (hS.alloc (Obj.cells #[.int .i64 x.f0, .int .i64 x.f1, .string x.f2] 31))
  clear h1 h13 h38 hN
  have h64 : n < 64 := by omega
  have hnb : ((n : Nat) : Int) < ((cb.length : Nat) : Int) := by omega
  have hcb64 : cb.length ≤ 64 := by omega
  have HS := Aside0.mk hS
  have HC := Aside0.mk hc
  have HCL := Aside0.mk hcl
  have HX := Aside0.mk hx
  have HBG := Aside0.mk hb
  have HBN := Aside0.mk hbn
  have HCV := Aside0.mk hclv
  have HOB := Aside0.mk hobb
  have HNN := Aside0.mk hNN
  clear hr
  clear hS hc hcl hx hb hbn hclv hC hlen hnl hNN hobb fb hcap
  by_cases h3 : x.f0 = 3
  · have k3 : (x.f0 == 3) = true := by simp [h3]
    have h8 := H38.out h3
    have k8 : decide (((c.locked : Nat) : Int) < 8) = false := decide_eq_false (by omega)
    clear h3 h8
    go_enter Try.func39, Try.ntmps39
    go_wp2_with (go_at_call 66; refine Stopped.go ?_)
    refine ⟨?_⟩
    refine (effect_any HSS.out HC.out HX.out HBN.out HK1.out HK3.out HKN.out).mono ?_
    rintro e w' ⟨rfl, nb, hfin, h23⟩
    have HF := Aside0.mk hfin
    have HF2 := Aside0.mk ((SameT.alloc w _ [23]).trans h23)
    clear hfin h23
    go_wp2
    go_end0
    exact ⟨rfl, nb, HF.out, HF2.out⟩
  · have k3 : (x.f0 == 3) = false := by simp [h3]
    clear h3
    go_enter Try.func39, Try.ntmps39
    go_wp2_with (go_at_call 66; refine Stopped.go ?_)
    refine ⟨?_⟩
    refine (effect_any HSS.out HC.out HX.out HBN.out HK1.out HK3.out HKN.out).mono ?_
    rintro e w' ⟨rfl, nb, hfin, h23⟩
    have HF := Aside0.mk hfin
    have HF2 := Aside0.mk ((SameT.alloc w _ [23]).trans h23)
    clear hfin h23
    go_wp2
    go_end0
    exact ⟨rfl, nb, HF.out, HF2.out⟩
end Go.Proofs.Ytdflfjcnogokgaa.PTableEnds
