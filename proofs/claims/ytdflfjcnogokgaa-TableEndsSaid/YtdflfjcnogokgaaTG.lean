/- The stage: a step. -/
import Derived.Test.YtdflfjcnogokgaaTF
import Derived.Deep.RegionLaw
set_option linter.unusedVariables false
set_option linter.unusedSimpArgs false
namespace Go.Proofs.Ytdflfjcnogokgaa.PTableEnds
open Go.RowKit Go.Proofs.YtdflfjcnogokgaaW.PrintWords Go.Proofs.YtdflfjcnogokgaaW.PrintLast Go.Proofs.YtdflfjcnogokgaaW.PrintMore
open Go.FT Go.MuLone
open Go.ChangeMaps (setBlock)

theorem tinfo44 : (Try.prog.info? 44).map (fun i => (i.zero, i.size, i.bytes)) = some (some (.agg #[.int .i64 0, .bool false, .int .i64 0, .int .i64 0, .string ⟨#[]⟩, .bool false, .string ⟨#[]⟩, .slice none 0 0, .slice none 0 0]), 9, 120) := by kernel_rfl

/-- The stage in memory: 'w0': the world in which the play began. -/
structure StAt (w0 w : World) (sb tb : Nat) (M : Nat → Nat) (cb : List Nat) (S : PS) (clv hv : Value) : Prop where
  st : w.heap[sb]? = some (.cells (stCells tb S.lk clv hv) 83 (0, 0))
  tab : tabAt w tb M S.T
  cl : ptr.R 84 w w0.heap.size (fun _ => True) clv cb
  nd : cb.Nodup
  cls : ClsAt w w0.heap.size cb S.cls
  hist : k44.R 44 w w0.heap.size (fun _ => True) hv S.hist
  below : Below w0.heap.size w0 w
  lsb : w0.heap.size ≤ sb
  lcb : ∀ b ∈ cb, w0.heap.size ≤ b
  lM : ∀ i, i < 8 → w0.heap.size ≤ M i

/-- What a step may write: the client's block, the stage's, the history's row, the stripes' maps. -/
def Wr (sb b : Nat) (M : Nat → Nat) (hv : Value) (k : Nat) : Prop := k = b ∨ k = sb ∨ some k = hv.ownBlock ∨ ∃ i, i < 8 ∧ k = M i
theorem Wr.types {w0 w : World} {sb tb : Nat} {M : Nat → Nat} {cb : List Nat} {S : PS} {clv hv : Value} (hS : StAt w0 w sb tb M cb S clv hv) {b : Nat} {cc : Array Value} (hb : w.heap[b]? = some (.cells cc 87 (0, 0))) {g t : Nat} {cs : Array Value} {z : Nat × Nat} (hg : w.heap[g]? = some (.cells cs t z)) (h1 : t ≠ 87) (h2 : t ≠ 83) (h3 : t ≠ 44) : ¬ Wr sb b M hv g := by
  rintro (rfl | rfl | e | ⟨i, hi, rfl⟩)
  · rw [hb] at hg; injection hg with hg; injection hg with _ h; exact h1 h.symm
  · rw [hS.st] at hg; injection hg with hg; injection hg with _ h; exact h2 h.symm
  · obtain ⟨inner, ho⟩ := Kd.R_own hS.hist
    obtain ⟨cells, hc⟩ := own_typed ho g e.symm
    rw [hc] at hg; injection hg with hg; injection hg with _ h; exact h3 h.symm
  · rw [(hS.tab.stripe i hi).1] at hg; cases hg
theorem StAt.next {w0 w w' : World} {sb tb : Nat} {M : Nat → Nat} {cb : List Nat} {S : PS} {clv hv : Value} (hS : StAt w0 w sb tb M cb S clv hv) {n b : Nat} {c c' : PCl} {ov rv ov' rv' hv' : Value} {lk' : Nat → Bool} {T' : Nat → List Ent} {hist' : List S44}
    (hbn : cb[n]? = some b) (hcl : ClAt w w0.heap.size b c ov rv) (hc : Chg (Wr sb b M hv) w w') (hsb : w'.heap[sb]? = some (.cells (stCells tb lk' clv hv') 83 (0, 0))) (hcl' : ClAt w' w0.heap.size b c' ov' rv')
    (hh : k44.R 44 w' w0.heap.size (fun _ => True) hv' hist') (hT : tabAt w' tb M T') : StAt w0 w' sb tb M cb { T := T', lk := lk', cls := S.cls.set n c', hist := hist' } clv hv' := by
  have hs : SameT w w' [31, 42, 3, 9, 84] := SameT.of_chg hc (fun g cs t ht hg => Wr.types hS hcl.cells hg (by rintro rfl; simp at ht) (by rintro rfl; simp at ht) (by rintro rfl; simp at ht))
  refine ⟨hsb, hT, R_same hS.cl hs (by intro q hq; simp [ptr, Kd.scalar] at hq; subst hq; decide), hS.nd, ⟨by simp [hS.cls.len], fun i b2 c2 hb2 hc2 => ?_⟩, hh, ?_, hS.lsb, hS.lcb, hS.lM⟩
  · by_cases hi : i = n
    · subst hi
      rw [hbn] at hb2
      injection hb2 with hb2
      subst hb2
      rw [List.getElem?_set_self (by have := (List.getElem?_eq_some_iff.1 hbn).1; have := hS.cls.len; omega)] at hc2
      injection hc2 with hc2
      subst hc2
      exact ⟨_, _, hcl'⟩
    · rw [List.getElem?_set_ne (fun e => hi e.symm)] at hc2
      obtain ⟨ov2, rv2, h2⟩ := hS.cls.at_ i b2 c2 hb2 hc2
      have hne : b2 ≠ b := fun e => by
        subst e
        exact hi ((List.getElem?_inj (List.getElem?_eq_some_iff.1 hb2).1 hS.nd).1 (hb2.trans hbn.symm))
      refine ⟨ov2, rv2, h2.same hs (hc.block b2 (lt_of_heap h2.cells) ?_) (by simp) (by simp) (by simp) (by simp)⟩
      rintro (e | e | e | ⟨j, hj, e⟩)
      · exact hne e
      · have := h2.cells; rw [e, hS.st] at this; injection this with this; injection this with _ h; cases h
      · obtain ⟨inner, ho⟩ := Kd.R_own hS.hist
        obtain ⟨cells, hcc⟩ := own_typed ho b2 e.symm
        have := h2.cells; rw [hcc] at this; injection this with this; injection this with _ h; cases h
      · have := h2.cells; rw [e, (hS.tab.stripe j hj).1] at this; cases this
  · refine hS.below.trans ⟨hc.os, hc.tape, hc.output, hc.size, fun k hk => hc.block k (Nat.lt_of_lt_of_le hk hS.below.size) ?_⟩
    rintro (e | e | e | ⟨j, hj, e⟩)
    · have := hS.lcb b (List.mem_of_getElem? hbn); omega
    · have := hS.lsb; omega
    · obtain ⟨inner, ho⟩ := Kd.R_own hS.hist
      have := own_base ho k e.symm
      omega
    · have := hS.lM j hj; omega
theorem StAt.keep23 {w0 w w' : World} {sb tb : Nat} {M : Nat → Nat} {cb : List Nat} {S : PS} {clv hv : Value} (hS : StAt w0 w sb tb M cb S clv hv) {b : Nat} {cc : Array Value} (hb : w.heap[b]? = some (.cells cc 87 (0, 0))) (hc : Chg (Wr sb b M hv) w w') : SameT w w' [23] :=
  SameT.of_chg hc (fun g cs t ht hg => Wr.types hS hb hg (by rintro rfl; simp at ht) (by rintro rfl; simp at ht) (by rintro rfl; simp at ht))
theorem StAt.tab_keep {w0 w w' : World} {sb tb : Nat} {M : Nat → Nat} {cb : List Nat} {S : PS} {clv hv : Value} (hS : StAt w0 w sb tb M cb S clv hv) {b : Nat} {cc : Array Value} (hb : w.heap[b]? = some (.cells cc 87 (0, 0))) (hc : Chg (fun k => k = b ∨ k = sb ∨ some k = hv.ownBlock) w w') : tabAt w' tb M S.T := by
  refine hS.tab.chg hc (fun h => ?_) (fun i hi h => ?_) (fun g cs hg h => ?_)
  · exact Wr.types hS hb hS.tab.cells (by decide) (by decide) (by decide) (by rcases h with h | h | h; exact Or.inl h; exact Or.inr (Or.inl h); exact Or.inr (Or.inr (Or.inl h)))
  · have hm := (hS.tab.stripe i hi).1
    rcases h with h | h | h
    · rw [h, hb] at hm; cases hm
    · rw [h, hS.st] at hm; cases hm
    · obtain ⟨inner, ho⟩ := Kd.R_own hS.hist
      obtain ⟨cells, hcc⟩ := own_typed ho _ h.symm
      rw [hcc] at hm; cases hm
  · exact Wr.types hS hb hg (by decide) (by decide) (by decide) (by rcases h with h | h | h; exact Or.inl h; exact Or.inr (Or.inl h); exact Or.inr (Or.inr (Or.inl h)))

theorem R44_same {w w' : World} {base : Nat} {v : Value} {xs : List S44} (h : k44.R 44 w base (fun _ => True) v xs) (hs : SameT w w' [44, 3, 9]) : k44.R 44 w' base (fun _ => True) v xs :=
  R_same h hs (by intro q hq; simpa [k44, Kd.iso, Kd.pair, Kd.int, Kd.bool, Kd.string, Kd.scalar, k31, k42, Kd.slice] using hq)
theorem step_begin_end {w0 w W1 w5 : World} {sb tb : Nat} {M : Nat → Nat} {cb : List Nat} {S : PS} {clv hv hv' : Value} {n b : Nat} {c : PCl} {ov rv : Value} {hist' : List S44} (hS : StAt w0 w sb tb M cb S clv hv) (hbn : cb[n]? = some b) (hc : S.cls[n]? = some c) (hcl : ClAt w w0.heap.size b c ov rv) (hbg : c.begun = false)
    (hC1 : Chg (fun k => k = b) w W1) (hcb1 : W1.heap[b]? = some (.cells #[ov, .bool true, .int .i64 c.locked, rv] 87 (0, 0))) (hh : k44.R 44 W1 w0.heap.size (fun _ => True) hv S.hist) (hne : some sb ≠ hv.ownBlock) (hst1 : W1.heap[sb]? = some (.cells (stCells tb S.lk clv hv) 83 (0, 0))) (hbsb : sb ≠ b)
    (hg : W1.drew.grownBy w5 hv.ownBlock) (ho : k44.R 44 w5 w0.heap.size (fun _ => True) hv' hist') :
    StAt w0 (w5.setCell ⟨sb, 10, none⟩ hv') sb tb M cb { S with cls := S.cls.set n { c with begun := true }, hist := hist' } clv hv' ∧ SameT w (w5.setCell ⟨sb, 10, none⟩ hv') [23] := by
  have h5 : w5.heap[sb]? = some (.cells (stCells tb S.lk clv hv) 83 (0, 0)) := (hg.block sb (lt_of_heap hst1) hne).trans hst1
  have hc5 : Chg (fun k => k = b ∨ k = sb ∨ some k = hv.ownBlock) w (w5.setCell ⟨sb, 10, none⟩ hv') := by
    refine ((hC1.mono (fun k h => Or.inl h)).trans (b := W1) ?_).trans (Chg.set _ ⟨sb, 10, none⟩ _ (Or.inr (Or.inl rfl)))
    exact ⟨hg.os, hg.tape, hg.output, hg.size, fun k hk hn => hg.block k hk (fun e => hn (Or.inr (Or.inr e)))⟩
  have hbh : some b ≠ hv.ownBlock := fun e => by
    obtain ⟨inner, ho⟩ := Kd.R_own hS.hist
    obtain ⟨cells, hcc⟩ := own_typed ho b e.symm
    have := hcl.cells
    rw [hcc] at this
    injection this with this
    injection this with _ h
    cases h
  have hs : SameT w (w5.setCell ⟨sb, 10, none⟩ hv') [31, 42, 3, 9] := SameT.of_chg (hc5.mono (S' := Wr sb b M hv) (fun k h => by rcases h with h | h | h; exact Or.inl h; exact Or.inr (Or.inl h); exact Or.inr (Or.inr (Or.inl h)))) (fun g cs t ht hg => Wr.types hS hcl.cells hg (by rintro rfl; simp at ht) (by rintro rfl; simp at ht) (by rintro rfl; simp at ht))
  have hcb5 : (w5.setCell ⟨sb, 10, none⟩ hv').heap[b]? = some (.cells #[ov, .bool true, .int .i64 c.locked, rv] 87 (0, 0)) := by
    rw [Below.heap_setCell _ _ _ _ (fun e => hbsb e.symm), hg.block b (lt_of_heap hcb1) hbh]
    exact hcb1
  refine ⟨hS.next hbn hcl (hc5.mono (fun k h => by rcases h with h | h | h; exact Or.inl h; exact Or.inr (Or.inl h); exact Or.inr (Or.inr (Or.inl h)))) (by rw [heap_set_same h5]; rfl) (c' := { c with begun := true }) ⟨hcb5, hcl.ops.same hs (by simp), hcl.reply.same hs (by simp) (by simp) (by simp), hcl.le⟩ (R44_same ho (SameT.set h5 10 _ (by decide))) (hS.tab_keep hcl.cells hc5), hS.keep23 hcl.cells (hc5.mono (fun k h => by rcases h with h | h | h; exact Or.inl h; exact Or.inr (Or.inl h); exact Or.inr (Or.inr (Or.inl h))))⟩

set_option maxRecDepth 100000 in
set_option maxHeartbeats 2000000 in
theorem step_begin (w0 w : World) (sb tb : Nat) (M : Nat → Nat) (cb : List Nat) (S : PS) (clv hv : Value) (n : Nat) (c : PCl) (x : S31) (rest : List S31) (hS : StAt w0 w sb tb M cb S clv hv) (hc : S.cls[n]? = some c) (hx : c.ops = x :: rest) (hb : c.begun = false)
    (hn64 : S.cls.length ≤ 64) (hl : (S.hist.length + 1) * 120 ≤ 140737488355328) :
    Calls Try.prog 39 #[.pointer (some ⟨sb, 0, none⟩), .int .i64 n] w fun e w' => e = .returned (.tuple #[]) ∧ ∃ hv', StAt w0 w' sb tb M cb { S with cls := S.cls.set n { c with begun := true }, hist := S.hist ++ [⟨n, true, x, z42⟩] } clv hv' ∧ SameT w w' [23] := by
  have hlen := hS.cls.len
  have hnl : n < S.cls.length := (List.getElem?_eq_some_iff.1 hc).1
  obtain ⟨b, hbn⟩ : ∃ b, cb[n]? = some b := ⟨_, List.getElem?_eq_getElem (by omega)⟩
  obtain ⟨ov, rv, hcl⟩ := hS.cls.at_ n b c hbn hc
  obtain ⟨ob, o, N, cap, rfl, hN0, hobl, c0, c1, _, c3, fb, k0, k1, k2, hNN, hNc, hcm, hobb⟩ := hcl.open_ hx
  rw [hb] at c1
  obtain ⟨A, cc, hclv, hcap, hC⟩ := Kd.R_reads hS.cl
  obtain ⟨ad, rfl, hx1⟩ := ptr_at hC n b hbn
  have s9 : w.cell? ⟨sb, 9, none⟩ = some (.slice (some ad) cb.length cc) := by rw [← hclv]; exact (cell_of_blk hS.st 9).trans rfl
  have c1a := cell_alloc c1
  have hbl := lt_of_heap hcl.cells
  have f1a : ∀ O, (w.alloc O).frozen? ⟨b, 1, none⟩ = false := fun O => frozen_of_blk ((Below.heap_alloc w O b hbl).trans hcl.cells) 1
  have h64 : n < 64 := by omega
  have hnb : ((n : Nat) : Int) < ((cb.length : Nat) : Int) := by omega
  have hcb64 : cb.length ≤ 64 := by omega
  have HS := Aside0.mk hS
  have HC := Aside0.mk hc
  have HCL := Aside0.mk hcl
  have HX := Aside0.mk hx
  have HBG := Aside0.mk hb
  have HBN := Aside0.mk hbn
  have HL := Aside0.mk hl
  have HCV := Aside0.mk hclv
  have HOB := Aside0.mk hobb
  clear hS hc hcl hx hb hbn hl hclv hC hlen hnl hNN hNc hobb fb hcap
  go_enter Try.func39, Try.ntmps39
  go_wp2
  obtain ⟨O, hO⟩ : ∃ O, O = Obj.cells #[.int .i64 x.f0, .int .i64 x.f1, .string x.f2] 31 := ⟨_, rfl⟩
  rw [← hO]
  have hst := HS.out.st
  have hbsb : sb ≠ b := fun e => by
    have := HCL.out.cells
    rw [← e, hst] at this
    cases this
  have hsbl := lt_of_heap hst
  have hC1 : Chg (fun k => k = b) w ((w.setCell ⟨b, 1, none⟩ (.bool true)).alloc O) := (Chg.set (S := fun k => k = b) _ ⟨b, 1, none⟩ _ rfl).alloc O
  have hcb1 : ((w.setCell ⟨b, 1, none⟩ (.bool true)).alloc O).heap[b]? = some (.cells #[.slice (some ⟨ob, o, none⟩) N cap, .bool true, .int .i64 c.locked, rv] 87 (0, 0)) := by
    rw [Below.heap_alloc _ _ _ (by rw [size_set]; exact hbl), heap_set_same HCL.out.cells]; rfl
  have hoO : ((w.setCell ⟨b, 1, none⟩ (.bool true)).alloc O).heap[w.heap.size]? = some O := by
    have := heap_alloc_at (w.setCell ⟨b, 1, none⟩ (.bool true)) O
    rwa [size_set] at this
  have hst1 := cell_chg hC1 hst hbsb
  generalize hW : ((w.setCell ⟨b, 1, none⟩ (.bool true)).alloc O) = W1 at *
  have s10 : W1.cell? ⟨sb, 10, none⟩ = some hv := (cell_of_blk hst1 10).trans rfl
  have g10 : W1.frozen? ⟨sb, 10, none⟩ = false := frozen_of_blk hst1 10
  rw [hO] at hoO
  have o0 : W1.cell? ⟨w.heap.size, 0, none⟩ = some (.int .i64 x.f0) := (cell_of_blk hoO 0).trans rfl
  have o1 : W1.cell? ⟨w.heap.size, 1, none⟩ = some (.int .i64 x.f1) := (cell_of_blk hoO 1).trans rfl
  have o2 : W1.cell? ⟨w.heap.size, 2, none⟩ = some (.string x.f2) := (cell_of_blk hoO 2).trans rfl
  have HH : Aside0 (k44.R 44 W1 w0.heap.size (fun _ => True) hv S.hist) := ⟨R_same HS.out.hist (SameT.of_chg (ts := [44, 3, 9]) hC1 (fun g cs t ht hg e => by
    subst e
    rw [HCL.out.cells] at hg
    injection hg with hg
    injection hg with _ h2
    subst h2
    simp at ht)) (by intro q hq; simpa [k44, Kd.iso, Kd.pair, Kd.int, Kd.bool, Kd.string, Kd.scalar, k31, k42, Kd.slice] using hq)⟩
  have HC1 := Aside0.mk hC1
  have HCB1 := Aside0.mk hcb1
  have HST1 := Aside0.mk hst1
  have HOO := Aside0.mk hoO
  have hsz : w.heap.size < W1.heap.size := lt_of_heap hoO
  clear hC1 hcb1 hst1 hoO hW hO c0 c1 c1a f1a k0 k1 k2 s9 hx1 hst c3
  have hbb : w0.heap.size ≤ b := HS.out.lcb b (List.mem_of_getElem? HBN.out)
  have HBW : Aside0 (Below w0.heap.size w0 W1) := ⟨HS.out.below.trans ⟨HC1.out.os, HC1.out.tape, HC1.out.output, HC1.out.size, fun k hk => HC1.out.block k (Nat.lt_of_lt_of_le hk HS.out.below.size) (by omega)⟩⟩
  have hne : some sb ≠ hv.ownBlock := fun e => by
    obtain ⟨inner, ho⟩ := Kd.R_own HH.out
    obtain ⟨cells, hcl⟩ := own_typed ho sb e.symm
    rw [HST1.out] at hcl
    cases hcl
  have HNE := Aside0.mk hne
  have s10a := cell_alloc s10
  clear hne
  obtain ⟨ha, hc, hvs⟩ := Kd.R_slice HH.out
  subst hvs
  go_region_law (first | (refine Kd.R_append_step k44 (w0 := w0) (W := W1.drew) w0.heap.size (by rfl) (.tmp 35) (.tmp 39) 28 44 _ 120 (by rfl) Try.underlying28 tinfo44 (by rfl) (by decide) (by decide) (.slice ha S.hist.length hc) S.hist ⟨n, true, x, z42⟩ [.int .i64 n, .bool true, .int .i64 x.f0, .int .i64 x.f1, .string x.f2, .bool false, .string ⟨#[]⟩, .slice none 0 0, .slice none 0 0] (fun _ => True) (fun _ => False) (by rfl) (by rfl) (k44_mkM _ _ _ _ (Kd.R_nil _ _ _ _ _) (Kd.R_nil _ _ _ _ _)) (fun _ hk => hk.elim) (fun _ _ => trivial) HH.out HBW.out.drew HBW.out.size HL.out ?_; intro v' w5 ho hb hg hat; obtain ⟨ha', hc', rfl⟩ := Kd.R_slice ho; have hsb5 := (hg.block sb (lt_of_heap HST1.out) HNE.out).trans HST1.out; have v10 : w5.cell? ⟨sb, 10, none⟩ = some (.slice ha S.hist.length hc) := (cell_of_blk hsb5 10).trans rfl; have vf10 : w5.frozen? ⟨sb, 10, none⟩ = false := frozen_of_blk hsb5 10; have HO5 := Aside0.mk ho; have HB5 := Aside0.mk hb; have HG5 := Aside0.mk hg; have HSB5 := Aside0.mk hsb5; clear ho hb hg hat hsb5))
  all_goals
    go_wp2
    go_end0
    have ho5 := HO5.out
    rw [List.length_append, List.length_singleton] at ho5
    refine ⟨rfl, _, step_begin_end HS.out HBN.out HC.out HCL.out HBG.out HC1.out HCB1.out HH.out HNE.out HST1.out hbsb (HG5.out) ho5⟩
end Go.Proofs.Ytdflfjcnogokgaa.PTableEnds
