/- The table: all keys, rising, and their values. -/
import Derived.Test.YtdflfjcnogokgaaTB
import Derived.Test.YtdflfjcnogokgaaShelf
import Derived.Sort.OwnSortedInts
import Derived.StillTailTactics
set_option linter.unusedVariables false
set_option linter.unusedSimpArgs false
namespace Go.Proofs.Ytdflfjcnogokgaa.PTableEnds
open Go.RowKit Go.Proofs.YtdflfjcnogokgaaW.PrintWords Go.Proofs.YtdflfjcnogokgaaW.PrintLast Go.Proofs.YtdflfjcnogokgaaW.PrintMore
open Go.FT Go.MuLone
open Go.ChangeMaps (setBlock)

theorem tinfo3 : (Try.prog.info? 3).map (fun i => (i.zero, i.size, i.bytes)) = some (some (.int .i64 0), 1, 8) := by kernel_rfl
def sortI (l : List Int) : List Int := l.mergeSort fun x y => decide (x ≤ y)

/-- slices.Sort of a row of the call's own. -/
theorem sort_own (w : World) (base : Nat) (ok : Nat → Prop) (v : Value) (xs : List Int) (h : (Kd.int .i64).R 3 w base ok v xs) (hl : xs.length * 8 ≤ 140737488355328) :
    Calls Try.prog 85 #[v] w fun e w' => e = .returned (.tuple #[]) ∧ (Kd.int .i64).R 3 w' base ok v (sortI xs) ∧ w.grownBy w' v.ownBlock := by
  have ho := Kd.own_of_R h
  rcases ho.2 with ⟨rfl, hn⟩ | ⟨g, cap, cur, rfl, hg, hb, h1, h2, h3, h4⟩
  · have : xs = [] := List.eq_nil_of_length_eq_zero hn
    subst this
    refine (Try.slices_Sort_int_none none 0 w).mono ?_
    rintro e w' ⟨rfl, rfl⟩
    exact ⟨rfl, by simpa [sortI] using h, ⟨rfl, rfl, rfl, Nat.le_refl _, fun _ _ _ => rfl⟩⟩
  · have hH := holds_of_blockI (ss := xs) hb (by rw [Nat.mul_one] at h4; rw [h4]; rfl)
    have hs : (sortI xs).length = xs.length := by simp [sortI]
    refine (Try.slices_Sort_int g 0 cap xs w hH (lt_of_heap hb) (by omega)).mono ?_
    rintro e w' ⟨rfl, n, os, rfl⟩
    refine ⟨rfl, ?_, grownBy_sortedI _⟩
    have := ownsRow_sortedI (w := w) (os := os) (n := n) hs hg hb h1 h2 h3
    refine Kd.R_of_own ?_ h.1
    rw [hs]
    exact this

def keysUp (T : Nat → List Ent) (i : Nat) : List Int := (List.range i).flatMap fun j => (T j).map (·.key)
theorem keysUp_succ (T : Nat → List Ent) (i : Nat) : keysUp T (i + 1) = keysUp T i ++ (T i).map (·.key) := by
  simp [keysUp, List.range_succ]
theorem keysUp_le (T : Nat → List Ent) {i n : Nat} (h : i ≤ n) : (keysUp T i).length ≤ (keysUp T n).length := by
  induction n with
  | zero =>
    have : i = 0 := by omega
    subst this
    exact Nat.le_refl _
  | succ n ih =>
    by_cases e : i = n + 1
    · subst e; exact Nat.le_refl _
    · rw [keysUp_succ, List.length_append]
      have := ih (by omega)
      omega
/-- The keys of a table, rising; the value of each. -/
def tabKeys (T : Nat → List Ent) : List Int := sortI (keysUp T 8)
def tabVal (T : Nat → List Ent) (k : Int) : ByteArray := ((getE (T (plc k)) k).map (·.val)).getD ⟨#[]⟩
def tabVals (T : Nat → List Ent) : List ByteArray := (tabKeys T).map (tabVal T)
def keyAt (L : List Ent) (i : Nat) : Int := (L.map (·.key)).getD i 0

theorem seen_perm {L : List Ent} {seen : List Nat} (hnd : seen.Nodup) (hlt : ∀ i ∈ seen, i < L.length) (hall : ∀ i, i < L.length → i ∈ seen) : (seen.map (keyAt L)).Perm (L.map (·.key)) := by
  have h1 : seen.Perm (List.range L.length) := by
    rw [List.perm_ext_iff_of_nodup hnd List.nodup_range]
    intro i
    rw [List.mem_range]
    exact ⟨hlt i, hall i⟩
  have h2 : (List.range L.length).map (keyAt L) = L.map (·.key) := by
    apply List.ext_getElem?
    intro i
    by_cases hi : i < L.length
    · simp [keyAt, hi]
    · simp [keyAt, hi]
  rw [← h2]
  exact h1.map _

theorem nodup_len {n : Nat} {l : List Nat} (h : l.Nodup) (hl : ∀ a ∈ l, a < n) : l.length ≤ n := by
  have h1 : l.Perm ((List.range n).filter (fun a => decide (a ∈ l))) := by
    rw [List.perm_ext_iff_of_nodup h (List.nodup_range.filter _)]
    intro a
    simp only [List.mem_filter, List.mem_range, decide_eq_true_eq]
    exact ⟨fun ha => ⟨hl a ha, ha⟩, fun ha => ha.2⟩
  rw [h1.length_eq]
  have := List.length_filter_le (fun a => decide (a ∈ l)) (List.range n)
  simpa using this

theorem tinfo9 : (Try.prog.info? 9).map (fun i => (i.zero, i.size, i.bytes)) = some (some (.string ⟨#[]⟩), 1, 16) := by kernel_rfl
theorem tabAt.below {w w' : World} {tb : Nat} {M : Nat → Nat} {T : Nat → List Ent} (h : tabAt w tb M T) (hb : Below w.heap.size w w') : tabAt w' tb M T :=
  ⟨(hb.block _ (lt_of_heap h.cells)).trans h.cells, fun i hi => (h.stripe i hi).move (hb.block _ (lt_of_heap (h.stripe i hi).1)) (fun b c hc => hb.block _ (lt_of_heap hc)), h.apart⟩

theorem tabVals_length (T : Nat → List Ent) : (tabVals T).length = (tabKeys T).length := by simp [tabVals]
theorem fill_step {α : Type} (l : List α) (z : α) (i n : Nat) (x : α) (hi : l[i]? = some x) : (l.take i ++ List.replicate (n + 1) z).set i x = l.take (i + 1) ++ List.replicate n z := by
  have hl : i < l.length := (List.getElem?_eq_some_iff.1 hi).1
  have ht : (l.take i).length = i := by simp; omega
  rw [List.set_append_right _ _ (by omega), ht, Nat.sub_self, List.replicate_succ, List.set_cons_zero, List.take_add_one, hi]
  simp

set_option maxRecDepth 100000 in
set_option maxHeartbeats 2000000 in
theorem table_all (tb : Nat) (M : Nat → Nat) (T : Nat → List Ent) (w : World) (hT : tabAt w tb M T) (hN : ((keysUp T 8).length + 1) * 16 ≤ 140737488355328) :
    Calls Try.prog 70 #[.pointer (some ⟨tb, 0, none⟩)] w fun e w' => ∃ v0 v1, e = .returned (.tuple #[v0, v1]) ∧
      (Kd.int .i64).R 3 w' w.heap.size (fun _ => True) v0 (tabKeys T) ∧ Kd.string.R 9 w' w.heap.size (fun _ => True) v1 (tabVals T) ∧ Below w.heap.size w w' := by
  have HT := Aside0.mk hT
  have HN := Aside0.mk hN
  clear hT hN
  go_enter Try.func70, Try.ntmps70
  go_wp2
  go_loopg [4, 10] 8 (fun g v4 v10 w' => ∃ (i : Nat) (ks : List Int), i ≤ 8 ∧ v10 = .int .i64 i ∧ Aside0 (g + i = 8) ∧ Aside0 (ks.Perm (keysUp T i)) ∧ Aside0 ((Kd.int .i64).R 3 w' w.heap.size (fun _ => True) v4 ks) ∧ Aside0 (Below w.heap.size w w'))
  case atStart => exact ⟨0, [], by omega, rfl, ⟨rfl⟩, ⟨List.Perm.refl _⟩, ⟨Kd.R_nil _ _ _ _ _⟩, ⟨Below.refl _ _⟩⟩
  case round =>
    obtain ⟨i, ks, hi, rfl, HG, HP, HO, HB⟩ := hrel
    by_cases hlt : i < 8
    · have hc := HT.out.cells
      have hs := HT.out.stripe i hlt
      have hc1 := (HB.out.block _ (lt_of_heap hc)).trans hc
      have hm1 := (HB.out.block _ (lt_of_heap hs.1)).trans hs.1
      have k1 : wr.cell? ⟨tb, i * 3 + 2, none⟩ = some (.map (some (M i))) := (cell_of_blk hc1 _).trans (tabCells_map _ _ _ hlt)
      have hrg := run_range_map (P := Try.prog) wr 116 3 156 (M i) _ _ Try.underlying116 hm1
      have hmne : M i ≠ wr.heap.size := fun e => by have := lt_of_heap hm1; omega
      have HM1 := Aside0.mk hm1
      have HNE := Aside0.mk hmne
      have hb8 : decide ((i : Int) < 8) = true := decide_eq_true (by omega)
      clear hc hs hc1 hm1 hmne
      obtain ⟨wo, rfl⟩ : ∃ wo : World, wo = wr := ⟨_, rfl⟩
      go_wp2
      go_loopg [4] ((T i).length) (fun g v4 w2 => ∃ seen : List Nat, Aside0 (seen.Nodup ∧ (∀ j ∈ seen, j < (T i).length) ∧ g + seen.length = (T i).length) ∧ Aside0 (w2.heap[wo.heap.size]? = some (.mapIter (some (M i)) (T i).length seen.toArray (T i).length)) ∧
        Aside0 ((Kd.int .i64).R 3 w2 w.heap.size (fun _ => True) v4 (ks ++ seen.map (keyAt (T i)))) ∧ Aside0 (Below w.heap.size w w2) ∧ Aside0 (w2.heap[M i]? = some (imap ((T i).map entV))) ∧ Aside0 (wo.heap.size < w2.heap.size))
      case atStart =>
        refine ⟨[], ⟨List.nodup_nil, fun j hj => absurd hj (by simp), rfl⟩, ⟨heap_alloc_at _ _⟩, ⟨?_⟩, ⟨HB.out.alloc HB.out.size _⟩, ⟨?_⟩, ⟨by rw [size_alloc]; omega⟩⟩
        · rw [List.map_nil, List.append_nil]
          exact Kd.R_below HO.out ((Below.refl _ _).alloc (Nat.le_refl _) _)
        · rw [Below.heap_alloc _ _ _ (lt_of_heap HM1.out)]; exact HM1.out
      case round =>
        obtain ⟨seen, HSn, HI, HO2, HB2, HM2, HZ2⟩ := hrel
        go_wp2_with (at_next; refine Stopped.go ?_)
        refine ⟨?_⟩
        refine wpList_next_im (P := Try.prog) _ rfl _ rfl (M i) wo.heap.size ((T i).map entV) seen rfl (by rw [List.length_map]; exact HI.out) HM2.out HNE.out ?_ ?_
        · intro hd
          have HD := Aside0.mk hd
          clear hd
          go_wp2
          go_roundg (8 - (i + 1))
          case measure => have := HG.out; omega
          case rel =>
            refine ⟨i + 1, ks ++ seen.map (keyAt (T i)), by omega, by go_num, ⟨by omega⟩, ⟨?_⟩, ⟨HO2.out⟩, ⟨HB2.out⟩⟩
            rw [keysUp_succ]
            exact HP.out.append (seen_perm HSn.out.1 HSn.out.2.1 (fun j hj => HD.out j (by simpa using hj)))
        · intro j p w3 hj hp hr3 hg3 hs3 hen
          obtain ⟨pk, pv⟩ := p
          have hjl : j < (T i).length := by have := (List.getElem?_eq_some_iff.1 hp).1; simpa using this
          have hpk : keyAt (T i) j = pk := by
            rw [List.getElem?_map, List.getElem?_eq_getElem hjl] at hp
            simp only [Option.map_some, Option.some.injEq, entV, Prod.mk.injEq] at hp
            simp [keyAt, hjl, hp.1]
          have HR3 := Aside0.mk hr3
          have HJ := Aside0.mk (And.intro hj (And.intro hjl hpk))
          have HB3 : Aside0 (Below w.heap.size w w3) := ⟨HB2.out.grown hg3 HB2.out.size (fun k hk => by injection hk with hk; have := HB.out.size; omega)⟩
          have HO3 : Aside0 ((Kd.int .i64).R 3 w3 w.heap.size (fun _ => True) u4 (ks ++ seen.map (keyAt (T i)))) := ⟨by
            have h1 := Kd.R_bound HO2.out
            refine Kd.R_mono (Kd.R_grown h1 hg3 (fun k hk e => ?_)) (fun _ _ => trivial)
            obtain ⟨_, _, _, q, _, cells, hcl⟩ := hk
            injection e with e
            subst e
            rw [HI.out] at hcl
            cases hcl⟩
          have HM3 : Aside0 (w3.heap[M i]? = some (imap ((T i).map entV))) := ⟨(hg3.block _ (lt_of_heap HM2.out) (fun e => by injection e with e; exact HNE.out e)).trans HM2.out⟩
          have HZ3 : Aside0 (wo.heap.size < w3.heap.size) := ⟨by rw [hs3]; exact HZ2.out⟩
          have HL : Aside0 ((ks ++ seen.map (keyAt (T i))).length ≤ (keysUp T 8).length) := ⟨by
            have h1 := HP.out.length_eq
            have h2 : seen.length ≤ (T i).length := by have := HSn.out.2.2; omega
            have h3 := keysUp_le T (show i + 1 ≤ 8 by omega)
            rw [keysUp_succ, List.length_append, List.length_map] at h3
            rw [List.length_append, List.length_map]
            omega⟩
          clear hj hp hr3 hg3 hs3 hjl hpk
          go_wp2_with (first | (at_builtin; refine Kd.R_append (Kd.int .i64) (w0 := w) w.heap.size rfl (.tmp 25) (.tmp 27) 23 3 (.int .i64 0) 8 rfl Try.underlying23 tinfo3 rfl (by decide) (by omega) u4 (ks ++ seen.map (keyAt (T i))) pk [.int .i64 pk] (fun _ => True) (fun _ => False) rfl rfl rfl (fun _ hk => hk.elim) (fun _ _ => trivial) HO3.out HB3.out HB3.out.size (by have := HL.out; have := HN.out; omega) ?_; intro v' w5 ho hb hg hat))
          go_roundg (gk - 1)
          case measure =>
            have h1 := HSn.out.2.2
            have h2 := HJ.out
            have h3 : (seen ++ [j]).length ≤ (T i).length := by
              refine nodup_len (List.nodup_append.2 ⟨HSn.out.1, by simp, fun a ha b hb' => by simp at hb'; subst hb'; intro e; subst e; exact h2.1 ha⟩) (fun a ha => ?_)
              rcases List.mem_append.1 ha with ha | ha
              · exact HSn.out.2.1 a ha
              · simp at ha; subst ha; exact h2.2.1
            simp at h3
            omega
          case rel =>
            have h2 := HJ.out
            have hgrow := hg
            have hitb : some wo.heap.size ≠ u4.ownBlock := fun e => by
              obtain ⟨cells, hcl⟩ := own_typed (Kd.own_of_R HO2.out) _ e.symm
              rw [HI.out] at hcl
              cases hcl
            have hmb : some (M i) ≠ u4.ownBlock := fun e => by
              obtain ⟨cells, hcl⟩ := own_typed (Kd.own_of_R HO2.out) _ e.symm
              rw [HM2.out] at hcl
              cases hcl
            refine ⟨seen ++ [j], ⟨?_, ?_, ?_⟩, ⟨?_⟩, ⟨?_⟩, ⟨hb⟩, ⟨?_⟩, ⟨?_⟩⟩
            · exact List.nodup_append.2 ⟨HSn.out.1, by simp, fun a ha b hb' => by simp at hb'; subst hb'; intro e; subst e; exact h2.1 ha⟩
            · intro a ha
              rcases List.mem_append.1 ha with ha | ha
              · exact HSn.out.2.1 a ha
              · simp at ha; subst ha; exact h2.2.1
            · have := HSn.out.2.2
              have h4 : seen.length < (T i).length := by
                have h5 := nodup_len (l := seen ++ [j]) (n := (T i).length) (List.nodup_append.2 ⟨HSn.out.1, by simp, fun a ha b hb' => by simp at hb'; subst hb'; intro e; subst e; exact h2.1 ha⟩) (fun a ha => by
                  rcases List.mem_append.1 ha with ha | ha
                  · exact HSn.out.2.1 a ha
                  · simp at ha; subst ha; exact h2.2.1)
                simp at h5
                omega
              rw [List.length_append, List.length_singleton]
              omega
            · have := HR3.out
              rw [List.length_map] at this
              rw [hgrow.block _ (by have := lt_of_heap HR3.out; exact this) hitb]
              exact this
            · rw [List.map_append, ← List.append_assoc]
              simp only [List.map_cons, List.map_nil, h2.2.2]
              exact ho
            · rw [hgrow.block _ (lt_of_heap HM3.out) hmb]
              exact HM3.out
            · have := HZ3.out; have := hgrow.size; omega
    · have : i = 8 := by omega
      subst this
      have hlen : ks.length = (keysUp T 8).length := HP.out.length_eq
      have hk8 : ks.length * 8 ≤ 140737488355328 := by have := HN.out; omega
      have HK8 := Aside0.mk hk8
      have HLEN := Aside0.mk hlen
      clear hlen hk8
      go_wp2_with (go_at_call 85; (with_reducible refine (sort_own _ w.heap.size (fun _ => True) u4 ks HO.out HK8.out).mono ?_); rintro e w1 ⟨rfl, ho1, hg1⟩; refine Stopped.go ?_)
      refine ⟨?_⟩
      have hts : sortI ks = tabKeys T := by
        unfold tabKeys sortI
        exact List.Perm.eq_of_pairwise (le := fun x y => (decide (x ≤ y)) = true) (fun a b _ _ h1 h2 => by simp at h1 h2; omega) (List.pairwise_mergeSort (fun a b c => by simp; omega) (fun a b => by simp; omega) _) (List.pairwise_mergeSort (fun a b c => by simp; omega) (fun a b => by simp; omega) _) ((List.mergeSort_perm _ _).trans (HP.out.trans (List.mergeSort_perm _ _).symm))
      rw [hts] at ho1
      have hB1 : Below w.heap.size w w1 := HB.out.grown hg1 HB.out.size (own_base (Kd.own_of_R HO.out))
      have hl1 : (tabKeys T).length = (keysUp T 8).length := by simp [tabKeys, sortI]
      obtain ⟨A, c, rfl, hcap, hC⟩ := Kd.R_reads ho1
      have HO1 := Aside0.mk ho1
      have HB1 := Aside0.mk hB1
      have HC1 := Aside0.mk hC
      have HL1 := Aside0.mk hl1
      clear ho1 hB1 hC hl1 hg1 hts HLEN HK8 HP HO HB hcap
      go_wp2_with (first | (at_make; refine Kd.R_make Kd.string (w0 := w) w.heap.size 9 rfl rfl 40 _ _ rfl ((tabKeys T).length : Int) rfl rfl Try.underlying40 (.string ⟨#[]⟩) 16 tinfo9 rfl (by decide) (by decide) ⟨#[]⟩ (ok := fun _ => True) (okp := fun _ => False) rfl (fun _ h => h.elim) trivial (by omega) (by have := HL1.out; have := HN.out; omega) HB1.out HB1.out.size ?_; intro v2 w2 ho2 hb2 hg2 hat2; refine Stopped.go ?_))
      refine ⟨?_⟩
      obtain ⟨g, cap2, rfl⟩ : ∃ g cap, v2 = .slice (some ⟨g, 0, none⟩) (tabKeys T).length cap := by
        have h := Kd.own_of_R ho2
        rw [List.length_replicate, Int.toNat_natCast] at h
        rcases h.2 with ⟨rfl, _⟩ | ⟨g, cap, cur, rfl, _⟩
        · obtain ⟨b, hb, _⟩ := hat2
          simp [Value.ownBlock] at hb
        · exact ⟨g, cap, rfl⟩
      have hT2 := HT.out.below hb2
      have hC2 := Kd.C_below HC1.out (show Below w1.heap.size w1 w2 from ⟨hg2.os, hg2.tape, hg2.output, hg2.size, fun k hk => hg2.block k hk (by simp)⟩)
      rw [Int.toNat_natCast] at ho2
      have hgb : w.heap.size ≤ g := own_base (Kd.own_of_R ho2) g rfl
      have HK2 := Aside0.mk (Kd.R_below HO1.out (show Below w1.heap.size w1 w2 from ⟨hg2.os, hg2.tape, hg2.output, hg2.size, fun k hk => hg2.block k hk (by simp)⟩))
      have HO2 := Aside0.mk ho2
      have HB2 := Aside0.mk hb2
      have HGB := Aside0.mk hgb
      have HL2 := Aside0.mk (show (tabKeys T).length ≤ 4611686018427387904 by have := HL1.out; have := HN.out; omega)
      clear ho2 hb2 hg2 hat2 hgb HB1 HC1 hT2 hC2 HO1
      go_wp2
      go_loopg [37] ((tabKeys T).length) (fun n v37 w3 => ∃ j : Int, v37 = .int .i64 j ∧ Aside0 (0 ≤ j ∧ j ≤ (tabKeys T).length ∧ j.toNat + n = (tabKeys T).length) ∧ Aside0 (Kd.string.R 9 w3 w.heap.size (fun _ => True) (.slice (some ⟨g, 0, none⟩) (tabKeys T).length cap2) ((tabVals T).take j.toNat ++ List.replicate n ⟨#[]⟩)) ∧
        Aside0 ((Kd.int .i64).R 3 w3 w.heap.size (fun _ => True) (.slice A (tabKeys T).length c) (tabKeys T)) ∧ Aside0 (Below w.heap.size w w3))
      case atStart => exact ⟨0, rfl, ⟨by omega, by omega, by simp⟩, ⟨by simpa using HO2.out⟩, ⟨HK2.out⟩, ⟨HB2.out⟩⟩
      case round =>
        obtain ⟨j, rfl, HJ, HO3, HK3, HB3⟩ := hrel
        by_cases hjl : j < (tabKeys T).length
        · have hj0 : 0 ≤ j := HJ.out.1
          obtain ⟨A', c', he, hcc, hC3⟩ := Kd.R_reads HK3.out
          have e1 : A' = A := by injection he with e1; exact e1.symm
          rw [e1] at hC3
          obtain ⟨ad, e2, hx⟩ := Kd.at_int hC3 j hj0 hjl
          clear hcc hC3 he e1
          subst e2
          have hml := HL2.out
          have hbd : decide (j < ((tabKeys T).length : Int)) = true := decide_eq_true hjl
          obtain ⟨x, hxk⟩ : ∃ x, x = rd (tabKeys T) j := ⟨_, rfl⟩
          rw [← hxk] at hx
          have HX := Aside0.mk hxk
          clear hxk
          obtain ⟨ug, hgc, hgf⟩ : ∃ ug, wr.cell? ⟨g, j.toNat, none⟩ = some ug ∧ wr.frozen? ⟨g, j.toNat, none⟩ = false := by
            have ho := Kd.own_of_R HO3.out
            rcases ho.2 with ⟨h, _⟩ | ⟨g', cap, cur, hv, hg, hb, h1, h2, h3, h4⟩
            · cases h
            · injection hv with e1 e2 e3
              injection e1 with e1
              injection e1 with e1
              subst e1
              have hlt : j.toNat < cur.size := by
                have := HJ.out
                rw [← e2] at h1
                rw [Nat.mul_one] at h3
                omega
              exact ⟨cur[j.toNat], by rw [cell_of_blk hb]; simp [hlt], frozen_of_blk hb _⟩
          have hT3 := HT.out.below HB3.out
          have hpl := plc_lt x
          have k1 : wr.drew.cell? ⟨tb, plc x * 3 + 2, none⟩ = some (.map (some (M (plc x)))) := (cell_of_blk (w := wr.drew) hT3.cells _).trans (tabCells_map _ _ _ hpl)
          have hS : stripeAt wr.drew (M (plc x)) (T (plc x)) := hT3.stripe _ hpl
          have HS := Aside0.mk hS
          have K1 := Aside0.mk k1
          have hpl8 : ((plc x : Nat) : Int) < 8 := by omega
          have htg : ¬ tb = g := by have := HGB.out; have := lt_of_heap HT.out.cells; omega
          have hgt : ¬ g = tb := fun e => htg e.symm
          clear hT3 hS
          go_wp2
          go_region_held3 (fun w' => w'.cell? ⟨tb, plc x * 3 + 2, none⟩ = some (.map (some (M (plc x))))) (first | exact K1.out | exact ((World.cell?_setCell_other _ ⟨g, j.toNat, none⟩ ⟨tb, plc x * 3 + 2, none⟩ _ (by simp [hgt])).trans K1.out)) ((first | (go_at_call 60; (with_reducible refine (place_any _ _).mono ?_); rintro e w' ⟨rfl, rfl⟩) | (go_at_call 64; (with_reducible refine (stripe_lookup tb (plc x * 3) (M (plc x)) x (T (plc x)) _ K1.out HS.out).mono ?_); rintro e w' ⟨rfl, rfl⟩)))
          go_wp2
          go_roundg (gk - 1)
          case measure => have := HJ.out; omega
          case rel =>
            obtain ⟨m, hm⟩ : ∃ m, gk = m + 1 := ⟨gk - 1, by have := HJ.out; omega⟩
            have hj3 := HJ.out
            obtain ⟨cur, hcur⟩ := own_typed (Kd.own_of_R HO3.out) g rfl
            have hjl2 : j.toNat < (tabKeys T).length := by omega
            have hrd : rd (tabKeys T) j = (tabKeys T)[j.toNat] := by simp [rd, hjl2]
            have hval : (tabVals T)[j.toNat]? = some (tabVal T x) := by
              rw [HX.out, hrd]
              simp [tabVals, hjl2]
            refine ⟨j + 1, by go_num, ⟨by omega, by omega, by omega⟩, ⟨?_⟩, ⟨?_⟩, ⟨?_⟩⟩
            · have h1 := Kd.R_putn HO3.out j (tabVal T x)
              have e1 : (j + 1).toNat = j.toNat + 1 := by omega
              rw [hm, fill_step _ _ _ _ _ hval] at h1
              rw [e1, hm, Nat.add_sub_cancel]
              exact h1
            · exact Kd.R_set HK3.out hcur (by intro q hq; simp [Kd.int, Kd.scalar] at hq; subst hq; decide) _ _
            · exact (HB3.out.setCell (p := ⟨g, j.toNat, none⟩) HGB.out _).drew
        · have hje : j = (tabKeys T).length := by have := HJ.out; omega
          subst hje
          have hgk : gk = 0 := by have := HJ.out; omega
          have HGK := Aside0.mk hgk
          clear hgk
          go_wp2
          go_ret2
          refine ⟨_, _, rfl, HK3.out, ?_, HB3.out⟩
          have h1 := HO3.out
          rw [HGK.out, List.replicate_zero, List.append_nil, Int.toNat_natCast, List.take_of_length_le (by rw [tabVals_length]; exact Nat.le_refl _)] at h1
          exact h1
end Go.Proofs.Ytdflfjcnogokgaa.PTableEnds
