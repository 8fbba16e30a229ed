/- A play. -/
import Derived.Test.YtdflfjcnogokgaaTK
set_option linter.unusedVariables false
set_option linter.unusedSimpArgs false
namespace Go.Proofs.Ytdflfjcnogokgaa.PTableEnds
open Go.RowKit Go.Proofs.YtdflfjcnogokgaaW.PrintWords Go.Proofs.YtdflfjcnogokgaaW.PrintLast Go.Proofs.YtdflfjcnogokgaaW.PrintMore
open Go.FT Go.MuLone

set_option maxRecDepth 100000 in
set_option maxHeartbeats 4000000 in
theorem play_many (A0 : Option Addr) (c0 : Nat) (l0 : List (List S31)) (v1 : Value) (w : World) (h64 : 64 < l0.length) (hm : l0.length ≤ 9223372036854775807) (hv1 : ∃ a n c, v1 = .slice a n c) :
    Calls Try.prog 12 #[.slice A0 l0.length c0, v1] w fun e w' => e = .returned (.slice none 0 0) ∧ Below w.heap.size w w' := by
  obtain ⟨a, n, c, rfl⟩ := hv1
  go_enter Try.func12, Try.ntmps12
  go_wp2
  go_ret
  exact ⟨rfl, (Below.refl _ _).alloc (Nat.le_refl _) _⟩

theorem tinfo84 : (Try.prog.info? 84).map (fun i => (i.zero, i.size, i.bytes)) = some (some (.pointer none), 1, 8) := by kernel_rfl
theorem take_filter_yes {li : List S31} {j : Nat} {x : S31} (h : li[j]? = some x) (hk : okOp x = true) : (li.take (j + 1)).filter okOp = (li.take j).filter okOp ++ [x] := by
  rw [List.take_add_one, h, List.filter_append]
  simp [hk]
theorem take_filter_no {li : List S31} {j : Nat} {x : S31} (h : li[j]? = some x) (hk : okOp x = false) : (li.take (j + 1)).filter okOp = (li.take j).filter okOp := by
  rw [List.take_add_one, h, List.filter_append]
  simp [hk]
theorem mem_le_sum {l : List Nat} {a : Nat} (h : a ∈ l) : a ≤ l.sum := by
  induction l with
  | nil => simp at h
  | cons b l ih =>
    rw [List.sum_cons]
    rcases List.mem_cons.1 h with h | h
    · omega
    · have := ih h; omega
theorem wts_ge (l : List S31) : l.length ≤ wts l := by
  induction l with
  | nil => simp [wts]
  | cons x l ih =>
    have : 1 ≤ wt x := by unfold wt; split <;> omega
    simp only [wts, List.map_cons, List.sum_cons, List.length_cons] at ih ⊢
    omega
theorem remC_new (l : List S31) : remC (newCl l) = wts (l.filter okOp) := by
  unfold remC newCl
  cases h : l.filter okOp with
  | nil => simp [wts]
  | cons x r => simp [prog, wts]
theorem left_ge (l0 : List (List S31)) (i : Nat) (li : List S31) (h : l0[i]? = some li) : (li.filter okOp).length ≤ left (start l0) := by
  have h1 : remC (newCl li) ≤ left (start l0) := by
    unfold left start
    exact mem_le_sum (List.mem_map_of_mem (List.mem_map_of_mem (List.mem_of_getElem? h)))
  rw [remC_new] at h1
  exact Nat.le_trans (wts_ge _) h1
/-- The stage that is being laid: i clients are there. -/
def laying (l0 : List (List S31)) (i : Nat) : PS := ⟨fun _ => [], fun _ => false, (l0.take i).map newCl, []⟩

theorem OpsAt.of_R {w : World} {base : Nat} {v : Value} {ops : List S31} (h : k31.R 31 w base (fun _ => True) v ops) : OpsAt w v ops := by
  obtain ⟨_, inner, ho, hr⟩ := h
  rcases ho.2 with ⟨rfl, hn⟩ | ⟨g, cap, cur, rfl, hg, hb, h1, h2, h3, h4⟩
  · have : ops = [] := List.eq_nil_of_length_eq_zero hn
    subst this
    exact ⟨none, 0, rfl, Nat.le_refl _, by omega, fun h => by simp at h⟩
  · refine ⟨_, cap, rfl, h1, by simp only [maxLen] at h2; omega, fun _ => ⟨g, 0, cur, rfl, hb, fun j x hj => ?_⟩⟩
    have h5 := hr.2 j x hj
    have h6 := k31_openM h5
    have hjl : j < ops.length := (List.getElem?_eq_some_iff.1 hj).1
    have hc : ∀ (i : Nat) (u : Value), [Value.int .i64 x.f0, .int .i64 x.f1, .string x.f2][i]? = some u → cur[0 + j * 3 + i]? = some u := fun i u hu => by
      have hi : i < 3 := by have := (List.getElem?_eq_some_iff.1 hu).1; simpa using this
      have e1 : ((inner.drop (j * 3)).take 3)[i]? = some u := by
        have := h6
        simp only [k31, Kd.iso, Kd.pair, Kd.int, Kd.string, Kd.scalar] at this
        rw [show (1 + (1 + 1)) = 3 from rfl] at this
        rw [this]; exact hu
      rw [List.getElem?_take_of_lt hi, List.getElem?_drop] at e1
      have e2 : inner[j * 3 + i]? = cur.toList[j * 3 + i]? := by
        rw [← h4]
        rw [List.getElem?_take_of_lt]
        have : k31.sz = 3 := rfl
        rw [this]
        have : (j + 1) * 3 ≤ ops.length * 3 := Nat.mul_le_mul_right _ (by omega)
        omega
      rw [Nat.zero_add, ← Array.getElem?_toList, ← e2, e1]
    exact ⟨hc 0 _ rfl, hc 1 _ rfl, hc 2 _ rfl⟩
theorem laying_next {w wm w5 : World} {sb tb : Nat} {M : Nat → Nat} {cb : List Nat} {l0 : List (List S31)} {i b B : Nat} {clv hv v' ov : Value} {li : List S31} (hS : StAt w wm sb tb M cb (laying l0 i) clv hv) (hcb : wm.heap[b]? = some (.cells #[ov, .bool false, .int .i64 0, .pointer none] 87 (0, 0)))
    (hov : k31.R 31 wm B (fun _ => True) ov (li.filter okOp)) (hnew : b ∉ cb) (hbase : w.heap.size ≤ b) (hli : l0[i]? = some li) (hlen : cb.length = i) (hg : wm.grownBy w5 clv.ownBlock) (ho : ptr.R 84 w5 w.heap.size (fun _ => True) v' (cb ++ [b])) :
    StAt w (w5.setCell ⟨sb, 9, none⟩ v') sb tb M (cb ++ [b]) (laying l0 (i + 1)) v' hv ∧ SameT wm (w5.setCell ⟨sb, 9, none⟩ v') [23] := by
  have hcla : ∀ g, some g = clv.ownBlock → ∃ cells, wm.heap[g]? = some (.cells cells 84 (0, 0)) := fun g e => by
    obtain ⟨inner, h⟩ := Kd.R_own hS.cl
    exact own_typed h g e.symm
  have hns : some sb ≠ clv.ownBlock := fun e => by
    obtain ⟨cells, h⟩ := hcla sb e
    rw [hS.st] at h; injection h with h; injection h with _ h; cases h
  have h5 : w5.heap[sb]? = some (.cells (stCells tb (laying l0 i).lk clv hv) 83 (0, 0)) := (hg.block sb (lt_of_heap hS.st) hns).trans hS.st
  have hc : Chg (fun k => k = sb ∨ some k = clv.ownBlock) wm (w5.setCell ⟨sb, 9, none⟩ v') :=
    (show Chg _ wm w5 from ⟨hg.os, hg.tape, hg.output, hg.size, fun k hk hn => hg.block k hk (fun e => hn (Or.inr e))⟩).trans (Chg.set _ ⟨sb, 9, none⟩ _ (Or.inl rfl))
  have hno : ∀ (g : Nat) (cs : Array Value) (t : Nat) (z : Nat × Nat), t ≠ 83 → t ≠ 84 → wm.heap[g]? = some (Obj.cells cs t z) → ¬ (g = sb ∨ some g = clv.ownBlock) := fun g cs t z h1 h2 hgg h => by
    rcases h with h | h
    · rw [h, hS.st] at hgg; injection hgg with hgg; injection hgg with _ h3; exact h1 h3.symm
    · obtain ⟨cells, h'⟩ := hcla g h
      rw [h'] at hgg; injection hgg with hgg; injection hgg with _ h3; exact h2 h3.symm
  have hs : SameT wm (w5.setCell ⟨sb, 9, none⟩ v') [87, 31, 42, 3, 9, 44, 23] := SameT.of_chg hc (fun g cs t ht hgg => hno g cs t _ (by rintro rfl; simp at ht) (by rintro rfl; simp at ht) hgg)
  refine ⟨⟨?_, hS.tab.chg hc (hno _ _ _ _ (by decide) (by decide) hS.tab.cells) (fun j hj h => ?_) (fun g cs hgg => hno _ _ _ _ (by decide) (by decide) hgg), R_same ho (SameT.set h5 9 _ (ts := [84]) (by decide)) (by intro q hq; simp [ptr, Kd.scalar] at hq; subst hq; decide), ?_, ⟨?_, ?_⟩, R44_same hS.hist (hs.sub (by intro t ht; simp at ht; rcases ht with rfl | rfl | rfl <;> decide)), ?_, hS.lsb, ?_, hS.lM⟩, hs.sub (by intro t ht; simp at ht; subst ht; decide)⟩
  · rw [heap_set_same h5]; rfl
  · have hm := (hS.tab.stripe j hj).1
    rcases h with h | h
    · rw [h, hS.st] at hm; cases hm
    · obtain ⟨cells, h'⟩ := hcla _ h
      rw [h'] at hm; cases hm
  · exact List.nodup_append.2 ⟨hS.nd, by simp, fun a ha c hc' => by simp at hc'; subst hc'; intro e; subst e; exact hnew ha⟩
  · have := hS.cls.len
    have hl : i < l0.length := (List.getElem?_eq_some_iff.1 hli).1
    simp [laying] at this ⊢
    omega
  · intro k b2 c2 hb2 hc2
    have hl : i < l0.length := (List.getElem?_eq_some_iff.1 hli).1
    have htk : (laying l0 (i + 1)).cls = (laying l0 i).cls ++ [newCl li] := by
      simp only [laying]
      rw [List.take_add_one, hli]
      simp
    rw [htk] at hc2
    have hll := hS.cls.len
    by_cases hk : k < cb.length
    · rw [List.getElem?_append_left hk] at hb2
      rw [List.getElem?_append_left (by omega)] at hc2
      obtain ⟨ov2, rv2, h2⟩ := hS.cls.at_ k b2 c2 hb2 hc2
      exact ⟨ov2, rv2, h2.same hs (hs 87 (by simp) b2 _ h2.cells) (by simp) (by simp) (by simp) (by simp)⟩
    · rw [List.getElem?_append_right (by omega)] at hb2 hc2
      have hk2 : k - cb.length = 0 := by
        have := (List.getElem?_eq_some_iff.1 hb2).1
        simp at this
        omega
      rw [hk2] at hb2
      rw [show k - (laying l0 i).cls.length = 0 from by omega] at hc2
      simp at hb2 hc2
      subst hb2
      subst hc2
      exact ⟨ov, .pointer none, ⟨(hs 87 (by simp) _ _ hcb).trans hcb, (OpsAt.of_R hov).same hs (by simp), rfl, by simp [newCl]⟩⟩
  · refine hS.below.trans ⟨hc.os, hc.tape, hc.output, hc.size, fun k hk => hc.block k (Nat.lt_of_lt_of_le hk hS.below.size) ?_⟩
    rintro (e | e)
    · have := hS.lsb; omega
    · obtain ⟨inner, h⟩ := Kd.R_own hS.cl
      have := own_base h k e.symm
      omega
  · intro x hx
    rcases List.mem_append.1 hx with hx | hx
    · exact hS.lcb x hx
    · simp at hx; subst hx; exact hbase

theorem ppick_ok (p : Nat → Bool) (n : Nat) (script : List Int) (last : Int) : (ppick p n script last).1 = -1 ∨ ∃ m : Nat, (ppick p n script last).1 = (m : Int) ∧ m < n ∧ p m = true := by
  have hmem : ∀ z ∈ rdy p n, ∃ m : Nat, z = (m : Int) ∧ m < n ∧ p m = true := fun z hz => by
    simp only [rdy, List.mem_map] at hz
    obtain ⟨m, hm, rfl⟩ := hz
    exact ⟨m, rfl, rdyN_lt p n hm⟩
  unfold ppick
  split
  · exact Or.inl rfl
  · rename_i r rs k s h
    right
    have h0 : (0 : Int) < ((r :: rs).length : Int) := by simp [List.length_cons]; try omega
    have h1 := Int.emod_nonneg k (show ((r :: rs).length : Int) ≠ 0 by omega)
    have h2 := Int.emod_lt_of_pos k h0
    have hl : (k % ((r :: rs).length : Int)).toNat < (r :: rs).length := by omega
    rw [List.getD_eq_getElem?_getD, List.getElem?_eq_getElem hl]
    exact hmem _ (by rw [h]; exact List.getElem_mem hl)
  · rename_i r rs h
    right
    by_cases hr : rnd p last n < 0
    · simp only [if_pos hr]
      exact hmem r (by rw [h]; exact List.mem_cons_self)
    · simp only [if_neg hr]
      unfold rnd at hr ⊢
      cases hf : (rdyN p n).find? (fun n : Nat => decide (last < (n : Int))) with
      | none => rw [hf] at hr; simp at hr
      | some m => exact ⟨m, rfl, rdyN_lt p n (List.mem_of_find?_eq_some hf)⟩
/-- What is picked can go on. -/
def Picked (S : PS) (last : Int) : Prop := last = -1 ∨ ∃ (m : Nat) (c : PCl) (x : S31) (rest : List S31), last = (m : Int) ∧ S.cls[m]? = some c ∧ c.ops = x :: rest
theorem picked_next (S : PS) (script : List Int) (last : Int) : Picked S (pnext S script last).1 := by
  rcases ppick_ok (canAt S.lk S.cls) S.cls.length script last with h | ⟨m, h, hm, hp⟩
  · exact Or.inl h
  · right
    unfold canAt at hp
    cases hc : S.cls[m]? with
    | none => rw [hc] at hp; cases hp
    | some c =>
      rw [hc] at hp
      simp only [pcan] at hp
      cases hx : c.ops with
      | nil => rw [hx] at hp; cases hp
      | cons x rest => exact ⟨m, c, x, rest, h, hc, hx⟩
theorem CI_start (l0 : List (List S31)) : ∀ c ∈ (start l0).cls, CI c := by
  intro c hc
  simp only [start, List.mem_map] at hc
  obtain ⟨l, _, rfl⟩ := hc
  refine ⟨fun x hx => ?_, by simp [newCl], fun _ => ⟨rfl, rfl⟩, fun h => by simp [newCl] at h, fun _ _ _ _ => rfl, fun _ => rfl⟩
  simp only [newCl, List.mem_filter, okOp, Bool.and_eq_true, decide_eq_true_eq] at hx
  exact hx.2
theorem start_strip (l0 : List (List S31)) : (start l0).strip = start l0 := by
  simp only [PS.strip, start]
  congr 1
/-- What the loop of a play knows: L0 steps in all. -/
structure Going (S : PS) (script : List Int) (last : Int) (g n L0 : Nat) (Sf : PS) : Prop where
  ci : ∀ c ∈ S.cls, CI c
  len : S.cls.length = n
  picked : Picked S last
  left_ : g = left S
  hist : S.hist.length + left S ≤ L0
  keys : (keysUp S.T 8).length + left S ≤ L0
  run : prun (g + 1) S.strip script last = Sf
theorem Going.start_ (l0 : List (List S31)) (l1 : List Int) (n : Nat) (hn : l0.length = n) : Going (start l0) (pnext (start l0) l1 (-1)).2 (pnext (start l0) l1 (-1)).1 (left (start l0)) n (left (start l0)) (prun (left (start l0) + 1) (start l0) (pnext (start l0) l1 (-1)).2 (pnext (start l0) l1 (-1)).1) :=
  ⟨CI_start l0, by simp [start, hn], picked_next _ _ _, rfl, by simp [start], by rw [show (keysUp (start l0).T 8) = [] from rfl]; simp, by rw [start_strip]⟩
theorem Going.step_ {S : PS} {script : List Int} {g n L0 : Nat} {Sf : PS} {m : Nat} {c : PCl} {x : S31} {rest : List S31} (h : Going S script (m : Int) g n L0 Sf) (hc : S.cls[m]? = some c) (hx : c.ops = x :: rest) (nb : Nat) :
    Going (pstep S m nb) (pnext (pstep S m nb) script m).2 (pnext (pstep S m nb) script m).1 (g - 1) n L0 Sf ∧ 0 < g := by
  have hl := pstep_left S m nb c x rest hc hx (h.ci c (List.mem_of_getElem? hc))
  have h1 := h.left_
  have h2 := h.hist
  have h3 := h.keys
  refine ⟨⟨CI_set hc hx h.ci, (pstep_len S m nb).trans h.len, picked_next _ _ _, by omega, ?_, ?_, ?_⟩, by omega⟩
  · have := pstep_hist S m nb; omega
  · have := pstep_keys S m nb; omega
  · have hr := h.run
    rw [prun, if_neg (by omega), Int.toNat_natCast, ← pstep_strip S m nb] at hr
    rw [show g - 1 + 1 = g from by omega]
    exact hr
theorem Going.done {S : PS} {script : List Int} {last : Int} {g n L0 : Nat} {Sf : PS} (h : Going S script last g n L0 Sf) (hl : last < 0) : Sf.hist = S.hist := by
  have hr := h.run
  rw [prun, if_pos hl] at hr
  rw [← hr]
  rfl

set_option maxRecDepth 100000 in
set_option maxHeartbeats 4000000 in
theorem play_any (A0 : Option Addr) (c0 : Nat) (l0 : List (List S31)) (A1 : Option Addr) (c1 : Nat) (l1 : List Int) (w : World) (hr0 : Kd.C (Kd.slice 31 k31) w A0 l0.length l0) (hc0 : l0.length ≤ c0) (hr1 : Kd.C (Kd.int .i64) w A1 l1.length l1) (hc1 : l1.length ≤ c1) (hc1m : c1 ≤ 9223372036854775807) (h64 : l0.length ≤ 64)
    (hb : (left (start l0) + 1) * 120 ≤ 140737488355328) :
    Calls Try.prog 12 #[.slice A0 l0.length c0, .slice A1 l1.length c1] w fun e w' => ∃ v, e = .returned v ∧ k44.R 44 w' w.heap.size (fun _ => True) v (pplay l0 l1) ∧ Below w.heap.size w w' := by
  have HR0 := Aside0.mk hr0
  have HC0 := Aside0.mk hc0
  have HR1 := Aside0.mk hr1
  have HC1 := Aside0.mk hc1
  have HC1M := Aside0.mk hc1m
  have HBD := Aside0.mk hb
  clear hr0 hc0 hr1 hc1 hb hc1m
  obtain ⟨n0, hn0⟩ : ∃ n, n = l0.length := ⟨_, rfl⟩
  rw [← hn0] at h64 ⊢
  have HN0 := Aside0.mk hn0
  clear hn0
  go_enter Try.func12, Try.ntmps12
  go_wp2_with (go_at_call 27; refine Stopped.go ?_)
  refine ⟨?_⟩
  refine (table_new _).mono ?_
  rintro e w1 ⟨rfl, hT1, hb1⟩
  obtain ⟨O1, hO1⟩ : ∃ O, O = Obj.cells #[.slice A1 l1.length c1] 23 := ⟨_, rfl⟩
  rw [← hO1] at hT1 hb1 ⊢
  have hsz1 : (w.alloc O1).heap.size = w.heap.size + 1 := size_alloc _ _
  rw [hsz1] at hT1 hb1 ⊢
  have hbw : Below w.heap.size w w1 := ((Below.refl _ _).alloc (Nat.le_refl _) O1).trans (hb1.mono (by omega))
  have hsc : ScAt w w1 w.heap.size l1 := ⟨A1, c1, by rw [hb1.block _ (by omega), heap_alloc_at, hO1], HC1.out, HC1M.out, HR1.out⟩
  have HT1 := Aside0.mk hT1
  have HBW := Aside0.mk hbw
  have HSC := Aside0.mk hsc
  have HS1 := Aside0.mk (show w.heap.size < w1.heap.size from lt_of_heap (hsc.choose_spec.choose_spec.1))
  obtain ⟨tb, htb⟩ : ∃ t, t = w.heap.size + 1 := ⟨_, rfl⟩
  rw [← htb]
  have HTB := Aside0.mk htb
  clear hT1 hb1 hbw hsc hO1 hsz1 htb
  go_wp2
  obtain ⟨sb, hsb⟩ : ∃ t, t = w1.heap.size := ⟨_, rfl⟩
  have hst0 : StAt w (w1.alloc (.cells (stCells tb (fun _ => false) (.slice none 0 0) (.slice none 0 0)) 83)) sb tb (fun j => tb + 1 + j) [] (laying l0 0) (.slice none 0 0) (.slice none 0 0) := by
    have hb2 : Below w1.heap.size w1 (w1.alloc (.cells (stCells tb (fun _ => false) (.slice none 0 0) (.slice none 0 0)) 83)) := (Below.refl _ _).alloc (Nat.le_refl _) _
    refine ⟨?_, ?_, Kd.R_nil _ _ _ _ _, List.nodup_nil, ⟨by simp [laying], fun i b c h => by simp at h⟩, Kd.R_nil _ _ _ _ _, below_then HBW.out HBW.out.size hb2, ?_, fun b h => by simp at h, fun i _ => ?_⟩
    · rw [hsb, heap_alloc_at]; rfl
    · have := HT1.out.below hb2
      rw [← HTB.out] at this
      exact this
    · rw [hsb]; exact HBW.out.size
    · have := HTB.out; omega
  have HST0 := Aside0.mk hst0
  have HSB := Aside0.mk hsb
  have hscb : w.heap.size < sb := by have := HS1.out; omega
  have HSC1 : Aside0 (ScAt w (w1.alloc (.cells (stCells tb (fun _ => false) (.slice none 0 0) (.slice none 0 0)) 83)) w.heap.size l1) := ⟨HSC.out.same (SameT.alloc _ _ _)⟩
  rw [← hsb]
  clear hst0 hsb
  go_loopg [20] n0 (fun g v20 w' => ∃ (i : Nat) (cb : List Nat) (clv : Value), v20 = .int .i64 i ∧ Aside0 (g + i = n0) ∧ Aside0 (StAt w w' sb tb (fun j => tb + 1 + j) cb (laying l0 i) clv (.slice none 0 0)) ∧ Aside0 (ScAt w w' w.heap.size l1))
  case atStart => exact ⟨0, [], _, rfl, ⟨rfl⟩, HST0, HSC1⟩
  case round =>
    obtain ⟨i, cb, clv, rfl, HG, HS, HSC2⟩ := hrel
    by_cases hlt : i < n0
    · obtain ⟨wo, rfl⟩ : ∃ wo : World, wo = wr := ⟨_, rfl⟩
      obtain ⟨ad, Ai, ci, e1, hx1, hci, hCi⟩ := at_L3 HR0.out (i : Int) (by omega) (by have := HN0.out; omega)
      obtain ⟨li, hli⟩ : ∃ li, li = rd_L3 l0 (i : Int) := ⟨_, rfl⟩
      rw [← hli] at hx1 hci hCi
      rw [Int.toNat_natCast] at hx1
      have hx2 := (HS.out.below.cell (World.block_lt_of_cell? w _ hx1)).trans hx1
      have hbn : decide ((i : Int) < (n0 : Int)) = true := decide_eq_true (by omega)
      have HLI := Aside0.mk hli
      have HCI := Aside0.mk hci
      have HCC := Aside0.mk hCi
      obtain ⟨ni, hni⟩ : ∃ n, n = li.length := ⟨_, rfl⟩
      rw [← hni] at hx2
      have HNI := Aside0.mk hni
      have hnim : ni ≤ 9223372036854775807 := by rw [hni]; exact hCi.2.1
      subst e1
      clear hx1 hci hCi hli hni
      go_wp2
      obtain ⟨b, hb⟩ : ∃ b, b = wo.heap.size := ⟨_, rfl⟩
      have HB := Aside0.mk hb
      rw [← hb]
      clear hb
      go_loopg [28] ni (fun g v28 w2 => ∃ (j : Nat) (ov : Value), v28 = .int .i64 j ∧ Aside0 (g + j = ni) ∧ Aside0 (Below wo.heap.size wo w2) ∧ Aside0 (w2.heap[b]? = some (.cells #[ov, .bool false, .int .i64 0, .pointer none] 87 (0, 0))) ∧ Aside0 (k31.R 31 w2 wo.heap.size (fun _ => True) ov ((li.take j).filter okOp)))
      case atStart =>
        refine ⟨0, .slice none 0 0, rfl, ⟨rfl⟩, ⟨(Below.refl _ _).alloc (Nat.le_refl _) _⟩, ⟨by rw [HB.out, heap_alloc_at]⟩, ⟨?_⟩⟩
        exact Kd.R_nil _ _ _ _ _
      case round =>
        obtain ⟨j, ov, rfl, HGJ, HB2, HBC, HOV⟩ := hrel
        by_cases hjl : j < ni
        · obtain ⟨wm, rfl⟩ : ∃ wm : World, wm = wr := ⟨_, rfl⟩
          obtain ⟨ad2, e2, y0, y1, y2⟩ := at_T31 HCC.out (j : Int) (by omega) (by have := HNI.out; omega)
          have hbwm : Below w.heap.size w wm := below_then HS.out.below HS.out.below.size HB2.out
          replace y0 := (hbwm.cell (World.block_lt_of_cell? w _ y0)).trans y0
          replace y1 := (hbwm.cell (World.block_lt_of_cell? w _ y1)).trans y1
          replace y2 := (hbwm.cell (World.block_lt_of_cell? w _ y2)).trans y2
          obtain ⟨x, hxx⟩ : ∃ x, x = rd_T31 li (j : Int) := ⟨_, rfl⟩
          rw [← hxx] at y0 y1 y2
          have hgx : li[j]? = some x := by
            have hl : j < li.length := by have := HNI.out; omega
            rw [hxx]
            simp [rd_T31, List.getD_eq_getElem?_getD, hl]
          have HGX := Aside0.mk hgx
          have HBWM := Aside0.mk hbwm
          have hbj : decide ((j : Int) < (ni : Int)) = true := decide_eq_true (by omega)
          subst e2
          rw [Int.toNat_natCast] at y0 y1 y2
          clear hxx hgx hbwm
          have HLL : Aside0 (((li.take j).filter okOp).length + 1 ≤ left (start l0) + 1) := ⟨by
            have h1 := left_ge l0 i li (by rw [HLI.out]; have := HN0.out; simp [rd_L3, List.getD_eq_getElem?_getD, show i < l0.length by omega])
            have h2 : ((li.take j).filter okOp).length ≤ (li.filter okOp).length := ((List.take_sublist j li).filter okOp).length_le
            omega⟩
          have hlen0 : ((li.take j).filter okOp).length ≤ j := Nat.le_trans (List.length_filter_le _ _) (by simp; omega)
          have hbb2 : Aside0 (b < wm.heap.size) := ⟨lt_of_heap HBC.out⟩
          by_cases h1 : 1 ≤ x.f0
          · by_cases h3 : x.f0 ≤ 3
            · have hok : Aside0 (okOp x = true) := ⟨by simp [okOp, h1, h3]⟩
              go_wp2
              obtain ⟨O, hO⟩ : ∃ O, O = Obj.cells #[.int .i64 x.f0, .int .i64 x.f1, .string x.f2] 31 := ⟨_, rfl⟩
              rw [← hO]
              have hbw3 : Below wm.heap.size wm (wm.alloc O) := (Below.refl _ _).alloc (Nat.le_refl _) O
              have hoO : (wm.alloc O).heap[wm.heap.size]? = some O := heap_alloc_at _ _
              generalize hW : wm.alloc O = W3 at *
              have hcb3 := (hbw3.block b hbb2.out).trans HBC.out
              have hov3 := Kd.R_below HOV.out hbw3
              obtain ⟨va, vc, hvs⟩ := Kd.R_slice hov3
              subst hvs
              have b0 : W3.cell? ⟨b, 0, none⟩ = some (.slice va ((li.take j).filter okOp).length vc) := (cell_of_blk hcb3 0).trans rfl
              have bf0 : W3.frozen? ⟨b, 0, none⟩ = false := frozen_of_blk hcb3 0
              rw [hO] at hoO
              have o0 : W3.cell? ⟨wm.heap.size, 0, none⟩ = some (.int .i64 x.f0) := (cell_of_blk hoO 0).trans rfl
              have o1 : W3.cell? ⟨wm.heap.size, 1, none⟩ = some (.int .i64 x.f1) := (cell_of_blk hoO 1).trans rfl
              have o2 : W3.cell? ⟨wm.heap.size, 2, none⟩ = some (.string x.f2) := (cell_of_blk hoO 2).trans rfl
              have hnb : some b ≠ (Value.slice va ((li.take j).filter okOp).length vc).ownBlock := fun e => by
                obtain ⟨inner, ho⟩ := Kd.R_own hov3
                obtain ⟨cells, hc⟩ := own_typed ho b e.symm
                rw [hcb3] at hc; injection hc with hc; injection hc with _ h; cases h
              have HNB := Aside0.mk hnb
              have HOV3 := Aside0.mk hov3
              have HCB3 := Aside0.mk hcb3
              have hb23 : Below wo.heap.size wo W3 := below_then HB2.out HB2.out.size hbw3
              have HB23 := Aside0.mk hb23
              have b0a := cell_alloc b0
              have hL31 : (((li.take j).filter okOp).length + 1) * 32 ≤ 140737488355328 := by have := HLL.out; have := HBD.out; omega
              have HL31 := Aside0.mk hL31
              obtain ⟨lf, hlf⟩ : ∃ lf, lf = (li.take j).filter okOp := ⟨_, rfl⟩
              have HLF := Aside0.mk hlf
              rw [← hlf] at b0 b0a
              clear hbw3 hoO hW hO hcb3 hov3 hnb hb23 hL31 hlf y0 y1 y2 hx2 hlen0
              go_region_law (first | (refine Kd.R_append_step k31 (w0 := wo) (W := W3.drew) wo.heap.size (by rfl) (.tmp 44) (.tmp 46) 32 31 _ 32 (by rfl) Try.underlying32 tinfo31 (by rfl) (by decide) (by decide) (.slice va lf.length vc) lf x [.int .i64 x.f0, .int .i64 x.f1, .string x.f2] (fun _ => True) (fun _ => False) (by rfl) (by rfl) (k31_mkM _ _ _ _) (fun _ hk => hk.elim) (fun _ _ => trivial) (by rw [HLF.out]; exact HOV3.out) HB23.out.drew HB23.out.size (by rw [HLF.out]; exact HL31.out) ?_; intro v' w5 ho hbb hg hat; obtain ⟨ha', hc', rfl⟩ := Kd.R_slice ho; have hcb5 := (hg.block b (lt_of_heap HCB3.out) (by rw [HLF.out]; exact HNB.out)).trans HCB3.out; have v0 : w5.cell? ⟨b, 0, none⟩ = some (.slice va ((li.take j).filter okOp).length vc) := (cell_of_blk hcb5 0).trans rfl; have vf0 : w5.frozen? ⟨b, 0, none⟩ = false := frozen_of_blk hcb5 0; have HO5 := Aside0.mk ho; have HB5 := Aside0.mk hbb; have HCB5 := Aside0.mk hcb5; clear ho hbb hg hat hcb5))
              all_goals
                go_wp2
                go_roundg (gk - 1)
                case measure => have := HGJ.out; omega
                case rel =>
                  refine ⟨j + 1, .slice ha' (lf.length + 1) hc', by go_num, ⟨by have := HGJ.out; omega⟩, ⟨(HB5.out.setCell (p := ⟨b, 0, none⟩) (by rw [HB.out]; exact Nat.le_refl _) _)⟩, ⟨?_⟩, ⟨?_⟩⟩
                  · rw [heap_set_same HCB5.out]; rfl
                  · rw [take_filter_yes HGX.out hok.out, ← HLF.out]
                    have := HO5.out
                    rw [List.length_append, List.length_singleton] at this
                    exact Kd.R_set this HCB5.out (by intro q hq; simp [k31, Kd.iso, Kd.pair, Kd.int, Kd.string, Kd.scalar] at hq; subst hq; decide) _ _
            · have hok : Aside0 (okOp x = false) := ⟨by simp [okOp]; omega⟩
              go_wp2
              go_roundg (gk - 1)
              case measure => have := HGJ.out; omega
              case rel =>
                have hbw3 : ∀ O, Below wm.heap.size wm (wm.alloc O) := fun O => (Below.refl _ _).alloc (Nat.le_refl _) O
                exact ⟨j + 1, ov, by go_num, ⟨by have := HGJ.out; omega⟩, ⟨below_then HB2.out HB2.out.size (hbw3 _)⟩, ⟨((hbw3 _).block b hbb2.out).trans HBC.out⟩, ⟨by rw [take_filter_no HGX.out hok.out]; exact Kd.R_below HOV.out (hbw3 _)⟩⟩
          · have hok : Aside0 (okOp x = false) := ⟨by simp [okOp]; omega⟩
            go_wp2
            go_roundg (gk - 1)
            case measure => have := HGJ.out; omega
            case rel =>
              have hbw3 : ∀ O, Below wm.heap.size wm (wm.alloc O) := fun O => (Below.refl _ _).alloc (Nat.le_refl _) O
              exact ⟨j + 1, ov, by go_num, ⟨by have := HGJ.out; omega⟩, ⟨below_then HB2.out HB2.out.size (hbw3 _)⟩, ⟨((hbw3 _).block b hbb2.out).trans HBC.out⟩, ⟨by rw [take_filter_no HGX.out hok.out]; exact Kd.R_below HOV.out (hbw3 _)⟩⟩
        · have hje : j = ni := by have := HGJ.out; omega
          subst hje
          obtain ⟨wm, rfl⟩ : ∃ wm : World, wm = wr := ⟨_, rfl⟩
          have hSm := HS.out.of_below HB2.out
          have HSM := Aside0.mk hSm
          have hst := hSm.st
          obtain ⟨ha, hc, hvs⟩ := Kd.R_slice hSm.cl
          have s9 : wm.cell? ⟨sb, 9, none⟩ = some (.slice ha cb.length hc) := by rw [← hvs]; exact (cell_of_blk hst 9).trans rfl
          have f9 : wm.frozen? ⟨sb, 9, none⟩ = false := frozen_of_blk hst 9
          have s9a := cell_alloc s9
          have hcl := hSm.cl
          rw [hvs] at hcl
          have hnb : some sb ≠ (Value.slice ha cb.length hc).ownBlock := fun e => by
            obtain ⟨inner, ho⟩ := Kd.R_own hcl
            obtain ⟨cells, hcc⟩ := own_typed ho sb e.symm
            rw [hst] at hcc; injection hcc with hcc; injection hcc with _ h; cases h
          have hcb64 : cb.length < 64 := by have := HS.out.cls.len; simp [laying] at this; omega
          have HNB := Aside0.mk hnb
          have HCL := Aside0.mk hcl
          have HST := Aside0.mk hst
          have HVS := Aside0.mk hvs
          clear hSm hst hvs hcl hnb hx2
          go_wp2_with (first | (at_builtin; refine Kd.R_append ptr (w0 := w) w.heap.size rfl (.tmp 55) (.tmp 57) 81 84 (.pointer none) 8 rfl Try.underlying81 tinfo84 rfl (by decide) (by decide) (.slice ha cb.length hc) cb b [.pointer (some ⟨b, 0, none⟩)] (fun _ => True) (fun _ => False) rfl rfl rfl (fun _ hk => hk.elim) (fun _ _ => trivial) HCL.out HSM.out.below HSM.out.below.size (by omega) ?_; intro v' w5 ho hbb hg hat; obtain ⟨ha', hc', rfl⟩ := Kd.R_slice ho; have hst5 := (hg.block sb (lt_of_heap HST.out) HNB.out).trans HST.out; have v9 : w5.cell? ⟨sb, 9, none⟩ = some clv := (cell_of_blk hst5 9).trans rfl; have vf9 : w5.frozen? ⟨sb, 9, none⟩ = false := frozen_of_blk hst5 9; have HO5 := Aside0.mk ho; have HB5 := Aside0.mk hbb; have HG5 := Aside0.mk hg; clear ho hbb hg hat hst5))
          go_roundg (n0 - (i + 1))
          case measure => have := HG.out; omega
          case rel =>
            have hnew : b ∉ cb := fun hm => by
              obtain ⟨k, hk⟩ := List.getElem?_of_mem hm
              have hkl := (List.getElem?_eq_some_iff.1 hk).1
              have hll := HS.out.cls.len
              obtain ⟨ov2, rv2, h2⟩ := HS.out.cls.at_ k b _ hk (List.getElem?_eq_getElem (by omega))
              have := lt_of_heap h2.cells
              have := HB.out
              omega
            have hli : l0[i]? = some li := by
              have := HN0.out
              rw [HLI.out]
              simp [rd_L3, List.getD_eq_getElem?_getD, show i < l0.length by omega]
            have hov := HOV.out
            rw [List.take_of_length_le (by have := HNI.out; omega)] at hov
            have ho5 := HO5.out
            rw [List.length_append, List.length_singleton] at ho5
            have hlen : cb.length = i := by have h1 := HS.out.cls.len; have := HN0.out; simp [laying] at h1; omega
            have hSM := HSM.out
            have hfin := laying_next hSM HBC.out hov hnew (by have := HB.out; have := HS.out.below.size; omega) hli hlen (by rw [HVS.out]; exact HG5.out) ho5
            exact ⟨i + 1, cb ++ [b], _, by go_num, ⟨by omega⟩, ⟨hfin.1⟩, ⟨(HSC2.out.same (SameT.of_below (HB2.out) _)).same hfin.2⟩⟩
    · have hie : i = n0 := by have := HG.out; omega
      subst hie
      have hlay : laying l0 i = start l0 := by
        simp only [laying, start]
        rw [List.take_of_length_le (by have := HN0.out; omega)]
      have hS := HS.out
      rw [hlay] at hS
      have hnl : (start l0).cls.length = i := by have := HN0.out; simp [start]; omega
      have HS' := Aside0.mk hS
      have HNL := Aside0.mk hnl
      clear hlay hS hnl
      obtain ⟨wo, rfl⟩ : ∃ wo : World, wo = wr := ⟨_, rfl⟩
      go_wp2_with (go_at_call 38; refine Stopped.go ?_)
      refine ⟨?_⟩
      refine (pick_any sb tb w.heap.size w.heap.size i (start l0).lk clv (.slice none 0 0) cb (start l0).cls l1 (-1) w wo HS'.out.st HS'.out.cl HS'.out.cls HSC2.out HS'.out.below HNL.out h64 (Nat.le_refl _)).mono ?_
      rintro e w2 ⟨rfl, hg2, hsc2⟩
      have hScc := HSC2.out
      obtain ⟨sA, sc, hsh, _⟩ := hScc
      have HS2 := Aside0.mk (HS'.out.of_pick hsh (Nat.le_refl _) hg2)
      have HSC3 := Aside0.mk hsc2
      clear hg2 hsc2 hsh
      obtain ⟨pn, hpn⟩ : ∃ p, p = pnext (start l0) l1 (-1) := ⟨_, rfl⟩
      have hpn' : ppick (canAt (start l0).lk (start l0).cls) i l1 (-1) = pn := by rw [hpn, pnext, HNL.out]
      rw [hpn'] at HSC3 ⊢
      obtain ⟨pl, ps⟩ := pn
      have HPN := Aside0.mk hpn
      clear hpn hpn'
      obtain ⟨Sf, hSf⟩ : ∃ Sf, Sf = prun (left (start l0) + 1) (start l0) (pnext (start l0) l1 (-1)).2 (pnext (start l0) l1 (-1)).1 := ⟨_, rfl⟩
      have hgo := Going.start_ l0 l1 i (by have := HN0.out; omega)
      rw [← hSf] at hgo
      rw [← HPN.out] at hgo
      have HGO := Aside0.mk hgo
      have HSF := Aside0.mk hSf
      obtain ⟨L0, hL0⟩ : ∃ L, L = left (start l0) := ⟨_, rfl⟩
      have HL0 := Aside0.mk hL0
      rw [← hL0] at HGO HBD
      clear hgo hSf hL0
      go_wp2
      go_loopg [11] L0 (fun g v11 w' => ∃ (last : Int) (S : PS) (hv : Value) (script : List Int), v11 = .int .i64 last ∧ Aside0 (StAt w w' sb tb (fun j => tb + 1 + j) cb S clv hv) ∧ Aside0 (ScAt w w' w.heap.size script) ∧ Aside0 (Going S script last g i L0 Sf))
      case atStart => exact ⟨pl, start l0, _, ps, rfl, HS2, HSC3, HGO⟩
      case round =>
        obtain ⟨last, S, hv, script, rfl, HSt, HSc, HGo⟩ := hrel
        obtain ⟨wm, rfl⟩ : ∃ wm : World, wm = wr := ⟨_, rfl⟩
        rcases HGo.out.picked with hm1 | ⟨m, cc, x, rest, hm, hcc, hx⟩
        · subst hm1
          have hst := HSt.out.st
          have s10 : wm.cell? ⟨sb, 10, none⟩ = some hv := (cell_of_blk hst 10).trans rfl
          obtain ⟨ha, hc, hvs⟩ := Kd.R_slice HSt.out.hist
          subst hvs
          clear hst
          go_wp2
          go_ret
          refine ⟨_, rfl, ?_, HSt.out.below⟩
          have hpp : pplay l0 l1 = S.hist := by
            rw [← HGo.out.done (by omega), HSF.out]
            unfold pplay
            rw [if_neg (by have := HN0.out; omega)]
          rw [hpp]
          exact HSt.out.hist
        · subst hm
          have HCC := Aside0.mk hcc
          have HX := Aside0.mk hx
          clear hcc hx
          have hge : decide ((0 : Int) ≤ (m : Int)) = true := decide_eq_true (by omega)
          go_wp2_with (go_at_call 39; refine Stopped.go ?_)
          refine ⟨?_⟩
          have h120 : (S.hist.length + 1) * 120 ≤ 140737488355328 := by
            have h1 := HGo.out.hist; have := HBD.out; omega
          have h16 : ((keysUp S.T 8).length + 1) * 16 ≤ 140737488355328 := by
            have h1 := HGo.out.keys; have := HBD.out; omega
          refine (step_any w wm sb tb (fun j => tb + 1 + j) cb S clv hv m cc x rest HSt.out HCC.out HX.out (HGo.out.ci cc (List.mem_of_getElem? HCC.out)) (by rw [HGo.out.len]; exact h64) h120 h16).mono ?_
          rintro e w3 ⟨rfl, nb, hv', hSt', h23⟩
          obtain ⟨hgo', hg0⟩ := HGo.out.step_ HCC.out HX.out nb
          have HST' := Aside0.mk hSt'
          have HSC' := Aside0.mk (HSc.out.same h23)
          have HGO' := Aside0.mk hgo'
          clear h120 h16 hSt' h23 hgo'
          go_wp2_with (go_at_call 38; refine Stopped.go ?_)
          refine ⟨?_⟩
          refine (pick_any sb tb w.heap.size w.heap.size i (pstep S m nb).lk clv hv' cb (pstep S m nb).cls script (m : Int) w w3 HST'.out.st HST'.out.cl HST'.out.cls HSC'.out HST'.out.below HGO'.out.len h64 (Nat.le_refl _)).mono ?_
          rintro e w4 ⟨rfl, hg4, hsc4⟩
          have hScc := HSC'.out
          obtain ⟨sA', sc', hsh, _⟩ := hScc
          have HS4 := Aside0.mk (HST'.out.of_pick hsh (Nat.le_refl _) hg4)
          have HSC4 := Aside0.mk hsc4
          clear hg4 hsc4 hsh
          have hpq : ppick (canAt (pstep S m nb).lk (pstep S m nb).cls) i script m = pnext (pstep S m nb) script m := by rw [pnext, HGO'.out.len]
          rw [hpq] at HSC4 ⊢
          clear hpq
          go_wp2
          go_roundg (gk - 1)
          case measure => omega
          case rel => exact ⟨_, _, _, _, rfl, HS4, HSC4, HGO'⟩
end Go.Proofs.Ytdflfjcnogokgaa.PTableEnds
