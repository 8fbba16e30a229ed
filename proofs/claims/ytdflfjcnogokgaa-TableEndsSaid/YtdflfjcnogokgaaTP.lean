/- TableEnds: the plain law: in a play nobody is stuck; each client's calls begin and end in its order. -/
import Derived.Test.YtdflfjcnogokgaaTO
set_option linter.unusedVariables false
set_option linter.unusedSimpArgs false
namespace Go.Proofs.Ytdflfjcnogokgaa.PTableEnds
open Go.RowKit Go.Proofs.YtdflfjcnogokgaaW.PrintWords Go.Proofs.YtdflfjcnogokgaaW.PrintLast Go.Proofs.YtdflfjcnogokgaaW.PrintMore
open Go.FT Go.MuLone

/-- The end of the beginning at i. -/
def Matched (h : List S44) (i : Nat) (b : S44) (k : Nat) : Prop :=
  i < k ∧ (∃ y, h[k]? = some y ∧ y.f0 = b.f0 ∧ y.f1 = false ∧ y.f2 = b.f2) ∧ ∀ j z, i < j → j < k → h[j]? = some z → z.f0 ≠ b.f0
theorem Matched.app {h : List S44} {i k : Nat} {b z : S44} (hm : Matched h i b k) : Matched (h ++ [z]) i b k := by
  obtain ⟨h1, ⟨y, h2, h3⟩, h4⟩ := hm
  have hk := (List.getElem?_eq_some_iff.1 h2).1
  refine ⟨h1, ⟨y, by rw [List.getElem?_append_left hk]; exact h2, h3⟩, fun j z' h5 h6 h7 => h4 j z' h5 h6 ?_⟩
  rw [List.getElem?_append_left (by omega)] at h7
  exact h7
def opsB (h : List S44) (m : Nat) : List S31 := (h.filter (fun x => x.f0 == (m : Int) && x.f1)).map (·.f2)
def ended (c : PCl) : List S31 := if c.begun then c.ops.tail else c.ops
def begs (h : List S44) : Nat := (h.filter (·.f1)).length
def nds (h : List S44) : Nat := (h.filter (fun x => !x.f1)).length
def opened (l : List PCl) : Nat := (l.filter (·.begun)).length
/-- The stripes that are locked: nobody's, or the first ones, one client's. -/
def LkOk (lk : Nat → Bool) (cls : List PCl) : Prop :=
  ∃ q : Nat, (∀ i, i < 8 → lk i = decide (i < q)) ∧ ((q = 0 ∧ ∀ c ∈ cls, c.locked = 0) ∨ ∃ (m : Nat) (c : PCl) (x : S31) (rest : List S31), cls[m]? = some c ∧ c.locked = q ∧ 0 < q ∧ c.ops = x :: rest ∧ x.f0 = 3 ∧ c.begun = true ∧ c.reply = none ∧ ∀ (k : Nat) (d : PCl), k ≠ m → cls[k]? = some d → d.locked = 0)
structure Inv (cl0 : List (List S31)) (S : PS) : Prop where
  ci : ∀ c ∈ S.cls, CI c
  len : S.cls.length = cl0.length
  rng : ∀ z ∈ S.hist, ∃ m : Nat, m < cl0.length ∧ z.f0 = m
  mat : ∀ i b, S.hist[i]? = some b → b.f1 = true → (∃ k, Matched S.hist i b k) ∨ ∃ (m : Nat) (c : PCl) (x : S31) (rest : List S31), b.f0 = m ∧ S.cls[m]? = some c ∧ c.begun = true ∧ c.ops = x :: rest ∧ x = b.f2 ∧ ∀ j z, i < j → S.hist[j]? = some z → z.f0 ≠ b.f0
  cnt : begs S.hist = nds S.hist + opened S.cls
  ops : ∀ (m : Nat) (c : PCl), S.cls[m]? = some c → opsB S.hist m ++ ended c = (rd_L3 cl0 m).filter okOp
  lks : LkOk S.lk S.cls

theorem opened_set {l : List PCl} {n : Nat} {c c' : PCl} (h : l[n]? = some c) : opened (l.set n c') + (if c.begun then 1 else 0) = opened l + (if c'.begun then 1 else 0) := by
  induction l generalizing n with
  | nil => simp at h
  | cons a l ih =>
    cases n with
    | zero =>
      simp at h
      subst h
      simp only [List.set_cons_zero, opened, List.filter_cons]
      cases a.begun <;> cases c'.begun <;> simp
    | succ n =>
      simp at h
      have := ih h
      simp only [List.set_cons_succ, opened, List.filter_cons] at this ⊢
      cases a.begun <;> simp <;> omega
theorem set_get {l : List PCl} {n m : Nat} {c' d : PCl} (h : (l.set n c')[m]? = some d) : (m = n ∧ d = c') ∨ (m ≠ n ∧ l[m]? = some d) := by
  by_cases e : m = n
  · subst e
    have hl := (List.getElem?_eq_some_iff.1 h).1
    rw [List.length_set] at hl
    rw [List.getElem?_set_self hl] at h
    exact Or.inl ⟨rfl, by injection h with h; exact h.symm⟩
  · rw [List.getElem?_set_ne (by omega)] at h
    exact Or.inr ⟨e, h⟩

/-- A client begins. -/
theorem Inv.begin {cl0 : List (List S31)} {S : PS} (h : Inv cl0 S) {n : Nat} {c : PCl} {x : S31} {rest : List S31} (hc : S.cls[n]? = some c) (hx : c.ops = x :: rest) (hb : c.begun = false) (hci : ∀ c' ∈ (S.cls.set n { c with begun := true }), CI c') :
    Inv cl0 { S with cls := S.cls.set n { c with begun := true }, hist := S.hist ++ [⟨n, true, x, z42⟩] } := by
  have hn : n < cl0.length := by rw [← h.len]; exact (List.getElem?_eq_some_iff.1 hc).1
  have hidle := (h.ci c (List.mem_of_getElem? hc)).idle hb
  have hget : (S.cls.set n { c with begun := true })[n]? = some { c with begun := true } := List.getElem?_set_self (by rw [h.len]; exact hn)
  refine ⟨hci, by simp [h.len], fun z hz => ?_, fun i b hi hbb => ?_, ?_, fun m d hd => ?_, ?_⟩
  · rcases List.mem_append.1 hz with hz | hz
    · exact h.rng z hz
    · simp at hz; subst hz; exact ⟨n, hn, rfl⟩
  · by_cases hil : i < S.hist.length
    · rw [List.getElem?_append_left hil] at hi
      rcases h.mat i b hi hbb with ⟨k, hk⟩ | ⟨m, d, y, r, h1, h2, h3, h4, h5, h6⟩
      · exact Or.inl ⟨k, hk.app⟩
      · have hmn : m ≠ n := by rintro rfl; rw [hc] at h2; injection h2 with h2; subst h2; rw [hb] at h3; cases h3
        refine Or.inr ⟨m, d, y, r, h1, by rw [List.getElem?_set_ne (by omega)]; exact h2, h3, h4, h5, fun j z hj hz => ?_⟩
        by_cases hjl : j < S.hist.length
        · rw [List.getElem?_append_left hjl] at hz; exact h6 j z hj hz
        · rw [List.getElem?_append_right (by omega)] at hz
          have := (List.getElem?_eq_some_iff.1 hz).1
          simp at this
          rw [show j - S.hist.length = 0 from by omega] at hz
          simp at hz
          subst hz
          rw [h1]
          simp
          omega
    · rw [List.getElem?_append_right (by omega)] at hi
      have h0 := (List.getElem?_eq_some_iff.1 hi).1
      simp at h0
      rw [show i - S.hist.length = 0 from by omega] at hi
      simp at hi
      subst hi
      refine Or.inr ⟨n, _, x, rest, rfl, hget, rfl, hx, rfl, fun j z hj hz => ?_⟩
      have := (List.getElem?_eq_some_iff.1 hz).1
      simp at this
      omega
  · have := opened_set (c' := { c with begun := true }) hc
    have hcn := h.cnt
    simp only [begs, nds, List.filter_append, List.length_append] at hcn ⊢
    simp [hb] at this ⊢
    omega
  · rcases set_get hd with ⟨rfl, rfl⟩ | ⟨hmn, hd⟩
    · have := h.ops m c hc
      simp only [ended, hb, hx] at this ⊢
      rw [← this]
      simp [opsB]
    · have := h.ops m d hd
      rw [← this]
      have hne : ((n : Int) == (m : Int)) = false := by simp; omega
      simp [opsB, hne]
  · obtain ⟨q, hq, hh⟩ := h.lks
    refine ⟨q, hq, ?_⟩
    rcases hh with ⟨h0, h1⟩ | ⟨m, d, y, r, h1, h2, h3, h4, h5, h6, h7, h8⟩
    · refine Or.inl ⟨h0, fun d hd => ?_⟩
      rcases List.mem_or_eq_of_mem_set hd with hd | hd
      · exact h1 d hd
      · rw [hd]; exact hidle.1
    · have hmn : m ≠ n := by rintro rfl; rw [hc] at h1; injection h1 with h1; subst h1; rw [hb] at h6; cases h6
      refine Or.inr ⟨m, d, y, r, by rw [List.getElem?_set_ne (by omega)]; exact h1, h2, h3, h4, h5, h6, h7, fun k d' hk hd' => ?_⟩
      rcases set_get hd' with ⟨rfl, rfl⟩ | ⟨_, hd'⟩
      · exact hidle.1
      · exact h8 k d' hk hd'
/-- A client ends. -/
theorem Inv.end_ {cl0 : List (List S31)} {S : PS} (h : Inv cl0 S) {n : Nat} {c : PCl} {x : S31} {rest : List S31} {r : S42} (hc : S.cls[n]? = some c) (hx : c.ops = x :: rest) (hb : c.begun = true) (hr : c.reply = some r) (hci : ∀ c' ∈ (S.cls.set n { c with ops := rest, begun := false, reply := none }), CI c') :
    Inv cl0 { S with cls := S.cls.set n { c with ops := rest, begun := false, reply := none }, hist := S.hist ++ [⟨n, false, x, r⟩] } := by
  have hn : n < cl0.length := by rw [← h.len]; exact (List.getElem?_eq_some_iff.1 hc).1
  have hidle := (h.ci c (List.mem_of_getElem? hc)).ans (by rw [hr]; rfl)
  refine ⟨hci, by simp [h.len], fun z hz => ?_, fun i b hi hbb => ?_, ?_, fun m d hd => ?_, ?_⟩
  · rcases List.mem_append.1 hz with hz | hz
    · exact h.rng z hz
    · simp at hz; subst hz; exact ⟨n, hn, rfl⟩
  · by_cases hil : i < S.hist.length
    · rw [List.getElem?_append_left hil] at hi
      rcases h.mat i b hi hbb with ⟨k, hk⟩ | ⟨m, d, y, r', h1, h2, h3, h4, h5, h6⟩
      · exact Or.inl ⟨k, hk.app⟩
      · by_cases hmn : m = n
        · subst hmn
          rw [hc] at h2
          injection h2 with h2
          subst h2
          rw [hx] at h4
          injection h4 with h4 _
          refine Or.inl ⟨S.hist.length, hil, ⟨⟨m, false, x, r⟩, by simp, by rw [h1], rfl, by rw [h4]; exact h5⟩, fun j z hj hjl hz => ?_⟩
          rw [List.getElem?_append_left hjl] at hz
          exact h6 j z hj hz
        · refine Or.inr ⟨m, d, y, r', h1, by rw [List.getElem?_set_ne (by omega)]; exact h2, h3, h4, h5, fun j z hj hz => ?_⟩
          by_cases hjl : j < S.hist.length
          · rw [List.getElem?_append_left hjl] at hz; exact h6 j z hj hz
          · rw [List.getElem?_append_right (by omega)] at hz
            have := (List.getElem?_eq_some_iff.1 hz).1
            simp at this
            rw [show j - S.hist.length = 0 from by omega] at hz
            simp at hz
            subst hz
            rw [h1]
            simp
            omega
    · rw [List.getElem?_append_right (by omega)] at hi
      have h0 := (List.getElem?_eq_some_iff.1 hi).1
      simp at h0
      rw [show i - S.hist.length = 0 from by omega] at hi
      simp at hi
      subst hi
      cases hbb
  · have := opened_set (c' := { c with ops := rest, begun := false, reply := none }) hc
    have hcn := h.cnt
    simp only [begs, nds, List.filter_append, List.length_append] at hcn ⊢
    simp [hb] at this ⊢
    omega
  · rcases set_get hd with ⟨rfl, rfl⟩ | ⟨hmn, hd⟩
    · have := h.ops m c hc
      simp only [ended, hb, hx] at this ⊢
      rw [← this]
      simp [opsB]
    · have := h.ops m d hd
      rw [← this]
      simp [opsB]
  · obtain ⟨q, hq, hh⟩ := h.lks
    refine ⟨q, hq, ?_⟩
    rcases hh with ⟨h0, h1⟩ | ⟨m, d, y, r', h1, h2, h3, h4, h5, h6, h7, h8⟩
    · refine Or.inl ⟨h0, fun d hd => ?_⟩
      rcases List.mem_or_eq_of_mem_set hd with hd | hd
      · exact h1 d hd
      · rw [hd]; exact hidle
    · have hmn : m ≠ n := by rintro rfl; rw [hc] at h1; injection h1 with h1; subst h1; rw [hr] at h7; cases h7
      refine Or.inr ⟨m, d, y, r', by rw [List.getElem?_set_ne (by omega)]; exact h1, h2, h3, h4, h5, h6, h7, fun k d' hk hd' => ?_⟩
      rcases set_get hd' with ⟨rfl, rfl⟩ | ⟨_, hd'⟩
      · exact hidle
      · exact h8 k d' hk hd'
/-- A step that is neither: of the clients only what is locked, and the answer. -/
theorem Inv.mid {cl0 : List (List S31)} {S : PS} (h : Inv cl0 S) {n : Nat} {c c' : PCl} {T : Nat → List Ent} {lk : Nat → Bool} (hc : S.cls[n]? = some c) (ho : c'.ops = c.ops) (hb : c'.begun = c.begun) (hci : ∀ d ∈ (S.cls.set n c'), CI d) (hl : LkOk lk (S.cls.set n c')) :
    Inv cl0 { T := T, lk := lk, cls := S.cls.set n c', hist := S.hist } := by
  refine ⟨hci, by simp [h.len], h.rng, fun i b hi hbb => ?_, ?_, fun m d hd => ?_, hl⟩
  · rcases h.mat i b hi hbb with hk | ⟨m, d, y, r', h1, h2, h3, h4, h5, h6⟩
    · exact Or.inl hk
    · by_cases hmn : m = n
      · subst hmn
        rw [hc] at h2
        injection h2 with h2
        subst h2
        exact Or.inr ⟨m, c', y, r', h1, List.getElem?_set_self (List.getElem?_eq_some_iff.1 hc).1, hb.trans h3, ho.trans h4, h5, h6⟩
      · exact Or.inr ⟨m, d, y, r', h1, by show (S.cls.set n c')[m]? = _; rw [List.getElem?_set_ne (by omega)]; exact h2, h3, h4, h5, h6⟩
  · have := opened_set (c' := c') hc
    have hcn := h.cnt
    rw [hb] at this
    show begs S.hist = nds S.hist + opened (S.cls.set n c')
    omega
  · rcases set_get hd with ⟨rfl, rfl⟩ | ⟨hmn, hd⟩
    · have := h.ops m c hc
      simp only [ended, hb, ho] at this ⊢
      exact this
    · exact h.ops m d hd
theorem Inv.step {cl0 : List (List S31)} {S : PS} (h : Inv cl0 S) {n : Nat} (hcan : canAt S.lk S.cls n = true) (nb : Nat) : Inv cl0 (pstep S n nb) := by
  unfold canAt at hcan
  cases hc : S.cls[n]? with
  | none => rw [hc] at hcan; cases hcan
  | some c =>
    rw [hc] at hcan
    simp only at hcan
    obtain ⟨ops, bg, lkd, rp⟩ := c
    cases ops with
    | nil => simp [pcan] at hcan
    | cons x rest =>
      have hci := CI_set (nb := nb) hc rfl h.ci
      have hcI := h.ci _ (List.mem_of_getElem? hc)
      have hnl := (List.getElem?_eq_some_iff.1 hc).1
      unfold pstep at hci ⊢
      rw [hc] at hci ⊢
      simp only at hci ⊢
      cases bg with
      | false =>
        simp only [if_true] at hci ⊢
        exact h.begin hc rfl rfl hci
      | true =>
        simp only [Bool.true_eq_false, if_false] at hci ⊢
        cases rp with
        | some r => exact h.end_ hc rfl rfl rfl hci
        | none =>
          simp only at hci ⊢
          simp only [pcan] at hcan
          by_cases h38 : x.f0 = 3 ∧ lkd < 8
          · rw [if_pos h38] at hci ⊢
            have hlk : S.lk lkd = false := by
              rw [if_pos h38.1] at hcan
              simp at hcan
              rcases hcan with hcan | hcan
              · omega
              · exact hcan
            refine h.mid hc rfl rfl hci ?_
            obtain ⟨q, hq, hh⟩ := h.lks
            refine ⟨lkd + 1, fun i hi => ?_, Or.inr ⟨n, _, x, rest, List.getElem?_set_self hnl, rfl, by omega, rfl, h38.1, rfl, rfl, fun k d hk hd => ?_⟩⟩
            · have hqe : q = lkd := by
                rcases hh with ⟨h0, h1⟩ | ⟨m, d, y, r', h1, h2, h3, h4, h5, h6, h7, h8⟩
                · rw [h0]; exact (h1 _ (List.mem_of_getElem? hc)).symm
                · by_cases hmn : n = m
                  · subst hmn; rw [hc] at h1; injection h1 with h1; subst h1; exact h2.symm
                  · have h0 : lkd = 0 := h8 n _ hmn hc
                    rw [h0, hq 0 (by omega)] at hlk
                    simp at hlk
                    omega
              by_cases hie : i = lkd
              · simp [hie]
              · simp only [if_neg hie]
                rw [hq i hi, hqe]
                simp
                omega
            · rcases set_get hd with ⟨e, _⟩ | ⟨_, hd⟩
              · exact absurd e hk
              · rcases hh with ⟨h0, h1⟩ | ⟨m, d', y, r', h1, h2, h3, h4, h5, h6, h7, h8⟩
                · exact h1 d (List.mem_of_getElem? hd)
                · by_cases hmn : n = m
                  · subst hmn; exact h8 k d hk hd
                  · have h0 : lkd = 0 := h8 n _ hmn hc
                    rw [h0, hq 0 (by omega)] at hlk
                    simp at hlk
                    omega
          · rw [if_neg h38] at hci ⊢
            refine h.mid hc rfl rfl hci ?_
            obtain ⟨q, hq, hh⟩ := h.lks
            by_cases h3 : x.f0 = 3
            · refine ⟨0, fun i hi => by simp [effL, h3], Or.inl ⟨rfl, fun d hd => ?_⟩⟩
              have hle : lkd ≤ 8 := hcI.le
              have h8' : lkd = 8 := by omega
              obtain ⟨k, hk⟩ := List.getElem?_of_mem hd
              rcases set_get hk with ⟨_, rfl⟩ | ⟨hkn, hk⟩
              · simp [effC, h3]
              · rcases hh with ⟨h0, h1⟩ | ⟨m, d', y, r', h1, h2, h3, h4, h5, h6, h7, h8⟩
                · exact h1 d (List.mem_of_getElem? hk)
                · by_cases hmn : n = m
                  · subst hmn; exact h8 k d hkn hk
                  · have h0 : lkd = 0 := h8 n _ hmn hc
                    omega
            · have hl0 : lkd = 0 := hcI.plain x rest rfl h3
              refine ⟨q, fun i hi => by simp [effL, h3, hq i hi], ?_⟩
              rcases hh with ⟨h0, h1⟩ | ⟨m, d', y, r', h1, h2, h3', h4, h5, h6, h7, h8⟩
              · refine Or.inl ⟨h0, fun d hd => ?_⟩
                rcases List.mem_or_eq_of_mem_set hd with hd | hd
                · exact h1 d hd
                · rw [hd]; simp [effC, h3, hl0]
              · have hmn : m ≠ n := by rintro rfl; rw [hc] at h1; injection h1 with h1; subst h1; simp at h2; omega
                refine Or.inr ⟨m, d', y, r', by rw [List.getElem?_set_ne (by omega)]; exact h1, h2, h3', h4, h5, h6, h7, fun k d hk hd => ?_⟩
                rcases set_get hd with ⟨rfl, rfl⟩ | ⟨_, hd⟩
                · simp [effC, h3, hl0]
                · exact h8 k d hk hd
/-- NOBODY IS STUCK: if nobody can go on, nobody has a call left. -/
theorem Inv.free {cl0 : List (List S31)} {S : PS} (h : Inv cl0 S) (hno : ∀ n, n < S.cls.length → canAt S.lk S.cls n = false) : ∀ c ∈ S.cls, c.ops = [] := by
  obtain ⟨q, hq, hh⟩ := h.lks
  rcases hh with ⟨h0, h1⟩ | ⟨m, d, y, r', h1, h2, h3, h4, h5, h6, h7, h8⟩
  · intro c hc
    obtain ⟨k, hk⟩ := List.getElem?_of_mem hc
    have := hno k (List.getElem?_eq_some_iff.1 hk).1
    unfold canAt at this
    rw [hk] at this
    cases hx : c.ops with
    | nil => rfl
    | cons x rest =>
      simp only [pcan, hx] at this
      have hl : ∀ i, i < 8 → S.lk i = false := fun i hi => by rw [hq i hi, h0]; simp
      have hc0 := h1 c hc
      by_cases h3 : x.f0 = 3
      · simp [h3, hc0, hl 0 (by omega)] at this
      · simp [h3, hl _ (plc_lt x.f1)] at this
  · exfalso
    have := hno m (List.getElem?_eq_some_iff.1 h1).1
    unfold canAt at this
    rw [h1] at this
    simp only [pcan, h4, h6, h7, h5] at this
    have hle := (h.ci d (List.mem_of_getElem? h1)).le
    by_cases h8' : d.locked = 8
    · simp [h8'] at this
    · have := hq d.locked (by omega)
      simp [h2] at this
      simp_all
theorem ppick_no {p : Nat → Bool} {n : Nat} {script : List Int} {last : Int} (h : (ppick p n script last).1 < 0) : ∀ k, k < n → p k = false := by
  intro k hk
  cases hp : p k with
  | false => rfl
  | true =>
    exfalso
    have hmem : k ∈ rdyN p n := List.mem_filter.2 ⟨List.mem_range.2 hk, hp⟩
    have hall : ∀ z ∈ rdy p n, 0 ≤ z := fun z hz => by
      simp only [rdy, List.mem_map] at hz
      obtain ⟨m, _, rfl⟩ := hz
      omega
    unfold ppick at h
    split at h
    · rename_i s hs
      unfold rdy at hs
      rw [List.map_eq_nil_iff] at hs
      rw [hs] at hmem
      cases hmem
    · rename_i r rs k s hs
      have h0 : (0 : Int) < ((r :: rs).length : Int) := by simp [List.length_cons]; try omega
      have h1 := Int.emod_nonneg k (show ((r :: rs).length : Int) ≠ 0 by omega)
      have h2 := Int.emod_lt_of_pos k h0
      have hl : (k % ((r :: rs).length : Int)).toNat < (r :: rs).length := by omega
      simp only at h
      rw [List.getD_eq_getElem?_getD, List.getElem?_eq_getElem hl] at h
      have := hall _ (by rw [hs]; exact List.getElem_mem hl)
      simp only [Option.getD_some] at h
      omega
    · rename_i r rs hs
      simp only at h
      have h0 := hall r (by rw [hs]; exact List.mem_cons_self)
      split at h <;> omega
end Go.Proofs.Ytdflfjcnogokgaa.PTableEnds
