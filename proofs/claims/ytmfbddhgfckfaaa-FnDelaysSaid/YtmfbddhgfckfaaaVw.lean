/- V-logic, part 20: a region whose order is drawn does what it does in the written order. -/
import Derived.Test.YtmfbddhgfckfaaaVt
namespace Go.Desk
open Go
set_option linter.all false
set_option linter.unusedVariables false

variable {c : Ctx} {L L' : LMap} {I J : Nat → Prop} {s : St} {a : Act} {w : World} {P : Program} {T : Nat → TI} {B : Nat} {m : List (Nat × Nat)}

theorem blt_iff (j i : Nat) : nblt j i = true ↔ j < i := by simp [nblt_eq]
theorem blt_false (j i : Nat) : nblt j i = false ↔ ¬ j < i := by
  rw [← blt_iff]; cases nblt j i <;> simp

/-- the facts about the records that the walk through any order uses -/
structure Plan (P : Program) (c : Ctx) (ops : Array Oper) (s0 s' : St) (rs : List Rec) (ms : List Nat) : Prop where
  len : rs.length = ops.size
  op : ∀ (i : Nat) (r : Rec), rs[i]? = some r → ops[i]? = some r.o
  ok : ∀ (i : Nat) (r : Rec), rs[i]? = some r → RecOk P c ops i (appD (fun j => nblt j i) 0 s0 rs) r ∧ newOk (appD (fun j => nblt j i) 0 s0 rs).us r.new = true
  fin : ∀ D : Nat → Bool, (∀ j, j < ops.size → D j = true) → s' = appD D 0 s0 rs
  ord : ∀ (i j : Nat) (r q : Rec), rs[i]? = some r → rs[j]? = some q → j < i → dep q r = true → Nat.testBit (getN ms i) j = true
  clo : ∀ D : Nat → Bool, (∀ (k : Nat) (o : Oper), ops[k]? = some o → D k = true → ∀ e ∈ o.after.toList, bindsAny e = true → D e.on = true) →
    ∀ (k : Nat) (o : Oper), ops[k]? = some o → (∀ e ∈ o.after.toList, bindsAny e = true → D e.on = true) → ∀ j, Nat.testBit (getN ms k) j = true → D j = true
  back : ∀ (k : Nat) (o : Oper), ops[k]? = some o → ∀ e ∈ o.after.toList, bindsAny e = true → e.on < k

section
variable {ops : Array Oper} {s0 s' : St} {rs : List Rec} {ms : List Nat}

/-- D is closed, i may come next: whoever meets i lies in D just if it is written ahead of it -/
theorem Plan.meet (p : Plan P c ops s0 s' rs ms) {D : Nat → Bool} (hD : ∀ (k : Nat) (o : Oper), ops[k]? = some o → D k = true → ∀ e ∈ o.after.toList, bindsAny e = true → D e.on = true)
    {i : Nat} {r : Rec} (hi : rs[i]? = some r) (hDi : D i = false) (hr : ∀ e ∈ r.o.after.toList, bindsAny e = true → D e.on = true)
    {j : Nat} {q : Rec} (hj : rs[j]? = some q) (h1 : dep q r = true) (h2 : dep r q = true) : D j = nblt j i := by
  rcases Nat.lt_trichotomy j i with g | g | g
  · rw [(blt_iff j i).2 g]
    exact p.clo D hD i r.o (p.op i r hi) hr j (p.ord i j r q hi hj g h1)
  · subst g; rw [hDi]; exact ((blt_false j j).2 (Nat.lt_irrefl j)).symm
  · rw [(blt_false j i).2 (by omega)]
    cases hDj : D j with
    | false => rfl
    | true =>
      have := p.clo D hD j q.o (p.op j q hj) (hD j q.o (p.op j q hj) hDj) i (p.ord j i q r hj hi g h2)
      rw [hDi] at this; cases this

theorem dep1 {q r : Rec} {x : Nat} (h : (x ∈ q.wt ∧ x ∈ r.rt) ∨ (x ∈ q.wt ∧ x ∈ r.wt) ∨ (x ∈ q.rt ∧ x ∈ r.wt) ∨ (x ∈ q.wo ∧ x ∈ r.ro) ∨ (x ∈ q.wo ∧ x ∈ r.wo) ∨ (x ∈ q.ro ∧ x ∈ r.wo)) : dep q r = true := by
  unfold dep
  rcases h with h | h | h | h | h | h <;> simp [meets_of h.1 h.2]

theorem Plan.step (p : Plan P c ops s0 s' rs ms) {D : Nat → Bool} (hD : ∀ (k : Nat) (o : Oper), ops[k]? = some o → D k = true → ∀ e ∈ o.after.toList, bindsAny e = true → D e.on = true)
    {i : Nat} {r : Rec} (hi : rs[i]? = some r) (hDi : D i = false) (hr : ∀ e ∈ r.o.after.toList, bindsAny e = true → D e.on = true) :
    (∀ t ∈ r.rt, (appD D 0 s0 rs).tm t = (appD (fun j => nblt j i) 0 s0 rs).tm t) ∧ (∀ o ∈ r.ro, (appD D 0 s0 rs).ob o = (appD (fun j => nblt j i) 0 s0 rs).ob o) ∧
    newOk (appD D 0 s0 rs).us r.new = true ∧ r.app (appD D 0 s0 rs) = appD (fun j => if j = i then true else D j) 0 s0 rs := by
  have key : ∀ {j : Nat} {q : Rec}, rs[j]? = some q → dep q r = true → dep r q = true → D j = nblt j i := fun hj h1 h2 => p.meet hD hi hDi hr hj h1 h2
  refine ⟨fun t ht => ?_, fun o ho => ?_, ?_, ?_⟩
  · refine appD_tm t D _ rs 0 s0 s0 (fun j q hj hq => ?_) rfl
    rw [Nat.zero_add]
    exact key hj (dep1 (.inl ⟨hq, ht⟩)) (dep1 (.inr (.inr (.inl ⟨ht, hq⟩))))
  · refine appD_ob o D _ rs 0 s0 s0 (fun j q hj hq => ?_) rfl
    rw [Nat.zero_add]
    exact key hj (dep1 (.inr (.inr (.inr (.inl ⟨hq, ho⟩))))) (dep1 (.inr (.inr (.inr (.inr (.inr ⟨ho, hq⟩))))))
  · refine newOk_of _ _ fun o ho => ?_
    obtain ⟨h1, h2⟩ := newOk_key _ _ (p.ok i r hi).2 o ho
    refine ⟨?_, h2⟩
    cases hu : (appD D 0 s0 rs).us o with
    | false => rfl
    | true =>
      exfalso
      have hno : ¬ ((appD (fun j => nblt j i) 0 s0 rs).us o = true) := by rw [h1]; simp
      apply hno
      rw [appD_us] at hu ⊢
      rcases hu with hu | ⟨j, q, hj, hDj, hq⟩
      · exact .inl hu
      · refine .inr ⟨j, q, hj, ?_, hq⟩
        have hw1 : o ∈ q.wo := List.mem_append_right _ hq
        have hw2 : o ∈ r.wo := List.mem_append_right _ ho
        rw [Nat.zero_add] at hDj ⊢
        show nblt j i = true
        rw [← key hj (dep1 (.inr (.inr (.inr (.inr (.inl ⟨hw1, hw2⟩)))))) (dep1 (.inr (.inr (.inr (.inr (.inl ⟨hw2, hw1⟩))))))]
        exact hDj
  · have hat := appD_at rs 0 i s0 r hi
    simp only [Nat.zero_add] at hat
    have hlast : ∀ {j : Nat} {q : Rec}, rs[j]? = some q → dep q r = true → dep r q = true → (if j = i then true else D j) = nblt j (i + 1) := by
      intro j q hj h1 h2
      by_cases e : j = i
      · subst e; rw [if_pos rfl]; exact ((blt_iff j (j + 1)).2 (Nat.lt_succ_self j)).symm
      · rw [if_neg e, key hj h1 h2]
        cases hb : nblt j i with
        | true => have := (blt_iff j i).1 hb; exact ((blt_iff j (i + 1)).2 (by omega)).symm
        | false => have := (blt_false j i).1 hb; exact ((blt_false j (i + 1)).2 (by omega)).symm
    have e1 : (r.app (appD D 0 s0 rs)).tm = (appD (fun j => if j = i then true else D j) 0 s0 rs).tm := by
      funext t
      by_cases ht : t ∈ r.wt
      · rw [app_tm, if_pos ht]
        have := appD_tm t (fun j => if j = i then true else D j) (fun j => nblt j (i + 1)) rs 0 s0 s0 (fun j q hj hq => by
          rw [Nat.zero_add]; exact hlast hj (dep1 (.inr (.inl ⟨hq, ht⟩))) (dep1 (.inr (.inl ⟨ht, hq⟩)))) rfl
        rw [this, hat, app_tm, if_pos ht]
      · rw [app_tm, if_neg ht]
        refine appD_tm t _ _ rs 0 s0 s0 (fun j q hj hq => ?_) rfl
        rw [Nat.zero_add]
        by_cases e : j = i
        · subst e; rw [hi] at hj; cases hj; exact absurd hq ht
        · rw [if_neg e]
    have e2 : (r.app (appD D 0 s0 rs)).ob = (appD (fun j => if j = i then true else D j) 0 s0 rs).ob := by
      funext o
      by_cases ho : o ∈ r.wo
      · have := appD_ob o (fun j => if j = i then true else D j) (fun j => nblt j (i + 1)) rs 0 s0 s0 (fun j q hj hq => by
          rw [Nat.zero_add]; exact hlast hj (dep1 (.inr (.inr (.inr (.inr (.inl ⟨hq, ho⟩)))))) (dep1 (.inr (.inr (.inr (.inr (.inl ⟨ho, hq⟩))))))) rfl
        rw [this, hat]
        exact (app_obw r _ o).1 ho _
      · rw [(app_obw r _ o).2 ho]
        refine appD_ob o _ _ rs 0 s0 s0 (fun j q hj hq => ?_) rfl
        rw [Nat.zero_add]
        by_cases e : j = i
        · subst e; rw [hi] at hj; cases hj; exact absurd hq ho
        · rw [if_neg e]
    have e3 : (r.app (appD D 0 s0 rs)).us = (appD (fun j => if j = i then true else D j) 0 s0 rs).us := by
      funext o
      rw [Bool.eq_iff_iff, app_us, upU_key, appD_us, appD_us]
      constructor
      · rintro ((h | ⟨j, q, h1, h2, h3⟩) | h)
        · exact .inl h
        · refine .inr ⟨j, q, h1, ?_, h3⟩
          rw [Nat.zero_add] at h2 ⊢
          show (if j = i then true else D j) = true
          split
          · rfl
          · exact h2
        · exact .inr ⟨i, r, hi, by rw [Nat.zero_add]; simp, h⟩
      · rintro (h | ⟨j, q, h1, h2, h3⟩)
        · exact .inl (.inl h)
        · rw [Nat.zero_add] at h2
          by_cases e : j = i
          · subst e; rw [hi] at h1; cases h1; exact .inr h3
          · simp only [if_neg e] at h2
            exact .inl (.inr ⟨j, q, h1, by rw [Nat.zero_add]; exact h2, h3⟩)
    cases h1 : r.app (appD D 0 s0 rs) with
    | mk tm ob us =>
      cases h2 : appD (fun j => if j = i then true else D j) 0 s0 rs with
      | mk tm' ob' us' =>
        rw [h1, h2] at e1 e2 e3
        simp only at e1 e2 e3
        rw [e1, e2, e3]

theorem Plan.walk (p : Plan P c ops s0 s' rs ms) {Q : Exit → Act → World → Prop} (hn : ∀ a w, After c (· = s') a w → Q .normal a w) :
    ∀ (fuel : Nat) (listed : Array Bool) (L : LMap) (I : Nat → Prop) (a : Act) (w : World), listed.size = ops.size →
      (∀ (k : Nat) (o : Oper), ops[k]? = some o → listed.getD k false = true → ∀ e ∈ o.after.toList, bindsAny e = true → listed.getD e.on false = true) →
      cnt (fun j => !listed.getD j false) (List.range ops.size) ≤ fuel → Sim c L I (appD (fun j => listed.getD j false) 0 s0 rs) a w → wpAny P .any ops Q fuel listed a w := by
  have done : ∀ (listed : Array Bool) (L : LMap) (I : Nat → Prop) (a : Act) (w : World), (∀ j, j < ops.size → listed.getD j false = true) → Sim c L I (appD (fun j => listed.getD j false) 0 s0 rs) a w → Q .normal a w := by
    intro listed L I a w hall h
    exact hn a w ⟨_, L, I, (p.fin _ hall).symm, h⟩
  have mem_ready : ∀ (listed : Array Bool) (i : Nat), listed.size = ops.size → (i ∈ Region.ready .any ops listed ↔ ∃ o, ops[i]? = some o ∧ listed.getD i false = false ∧ ∀ e ∈ o.after.toList, bindsAny e = true → listed.getD e.on false = true) := by
    intro listed i hsz
    simp only [Region.ready, List.mem_filter, List.mem_range, Bool.and_eq_true]
    constructor
    · rintro ⟨h1, h2, h3⟩
      have ho : ops[i]? = some ops[i] := Array.getElem?_eq_getElem h1
      refine ⟨_, ho, ?_, ?_⟩
      · have h1' : i < listed.size := by omega
        simpa [h1'] using h2
      · rw [ho] at h3
        simp only [Option.map_some, Option.getD_some, Array.all_eq_true_iff_forall_mem] at h3
        intro e he hb
        have := h3 e (by simpa using he)
        rw [binds_any, hb] at this
        simpa using this
    · rintro ⟨o, ho, h2, h3⟩
      have h1 : i < ops.size := (Array.getElem?_eq_some_iff.1 ho).1
      have h1' : i < listed.size := by omega
      refine ⟨h1, by simpa [h1'] using h2, ?_⟩
      rw [ho]
      simp only [Option.map_some, Option.getD_some, Array.all_eq_true_iff_forall_mem]
      intro e he
      rw [binds_any]
      cases hb : bindsAny e with
      | false => rfl
      | true => simpa using h3 e (by simpa using he) hb
  have none_ready : ∀ (listed : Array Bool), listed.size = ops.size → Region.ready .any ops listed = [] → ∀ j, j < ops.size → listed.getD j false = true := by
    intro listed hsz hnil j
    induction j using Nat.strongRecOn with
    | _ j ih =>
      intro hj
      cases hl : listed.getD j false with
      | true => rfl
      | false =>
        have : j ∈ Region.ready .any ops listed := (mem_ready listed j hsz).2 ⟨ops[j], Array.getElem?_eq_getElem hj, hl, fun e he hb => by
          have hlt := p.back j ops[j] (Array.getElem?_eq_getElem hj) e he hb
          exact ih e.on hlt (by omega)⟩
        rw [hnil] at this; cases this
  intro fuel
  induction fuel with
  | zero =>
    intro listed L I a w hsz hcl hc h
    have hall : ∀ j, j < ops.size → listed.getD j false = true := by
      intro j hj
      have := cnt_zero _ (Nat.le_zero.1 hc) j (List.mem_range.2 hj)
      simpa using this
    refine ⟨?_, done listed L I a w hall h⟩
    cases hr : Region.ready .any ops listed with
    | nil => rfl
    | cons x xs =>
      have hx : x ∈ Region.ready .any ops listed := by rw [hr]; simp
      obtain ⟨o, ho, h1, _⟩ := (mem_ready listed x hsz).1 hx
      rw [hall x (Array.getElem?_eq_some_iff.1 ho).1] at h1; cases h1
  | succ fuel ih =>
    intro listed L I a w hsz hcl hc h
    refine ⟨fun hnil => done listed L I a w (none_ready listed hsz hnil) h, fun i hi => ?_⟩
    obtain ⟨o, ho, hDi, hre⟩ := (mem_ready listed i hsz).1 hi
    have hin : i < ops.size := (Array.getElem?_eq_some_iff.1 ho).1
    have hir : i < rs.length := by rw [p.len]; exact hin
    have hr : rs[i]? = some rs[i] := List.getElem?_eq_getElem hir
    have hoo : o = rs[i].o := by have := p.op i _ hr; rw [ho] at this; cases this; rfl
    rw [hoo] at hre
    obtain ⟨g1, g2, g3, g4⟩ := p.step hcl hr hDi hre
    refine (p.ok i _ hr).1 _ L I a w h g1 g2 g3 _ _ ?_
    rintro a w ⟨s2, L2, I2, e, h2⟩
    subst e
    have hil : i < listed.size := by omega
    have hset : (fun j => (listed.setIfInBounds i true).getD j false) = fun j => if j = i then true else listed.getD j false := by
      funext j; exact getD_set hil
    refine ih _ L2 I2 a w (by simpa using hsz) ?_ ?_ ?_
    · intro k o' hk hDk e he hb
      rw [getD_set hil] at hDk ⊢
      split
      · rfl
      · by_cases ek : k = i
        · subst ek
          rw [ho] at hk; cases hk
          rw [hoo] at he
          exact hre e he hb
        · rw [if_neg ek] at hDk
          exact hcl k o' hk hDk e he hb
    · have := cnt_lt (p := fun j => !listed.getD j false) (p' := fun j => !(listed.setIfInBounds i true).getD j false) (i := i) (fun j hj => by
        rw [getD_set hil] at hj
        split at hj
        · simp at hj
        · exact hj) (by simp only [hDi]; rfl) (by rw [getD_set hil, if_pos rfl]; rfl) (List.range ops.size) (List.mem_range.2 hin)
      omega
    · rw [hset, ← g4]; exact h2
end

theorem vany_sound (hT : TOk P T) (ops : Array Oper) (h : Sim c L I s a w) {k : St → Prop} {Q : Exit → Act → World → Prop} (hk : vany ⟨std, T⟩ P c.N ops.toList s k) (hn : ∀ a w, After c k a w → Q .normal a w) :
    wpAny P .any ops Q ops.size (Array.replicate ops.size false) a w := by
  obtain ⟨rs, s', h1, h2, h3⟩ := vrec_sound (c := c) hT ops.toList 0 s [] (fun j => by simp) hk
  simp only [List.nil_append] at h3
  cases hb : allBack 0 ops.toList && indepAll [] rs (masks ops.toList []) <;> rw [hb] at h3 <;> simp only [cond] at h3
  obtain ⟨hb1, hb2⟩ := Bool.and_eq_true_iff.1 hb
  have hlen : rs.length = ops.size := by have := congrArg List.length h1; simpa using this
  have p : Plan P c ops s s' rs (masks ops.toList []) := {
    len := hlen
    op := fun i r hr => by
      have := congrArg (fun l => l[i]?) h1
      simp only [List.getElem?_map, hr, Option.map_some, Array.getElem?_toList] at this
      exact this.symm
    ok := fun i r hr => by have := chain_at rs 0 s s' h2 i r hr; simpa only [Nat.zero_add] using this
    fin := fun D hD => chain_end rs 0 s s' h2 D fun j hj => by rw [Nat.zero_add]; exact hD j (by omega)
    ord := fun i j r q hi hj hlt hd => indepAll_at rs [] _ hb2 i r hi j q (by simpa using hlt) (by simpa using hj) hd
    clo := fun D hD k o hk hcl j hj => masks_ok (D := D) ops.toList [] (fun x hx => by simp at hx) (fun k o hk hDk => hD k o (by simpa using hk) (by simpa using hDk)) k o (by simpa using hk) hcl j (by simpa using hj)
    back := fun k o hk e he hb => by have := back_at ops.toList 0 k o hb1 (by simpa using hk) e he hb; omega }
  have hg0 : ∀ j, (Array.replicate ops.size false).getD j false = false := by
    intro j
    rw [Array.getD_eq_getD_getElem?, Array.getElem?_replicate]
    split <;> rfl
  refine p.walk (fun a w ha => hn a w ?_) ops.size _ L I a w (by simp) (fun k o _ hD => by rw [hg0] at hD; cases hD) ?_ ?_
  · obtain ⟨s2, L2, I2, e, h4⟩ := ha
    subst e
    exact ⟨_, L2, I2, h3, h4⟩
  · have : ∀ (p : Nat → Bool) (l : List Nat), cnt p l ≤ l.length := by
      intro p l
      induction l with
      | nil => simp [cnt]
      | cons x r ih => simp only [cnt, List.length_cons]; cases p x <;> simp only [cond] <;> omega
    simpa using this _ (List.range ops.size)
  · rw [appD_false rs 0 s _ fun j _ => hg0 j]; exact h

end Go.Desk
