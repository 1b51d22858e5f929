/- The reference's builder: its memory. -/
import Derived.Test.YtnlmikefihaldaaNa
import Derived.Test.YtnlmikefihaldaaMg
namespace Go.Proofs.Ytnlmikefihaldaa
open Go.RowKit

/-- where the builder's memory lies -/
structure RF where
  bb : Nat
  gs : Nat
  H0 : Nat
  N : Nat
  A : Option Addr
  n : Nat
  c : Nat
  A' : Option Addr
  m : Nat
  c' : Nat
structure RF.ok (F : RF) : Prop where
  ne : F.bb ≠ F.gs
  hb : F.bb < F.H0
  hg : F.gs < F.H0
  hN : F.N ≤ F.H0
  fN : ∀ b, b < F.N → b ≠ F.bb ∧ b ≠ F.gs
  cw : F.m ≤ F.c'
  nc : F.n ≤ F.c
  nl : F.n ≤ 1000000
/-- block b belongs to a stage or to the list of even blocks -/
def rB (F : RF) (w : World) (b : Nat) : Prop := (∃ k v, w.cell? ⟨F.gs, k, none⟩ = some v ∧ v.ownBlock = some b) ∨ ∃ v, w.cell? ⟨F.bb, 3, none⟩ = some v ∧ v.ownBlock = some b
/-- what the list of even blocks says -/
def evL : List (Int × Int × Int) → Nat → Int → Option Int
  | [], _, _ => none
  | (s, v, i) :: r, k, x => if s = (k : Int) + 1 ∧ v = x then some i else evL r k x
theorem evL_snoc (evs : List (Int × Int × Int)) (s v i : Int) (k : Nat) (x : Int) : evL (evs ++ [(s, v, i)]) k x = match evL evs k x with | some y => some y | none => if s = (k : Int) + 1 ∧ v = x then some i else none := by
  induction evs with
  | nil => rfl
  | cons y r ih =>
    obtain ⟨s', v', i'⟩ := y
    rw [List.cons_append, evL, evL]
    by_cases h : s' = (k : Int) + 1 ∧ v' = x
    · rw [if_pos h, if_pos h]
    · rw [if_neg h, if_neg h, ih]
structure RMem (F : RF) (l : List (Int × Int × Int)) (ws : List Int) (st : PS) (evs : List (Int × Int × Int)) (w : World) : Prop where
  xb : ∃ ve, Blk w F.bb 63 #[.slice F.A F.n F.c, .slice F.A' F.m F.c', .slice (some ⟨F.gs, 0, none⟩) (F.m + 1) (F.m + 1), ve] ∧ w.ownsRow F.H0 87 3 ve evs.length (evs.flatMap spv)
  cs : ∃ V, Blk w F.gs 23 V ∧ V.size = F.m + 1 ∧ (∀ k, k ≤ F.m → ∃ v, V[k]? = some v ∧ w.ownsRow F.H0 3 1 v (stg st.ss k).length ((stg st.ss k).map iv)) ∧
    ∀ (j k : Nat) u v b, j ≠ k → V[j]? = some u → V[k]? = some v → u.ownBlock = some b → v.ownBlock ≠ some b
  ap : ∀ (k : Nat) v ve b, w.cell? ⟨F.gs, k, none⟩ = some v → w.cell? ⟨F.bb, 3, none⟩ = some ve → v.ownBlock = some b → ve.ownBlock ≠ some b
  um : ∀ k v, st.um k v = evL evs k v
  rl : Reads w F.N 3 F.A F.n (l.flatMap spv)
  rw : Reads w F.N 1 F.A' F.m (ws.map iv)
  sz : F.H0 ≤ w.heap.size
structure RFrm (F : RF) (w w' : World) : Prop where
  os : w'.os = w.os
  tape : w'.tape = w.tape
  output : w'.output = w.output
  size : w.heap.size ≤ w'.heap.size
  block : ∀ b, b < w.heap.size → b ≠ F.gs → b ≠ F.bb → ¬ rB F w b → w'.heap[b]? = w.heap[b]?
  rows : ∀ b, rB F w' b → rB F w b ∨ w.heap.size ≤ b
theorem RFrm.refl (F : RF) (w : World) : RFrm F w w := ⟨rfl, rfl, rfl, Nat.le_refl _, fun _ _ _ _ _ => rfl, fun _ h => .inl h⟩
theorem RFrm.trans {F : RF} {a b c : World} (h : RFrm F a b) (k : RFrm F b c) : RFrm F a c :=
  ⟨k.os.trans h.os, k.tape.trans h.tape, k.output.trans h.output, Nat.le_trans h.size k.size, fun i hi h1 h2 h3 => (k.block i (Nat.lt_of_lt_of_le hi h.size) h1 h2 (fun hr => by rcases h.rows i hr with hr | hr; exact h3 hr; omega)).trans (h.block i hi h1 h2 h3), fun i hi => by
    rcases k.rows i hi with hr | hr
    · exact h.rows i hr
    · exact .inr (Nat.le_trans h.size hr)⟩
theorem rB_blk {F : RF} {w w' : World} (h : w'.heap[F.gs]? = w.heap[F.gs]?) (h' : w'.heap[F.bb]? = w.heap[F.bb]?) (b : Nat) : rB F w' b ↔ rB F w b := by
  unfold rB
  have e : ∀ k, w'.cell? ⟨F.gs, k, none⟩ = w.cell? ⟨F.gs, k, none⟩ := fun k => World.cell?_of_block h
  have e2 : w'.cell? ⟨F.bb, 3, none⟩ = w.cell? ⟨F.bb, 3, none⟩ := World.cell?_of_block h'
  simp only [e, e2]
theorem RFrm.out {F : RF} {w w' : World} (hg : F.gs < w.heap.size) (hb : F.bb < w.heap.size) {r : Option Nat} (h : w.grownBy w' r) (hr : ∀ b, r = some b → b ≠ F.gs ∧ b ≠ F.bb ∧ rB F w b) : RFrm F w w' := by
  have e := h.block F.gs hg (fun e => (hr _ e.symm).1 rfl)
  have e2 := h.block F.bb hb (fun e => (hr _ e.symm).2.1 rfl)
  exact ⟨h.os, h.tape, h.output, h.size, fun b hb h1 h2 h3 => h.block b hb (fun e => h3 (hr _ e.symm).2.2), fun b hb => .inl ((rB_blk e e2 b).1 hb)⟩
theorem RFrm.late {F : RF} {w0 w w' : World} (h0 : RFrm F w0 w) (hg : F.gs < w0.heap.size) (hb : F.bb < w0.heap.size) {r : Option Nat} (h : w.grownBy w' r) (hr : ∀ b, r = some b → w0.heap.size ≤ b) : RFrm F w0 w' := by
  have e := h.block F.gs (Nat.lt_of_lt_of_le hg h0.size) (fun e => by have := hr _ e.symm; omega)
  have e2 := h.block F.bb (Nat.lt_of_lt_of_le hb h0.size) (fun e => by have := hr _ e.symm; omega)
  exact ⟨h.os.trans h0.os, h.tape.trans h0.tape, h.output.trans h0.output, Nat.le_trans h0.size h.size, fun b hb h1 h2 h3 => (h.block b (Nat.lt_of_lt_of_le hb h0.size) (fun e => by have := hr _ e.symm; omega)).trans (h0.block b hb h1 h2 h3), fun b hb => h0.rows b ((rB_blk e e2 b).1 hb)⟩
section
variable {F : RF} {l : List (Int × Int × Int)} {ws : List Int} {st : PS} {evs : List (Int × Int × Int)} {w w' : World}
theorem RMem.gs (h : RMem F l ws st evs w) : F.gs < w.heap.size := by obtain ⟨V, h1, _⟩ := h.cs; exact h1.lt
theorem RMem.bb (h : RMem F l ws st evs w) : F.bb < w.heap.size := by obtain ⟨V, h1, _⟩ := h.xb; exact h1.lt
theorem rB_ge (h : RMem F l ws st evs w) {b : Nat} (hb : rB F w b) : F.H0 ≤ b ∧ b < w.heap.size := by
  rcases hb with ⟨k, v, h1, h2⟩ | ⟨v, h1, h2⟩
  · obtain ⟨V, g1, g2, g3, _⟩ := h.cs
    rw [g1.cell] at h1
    have hk := (Array.getElem?_eq_some_iff.1 h1).1
    obtain ⟨v', q1, q2⟩ := g3 k (by omega)
    rw [h1] at q1
    injection q1 with q1
    subst q1
    exact q2.lt b h2
  · obtain ⟨ve, g1, g2⟩ := h.xb
    rw [g1.cell] at h1
    have e : ve = v := by simpa using h1
    subst e
    exact g2.lt b h2
theorem own_blkS {base n size : Nat} {e : TypeId} {v : Value} {xs : List Value} (h : w.ownsRow base e size v n xs) (hb : ∀ g, v.ownBlock = some g → w'.heap[g]? = w.heap[g]?) : w'.ownsRow base e size v n xs := by
  obtain ⟨h1, h2⟩ := h
  refine ⟨h1, ?_⟩
  rcases h2 with h2 | ⟨g, cap, cur, rfl, a2, a3, a4⟩
  · exact .inl h2
  · exact .inr ⟨g, cap, cur, rfl, a2, (hb g rfl).trans a3, a4⟩
theorem RMem.keep (hF : F.ok) (h : RMem F l ws st evs w) (hs : w.heap.size ≤ w'.heap.size) (hk : ∀ b, b < w.heap.size → (b < F.N ∨ b = F.bb ∨ b = F.gs ∨ rB F w b) → w'.heap[b]? = w.heap[b]?) : RMem F l ws st evs w' := by
  have eg : w'.heap[F.gs]? = w.heap[F.gs]? := hk _ h.gs (.inr (.inr (.inl rfl)))
  have eb : w'.heap[F.bb]? = w.heap[F.bb]? := hk _ h.bb (.inr (.inl rfl))
  have hN : ∀ p : Addr, p.block < F.N → w'.cell? p = w.cell? p := fun p hp => World.cell?_of_block (hk _ (by have := hF.hN; have := h.sz; omega) (.inl hp))
  refine ⟨?_, ?_, fun k v ve b h1 h2 => ?_, h.um, h.rl.keep hN, h.rw.keep hN, Nat.le_trans h.sz hs⟩
  · obtain ⟨ve, h1, h2⟩ := h.xb
    refine ⟨ve, h1.blk eb, own_blkS h2 fun g e => hk g (h2.lt g e).2 (.inr (.inr (.inr (.inr ⟨ve, by rw [h1.cell]; rfl, e⟩))))⟩
  · obtain ⟨V, h1, h2, h3, h4⟩ := h.cs
    refine ⟨V, h1.blk eg, h2, fun k hk2 => ?_, h4⟩
    obtain ⟨v, g1, g2⟩ := h3 k hk2
    exact ⟨v, g1, own_blk g2 fun g e => hk g (g2.lt g e).2 (.inr (.inr (.inr (.inl ⟨k, v, by rw [h1.cell]; exact g1, e⟩))))⟩
  · rw [World.cell?_of_block eg] at h1
    rw [World.cell?_of_block eb] at h2
    exact h.ap k v ve b h1 h2
theorem RMem.stay (hF : F.ok) (h : RMem F l ws st evs w) (hb : Below w.heap.size w w') : RMem F l ws st evs w' := h.keep hF hb.size fun b h1 _ => hb.block b h1
theorem RMem.other (hF : F.ok) (h : RMem F l ws st evs w) {r : Option Nat} (hg : w.grownBy w' r) (hr : ∀ b, r = some b → F.H0 ≤ b ∧ ¬ rB F w b) : RMem F l ws st evs w' :=
  h.keep hF hg.size fun b h1 h2 => hg.block b h1 (fun e => by
    obtain ⟨h3, h4⟩ := hr _ e.symm
    have := hF.hb
    have := hF.hg
    have := hF.hN
    rcases h2 with h2 | h2 | h2 | h2
    · omega
    · omega
    · omega
    · exact h4 h2)
/-- the stage's row -/
theorem RMem.row (h : RMem F l ws st evs w) {k : Nat} (hk : k ≤ F.m) : ∃ A c, w.cell? ⟨F.gs, k, none⟩ = some (.slice A (stg st.ss k).length c) ∧ (stg st.ss k).length ≤ c ∧ w.ownsRow F.H0 3 1 (.slice A (stg st.ss k).length c) (stg st.ss k).length ((stg st.ss k).map iv) := by
  obtain ⟨V, h1, h2, h3, h4⟩ := h.cs
  obtain ⟨v, g1, g2⟩ := h3 k hk
  obtain ⟨A, c, rfl, hc, _⟩ := val_of_own g2
  exact ⟨A, c, by rw [h1.cell]; exact g1, hc, g2⟩
theorem RMem.frozen (h : RMem F l ws st evs w) (k : Nat) : w.frozen? ⟨F.gs, k, none⟩ = false := by obtain ⟨V, h1, _⟩ := h.cs; exact h1.frozen k
/-- an even block is put into the list -/
theorem rmem_even (hF : F.ok) (h : RMem F l ws st evs w) {k : Nat} {v i : Int} {ve ve' : Value} {w1 : World} (hv : w.cell? ⟨F.bb, 3, none⟩ = some ve) (hn : evL evs k v = none) (hg : w.grownBy w1 ve.ownBlock) (ho : w1.ownsRow F.H0 87 3 ve' (evs.length + 1) (evs.flatMap spv ++ [.int .i64 ((k : Int) + 1), .int .i64 v, .int .i64 i]))
    (hat : ve'.ownBlock = ve.ownBlock ∨ (∀ b, ve'.ownBlock = some b → w.heap.size ≤ b)) : RMem F l ws (putUni st k v i) (evs ++ [((k : Int) + 1, v, i)]) (w1.setCell ⟨F.bb, 3, none⟩ ve') ∧ RFrm F w (w1.setCell ⟨F.bb, 3, none⟩ ve') := by
  obtain ⟨ve0, x1, x2⟩ := h.xb
  have e0 : ve0 = ve := by rw [x1.cell] at hv; simpa using hv
  subst e0
  have hHb := hF.hb
  have hHg := hF.hg
  have hHN := hF.hN
  have hsz := h.sz
  have hown : ∀ b, b < F.H0 → ve0.ownBlock ≠ some b := fun b hb e => by have := (x2.lt b e).1; omega
  have hk3 : ∀ b, b < w.heap.size → ve0.ownBlock ≠ some b → b ≠ F.bb → (w1.setCell ⟨F.bb, 3, none⟩ ve').heap[b]? = w.heap[b]? := fun b hb e2 e3 => (Below.heap_setCell w1 _ _ b e3).trans (hg.block b hb (fun e => e2 e.symm))
  have hN : ∀ p : Addr, p.block < F.N → (w1.setCell ⟨F.bb, 3, none⟩ ve').cell? p = w.cell? p := fun p hp => World.cell?_of_block (hk3 _ (by omega) (hown _ (by omega)) (hF.fN _ hp).1)
  have eg : (w1.setCell ⟨F.bb, 3, none⟩ ve').heap[F.gs]? = w.heap[F.gs]? := hk3 _ h.gs (hown _ (by omega)) hF.ne.symm
  have hB1 : Blk w1 F.bb 63 _ := x1.blk (hg.block _ h.bb (fun e => hown _ hHb e.symm))
  have hB2 := hB1.set_ 3 ve'
  have hc3 : (w1.setCell ⟨F.bb, 3, none⟩ ve').cell? ⟨F.bb, 3, none⟩ = some ve' := by rw [hB2.cell]; rfl
  have hmz : (w1.setCell ⟨F.bb, 3, none⟩ ve').heap.size = w1.heap.size := by simp [World.setCell]
  have hgz := hg.size
  have hrow : ∀ (j : Nat) u b, w.cell? ⟨F.gs, j, none⟩ = some u → u.ownBlock = some b → ve0.ownBlock ≠ some b := fun j u b hu hub => h.ap j u ve0 b hu hv hub
  refine ⟨⟨⟨ve', by simpa using hB2, ?_⟩, ?_, fun j u ve b h1 h2 hub => ?_, fun j x => ?_, h.rl.keep hN, h.rw.keep hN, by omega⟩, ?_⟩
  · rw [spv_snoc, List.length_append]
    exact own_blkS ho fun g e => Below.heap_setCell w1 _ _ g (by have := (ho.lt g e).1; show g ≠ F.bb; omega)
  · obtain ⟨V, h1, h2, h3, h4⟩ := h.cs
    refine ⟨V, h1.blk eg, h2, fun j hj => ?_, h4⟩
    obtain ⟨u, g1, g2⟩ := h3 j hj
    refine ⟨u, g1, own_blk g2 fun g e => hk3 g (g2.lt g e).2 (hrow j u g (by rw [h1.cell]; exact g1) e) (by have := (g2.lt g e).1; omega)⟩
  · rw [World.cell?_of_block eg] at h1
    rw [hc3] at h2
    injection h2 with h2
    subst h2
    intro he
    rcases hat with hat | hat
    · rw [hat] at he; exact hrow j u b h1 hub he
    · have := hat b he
      have := (rB_ge h (.inl ⟨j, u, h1, hub⟩)).2
      omega
  · have hu := h.um
    rw [evL_snoc]
    show (if j = k then (fun x => if x = v then some i else st.um k x) else st.um j) x = _
    by_cases hj : j = k
    · subst hj
      rw [if_pos rfl]
      by_cases hx : x = v
      · subst hx; simp [hn]
      · simp only [if_neg hx, hu]
        cases evL evs j x with
        | some y => rfl
        | none => simp only; rw [if_neg (fun h => hx h.2.symm)]
    · rw [if_neg hj, hu]
      cases evL evs j x with
      | some y => rfl
      | none => simp only; rw [if_neg (fun h => hj (by have := h.1; omega))]
  · refine ⟨hg.os, hg.tape, hg.output, by omega, fun b hb q1 q2 q3 => hk3 b hb (fun e => q3 (.inr ⟨ve0, hv, e⟩)) q2, fun b hb => ?_⟩
    rcases hb with ⟨j, u, q1, q2⟩ | ⟨u, q1, q2⟩
    · rw [World.cell?_of_block eg] at q1; exact .inl (.inl ⟨j, u, q1, q2⟩)
    · rw [hc3] at q1
      injection q1 with q1
      subst q1
      rcases hat with hat | hat
      · rw [hat] at q2; exact .inl (.inr ⟨ve0, hv, q2⟩)
      · exact .inr (hat b q2)
/-- numbers are put at the end of a stage -/
theorem rmem_row (hF : F.ok) (h : RMem F l ws st evs w) {t : Nat} {nums : List Int} {st' : PS} {w1 : World} {v v' : Value} (ht : t ≤ F.m) (e1 : stg st'.ss t = stg st.ss t ++ nums) (e2 : ∀ j, j ≠ t → stg st'.ss j = stg st.ss j) (hum : st'.um = st.um)
    (hv : w.cell? ⟨F.gs, t, none⟩ = some v) (hg : w.grownBy w1 v.ownBlock) (ho : w1.ownsRow F.H0 3 1 v' ((stg st.ss t).length + nums.length) ((stg st.ss t).map iv ++ nums.map iv))
    (hat : v'.ownBlock = v.ownBlock ∨ (∀ b, v'.ownBlock = some b → w.heap.size ≤ b)) : RMem F l ws st' evs (w1.setCell ⟨F.gs, t, none⟩ v') ∧ RFrm F w (w1.setCell ⟨F.gs, t, none⟩ v') := by
  have hHb := hF.hb
  have hHg := hF.hg
  have hHN := hF.hN
  have hsz := h.sz
  obtain ⟨V, h1, h2, h3, h4⟩ := h.cs
  obtain ⟨v0, g1, g2⟩ := h3 t ht
  have hv0 : v0 = v := by rw [h1.cell, g1] at hv; injection hv
  subst hv0
  obtain ⟨ve, x1, x2⟩ := h.xb
  have hve : w.cell? ⟨F.bb, 3, none⟩ = some ve := by rw [x1.cell]; rfl
  have hown : ∀ b, b < F.H0 → v0.ownBlock ≠ some b := fun b hb e => by have := (g2.lt b e).1; omega
  have hk3 : ∀ b, b < w.heap.size → v0.ownBlock ≠ some b → b ≠ F.gs → (w1.setCell ⟨F.gs, t, none⟩ v').heap[b]? = w.heap[b]? := fun b hb e2 e3 => (Below.heap_setCell w1 _ _ b e3).trans (hg.block b hb (fun e => e2 e.symm))
  have hN : ∀ p : Addr, p.block < F.N → (w1.setCell ⟨F.gs, t, none⟩ v').cell? p = w.cell? p := fun p hp => World.cell?_of_block (hk3 _ (by omega) (hown _ (by omega)) (hF.fN _ hp).2)
  have eb : (w1.setCell ⟨F.gs, t, none⟩ v').heap[F.bb]? = w.heap[F.bb]? := hk3 _ h.bb (hown _ (by omega)) hF.ne
  have hB2 : Blk w1 F.gs 23 V := h1.blk (hg.block _ h1.lt (fun e => hown _ hHg e.symm))
  have hB3 := hB2.set_ t v'
  have hmz : (w1.setCell ⟨F.gs, t, none⟩ v').heap.size = w1.heap.size := by simp [World.setCell]
  have hgz := hg.size
  have hVat : ∀ (j : Nat) u, (V.setIfInBounds t v')[j]? = some u → (j = t ∧ u = v') ∨ (j ≠ t ∧ V[j]? = some u) := fun j u hu => by
    by_cases hj : j = t
    · subst hj
      rw [Array.getElem?_setIfInBounds_self_of_lt (by omega)] at hu
      injection hu with hu
      exact .inl ⟨rfl, hu.symm⟩
    · rw [Array.getElem?_setIfInBounds_ne (by omega)] at hu
      exact .inr ⟨hj, hu⟩
  have hlt : ∀ (j : Nat) u b, V[j]? = some u → u.ownBlock = some b → b < w.heap.size := fun j u b hu hb => (rB_ge h (.inl ⟨j, u, by rw [h1.cell]; exact hu, hb⟩)).2
  have hnew : ∀ (j : Nat) u b, j ≠ t → V[j]? = some u → u.ownBlock = some b → v'.ownBlock ≠ some b := fun j u b hj hu hb he => by
    rcases hat with hat | hat
    · rw [hat] at he; exact h4 j t u v0 b hj hu g1 hb he
    · have := hat b he; have := hlt j u b hu hb; omega
  have hvv : w.cell? ⟨F.gs, t, none⟩ = some v0 := hv
  refine ⟨⟨⟨ve, x1.blk eb, ?_⟩, ⟨_, hB3, by simp [h2], fun j hj => ?_, fun j j' u u' b hjj hu hu' hb => ?_⟩, fun j u ve2 b q1 q2 hub => ?_, fun j x => by rw [hum]; exact h.um j x, h.rl.keep hN, h.rw.keep hN, by omega⟩, ?_⟩
  · exact own_blkS x2 fun g e => hk3 g (x2.lt g e).2 (fun e3 => h.ap t v0 ve g hvv hve e3 e) (by have := (x2.lt g e).1; omega)
  · by_cases hjk : j = t
    · subst hjk
      refine ⟨v', Array.getElem?_setIfInBounds_self_of_lt (by omega), ?_⟩
      rw [e1, List.length_append, List.map_append]
      exact own_blk ho fun g eg => Below.heap_setCell w1 _ _ g (by have := (ho.lt g eg).1; show g ≠ F.gs; omega)
    · obtain ⟨u, q1, q2⟩ := h3 j hj
      refine ⟨u, by rw [Array.getElem?_setIfInBounds_ne (by omega)]; exact q1, ?_⟩
      rw [e2 j hjk]
      refine own_blk q2 fun g eg => ?_
      have := q2.lt g eg
      exact hk3 g this.2 (fun e => h4 j t u v0 g hjk q1 g1 eg e) (by omega)
  · rcases hVat j u hu with ⟨r1, r2⟩ | ⟨r1, r2⟩ <;> rcases hVat j' u' hu' with ⟨s1, s2⟩ | ⟨s1, s2⟩
    · omega
    · subst r2; exact fun e => hnew j' u' b s1 s2 e hb
    · subst s2; exact hnew j u b r1 r2 hb
    · exact h4 j j' u u' b hjj r2 s2 hb
  · rw [hB3.cell] at q1
    rw [World.cell?_of_block eb, hve] at q2
    injection q2 with q2
    subst q2
    rcases hVat j u q1 with ⟨r1, r2⟩ | ⟨r1, r2⟩
    · subst r2
      rcases hat with hat | hat
      · rw [hat] at hub; exact h.ap t v0 ve b hvv hve hub
      · intro he
        have := hat b hub
        have := (x2.lt b he).2
        omega
    · exact h.ap j u ve b (by rw [h1.cell]; exact r2) hve hub
  · refine ⟨hg.os, hg.tape, hg.output, by omega, fun b hb q1 q2 q3 => hk3 b hb (fun e => q3 (.inl ⟨t, v0, hvv, e⟩)) q1, fun b hb => ?_⟩
    rcases hb with ⟨j, u, q1, q2⟩ | ⟨u, q1, q2⟩
    · rw [hB3.cell] at q1
      rcases hVat j u q1 with ⟨r1, r2⟩ | ⟨r1, r2⟩
      · subst r2
        rcases hat with hat | hat
        · rw [hat] at q2; exact .inl (.inl ⟨t, v0, hvv, q2⟩)
        · exact .inr (hat b q2)
      · exact .inl (.inl ⟨j, u, by rw [h1.cell]; exact r2, q2⟩)
    · rw [World.cell?_of_block eb] at q1
      exact .inl (.inr ⟨u, q1, q2⟩)
end
end Go.Proofs.Ytnlmikefihaldaa
