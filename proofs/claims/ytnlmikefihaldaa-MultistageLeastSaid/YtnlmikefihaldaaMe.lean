/- multistage.Build: the memory of the building. -/
import Derived.Test.YtnlmikefihaldaaMc
import Derived.Test.YtnlmikefihaldaaMd
namespace Go.Proofs.Ytnlmikefihaldaa
open Go.RowKit

theorem MapIs.blk {α β : Type} {P : Program} {k e : TypeId} {kk : α → Lit} {ee : β → Lit} {w w' : World} {b n : Nat} {f : α → Option β} (h : MapIs P k e kk ee w b n f) (hb : w'.heap[b]? = w.heap[b]?) : MapIs P k e kk ee w' b n f := by
  obtain ⟨D, ⟨es, clock, hh, hr⟩, h2⟩ := h
  exact ⟨D, ⟨es, clock, hb.trans hh, hr⟩, h2⟩
theorem own_blk {w w' : World} {base n : Nat} {e : TypeId} {v : Value} {xs : List Value} (h : w.ownsRow base e 1 v n xs) (hb : ∀ g, v.ownBlock = some g → w'.heap[g]? = w.heap[g]?) : w'.ownsRow base e 1 v n xs := by
  obtain ⟨h1, h2⟩ := h
  refine ⟨h1, ?_⟩
  rcases h2 with h2 | ⟨g, cap, cur, rfl, a2, a3, a4⟩
  · exact .inl h2
  · exact .inr ⟨g, cap, cur, rfl, a2, (hb g rfl).trans a3, a4⟩
theorem Blk.blk {w w' : World} {g : Nat} {t : TypeId} {cs : Array Value} (h : Blk w g t cs) (hb : w'.heap[g]? = w.heap[g]?) : Blk w' g t cs := hb.trans h

/-- where the building's memory lies -/
structure BF where
  bl : Nat
  bw : Nat
  bu : Nat
  bla : Nat
  bb : Nat
  bf : Nat
  bs : Nat
  A : Option Addr
  n : Nat
  c : Nat
  A' : Option Addr
  m : Nat
  c' : Nat
  gs : Nat
  gf : Nat
  gu : Nat
  c0 : Nat
  H0 : Nat
  N : Nat
def ptr (b : Nat) : Value := .pointer (some ⟨b, 0, none⟩)
def BF.caps (F : BF) : Array Value := #[ptr F.bl, ptr F.bw, ptr F.bu, ptr F.bla, ptr F.bb, ptr F.bf, ptr F.bs]
def BF.clos (F : BF) : Value := .func (.func 32) #[] F.caps
def fixd (F : BF) (b : Nat) : Prop := b < F.H0 ∧ b ≠ F.gs ∧ (b < F.c0 ∨ F.c0 + 2 * (F.m + 1) ≤ b)
def mapB (F : BF) (b : Nat) : Prop := F.c0 ≤ b ∧ b < F.c0 + 2 * (F.m + 1)
structure BF.ok (F : BF) : Prop where
  fl : fixd F F.bl
  fw : fixd F F.bw
  fu : fixd F F.bu
  fla : fixd F F.bla
  fb : fixd F F.bb
  ff : fixd F F.bf
  fs : fixd F F.bs
  ggf : fixd F F.gf
  ggu : fixd F F.gu
  fN : ∀ b, b < F.N → fixd F b
  hc : F.c0 + 2 * (F.m + 1) ≤ F.H0
  hg : F.gs < F.c0
  cw : F.m ≤ F.c'
  nl : F.n ≤ 2000000
/-- block b belongs to a stage -/
def rowB (F : BF) (w : World) (b : Nat) : Prop := ∃ k v, w.cell? ⟨F.gs, k, none⟩ = some v ∧ v.ownBlock = some b
/-- the building's memory -/
structure BMem (F : BF) (l : List (Int × Int × Int)) (ws : List Int) (st : PS) (a : Nat) (w : World) : Prop where
  xl : Blk w F.bl 22 #[.slice F.A F.n F.c]
  xw : Blk w F.bw 23 #[.slice F.A' F.m F.c']
  xu : Blk w F.bu 50 #[.slice (some ⟨F.gu, 0, none⟩) (F.m + 1) (F.m + 1)]
  xla : Blk w F.bla 3 #[.int .i64 (F.m : Int)]
  xb : Blk w F.bb 53 #[F.clos]
  xf : Blk w F.bf 49 #[.slice (some ⟨F.gf, 0, none⟩) (F.m + 1) (F.m + 1)]
  xs : Blk w F.bs 26 #[.slice (some ⟨F.gs, 0, none⟩) (F.m + 1) (F.m + 1)]
  cu : ∃ V, Blk w F.gu 52 V ∧ ∀ k, k ≤ F.m → V[k]? = some (.map (some (F.c0 + 2 * k + 1)))
  cf : ∃ V, Blk w F.gf 51 V ∧ ∀ k, k ≤ F.m → V[k]? = some (.map (some (F.c0 + 2 * k)))
  cs : ∃ V, Blk w F.gs 23 V ∧ V.size = F.m + 1 ∧ (∀ k, k ≤ F.m → ∃ v, V[k]? = some v ∧ w.ownsRow F.H0 3 1 v (stg st.ss k).length ((stg st.ss k).map iv)) ∧
    ∀ (j k : Nat) u v b, j ≠ k → V[j]? = some u → V[k]? = some v → u.ownBlock = some b → v.ownBlock ≠ some b
  mf : ∀ k, k < F.m → MapIs Try.prog 9 3 Lit.string (Lit.int .i64) w (F.c0 + 2 * (k + 1)) (cnt ws st.ss k) (st.fm k)
  mu : ∀ k, k < F.m → ∃ q, q * 2 ^ bel ws k ≤ a ∧ MapIs Try.prog 3 3 (Lit.int .i64) (Lit.int .i64) w (F.c0 + 2 * (k + 1) + 1) q (st.um k)
  rl : Reads w F.N 3 F.A F.n (l.flatMap spv)
  rw : Reads w F.N 1 F.A' F.m (ws.map iv)
  sz : F.H0 ≤ w.heap.size
theorem BMem.up {F : BF} {l : List (Int × Int × Int)} {ws : List Int} {st : PS} {a b : Nat} {w : World} (h : BMem F l ws st a w) (hab : a ≤ b) : BMem F l ws st b w :=
  { h with mu := fun k hk => by obtain ⟨q, h1, h2⟩ := h.mu k hk; exact ⟨q, Nat.le_trans h1 hab, h2⟩ }
/-- the frame of a call -/
structure Frm (F : BF) (w w' : World) : Prop where
  os : w'.os = w.os
  tape : w'.tape = w.tape
  output : w'.output = w.output
  size : w.heap.size ≤ w'.heap.size
  block : ∀ b, b < w.heap.size → b ≠ F.gs → ¬ mapB F b → ¬ rowB F w b → w'.heap[b]? = w.heap[b]?
  rows : ∀ b, rowB F w' b → rowB F w b ∨ w.heap.size ≤ b
theorem Frm.refl (F : BF) (w : World) : Frm F w w := ⟨rfl, rfl, rfl, Nat.le_refl _, fun _ _ _ _ _ => rfl, fun _ h => .inl h⟩
theorem Frm.trans {F : BF} {a b c : World} (h : Frm F a b) (k : Frm F b c) : Frm F a c :=
  ⟨k.os.trans h.os, k.tape.trans h.tape, k.output.trans h.output, Nat.le_trans h.size k.size, fun i hi h1 h2 h3 => (k.block i (Nat.lt_of_lt_of_le hi h.size) h1 h2 (fun hr => by rcases h.rows i hr with hr | hr; exact h3 hr; omega)).trans (h.block i hi h1 h2 h3), fun i hi => by
    rcases k.rows i hi with hr | hr
    · exact h.rows i hr
    · exact .inr (Nat.le_trans h.size hr)⟩
theorem rowB_blk {F : BF} {w w' : World} (h : w'.heap[F.gs]? = w.heap[F.gs]?) (b : Nat) : rowB F w' b ↔ rowB F w b := by
  unfold rowB
  have e : ∀ k, w'.cell? ⟨F.gs, k, none⟩ = w.cell? ⟨F.gs, k, none⟩ := fun k => World.cell?_of_block h
  simp only [e]
/-- blocks that are none of the building's are made or written -/
theorem Frm.out {F : BF} {w w' : World} (hg : F.gs < w.heap.size) {r : Option Nat} (h : w.grownBy w' r) (hr : ∀ b, r = some b → b ≠ F.gs ∧ (rowB F w b ∨ mapB F b)) : Frm F w w' := by
  have e := h.block F.gs hg (fun e => (hr _ e.symm).1 rfl)
  exact ⟨h.os, h.tape, h.output, h.size, fun b hb h1 h2 h3 => h.block b hb (fun e => by rcases (hr _ e.symm).2 with h4 | h4; exact h3 h4; exact h2 h4), fun b hb => .inl ((rowB_blk e b).1 hb)⟩
/-- what came after the frame's start alone is written -/
theorem Frm.late {F : BF} {w0 w w' : World} (h0 : Frm F w0 w) (hg : F.gs < w0.heap.size) {r : Option Nat} (h : w.grownBy w' r) (hr : ∀ b, r = some b → w0.heap.size ≤ b) : Frm F w0 w' := by
  have e := h.block F.gs (Nat.lt_of_lt_of_le hg h0.size) (fun e => by have := hr _ e.symm; omega)
  exact ⟨h.os.trans h0.os, h.tape.trans h0.tape, h.output.trans h0.output, Nat.le_trans h0.size h.size, fun b hb h1 h2 h3 => (h.block b (Nat.lt_of_lt_of_le hb h0.size) (fun e => by have := hr _ e.symm; omega)).trans (h0.block b hb h1 h2 h3), fun b hb => h0.rows b ((rowB_blk e b).1 hb)⟩
section
variable {F : BF} {l : List (Int × Int × Int)} {ws : List Int} {st : PS} {a : Nat} {w w' : World}
theorem BMem.keep (hF : F.ok) (h : BMem F l ws st a w) (hs : w.heap.size ≤ w'.heap.size) (hk : ∀ b, b < w.heap.size → (fixd F b ∨ b = F.gs ∨ mapB F b ∨ rowB F w b) → w'.heap[b]? = w.heap[b]?) : BMem F l ws st a w' := by
  have hfx : ∀ b, fixd F b → w'.heap[b]? = w.heap[b]? := fun b hb => hk b (Nat.lt_of_lt_of_le hb.1 h.sz) (.inl hb)
  have hc := hF.hc
  have hmp : ∀ b, mapB F b → w'.heap[b]? = w.heap[b]? := fun b hb => hk b (by have := hb.2; have := h.sz; omega) (.inr (.inr (.inl hb)))
  have hN : ∀ p : Addr, p.block < F.N → w'.cell? p = w.cell? p := fun p hp => World.cell?_of_block (hfx _ (hF.fN _ hp))
  refine ⟨h.xl.blk (hfx _ hF.fl), h.xw.blk (hfx _ hF.fw), h.xu.blk (hfx _ hF.fu), h.xla.blk (hfx _ hF.fla), h.xb.blk (hfx _ hF.fb), h.xf.blk (hfx _ hF.ff), h.xs.blk (hfx _ hF.fs), ?_, ?_, ?_, fun k hk2 => (h.mf k hk2).blk (hmp _ ⟨by omega, by omega⟩), fun k hk2 => ?_, h.rl.keep hN, h.rw.keep hN, Nat.le_trans h.sz hs⟩
  · obtain ⟨V, h1, h2⟩ := h.cu; exact ⟨V, h1.blk (hfx _ hF.ggu), h2⟩
  · obtain ⟨V, h1, h2⟩ := h.cf; exact ⟨V, h1.blk (hfx _ hF.ggf), h2⟩
  · obtain ⟨V, h1, h2, h3, h4⟩ := h.cs
    refine ⟨V, h1.blk (hk _ h1.lt (.inr (.inl rfl))), h2, fun k hk2 => ?_, h4⟩
    obtain ⟨v, g1, g2⟩ := h3 k hk2
    exact ⟨v, g1, own_blk g2 fun g eg => hk g (g2.lt g eg).2 (.inr (.inr (.inr ⟨k, v, by rw [h1.cell]; exact g1, eg⟩)))⟩
  · obtain ⟨q, g1, g2⟩ := h.mu k hk2
    exact ⟨q, g1, g2.blk (hmp _ ⟨by omega, by omega⟩)⟩
theorem BMem.stay (hF : F.ok) (h : BMem F l ws st a w) (hb : Below w.heap.size w w') : BMem F l ws st a w' := h.keep hF hb.size fun b h1 _ => hb.block b h1
/-- a block that is none of the building's is written -/
theorem BMem.other (hF : F.ok) (h : BMem F l ws st a w) {r : Option Nat} (hg : w.grownBy w' r) (hr : ∀ b, r = some b → F.H0 ≤ b ∧ ¬ rowB F w b) : BMem F l ws st a w' :=
  h.keep hF hg.size fun b h1 h2 => hg.block b h1 (fun e => by
    obtain ⟨h3, h4⟩ := hr _ e.symm
    have := hF.hc
    have := hF.hg
    rcases h2 with h2 | h2 | h2 | h2
    · have := h2.1; omega
    · omega
    · have := h2.2; omega
    · exact h4 h2)
theorem BMem.gs (h : BMem F l ws st a w) : F.gs < w.heap.size := by obtain ⟨V, h1, _⟩ := h.cs; exact h1.lt
/-- the stage's row -/
theorem BMem.row (h : BMem F l ws st a w) {k : Nat} (hk : k ≤ F.m) : ∃ A c, w.cell? ⟨F.gs, k, none⟩ = some (.slice A (stg st.ss k).length c) ∧ w.ownsRow F.H0 3 1 (.slice A (stg st.ss k).length c) (stg st.ss k).length ((stg st.ss k).map iv) := by
  obtain ⟨V, h1, h2, h3, h4⟩ := h.cs
  obtain ⟨v, g1, g2⟩ := h3 k hk
  obtain ⟨A, c, rfl, _⟩ := val_of_own g2
  exact ⟨A, c, by rw [h1.cell]; exact g1, g2⟩
theorem BMem.frozen (h : BMem F l ws st a w) (k : Nat) : w.frozen? ⟨F.gs, k, none⟩ = false := by obtain ⟨V, h1, _⟩ := h.cs; exact h1.frozen k
theorem BMem.cfc (h : BMem F l ws st a w) {k : Nat} (hk : k ≤ F.m) : w.cell? ⟨F.gf, k, none⟩ = some (.map (some (F.c0 + 2 * k))) := by obtain ⟨V, h1, h2⟩ := h.cf; rw [h1.cell]; exact h2 k hk
theorem BMem.cuc (h : BMem F l ws st a w) {k : Nat} (hk : k ≤ F.m) : w.cell? ⟨F.gu, k, none⟩ = some (.map (some (F.c0 + 2 * k + 1))) := by obtain ⟨V, h1, h2⟩ := h.cu; rw [h1.cell]; exact h2 k hk
/-- a value is put into uniform -/
theorem bmem_uni (hF : F.ok) (h : BMem F l ws st a w) {k : Nat} {v i : Int} {b q : Nat} (hk : k < F.m) (hg : w.grownBy w' (some (F.c0 + 2 * (k + 1) + 1))) (hq : q * 2 ^ bel ws k ≤ b) (hab : a ≤ b)
    (hm : MapIs Try.prog 3 3 (Lit.int .i64) (Lit.int .i64) w' (F.c0 + 2 * (k + 1) + 1) q (upd (st.um k) v i)) : BMem F l ws (putUni st k v i) b w' ∧ Frm F w w' := by
  have hc := hF.hc
  have hgs := hF.hg
  have hk2 : ∀ b, b ≠ F.c0 + 2 * (k + 1) + 1 → b < w.heap.size → w'.heap[b]? = w.heap[b]? := fun b hb hl => hg.block b hl (by simpa using hb)
  have hfx : ∀ b, fixd F b → w'.heap[b]? = w.heap[b]? := fun b hb => hk2 b (by obtain ⟨_, _, h1⟩ := hb; omega) (Nat.lt_of_lt_of_le hb.1 h.sz)
  have hN : ∀ p : Addr, p.block < F.N → w'.cell? p = w.cell? p := fun p hp => World.cell?_of_block (hfx _ (hF.fN _ hp))
  refine ⟨⟨h.xl.blk (hfx _ hF.fl), h.xw.blk (hfx _ hF.fw), h.xu.blk (hfx _ hF.fu), h.xla.blk (hfx _ hF.fla), h.xb.blk (hfx _ hF.fb), h.xf.blk (hfx _ hF.ff), h.xs.blk (hfx _ hF.fs), ?_, ?_, ?_, fun j hj => (h.mf j hj).blk (hk2 _ (by omega) (h.mf j hj).lt), fun j hj => ?_, h.rl.keep hN, h.rw.keep hN, Nat.le_trans h.sz hg.size⟩, Frm.out h.gs hg fun b e => by injection e with e; subst e; exact ⟨by omega, .inr ⟨by omega, by omega⟩⟩⟩
  · obtain ⟨V, h1, h2⟩ := h.cu; exact ⟨V, h1.blk (hfx _ hF.ggu), h2⟩
  · obtain ⟨V, h1, h2⟩ := h.cf; exact ⟨V, h1.blk (hfx _ hF.ggf), h2⟩
  · obtain ⟨V, h1, h2, h3, h4⟩ := h.cs
    refine ⟨V, h1.blk (hk2 _ (by omega) h1.lt), h2, fun j hj => ?_, h4⟩
    obtain ⟨v, g1, g2⟩ := h3 j hj
    exact ⟨v, g1, own_blk g2 fun g eg => hk2 g (by have := (g2.lt g eg).1; omega) (g2.lt g eg).2⟩
  · by_cases hjk : j = k
    · subst hjk
      refine ⟨q, hq, ?_⟩
      have e : (putUni st j v i).um j = upd (st.um j) v i := by funext x; simp [putUni, upd]
      rw [e]; exact hm
    · obtain ⟨q2, g1, g2⟩ := h.mu j hj
      refine ⟨q2, Nat.le_trans g1 hab, ?_⟩
      have e : (putUni st k v i).um j = st.um j := by simp [putUni, hjk]
      rw [e]; exact g2.blk (hk2 _ (by omega) g2.lt)
/-- a new block of numbers is put at the end of a stage -/
theorem bmem_new (hF : F.ok) (h : BMem F l ws st a w) {k : Nat} {nums : List Int} {c : Int} {w1 w2 : World} {v v' : Value} (hk : k < F.m) (hl : nums.length = nb ws k) (hls : F.m + 1 = st.ss.length) (hg : w.grownBy w1 (some (F.c0 + 2 * (k + 1))))
    (hm : MapIs Try.prog 9 3 Lit.string (Lit.int .i64) w1 (F.c0 + 2 * (k + 1)) (cnt ws st.ss k + 1) (upd (st.fm k) (keyB nums) c))
    (hv : w.cell? ⟨F.gs, k + 1, none⟩ = some v) (hg2 : w1.grownBy w2 v.ownBlock) (ho : w2.ownsRow F.H0 3 1 v' ((stg st.ss (k + 1)).length + nums.length) ((stg st.ss (k + 1)).map iv ++ nums.map iv))
    (hat : v'.ownBlock = v.ownBlock ∨ v'.ownBlock = some w1.heap.size ∨ v'.ownBlock = none) : BMem F l ws (putNew st k nums c) a (w2.setCell ⟨F.gs, k + 1, none⟩ v') ∧ Frm F w (w2.setCell ⟨F.gs, k + 1, none⟩ v') := by
  have hc := hF.hc
  have hgs := hF.hg
  obtain ⟨V, h1, h2, h3, h4⟩ := h.cs
  obtain ⟨v0, g1, g2⟩ := h3 (k + 1) (by omega)
  have hv0 : v0 = v := by rw [h1.cell, g1] at hv; injection hv
  subst hv0
  have hsz1 := hg.size
  have hsz2 := hg2.size
  have hkk : ∀ b, b < w.heap.size → b ≠ F.c0 + 2 * (k + 1) → v0.ownBlock ≠ some b → w2.heap[b]? = w.heap[b]? := fun b hb e1 e2 => (hg2.block b (by omega) (fun e => e2 e.symm)).trans (hg.block b hb (by simpa using e1))
  have hk3 : ∀ b, b < w.heap.size → b ≠ F.c0 + 2 * (k + 1) → v0.ownBlock ≠ some b → b ≠ F.gs → (w2.setCell ⟨F.gs, k + 1, none⟩ v').heap[b]? = w.heap[b]? := fun b hb e1 e2 e3 => (Below.heap_setCell w2 _ _ b e3).trans (hkk b hb e1 e2)
  have hown : ∀ b, b < F.H0 → v0.ownBlock ≠ some b := fun b hb e => by have := (g2.lt b e).1; omega
  have hfx : ∀ b, fixd F b → (w2.setCell ⟨F.gs, k + 1, none⟩ v').heap[b]? = w.heap[b]? := fun b hb => hk3 b (Nat.lt_of_lt_of_le hb.1 h.sz) (by obtain ⟨_, _, q⟩ := hb; omega) (hown b hb.1) hb.2.1
  have hN : ∀ p : Addr, p.block < F.N → (w2.setCell ⟨F.gs, k + 1, none⟩ v').cell? p = w.cell? p := fun p hp => World.cell?_of_block (hfx _ (hF.fN _ hp))
  have hB2 : Blk w2 F.gs 23 V := h1.blk (hkk _ h1.lt (by omega) (hown _ (by omega)))
  have hB3 := hB2.set_ (k + 1) v'
  have hmz : (w2.setCell ⟨F.gs, k + 1, none⟩ v').heap.size = w2.heap.size := by simp [World.setCell]
  have e1 : stg (putNew st k nums c).ss (k + 1) = stg st.ss (k + 1) ++ nums := stg_set_same (by omega) _
  have e2 : ∀ j, j ≠ k + 1 → stg (putNew st k nums c).ss j = stg st.ss j := fun j hj => stg_set_other hj _
  have hlen := h.sz
  have hVat : ∀ (j : Nat) u, (V.setIfInBounds (k + 1) v')[j]? = some u → (j = k + 1 ∧ u = v') ∨ (j ≠ k + 1 ∧ V[j]? = some u) := fun j u hu => by
    by_cases hj : j = k + 1
    · subst hj
      rw [Array.getElem?_setIfInBounds_self_of_lt (by omega)] at hu
      injection hu with hu
      exact .inl ⟨rfl, hu.symm⟩
    · rw [Array.getElem?_setIfInBounds_ne (by omega)] at hu
      exact .inr ⟨hj, hu⟩
  have hnew : ∀ (j : Nat) u b, j ≠ k + 1 → V[j]? = some u → u.ownBlock = some b → v'.ownBlock ≠ some b := fun j u b hj hu hb he => by
    rcases hat with hat | hat | hat
    · rw [hat] at he; exact h4 j (k + 1) u v0 b hj hu g1 hb he
    · rw [hat] at he
      injection he with he
      have hjm : j ≤ F.m := by have := (Array.getElem?_eq_some_iff.1 hu).1; omega
      obtain ⟨u', q1, q2⟩ := h3 j hjm
      rw [hu] at q1
      injection q1 with q1
      subst q1
      have := (q2.lt b hb).2
      omega
    · rw [hat] at he; cases he
  refine ⟨⟨h.xl.blk (hfx _ hF.fl), h.xw.blk (hfx _ hF.fw), h.xu.blk (hfx _ hF.fu), h.xla.blk (hfx _ hF.fla), h.xb.blk (hfx _ hF.fb), h.xf.blk (hfx _ hF.ff), h.xs.blk (hfx _ hF.fs), ?_, ?_, ⟨_, hB3, by simp [h2], fun j hj => ?_, fun j j' u u' b hjj hu hu' hb => ?_⟩, fun j hj => ?_, fun j hj => ?_, h.rl.keep hN, h.rw.keep hN, by omega⟩, ?_⟩
  · obtain ⟨V, h1, h2⟩ := h.cu; exact ⟨V, h1.blk (hfx _ hF.ggu), h2⟩
  · obtain ⟨V, h1, h2⟩ := h.cf; exact ⟨V, h1.blk (hfx _ hF.ggf), h2⟩
  · by_cases hjk : j = k + 1
    · subst hjk
      refine ⟨v', Array.getElem?_setIfInBounds_self_of_lt (by omega), ?_⟩
      rw [e1, List.length_append, List.map_append]
      exact own_blk ho fun g eg => Below.heap_setCell w2 _ _ g (by have := (ho.lt g eg).1; show g ≠ F.gs; omega)
    · obtain ⟨u, q1, q2⟩ := h3 j hj
      refine ⟨u, by rw [Array.getElem?_setIfInBounds_ne (by omega)]; exact q1, ?_⟩
      rw [e2 j hjk]
      refine own_blk q2 fun g eg => ?_
      have := q2.lt g eg
      exact hk3 g this.2 (by omega) (fun e => h4 j (k + 1) u v0 g hjk q1 g1 eg e) (by omega)
  · rcases hVat j u hu with ⟨r1, r2⟩ | ⟨r1, r2⟩ <;> rcases hVat j' u' hu' with ⟨s1, s2⟩ | ⟨s1, s2⟩
    · omega
    · subst r2; exact fun e => hnew j' u' b s1 s2 e hb
    · subst s2; exact hnew j u b r1 r2 hb
    · exact h4 j j' u u' b hjj r2 s2 hb
  · by_cases hjk : j = k
    · subst hjk
      have ec : cnt ws (putNew st j nums c).ss j = cnt ws st.ss j + 1 := by
        show (stg (putNew st j nums c).ss (j + 1)).length / nb ws j = _
        rw [e1, List.length_append, hl, Nat.add_div_right _ (nb_pos ws j)]; rfl
      have ef : (putNew st j nums c).fm j = upd (st.fm j) (keyB nums) c := by funext x; simp [putNew, upd]
      rw [ec, ef]
      refine hm.blk ((Below.heap_setCell w2 _ _ _ (by show F.c0 + 2 * (j + 1) ≠ F.gs; omega)).trans (hg2.block _ hm.lt fun e => hown _ (by omega) e.symm))
    · have ec : cnt ws (putNew st k nums c).ss j = cnt ws st.ss j := by
        show (stg (putNew st k nums c).ss (j + 1)).length / nb ws j = _
        rw [e2 _ (by omega)]; rfl
      have ef : (putNew st k nums c).fm j = st.fm j := by simp [putNew, hjk]
      rw [ec, ef]
      exact (h.mf j hj).blk (hk3 _ (h.mf j hj).lt (by omega) (hown _ (by omega)) (by omega))
  · obtain ⟨q, q1, q2⟩ := h.mu j hj
    exact ⟨q, q1, q2.blk (hk3 _ q2.lt (by omega) (hown _ (by omega)) (by omega))⟩
  · refine ⟨hg2.os.trans hg.os, hg2.tape.trans hg.tape, hg2.output.trans hg.output, by omega, fun b hb q1 q2 q3 => hk3 b hb (fun e => q2 ⟨by omega, by omega⟩) (fun e => q3 ⟨k + 1, v0, hv, e⟩) q1, fun b hb => ?_⟩
    obtain ⟨j, u, q1, q2⟩ := hb
    rw [hB3.cell] at q1
    rcases hVat j u q1 with ⟨r1, r2⟩ | ⟨r1, r2⟩
    · subst r2
      rcases hat with hat | hat | hat
      · rw [hat] at q2; exact .inl ⟨k + 1, v0, hv, q2⟩
      · rw [hat] at q2; injection q2 with q2; exact .inr (by omega)
      · rw [hat] at q2; cases q2
    · exact .inl ⟨j, u, by rw [h1.cell]; exact r2, q2⟩
end
end Go.Proofs.Ytnlmikefihaldaa
