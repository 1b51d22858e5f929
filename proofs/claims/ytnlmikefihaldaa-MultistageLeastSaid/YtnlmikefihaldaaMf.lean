/- multistage.Build: the closure that makes a block. -/
import Derived.Test.YtnlmikefihaldaaMe
import Derived.Deep.RegionHeld3
import Derived.StillTailTactics
import Derived.Deep.DeepCutAuto
import Derived.Deep.RegionLaw
namespace Go.Proofs.Ytnlmikefihaldaa
open Go.RowKit
open Go.Maps (Keyed)

theorem keyInt : Keyed Try.prog 3 := Maps.int_keyed Try.underlying3
theorem pow_wrap16 (x : Nat) (h : x ≤ 16) : IntKind.i64.wrap ((2 : Int) ^ x) = ((2 ^ x : Nat) : Int) := by
  have hp2 : 2 ^ x ≤ 65536 := Nat.le_trans (Nat.pow_le_pow_right (n := 2) (by decide) h) (by decide)
  have e : ((2 ^ x : Nat) : Int) = (2 : Int) ^ x := by rw [Int.natCast_pow]; rfl
  rw [← e]
  generalize 2 ^ x = m at hp2
  exact IntWalk.i64_in _ (by omega)
theorem bel_int {ws : List Int} (hw : okW ws) (k : Nat) : (ws.drop k).sum = ((bel ws k : Nat) : Int) := by
  have := sum_bounds (okW_drop hw k)
  unfold bel; omega
/-- the maps of the stages above are not written -/
def Low (F : BF) (k : Nat) (w w' : World) : Prop := ∀ b, F.c0 ≤ b → b < F.c0 + 2 * (k + 1) → w'.heap[b]? = w.heap[b]?
theorem Low.refl (F : BF) (k : Nat) (w : World) : Low F k w w := fun _ _ _ => rfl
theorem Low.trans {F : BF} {k : Nat} {a b c : World} (h : Low F k a b) (h' : Low F k b c) : Low F k a c := fun i h1 h2 => (h' i h1 h2).trans (h i h1 h2)
theorem Low.less {F : BF} {j k : Nat} {a b : World} (h : Low F k a b) (hj : j ≤ k) : Low F j a b := fun i h1 h2 => h i h1 (by omega)
theorem Low.grown {F : BF} {k : Nat} {w w' : World} (hF : F.ok) (hk : k ≤ F.m) (hs : F.H0 ≤ w.heap.size) {r : Option Nat} (h : w.grownBy w' r) (hr : ∀ b, r = some b → F.c0 + 2 * (k + 1) ≤ b) : Low F k w w' := fun b h1 h2 => h.block b (by have := hF.hc; omega) (fun e => by have := hr _ e.symm; omega)
/-- what a call of the closure leaves -/
def BlkE (F : BF) (l : List (Int × Int × Int)) (ws : List Int) (st : PS) (k a : Nat) (w : World) (e : Ending) (w' : World) : Prop :=
  ∃ (st' : PS) (i : Nat), e = .returned (.int .i64 (i : Int)) ∧ BPost ws l st st' k a i ∧ BMem F l ws st' (a + 2 ^ bel ws k) w' ∧ Frm F w w' ∧ Low F k w w'
def W64s (l : List (Int × Int × Int)) : Prop := ∀ c, W64 (valF l c)

/-- 'append(out, x)': one element, and where the row lies then -/
theorem wpList_app1_at {P : Program} {ops : Array Oper} {rest : List Oper} {o : Oper} {a : Act} {Q : Exit → Act → World → Prop} (hgd : o.guard = none) (s x : Operand) (t : TypeId)
    (ho : o.op = .call { callee := .builtin .append, args := #[s, x], argTypes := #[t, t] })
    {base : Nat} {e : TypeId} {i : TypeInfo} {z : Value} {bytes : Nat} (ht : P.underlying t = some (.slice e)) (hi : P.info? e = some i) (hz : i.zero = some z)
    (hsize : i.size = 1) (hby : i.bytes = bytes) (hzs : z.cells.size = 1) (hb24 : bytes ≤ 24)
    (w0 : World) (v : Value) (n : Nat) (xs : List Value) (hs : a.eval s = v) (hown : w0.ownsRow base e 1 v n xs)
    (u : Value) (hx : a.eval x = .slice (some ⟨w0.heap.size, 0, none⟩) 1 1) (hu : u.oneCell' = true)
    (hn : n ≤ 1000000000000) (hbase : base ≤ w0.heap.size)
    (h : ∀ v' w', w'.ownsRow base e 1 v' (n + 1) (xs ++ [u]) → w0.grownBy w' v.ownBlock → (v'.ownBlock = v.ownBlock ∨ v'.ownBlock = some (w0.heap.size + 1)) → wpList P ops Q rest (a.put o.dst v') w') :
    wpList P ops Q (o :: rest) a (w0.alloc (.cells #[u] e)) := by
  have hmul : (n + 1) * bytes ≤ 140737488355328 := Nat.le_trans (Nat.mul_le_mul (show n + 1 ≤ 1000000000001 by omega) hb24) (by omega)
  refine wpList_append_own_at _ hgd s x t ho base e i z 1 bytes ht hi hz hsize hby hzs (by omega) v n xs hs (hown.alloc _) ⟨w0.heap.size, 0, none⟩ 1 1 [u] hx rfl (cell_one_new _ _ _)
    (by simp [hu]) (by unfold maxLen; omega) hmul (by simp; omega) ?_
  intro v' w' h1 h2 _ h4
  exact h v' w' h1 (grownBy_alloc_left h2) (by simpa using h4)
theorem Try.infoT3 : (Try.prog.info? 3).map (fun i => (i.zero, i.size, i.bytes)) = some (some (.int .i64 0), 1, 8) := by kernel_rfl
/-- the numbers' row and the building's memory, after an append to the numbers -/
structure Nums (F : BF) (l : List (Int × Int × Int)) (ws : List Int) (st stc : PS) (k a j : Nat) (W wr : World) (v : Value) (nums : List Int) : Prop where
  li : LInv ws l st stc k a j nums
  bm : BMem F l ws stc (a + j * 2 ^ bel ws (k + 1)) wr
  fr : Frm F W wr
  own : wr.ownsRow W.heap.size 3 1 v j (nums.map iv)
  far : ∀ b, v.ownBlock = some b → ¬ rowB F wr b
  low : Low F (k + 1) W wr
theorem nums_step {F : BF} {l : List (Int × Int × Int)} {ws : List Int} {st stc st2 : PS} {k a j : Nat} {W wr w1 w2 : World} {v v' : Value} {nums : List Int} {x : Int} (hF : F.ok) (h : Nums F l ws st stc k a j W wr v nums) (hW : F.H0 ≤ W.heap.size) (hkm : k < F.m)
    (hlo : Low F (k + 1) wr w1) (hf : Frm F wr w1) (hb : BMem F l ws st2 (a + (j + 1) * 2 ^ bel ws (k + 1)) w1) (hl : LInv ws l st st2 k a (j + 1) (nums ++ [x])) (ho : w2.ownsRow W.heap.size 3 1 v' (j + 1) (nums.map iv ++ [.int .i64 x])) (hg : w1.grownBy w2 v.ownBlock) (hat : v'.ownBlock = v.ownBlock ∨ v'.ownBlock = some (w1.heap.size + 1)) :
    Nums F l ws st st2 k a (j + 1) W w2 v' (nums ++ [x]) := by
  have hgs : F.gs < W.heap.size := by have := hF.hg; have := hF.hc; omega
  have hfar : ∀ b, v.ownBlock = some b → ¬ rowB F w1 b := fun b e hr => by
    rcases hf.rows b hr with hr | hr
    · exact h.far b e hr
    · have := (h.own.lt b e).2; omega
  have hgg : w2.heap[F.gs]? = w1.heap[F.gs]? := hg.block _ (Nat.lt_of_lt_of_le hgs (Nat.le_trans h.fr.size hf.size)) (fun e => by have := (h.own.lt _ e.symm).1; omega)
  have hrow : ∀ b, rowB F w1 b → b < w1.heap.size := fun b hr => by
    obtain ⟨V, h1, h2, h3, h4⟩ := hb.cs
    obtain ⟨i, u, q1, q2⟩ := hr
    rw [h1.cell] at q1
    have hi := (Array.getElem?_eq_some_iff.1 q1).1
    obtain ⟨u', r1, r2⟩ := h3 i (by omega)
    rw [q1] at r1
    injection r1 with r1
    subst r1
    exact (r2.lt b q2).2
  refine ⟨hl, hb.other hF hg fun b e => ⟨Nat.le_trans hW (h.own.lt b e).1, hfar b e⟩, (h.fr.trans hf).late hgs hg fun b e => (h.own.lt b e).1, by simpa [iv] using ho, fun b e hr => ?_, (h.low.trans hlo).trans (Low.grown hF (by omega) (Nat.le_trans hW (Nat.le_trans h.fr.size hf.size)) hg fun b e => by have := (h.own.lt b e).1; have := hF.hc; omega)⟩
  rw [rowB_blk hgg] at hr
  rcases hat with hat | hat
  · rw [hat] at e; exact hfar b e hr
  · rw [hat] at e; injection e with e; have := hrow b hr; omega
theorem nums_own {F : BF} {l : List (Int × Int × Int)} {ws : List Int} {st stc : PS} {k a j : Nat} {W wr w1 : World} {v : Value} {nums : List Int} (hF : F.ok) (h : Nums F l ws st stc k a j W wr v nums) (hW : F.H0 ≤ W.heap.size) (hf : Frm F wr w1) : w1.ownsRow W.heap.size 3 1 v j (nums.map iv) :=
  own_blk h.own fun g e => by
    have h1 := h.own.lt g e
    have h2 := hF.hg
    have h3 := hF.hc
    exact hf.block g h1.2 (by omega) (fun hm => by have := hm.2; omega) (h.far g e)
theorem ginv_cnt {ws : List Int} {st : PS} {k a : Nat} (h : GInv ws st k a) (hk : k < ws.length) : cnt ws st.ss k ≤ a :=
  Nat.le_trans (Nat.le_trans (Nat.div_le_self _ _) (Nat.le_mul_of_pos_right _ (Nat.two_pow_pos (bel ws (k + 1))))) (h.2 k (Nat.le_refl _) hk).2
theorem bk_last {F : BF} {l : List (Int × Int × Int)} {ws : List Int} {st stc : PS} {k a j : Nat} {W wr w1 w2 : World} {v v' : Value} {nums : List Int} {x z y : Int} (hF : F.ok) (hkm : k < F.m) (hV : W64s l) (hm : k + 1 = ws.length) (h : Nums F l ws st stc k a j W wr v nums) (hW : F.H0 ≤ W.heap.size) (hb : Below wr.heap.size wr w1) (hst : StrR l y x z) (hy : y = ((a + j : Nat) : Int))
    (ho : w2.ownsRow W.heap.size 3 1 v' (j + 1) (nums.map iv ++ [.int .i64 x])) (hg : w1.grownBy w2 v.ownBlock) (hat : v'.ownBlock = v.ownBlock ∨ v'.ownBlock = some (w1.heap.size + 1)) : ∃ nums' stc', Nums F l ws st stc' k a (j + 1) W w2 v' nums' := by
  have hx : x = valF l ((a + j : Nat) : Int) := by rw [← hy]; exact hst.1
  refine ⟨_, stc, nums_step hF h hW hkm (Low.grown hF (by omega) h.bm.sz (grown_of_below hb none) (by simp)) (Frm.out h.bm.gs (grown_of_below hb none) (by simp)) ((h.bm.stay hF hb).up (by rw [Nat.succ_mul]; exact Nat.add_le_add_left (Nat.le_add_right _ _) _)) ?_ ho hg hat⟩
  rw [hx]
  exact linv_last hm h.li (hV _)
theorem bk_more {F : BF} {l : List (Int × Int × Int)} {ws : List Int} (hw : okW ws) {st stc st2 : PS} {k a j i : Nat} {W wr w1 w2 : World} {v v' : Value} {nums : List Int} (hF : F.ok) (hkm : k < F.m) (hm : k + 1 < ws.length) (h : Nums F l ws st stc k a j W wr v nums) (hW : F.H0 ≤ W.heap.size) (hP : BPost ws l stc st2 (k + 1) (a + j * 2 ^ bel ws (k + 1)) i) (hb : BMem F l ws st2 (a + j * 2 ^ bel ws (k + 1) + 2 ^ bel ws (k + 1)) w1) (hf : Frm F wr w1) (hlo : Low F (k + 1) wr w1) (ha : a + j * 2 ^ bel ws (k + 1) ≤ 1114112)
    (ho : w2.ownsRow W.heap.size 3 1 v' (j + 1) (nums.map iv ++ [.int .i64 (i : Int)])) (hg : w1.grownBy w2 v.ownBlock) (hat : v'.ownBlock = v.ownBlock ∨ v'.ownBlock = some (w1.heap.size + 1)) : ∃ nums' stc', Nums F l ws st stc' k a (j + 1) W w2 v' nums' := by
  have hc := ginv_cnt h.li.inv hm
  have hle := hP.le
  exact ⟨_, st2, nums_step hF h hW hkm hlo hf (by rw [Nat.succ_mul, ← Nat.add_assoc]; exact hb) (linv_more hw hm h.li hP (by omega)) ho hg hat⟩
theorem plain_i64 (i : Nat) (h : i ≤ 1114112) : plainElem (H := Unit) Try.prog 3 (.int .i64 (i : Int)) = some (.lit (.int .i64 (i : Int)), []) :=
  plainElem_int Try.underlying3 (by simp [Lit.wf, IntKind.min, IntKind.max, IntKind.signed, IntKind.bits]; omega)
theorem bpost_i {ws : List Int} {l : List (Int × Int × Int)} {st st' : PS} {k a i : Nat} (h : BPost ws l st st' k a i) (hk : k < ws.length) (hG : GInv ws st k a) (ha : a ≤ 1114112) : i ≤ 1114112 := by
  have h1 := ginv_cnt hG hk
  have h2 := h.le
  omega
theorem bk_uni {F : BF} {l : List (Int × Int × Int)} {ws : List Int} {st st' : PS} {k a i q q' : Nat} {w w2 w3 w4 : World} {v z : Int} (hF : F.ok) (hm : ws.length = F.m) (hk : k < F.m) (hP : BPost ws l st st' k a i) (hB : BMem F l ws st' (a + 2 ^ bel ws k) w3) (hb : Below w.heap.size w w2) (hs : F.H0 ≤ w.heap.size) (hgs : F.gs < w.heap.size) (hf : Frm F w2 w3) (hlo : Low F k w2 w3) (hst : StrR l (a : Int) v z) (he : (2 ^ bel ws k : Nat) - 1 ≤ z - (a : Int)) (hq : q * 2 ^ bel ws k ≤ a) (hq' : q' ≤ q + 1)
    (hg : w3.grownBy w4 (some (F.c0 + 2 * (k + 1) + 1))) (hM : MapIs Try.prog 3 3 (Lit.int .i64) (Lit.int .i64) w4 (F.c0 + 2 * (k + 1) + 1) q' (upd (st'.um k) v (i : Int))) : BlkE F l ws st k a w (.returned (.int .i64 (i : Int))) w4 := by
  obtain ⟨h1, h2⟩ := bmem_uni hF hB hk hg (b := a + 2 ^ bel ws k) (Nat.le_trans (Nat.mul_le_mul_right _ hq') (by rw [Nat.succ_mul]; exact Nat.add_le_add_right hq _)) (Nat.le_refl _) hM
  have hfb := Frm.out (F := F) hgs (grown_of_below hb none) (by simp)
  exact ⟨_, i, rfl, bpost_uni (by omega) hP (fun o ho => hst.2.2.2 _ (by omega) (by omega)), h1, (hfb.trans hf).trans h2, ((Low.grown hF (by omega) hs (grown_of_below hb none) (by simp)).trans hlo).trans (Low.grown hF (by omega) hB.sz hg fun b e => by injection e with e; omega)⟩
theorem bk_ret {F : BF} {l : List (Int × Int × Int)} {ws : List Int} {st st' : PS} {k a i : Nat} {w w2 w3 : World} (hF : F.ok) (hk : k < F.m) (hP : BPost ws l st st' k a i) (hB : BMem F l ws st' (a + 2 ^ bel ws k) w3) (hb : Below w.heap.size w w2) (hs : F.H0 ≤ w.heap.size) (hgs : F.gs < w.heap.size) (hf : Frm F w2 w3) (hlo : Low F k w2 w3) : BlkE F l ws st k a w (.returned (.int .i64 (i : Int))) w3 :=
  ⟨_, i, rfl, hP, hB, (Frm.out (F := F) hgs (grown_of_below hb none) (by simp)).trans hf, (Low.grown hF (by omega) hs (grown_of_below hb none) (by simp)).trans hlo⟩
/-- an append onto a row of the call's own, inside a region that draws -/
theorem step_append_own_at {P : Program} {ops : Array Oper} {o : Oper} {a : Act} {w : World} {K : Act → World → Prop} {Q : Exit → Act → World → Prop} {E : Prop}
    (hg : o.guard = none) (s x : Operand) (t : TypeId) (hop : o.op = Op.call { callee := Callee.builtin Builtin.append, args := #[s, x], argTypes := #[t, t] })
    {base : Nat} {e : TypeId} {i : TypeInfo} {z : Value} {bytes : Nat} (ht : P.underlying t = some (.slice e)) (hi : P.info? e = some i) (hz : i.zero = some z) (hsize : i.size = 1) (hby : i.bytes = bytes) (hzs : z.cells.size = 1) (hb24 : bytes ≤ 24)
    (v : Value) (n : Nat) (xs : List Value) (hs : a.eval s = v) (hown : w.ownsRow base e 1 v n xs)
    {B : Nat} {A : Option Addr} (m c : Nat) (hm : 0 < m) (news : List Value) (hx : a.eval x = .slice A m c) (hr : Reads w B 1 A m news) (hu : ∀ u ∈ news, u.oneCell' = true) (hn : n + m ≤ 1000000000000) (hbase : base ≤ w.heap.size)
    (hK : ∀ v' w', w'.ownsRow base e 1 v' (n + m) (xs ++ news) → w.grownBy w' v.ownBlock → (v'.ownBlock = v.ownBlock ∨ v'.ownBlock = some w.heap.size) → K (a.put o.dst v') w') :
    if Region.wanted o (yielded ops a.tmps) = true then Oper.wp P o a w K Q else E := by
  have hw : Region.wanted o (yielded ops a.tmps) = true := by simp [Region.wanted, hg]
  rw [if_pos hw]
  have hmul : (n + m) * bytes ≤ 140737488355328 := Nat.le_trans (Nat.mul_le_mul hn hb24) (by omega)
  obtain ⟨ad, rfl, _, hc⟩ := hr.2 hm
  obtain ⟨v', w', hrun, h2, h3, h4, h5⟩ := run_append_own_at (P := P) w base t o.type e i z 1 bytes ht hi hz hsize hby hzs (by omega) v n xs hown ad m c news hr.1 hc hu (by unfold maxLen; omega) hmul hbase
  unfold Oper.wp
  simp [execOp, hop, resolve, invoke, builtin, hs, hx, hrun, Result.andThen]
  exact hK v' w' h2 h3 h5
theorem grown_undrew {w w' : World} {r : Option Nat} (h : w.drew.grownBy w' r) : w.grownBy w' r := ⟨h.os, h.tape, h.output, h.size, h.block⟩
theorem grown_drew {w w' : World} {r : Option Nat} (h : w.grownBy w' r) : w.grownBy w'.drew r := ⟨h.os, h.tape, h.output, h.size, h.block⟩
/-- the new block has been put at the end of its stage -/
theorem bk_new {F : BF} {l : List (Int × Int × Int)} {ws : List Int} (hw : okW ws) {st stc : PS} {k a q n : Nat} {W w5 w7 w8 : World} {nums : List Int} {v v' : Value} (hF : F.ok) (hm : ws.length = F.m) (hk : k < F.m) (hG : GInv ws st k a) (hL : LInv ws l st stc k a (nb ws k) nums) (hf : stc.fm k (keyB nums) = none) (hB : BMem F l ws stc (a + 2 ^ bel ws k) w5) (hfr : Frm F W w5) (hlo : Low F k W w5)
    (hu : MapIs Try.prog 3 3 (Lit.int .i64) (Lit.int .i64) w5 (F.c0 + 2 * (k + 1) + 1) q (stc.um k)) (hg7 : w5.grownBy w7 (some (F.c0 + 2 * (k + 1)))) (hn : n = if (stc.fm k (keyB nums)).isSome then cnt ws stc.ss k else cnt ws stc.ss k + 1)
    (hm7 : MapIs Try.prog 9 3 Lit.string (Lit.int .i64) w7 (F.c0 + 2 * (k + 1)) n (upd (stc.fm k) (keyB nums) ((cnt ws stc.ss k : Nat) : Int)))
    (hv : w5.cell? ⟨F.gs, k + 1, none⟩ = some v) (hown : w5.ownsRow F.H0 3 1 v (stg stc.ss (k + 1)).length ((stg stc.ss (k + 1)).map iv)) (hg8 : w7.grownBy w8 v.ownBlock) (ho : w8.ownsRow F.H0 3 1 v' ((stg stc.ss (k + 1)).length + nums.length) ((stg stc.ss (k + 1)).map iv ++ nums.map iv)) (hat : v'.ownBlock = v.ownBlock ∨ v'.ownBlock = some w7.heap.size) :
    ∃ (i : Nat) (st' : PS), i = cnt ws stc.ss k ∧ BPost ws l st st' k a i ∧ BMem F l ws st' (a + 2 ^ bel ws k) (w8.setCell ⟨F.gs, k + 1, none⟩ v') ∧ Frm F W (w8.setCell ⟨F.gs, k + 1, none⟩ v') ∧ Low F k W (w8.setCell ⟨F.gs, k + 1, none⟩ v') ∧ MapIs Try.prog 3 3 (Lit.int .i64) (Lit.int .i64) (w8.setCell ⟨F.gs, k + 1, none⟩ v') (F.c0 + 2 * (k + 1) + 1) q (st'.um k) := by
  rw [hf] at hn
  simp at hn
  subst hn
  have hc := hF.hc
  have hg := hF.hg
  have hsz := hB.sz
  obtain ⟨h1, h2⟩ := bmem_new (c := ((cnt ws stc.ss k : Nat) : Int)) hF hB hk hL.len (by rw [hL.inv.1, hm]) hg7 hm7 hv hg8 ho (by rcases hat with hat | hat; exact .inl hat; exact .inr (.inl hat))
  have hblk : ∀ b, b < F.H0 → b ≠ F.c0 + 2 * (k + 1) → b ≠ F.gs → (w8.setCell ⟨F.gs, k + 1, none⟩ v').heap[b]? = w5.heap[b]? := fun b hb q1 q2 =>
    (Below.heap_setCell w8 _ _ b q2).trans ((hg8.block b (by have := hg7.size; omega) (fun e => by have := (hown.lt _ e.symm).1; omega)).trans (hg7.block b (by omega) (by simpa using q1)))
  exact ⟨_, _, rfl, bpost_new hw (by omega) hG hL hf, h1, hfr.trans h2, hlo.trans fun b q1 q2 => hblk b (by omega) (by omega) (by omega), hu.blk (hblk _ (by omega) (by omega) (by omega))⟩
/-- the contract of the closure at a stage -/
def BlkC (F : BF) (l : List (Int × Int × Int)) (ws : List Int) (k : Nat) : Prop := ∀ (a : Nat) (st : PS) (w : World), GInv ws st k a → a + 2 ^ bel ws k ≤ 1114112 → BMem F l ws st a w →
    Calls Try.prog 32 (#[.int .i64 ((k : Int) + 1), .int .i64 (a : Int)] ++ F.caps) w fun e w' => BlkE F l ws st k a w e w'
theorem bk_hit {F : BF} {l : List (Int × Int × Int)} {ws : List Int} {st : PS} {k a : Nat} {w w' : World} {v i z : Int} (hF : F.ok) (hm : ws.length = F.m) (hk : k < F.m) (hG : GInv ws st k a) (hB : BMem F l ws st a w) (hb : Below w.heap.size w w') (hst : StrR l (a : Int) v z) (he : (2 ^ bel ws k : Nat) - 1 ≤ z - (a : Int)) (hu : st.um k v = some i) :
    BlkE F l ws st k a w (.returned (.int .i64 i)) w' := by
  obtain ⟨n, rfl, hp⟩ := bpost_hit (l := l) (by omega) hG (v := v) (fun o ho => hst.2.2.2 _ (by omega) (by omega)) hu
  exact ⟨st, n, rfl, hp, (hB.stay hF hb).up (Nat.le_add_right _ _), Frm.out hB.gs (grown_of_below hb none) (by simp), Low.grown hF (by omega) hB.sz (grown_of_below hb none) (by simp)⟩

set_option maxRecDepth 100000 in
set_option maxHeartbeats 8000000 in
theorem block_step (F : BF) (hF : F.ok) (l : List (Int × Int × Int)) (ws : List Int) (hw : okW ws) (hs : okS l) (hl : W64s l) (hm : ws.length = F.m) (k : Nat) (hk : k < F.m) (ih : k + 1 < F.m → BlkC F l ws (k + 1)) : BlkC F l ws k := by
  intro a st w hG ha hB
  have hp0 : 0 < 2 ^ bel ws k := Nat.two_pow_pos _
  have hpm := pow_wrap16 (bel ws k) (bel_le hw k)
  have hm3 : F.m ≤ 3 := by have := hw.2.1; omega
  have hbk := bel_int hw k
  have hbk1 := bel_int hw (k + 1)
  have hbl := bel_le hw k
  have hbl1 := bel_le hw (k + 1)
  have hk3 : k ≤ 2 := by omega
  have hNs : ∀ u, BMem F l ws st a u → F.N ≤ u.heap.size := fun u hu => by
    rcases Nat.eq_zero_or_pos F.N with h0 | h0
    · omega
    · have := hF.fN (F.N - 1) (by omega); have := this.1; have := hu.sz; omega
  have Hw := Lib.hid hw
  have HF := Lib.hid hF
  have Hs := Lib.hid hs
  have Hl := Lib.hid hl
  have Hm := Lib.hid hm
  have HG := Lib.hid hG
  have HB := Lib.hid hB
  have HNs := Lib.hid hNs
  have Ih := Lib.hid ih
  have Hbk := Lib.hid hbk
  have Hbk1 := Lib.hid hbk1
  have gl := hB.xl.cell 0
  clear hw hF hs hl hm hG hB ih hbk hbk1 hNs
  obtain ⟨b0, hb0⟩ : ∃ b0, b0 = bel ws k := ⟨_, rfl⟩
  obtain ⟨M0, hM0⟩ : ∃ M0, M0 = 2 ^ bel ws k := ⟨_, rfl⟩
  rw [← hM0] at hpm ha hp0
  rw [← hb0] at hpm hbl
  have Hb0 := Lib.hid hb0
  have HM0 := Lib.hid hM0
  clear hb0 hM0
  show Calls Try.prog 32 #[.int .i64 ((k : Int) + 1), .int .i64 (a : Int), ptr F.bl, ptr F.bw, ptr F.bu, ptr F.bla, ptr F.bb, ptr F.bf, ptr F.bs] w _
  unfold ptr
  go_enter Try.func32, Try.ntmps32
  go_wp2_with fail
  clear gl
  refine (stretch_any F.A F.n F.c l a w (HB.out.rl.more (HNs.out _ HB.out)) HF.out.nl Hs.out (by omega)).mono ?_
  rintro e w1 ⟨⟨v, z, rfl, hst⟩, hb1⟩
  have HB1 := Lib.hid (HB.out.stay HF.out hb1)
  have hst2 : (a : Int) ≤ z ∧ z ≤ 1114111 := ⟨hst.2.1, hst.2.2.1⟩
  obtain ⟨hz1, hz2⟩ := hst2
  have Hst := Lib.hid hst
  have hv64 : W64 v := by rw [hst.1]; exact Hl.out _
  unfold W64 at hv64
  obtain ⟨hv1, hv2⟩ := hv64
  have Hb1 := Lib.hid hb1
  have gw := HB1.out.xw.cell 0
  clear hst hb1
  go_wp2_with fail
  clear gw
  refine (sumT_any F.A' F.m F.c' k ws w1 (HB1.out.rw.more (HNs.out _ HB1.out)) HF.out.cw hm3 (by omega) (fun x hx => Hw.out.2.2.1 x hx)).mono ?_
  rintro e w2 ⟨rfl, rfl⟩
  rw [Hbk.out, ← Hb0.out]
  have gu := HB1.out.xu.cell 0
  have guc := HB1.out.cuc (k := k + 1) (by omega)
  obtain ⟨q, Hq, hmu⟩ := HB1.out.mu k hk
  have Hmu := Lib.hid hmu
  have hz0 : (zeroValue 3).run Try.prog w2 = .ok (.int .i64 0) w2 := by kernel_rfl
  have hlk := hmu.look2 (t := 52) keyInt Try.underlying52 (zv := 0) hz0 (by kernel_rfl) (key := .int .i64 v) (x := v) (keyOf_i64 Try.underlying3 v hv1 hv2)
  clear hmu hz0
  have hkm : (k : Int) + 1 < (F.m : Int) + 1 := by omega
  obtain ⟨r, hr⟩ : ∃ r, r = st.um k v := ⟨_, rfl⟩
  rw [← hr] at hlk
  have Hr := Lib.hid hr
  clear hr
  obtain ⟨ev, hev⟩ : ∃ ev, decide ((M0 : Int) - 1 ≤ z - (a : Int)) = ev := ⟨_, rfl⟩
  obtain ⟨ok, hok⟩ : ∃ ok, r.isSome = ok := ⟨_, rfl⟩
  obtain ⟨ri, hri⟩ : ∃ ri, r.getD 0 = ri := ⟨_, rfl⟩
  rw [hok, hri] at hlk
  have Hev := Lib.hid hev
  have Hok := Lib.hid hok
  have Hri := Lib.hid hri
  clear hok hri
  go_upto_region 4 with fail
  clear hev hlk gu guc
  go_cut [54] (fun s54 wx => s54 = .bool (ok && ev) ∧ wx = w2)
  case first =>
    cases ok <;> cases ev <;> (go_wp2; go_meet; exact ⟨rfl, rfl⟩)
  case rest =>
    obtain ⟨rfl, rfl⟩ := hcut
    cases hx : (ok && ev) with
    | true =>
      simp only [Bool.and_eq_true] at hx
      obtain ⟨rfl, rfl⟩ := hx
      have hr2 : st.um k v = some ri := by
        have h1 := Hok.out; have h2 := Hri.out; rw [← Hr.out]
        cases r with
        | none => simp at h1
        | some y => simp at h2; rw [h2]
      have HE := Lib.hid (bk_hit HF.out Hm.out hk HG.out HB.out Hb1.out Hst.out (by have := of_decide_eq_true Hev.out; rw [HM0.out] at this; exact this) hr2)
      go_wp2
      go_ret
      exact HE.out
    | false =>
      have Hx := Lib.hid hx
      clear hx
      have gw := HB1.out.xw.cell 0
      go_wp2_with fail
      refine (sumT_any F.A' F.m F.c' (k + 1) ws wc (HB1.out.rw.more (HNs.out _ HB1.out)) HF.out.cw hm3 (by omega) (fun x hx => Hw.out.2.2.1 x hx)).mono ?_
      rintro e w3 ⟨rfl, rfl⟩
      rw [Hbk1.out]
      have hkl : k < ws.length := by rw [Hm.out]; exact hk
      have hwd := wd_bd Hw.out hkl
      obtain ⟨ad, u, had, hadB, hu, hcw⟩ := HB1.out.rw.at_ hk
      obtain ⟨x, hxk, rfl⟩ := getElem_map_iv' hu
      have hxw := getElem_wd hxk
      have hx12 := Hw.out.2.2.1 x (List.mem_of_getElem? hxk)
      obtain ⟨X, rfl⟩ : ∃ X : Nat, x = (X : Int) := ⟨x.toNat, by omega⟩
      rw [Int.toNat_natCast] at hxw
      have hX : X ≤ 12 := by omega
      have hpn := pow_wrap16 X (by omega)
      have hnb := nb_bel Hw.out hkl
      have hM1p : 0 < 2 ^ bel ws (k + 1) := Nat.two_pow_pos _
      have hnp := nb_pos ws k
      have hnX : nb ws k = 2 ^ X := by unfold nb; rw [hxw]
      rw [← hnX] at hpn
      obtain ⟨b1, hb1⟩ : ∃ b1, b1 = bel ws (k + 1) := ⟨_, rfl⟩
      obtain ⟨M1, hM1⟩ : ∃ M1, M1 = 2 ^ bel ws (k + 1) := ⟨_, rfl⟩
      obtain ⟨n1, hn1⟩ : ∃ n1, n1 = nb ws k := ⟨_, rfl⟩
      rw [← hM1] at hnb hM1p
      rw [← hn1] at hpn hnb hnp
      rw [← HM0.out] at hnb
      rw [← hb1] at hbl1 ⊢
      have HM1 := Lib.hid hM1
      have Hn1 := Lib.hid hn1
      have Hnb := Lib.hid hnb
      have Hb1' := Lib.hid hb1
      have hn1b : n1 ≤ 4096 := by rw [hn1, hnX]; exact Nat.le_trans (Nat.pow_le_pow_right (n := 2) (by decide) hX) (by decide)
      clear hM1 hn1 hnb hb1 hu hxk hxw hx12 hwd hnX
      have HN0 := Lib.hid (show Nums F l ws st st k a 0 w3 w3 (.slice none 0 0) [] from ⟨linv_zero hkl HG.out, HB1.out.up (Nat.le_add_right _ _), Frm.refl _ _, World.ownsRow_nil _ _ _ _, fun b e => (by cases e), Low.refl _ _ _⟩)
      have hki : (k : Int) < (F.m : Int) := by omega
      clear hkl
      have hcw2 := hcw
      have gw := HB1.out.xw.cell 0
      have hAd := had
      rw [had] at gw
      go_wp2_with fail
      go_loopw [65, 17] (fun s65 s17 wr => ∃ (j : Nat) (nums : List Int) (stc : PS), s65 = .int .i64 (j : Int) ∧ j ≤ n1 ∧ Hid (Nums F l ws st stc k a j w3 wr s17 nums)) (fun s65 _ _ => n1 - (intOf s65).toNat)
      case atStart => exact ⟨0, [], st, rfl, by omega, HN0⟩
      case round =>
        obtain ⟨j, nums, stc, rfl, hj, HN⟩ := hrel
        have HH := Lib.hid (show F.H0 ≤ w3.heap.size from HB1.out.sz)
        by_cases hlt : j < n1
        · obtain ⟨C, hC⟩ : ∃ C, C = j * M1 := ⟨_, rfl⟩
          have hC2 : C + M1 ≤ M0 := by
            rw [hC, Hnb.out, ← Nat.succ_mul]; exact Nat.mul_le_mul_right _ hlt
          have hsh : IntKind.i64.wrap ((j : Int) * 2 ^ b1) = (C : Int) := by
            have e : (j : Int) * 2 ^ b1 = (C : Int) := by rw [hC, HM1.out, ← Hb1'.out, Int.natCast_mul, Int.natCast_pow]; rfl
            rw [e]; exact IntWalk.i64_in _ (by omega)
          have HC := Lib.hid hC
          clear hC
          have gla := HN.out.bm.xla.cell 0
          have hji : (j : Int) < (n1 : Int) := by omega
          have hrN : F.N ≤ wr.heap.size := by
            rcases Nat.eq_zero_or_pos F.N with h0 | h0
            · omega
            · have := HF.out.fN (F.N - 1) (by omega); have := this.1; have := HN.out.bm.sz; omega
          obtain ⟨i0, hi, hz0, hz1', hz2'⟩ := info_parts Try.infoT3
          by_cases hlast : k + 1 = F.m
          · have gl := HN.out.bm.xl.cell 0
            have hkb : ((k : Int) + 1 == (F.m : Int)) = true := by simp; omega
            have hM1 : M1 = 1 := by rw [HM1.out, bel_end (by rw [Hm.out]; omega)]
            go_wp2_with fail
            refine (stretch_any F.A F.n F.c l ((a : Int) + (C : Int)) wr (HN.out.bm.rl.more hrN) HF.out.nl Hs.out (by omega)).mono ?_
            rintro e w5 ⟨⟨v2, z2, rfl, hst2⟩, hb5⟩
            have Hf := Lib.hid (Frm.out (F := F) HN.out.bm.gs (grown_of_below hb5 none) (by simp))
            have ho5 := nums_own HF.out HN.out HH.out Hf.out
            have hsz : w3.heap.size ≤ w5.heap.size := Nat.le_trans HN.out.fr.size Hf.out.size
            have Hst2 := Lib.hid hst2
            have Hb5 := Lib.hid hb5
            clear hst2 hb5
            go_wp2_with (at_builtin; refine wpList_app1_at rfl (.tmp 82) (.tmp 84) 23 rfl Try.underlying23 hi hz0 hz1' hz2' rfl (by omega) w5 _ _ _ rfl ho5 _ rfl rfl (by omega) hsz ?_; intro v6 w6 ho6 hg6 hat6)
            obtain ⟨nums', stc', HN'⟩ := bk_last HF.out hk Hl.out (by rw [Hm.out]; exact hlast) HN.out HH.out Hb5.out Hst2.out (by rw [HC.out, hM1]; omega) ho6 hg6 hat6
            have HN2 := Lib.hid HN'
            clear HN' ho6 hg6 hat6 ho5
            go_roundw
            case rel => exact ⟨j + 1, nums', stc', by go_num, by omega, HN2⟩
            case measure => simp [intOf]; omega
          · have hkm2 : k + 1 < F.m := by omega
            have hkb : ((k : Int) + 1 == (F.m : Int)) = false := by simp; omega
            have gb := HN.out.bm.xb.cell 0
            unfold BF.clos at gb
            have hcall := Ih.out hkm2 (a + j * 2 ^ bel ws (k + 1)) stc wr HN.out.li.inv (by rw [← HM1.out, ← HC.out]; omega) HN.out.bm
            have ecast : ((a + j * 2 ^ bel ws (k + 1) : Nat) : Int) = (a : Int) + (C : Int) := by rw [← HM1.out, ← HC.out]; omega
            rw [ecast, show (((k + 1 : Nat) : Int) + 1) = (k : Int) + 1 + 1 by omega] at hcall
            have Hcall := Lib.hid hcall
            clear hcall ecast
            go_wp2_with fail
            refine Hcall.out.mono ?_
            rintro e w5 ⟨st2, i, rfl, hP, hb5, hf5, hlo5⟩
            have Hlo5 := Lib.hid hlo5
            clear hlo5
            have ho5 := nums_own HF.out HN.out HH.out hf5
            have hsz : w3.heap.size ≤ w5.heap.size := Nat.le_trans HN.out.fr.size hf5.size
            have HP := Lib.hid hP
            have Hb5 := Lib.hid hb5
            have Hf5 := Lib.hid hf5
            clear hP hb5 hf5
            go_wp2_with (at_builtin; refine wpList_app1_at rfl (.tmp 86) (.tmp 92) 23 rfl Try.underlying23 hi hz0 hz1' hz2' rfl (by omega) w5 _ _ _ rfl ho5 _ rfl rfl (by omega) hsz ?_; intro v6 w6 ho6 hg6 hat6)
            obtain ⟨nums', stc', HN'⟩ := bk_more Hw.out HF.out hk (by rw [Hm.out]; exact hkm2) HN.out HH.out HP.out Hb5.out Hf5.out Hlo5.out (by rw [← HM1.out, ← HC.out]; omega) ho6 hg6 hat6
            have HN2 := Lib.hid HN'
            clear HN' ho6 hg6 hat6 ho5
            go_roundw
            case rel => exact ⟨j + 1, nums', stc', by go_num, by omega, HN2⟩
            case measure => simp [intOf]; omega
        · obtain rfl : j = n1 := by omega
          have hn1p := hnp
          obtain ⟨A9, c9, hv9, hc9, hr9⟩ := val_of_own HN.out.own
          subst hv9
          have hjj : ¬ (j : Int) < (j : Int) := by omega
          go_wp2_with fail
          refine (key_any A9 j c9 nums wr hr9 (by omega)).mono ?_
          rintro e w5 ⟨rfl, hb5⟩
          have HB5 := Lib.hid (HN.out.bm.stay HF.out hb5)
          have HO5 := Lib.hid (own_below HN.out.own hb5)
          have HF5 := Lib.hid ((HN.out.fr).trans (Frm.out (F := F) HN.out.bm.gs (grown_of_below hb5 none) (by simp)))
          have HLI := Lib.hid HN.out.li
          have HL5 := Lib.hid (HN.out.low.trans (Low.grown HF.out (by omega) HN.out.bm.sz (grown_of_below hb5 none) (by simp)))
          have HU5 := Lib.hid (show MapIs Try.prog 3 3 (Lit.int .i64) (Lit.int .i64) w5 (F.c0 + 2 * (k + 1) + 1) q (stc.um k) from by rw [HN.out.li.same.2]; exact Hmu.out.blk (HL5.out _ (by omega) (by omega)))
          have hlen : nums.length = j := HN.out.li.len
          have Hlen := Lib.hid hlen
          have hk8 : (keyB nums).length ≤ maxLen := by rw [keyB_len, hlen]; unfold maxLen; omega
          clear hr9 hb5 HN hlen
          have gf := HB5.out.xf.cell 0
          have gfc := HB5.out.cfc (k := k + 1) (by omega)
          have hmf := HB5.out.mf k hk
          have hz0 : (zeroValue 3).run Try.prog w5 = .ok (.int .i64 0) w5 := by kernel_rfl
          have hlk := hmf.look2 (t := 51) keyStr Try.underlying51 (zv := 0) hz0 (by kernel_rfl) (key := .string ⟨(keyB nums).toArray⟩) (x := keyB nums) (keyOf_str Try.underlying9 _ hk8)
          have Hmf := Lib.hid hmf
          clear hmf hz0
          have hmlen := Lib.hid (Hmf.out.len (t := 51) Try.underlying51)
          obtain ⟨cn, hcn⟩ : ∃ cn, cn = cnt ws stc.ss k := ⟨_, rfl⟩
          rw [← hcn] at hmlen
          obtain ⟨r2, hr2⟩ : ∃ r2, r2 = stc.fm k (keyB nums) := ⟨_, rfl⟩
          rw [← hr2] at hlk
          have Hr2 := Lib.hid hr2
          have Hcn := Lib.hid hcn
          clear hr2 hcn
          have HaM := Lib.hid (show a + j * 2 ^ bel ws (k + 1) = a + 2 ^ bel ws k by rw [← HM1.out, ← HM0.out, Hnb.out])
          go_upto_if 107 with fail
          go_cut [24] (fun s24 wx => ∃ (i : Nat) (st' : PS), s24 = .int .i64 (i : Int) ∧ Hid (BPost ws l st st' k a i) ∧ Hid (BMem F l ws st' (a + 2 ^ bel ws k) wx) ∧ Hid (Frm F w3 wx) ∧ Hid (Low F k w3 wx) ∧ Hid (MapIs Try.prog 3 3 (Lit.int .i64) (Lit.int .i64) wx (F.c0 + 2 * (k + 1) + 1) q (st'.um k)))
          case first =>
            cases r2 with
            | some i2 =>
              obtain ⟨i3, hi3, hP⟩ := bpost_found Hw.out (by rw [Hm.out]; exact hk) HG.out (by have := HLI.out; rw [Hn1.out] at this; exact this) Hr2.out.symm
              subst hi3
              have HP := Lib.hid hP
              clear hP
              go_wp2
              go_meet
              exact ⟨i3, stc, rfl, HP, Lib.hid (by rw [← HaM.out]; exact HB5.out), HF5, Lib.hid (HL5.out.less (by omega)), HU5⟩
            | none =>
              have hcb : cn ≤ 1114112 := by
                have h1 := ginv_cnt HG.out (by rw [Hm.out]; exact hk)
                have h2 := linv_cnt HLI.out
                rw [Hcn.out, h2]; omega
              have hpl := plain_i64 cn hcb
              have hmlen2 := hmlen.out
              have hky := keyOf_str Try.underlying9 (keyB nums) hk8
              have Hmf2 := Hmf.out
              rw [← Hcn.out] at Hmf2
              have hcm : cn < maxLen := by unfold maxLen; omega
              go_wp2_with (first | (at_mapUpdate; refine wpList_put rfl _ _ _ 51 rfl inj_str keyStr Try.underlying51 rfl Hmf2 hcm _ _ (keyB nums) (cn : Int) rfl rfl hky hpl ?_; intro w7 hm7 hg7 hs7) | go_in)
              obtain ⟨A8, c8, hc8, ho8⟩ := HB5.out.row (k := k + 1) (by omega)
              have hown8 : w7.ownsRow F.H0 3 1 (.slice A8 (stg stc.ss (k + 1)).length c8) (stg stc.ss (k + 1)).length ((stg stc.ss (k + 1)).map iv) := own_blk ho8 fun g e => hg7.block g (ho8.lt g e).2 (fun e2 => by injection e2 with e2; have := (ho8.lt g e).1; have := HF.out.hc; omega)
              have hnm : ∀ b, b < F.c0 → b < w5.heap.size → w7.heap[b]? = w5.heap[b]? := fun b h1 h2 => hg7.block b h2 (by intro e; injection e with e; omega)
              have hfg := HF.out.hg
              have hfc := HF.out.hc
              have hgs5 := HB5.out.gs
              have Hc8 := Lib.hid hc8
              have d0 : w7.cell? ⟨F.gs, k + 1, none⟩ = some (.slice A8 (stg stc.ss (k + 1)).length c8) := (World.cell?_of_block (hnm F.gs hfg hgs5)).trans hc8
              have hxs7 : Blk w7 F.bs 26 #[.slice (some ⟨F.gs, 0, none⟩) (F.m + 1) (F.m + 1)] := HB5.out.xs.blk (hg7.block _ HB5.out.xs.lt (by intro e; injection e with e; have := HF.out.fs.2.2; omega))
              have d1 := hxs7.cell 0
              have hfz : w7.frozen? ⟨F.gs, k + 1, none⟩ = false := (World.frozen?_of_block (hnm F.gs hfg hgs5)).trans (HB5.out.frozen (k + 1))
              have hgs7 : F.gs < w7.heap.size := by omega
              have hbs7 := hxs7.lt
              have hown9 := hown8
              have HK := Lib.hid (show ∀ w', w7.grownBy w' (Value.slice A8 (stg stc.ss (k + 1)).length c8).ownBlock → w'.cell? ⟨F.bs, 0, none⟩ = some (.slice (some ⟨F.gs, 0, none⟩) (F.m + 1) (F.m + 1)) ∧ (∃ y, w'.cell? ⟨F.gs, k + 1, none⟩ = some y) ∧ w'.frozen? ⟨F.gs, k + 1, none⟩ = false from fun w' hw' => by
                have e1 : w'.heap[F.gs]? = w7.heap[F.gs]? := hw'.block _ hgs7 (fun e => by have := (hown9.lt _ e.symm).1; omega)
                have e2 : w'.heap[F.bs]? = w7.heap[F.bs]? := hw'.block _ hbs7 (fun e => by have := (hown9.lt _ e.symm).1; have := HF.out.fs.1; omega)
                exact ⟨(World.cell?_of_block e2).trans d1, ⟨_, (World.cell?_of_block e1).trans d0⟩, (World.frozen?_of_block e1).trans hfz⟩)
              obtain ⟨L8, hL8⟩ : ∃ L8, L8 = (stg stc.ss (k + 1)).length := ⟨_, rfl⟩
              have hL8b : L8 ≤ 1114112 := by
                have h1 := (HG.out.2 k (Nat.le_refl _) (by rw [Hm.out]; exact hk)).2
                have h2 := linv_stg HLI.out
                have h3 : (stg st.ss (k + 1)).length ≤ (stg st.ss (k + 1)).length * 2 ^ bel ws (k + 1) := Nat.le_mul_of_pos_right _ (Nat.two_pow_pos _)
                rw [hL8, h2]; omega
              rw [← hL8] at d0 hown8 HK Hc8 ho8
              have Ho8 := Lib.hid ho8
              have HL8 := Lib.hid hL8
              have HO7 := Lib.hid (show w7.ownsRow w3.heap.size 3 1 (.slice A9 j c9) j (nums.map iv) from own_blk HO5.out fun g e => hg7.block g (HO5.out.lt g e).2 (fun e2 => by injection e2 with e2; have := (HO5.out.lt g e).1; have := HH.out; omega))
              have HR7 := Lib.hid (Reads.of_own HO7.out)
              have hH7 : F.H0 ≤ w7.heap.size := by have := HB5.out.sz; omega
              have Hone := Lib.hid (iv_one nums)
              have Hm7 := Lib.hid hm7
              have Hg7 := Lib.hid hg7
              have hkm3 : (k : Int) + 1 < (F.m : Int) + 1 := by omega
              clear hL8 hc8 ho8 hown9 hnm hxs7 hm7 hg7 gf gfc hlk hmlen2 hky
              have Hown8 := Lib.hid hown8
              have HNEW := Lib.hid (show ∀ (u : World) (v' : Value), w7.grownBy u (Value.slice A8 L8 c8).ownBlock → u.ownsRow F.H0 3 1 v' (L8 + j) ((stg stc.ss (k + 1)).map iv ++ nums.map iv) → (v'.ownBlock = (Value.slice A8 L8 c8).ownBlock ∨ v'.ownBlock = some w7.heap.size) →
                  ∃ (i : Nat) (st' : PS), i = cn ∧ BPost ws l st st' k a i ∧ BMem F l ws st' (a + 2 ^ bel ws k) (u.setCell ⟨F.gs, k + 1, none⟩ v') ∧ Frm F w3 (u.setCell ⟨F.gs, k + 1, none⟩ v') ∧ Low F k w3 (u.setCell ⟨F.gs, k + 1, none⟩ v') ∧ MapIs Try.prog 3 3 (Lit.int .i64) (Lit.int .i64) (u.setCell ⟨F.gs, k + 1, none⟩ v') (F.c0 + 2 * (k + 1) + 1) q (st'.um k) from fun u v' q1 q2 q3 => by
                have hL2 := HLI.out
                rw [Hn1.out] at hL2
                have hB2 := HB5.out
                rw [HaM.out] at hB2
                have hm2 := Hm7.out
                rw [Hcn.out] at hm2
                rw [Hcn.out]
                exact bk_new Hw.out HF.out Hm.out hk HG.out hL2 Hr2.out.symm hB2 HF5.out (HL5.out.less (by omega)) HU5.out Hg7.out rfl hm2 Hc8.out (by rw [← HL8.out]; exact Ho8.out) q1 (by rw [Hlen.out, ← HL8.out]; exact q2) q3)
              obtain ⟨i0, hi, hz0, hz1', hz2'⟩ := info_parts Try.infoT3
              have hk0 : 0 ≤ (k : Int) + 1 := by omega
              clear hown8
              go_region_law (refine step_append_own_at rfl (.tmp 124) (.tmp 125) 23 rfl Try.underlying23 hi hz0 hz1' hz2' rfl (by omega) (.slice A8 L8 c8) L8 _ (by simp [Act.eval]) Hown8.out j c9 hnp (nums.map iv) (by simp [Act.eval]) HR7.out Hone.out (by omega) hH7 ?_; intro v8 w8 ho9 hg8 hat8; obtain ⟨A10, c10, rfl, _, _⟩ := val_of_own ho9; have hg9 := grown_undrew hg8; obtain ⟨k1, ⟨ky, k2⟩, k3⟩ := HK.out w8 hg9)
              all_goals (go_wp2_with fail; go_meet)
              all_goals (obtain ⟨i9, st9, r0, r1, r2, r3, r4, r5⟩ := HNEW.out w8 _ hg9 ho9 hat8; exact ⟨i9, st9, by rw [r0], Lib.hid r1, Lib.hid r2, Lib.hid r3, Lib.hid r4, Lib.hid r5⟩)
          case rest =>
            obtain ⟨i, st', rfl, HP, HB6, HF6, HL6, HU6⟩ := hcut
            have hib := bpost_i HP.out (by rw [Hm.out]; exact hk) HG.out (by omega)
            have hsz0 : F.H0 ≤ w.heap.size := HB.out.sz
            have hgs0 : F.gs < w.heap.size := HB.out.gs
            cases ev with
            | false =>
              have HE := Lib.hid (bk_ret HF.out hk HP.out HB6.out Hb1.out hsz0 hgs0 HF6.out HL6.out)
              go_wp2
              go_ret
              exact HE.out
            | true =>
              have hpl := plain_i64 i hib
              have hky := keyOf_i64 Try.underlying3 v hv1 hv2
              have hqm : q < maxLen := by
                have : q ≤ q * 2 ^ bel ws k := Nat.le_mul_of_pos_right _ (Nat.two_pow_pos _)
                unfold maxLen; omega
              have gu := HB6.out.xu.cell 0
              have guc := HB6.out.cuc (k := k + 1) (by omega)
              go_wp2_with (first | (at_mapUpdate; refine wpList_put rfl _ _ _ 52 rfl inj_i64 keyInt Try.underlying52 rfl HU6.out hqm _ _ v (i : Int) rfl rfl hky hpl ?_; intro w7 hm7 hg7 hs7) | go_in)
              have HE := Lib.hid (bk_uni HF.out Hm.out hk HP.out HB6.out Hb1.out hsz0 hgs0 HF6.out HL6.out Hst.out (by have := of_decide_eq_true Hev.out; rw [HM0.out] at this; exact this) Hq (by split <;> omega) hg7 hm7)
              clear hm7 hg7 hs7
              go_wp2
              go_ret
              exact HE.out
theorem block_any (F : BF) (hF : F.ok) (l : List (Int × Int × Int)) (ws : List Int) (hw : okW ws) (hs : okS l) (hl : W64s l) (hm : ws.length = F.m) : ∀ (d k : Nat), k + d + 1 = F.m → BlkC F l ws k := by
  intro d
  induction d with
  | zero => intro k hk; exact block_step F hF l ws hw hs hl hm k (by omega) (fun h => absurd h (by omega))
  | succ d ih => intro k hk; exact block_step F hF l ws hw hs hl hm k (by omega) (fun _ => ih (k + 1) (by omega))
end Go.Proofs.Ytnlmikefihaldaa
