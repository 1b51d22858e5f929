/- multistage.Build. -/
import Derived.Test.YtnlmikefihaldaaMf
import Derived.Test.YtnlmikefihaldaaMu
import Derived.Test.YtnlmikefihaldaaTv
import Derived.Laws.EntriesVeiled
import Derived.Test.YtnlmikefihaldaaShelf
namespace Go.Proofs.Ytnlmikefihaldaa
open Go.RowKit

theorem reads_head {w : World} {B n : Nat} {A : Option Addr} {l : List Int} (h : Reads w B 1 A n (l.map iv)) (hn : 0 < n) : ∃ b off, A = some ⟨b, off, none⟩ ∧ b < B ∧ l.length = n ∧ ∀ j, j < l.length → w.cell? ⟨b, off + j, none⟩ = some (.int .i64 (l.getD j 0)) := by
  obtain ⟨ad, rfl, hb, hc⟩ := h.2 hn
  have hl : l.length = n := by have := h.1; simpa using this
  have h0 := hc 0 (iv (l.getD 0 0)) (by simp [List.getD, List.getElem?_eq_getElem (show 0 < l.length by omega)])
  have e0 : ad.add 0 = ad := by simp [Addr.add]
  rw [e0] at h0
  obtain ⟨_, _, _, _, hs⟩ := World.shape?_of_cell? h0
  obtain ⟨b, off, sp⟩ := ad
  simp only at hs
  subst hs
  refine ⟨b, off, rfl, hb, hl, fun j hj => ?_⟩
  have h1 := hc j (iv (l.getD j 0)) (by simp [List.getD, List.getElem?_eq_getElem hj])
  have e1 : (⟨b, off, none⟩ : Addr).add j = ⟨b, off + j, none⟩ := by unfold Addr.add; split <;> simp_all
  rw [e1] at h1; exact h1
theorem clone_any (A : Option Addr) (n c : Nat) (codes : List Int) (w : World) (h : Reads w w.heap.size 1 A n (codes.map iv)) (hn : 0 < n) (hn2 : n ≤ 2000000) :
    Calls Try.prog 36 #[.slice A n c] w fun e w' => ∃ A' c', e = .returned (.slice A' n c') ∧ w'.ownsRow w.heap.size 3 1 (.slice A' n c') n (codes.map iv) ∧ Below w.heap.size w w' := by
  obtain ⟨b, off, rfl, _, hl, hc⟩ := reads_head h hn
  refine (Try.slices_Clone_int b off n c codes w (by omega) (by omega) hc).mono ?_
  rintro e w' ⟨v', rfl, ho, _, hb⟩
  rw [List.take_of_length_le (by omega)] at ho
  obtain ⟨A', c', rfl, _, hr⟩ := val_of_own (e := 3) (xs := codes.map iv) ho
  exact ⟨A', c', rfl, ho, hb⟩

/-- 'make' of a slice with one zero cell an element -/
theorem mk_any {P : Program} (t e : TypeId) (i : TypeInfo) (z : Value) (b : Nat) (ht : P.underlying t = some (.slice e)) (hi : P.info? e = some i) (hz : i.zero = some z) (hs : i.size = 1) (hb : i.bytes = b) (hb24 : b ≤ 24) (hzs : z.cells = #[z]) (m : Nat) (hm : m ≤ 1000000000) :
    ∃ Z : Array Value, Z.size = m ∧ (∀ k, k < m → Z[k]? = some z) ∧ ∀ w : World, (Instr.makeSlice t (.int .i64 (m : Int)) (.int .i64 (m : Int))).run P w = .ok (.slice (some ⟨w.heap.size, 0, none⟩) m m) (w.alloc (.cells Z e)) := by
  refine ⟨madeCells z.cells ((m : Int).toNat * i.size), by rw [size_madeCells, hs]; simp, fun k hk => ?_, fun w => ?_⟩
  · have h1 := toList_madeCells_one z m
    rw [hzs, hs]
    simp only [Int.toNat_natCast, Nat.mul_one]
    rw [← Array.getElem?_toList, h1]
    simp [hk]
  · have hmb : i.bytes * m ≤ 24 * 1000000000 := Nat.mul_le_mul (by omega) hm
    have := run_make (P := P) w t e i z ht hi hz .i64 .i64 (m : Int) (m : Int) (by omega) (Int.le_refl _) (by rw [← Int.natCast_mul]; omega) (by omega)
    simpa using this
theorem Try.infoT23 : (Try.prog.info? 23).map (fun i => (i.zero, i.size, i.bytes)) = some (some (.slice none 0 0), 1, 24) := by kernel_rfl
theorem Try.infoT51 : (Try.prog.info? 51).map (fun i => (i.zero, i.size, i.bytes)) = some (some (.map none), 1, 8) := by kernel_rfl
theorem Try.infoT52 : (Try.prog.info? 52).map (fun i => (i.zero, i.size, i.bytes)) = some (some (.map none), 1, 8) := by kernel_rfl

theorem ret_tab {tmps : Array Value} {g : Nat} {w : World} {x y u : Value} (hp : tmps.getD 4 undef = .pointer (some ⟨g, 0, none⟩)) (hu : tmps.getD 5 undef = u) (hb : Blk w g 28 #[x, y]) :
    (results Try.f12 tmps).run Try.prog w = .ok (.tuple #[.agg #[x, y], u]) w := by
  have hld := run_loadVar_row (P := Try.prog) w g 28 28 #[x, y] _ _ hb Try.underlying28 rfl (by kernel_rfl)
  rw [results_cell_tmp rfl, hp, hu]
  simp [asAddr, Result.andThen, hld]

/-- a table that was handed back -/
def TabE (ws : List Int) (ss : List (List Int)) (m : Nat) (w' : World) (v : Value) : Prop := ∃ A1 c1 A2 c2, v = .agg #[.slice A1 m c1, .slice A2 (m + 1) c2] ∧ Tab w' w'.heap.size A1 m c1 A2 (m + 1) c2 ws ss
/-- the canonical table of the spans -/
structure CanT (l : List (Int × Int × Int)) (ws : List Int) (ss : List (List Int)) : Prop where
  ok : okT ws ss
  val : ∀ c, c < 1114112 → look ws ss c = valF l (c : Int)
  len : ∀ i, (stg ss i).length ≤ 1114112
  w64 : ∀ i, ∀ x ∈ stg ss i, W64 x
/-- what Build hands back -/
def BuildE (l : List (Int × Int × Int)) (ws : List Int) (m : Nat) (e : Ending) (w' : World) : Prop :=
  (∃ r : Int, r ≠ 0 ∧ ChkR l ws r ∧ e = .returned (.tuple #[.agg #[.slice none 0 0, .slice none 0 0], .int .i64 r])) ∨
  (ChkR l ws 0 ∧ ∃ v ss, e = .returned (.tuple #[v, .int .i64 0]) ∧ TabE ws ss m w' v ∧ CanT l ws ss)
theorem stg_far {ss : List (List Int)} {i : Nat} (h : ss.length ≤ i) : stg ss i = [] := by simp [stg, List.getD, List.getElem?_eq_none h]
theorem can_of {ws : List Int} (hw : okW ws) {l : List (Int × Int × Int)} {st : PS} {j : Nat} (h : S0 ws l st j) (hj : j = 1114112 / 2 ^ ws.sum.toNat) : CanT l ws st.ss := by
  obtain ⟨h1, h2⟩ := s0_end hw h hj
  have hj2 : j ≤ 1114112 := by rw [hj]; exact Nat.div_le_self _ _
  have hjb : j * 2 ^ bel ws 0 = 1114112 := st0_dvd hw hj
  refine ⟨h1, h2, fun i => ?_, fun i x hx => ?_⟩
  · cases i with
    | zero => rw [h.len]; exact hj2
    | succ i =>
      rcases Nat.lt_or_ge i ws.length with hi | hi
      · have := (h.inv.2 i (Nat.zero_le _) hi).2
        rw [hjb] at this
        exact Nat.le_trans (Nat.le_mul_of_pos_right _ (Nat.two_pow_pos _)) this
      · rw [stg_far (by rw [h.inv.1]; omega)]; simp
  · cases i with
    | zero =>
      obtain ⟨t, ht⟩ := List.getElem?_of_mem hx
      obtain ⟨n, rfl, hn, _⟩ := h.val t x ht
      have h3 := ginv_cnt h.inv (by have := hw.1; omega)
      rw [hjb] at h3
      unfold W64; omega
    | succ i =>
      rcases Nat.lt_or_ge i ws.length with hi | hi
      · exact (h.inv.2 i (Nat.zero_le _) hi).1.w64 x hx
      · rw [stg_far (by rw [h.inv.1]; omega)] at hx; cases hx
/-- the building's first state -/
def PS0 (m : Nat) : PS := ⟨List.replicate (m + 1) [], fun _ _ => none, fun _ _ => none⟩
theorem stg_rep (m i : Nat) : stg (List.replicate m ([] : List Int)) i = [] := by
  unfold stg
  rcases Nat.lt_or_ge i m with h | h
  · simp [List.getD, h]
  · simp [List.getD, List.getElem?_eq_none (show (List.replicate m ([] : List Int)).length ≤ i by simp; omega)]
theorem cnt_zero (ws : List Int) (m k : Nat) : cnt ws (PS0 m).ss k = 0 := by
  unfold cnt PS0
  simp only
  rw [stg_rep]; simp
theorem s0_zero {ws : List Int} {l : List (Int × Int × Int)} {m : Nat} (hm : ws.length = m) : S0 ws l (PS0 m) 0 := by
  have e : ∀ k, stg (PS0 m).ss k = [] := fun k => stg_rep _ _
  refine ⟨by rw [e]; rfl, ⟨by simp [PS0, hm], fun j h1 h2 => ⟨⟨by rw [e, cnt_zero]; simp, by rw [cnt_zero]; exact apart_zero _ _, fun _ => by rw [e, cnt_zero]; rfl, by rw [e]; simp, fun key v => ⟨fun h => by simp [PS0] at h, fun ⟨i, hi, _⟩ => by rw [cnt_zero] at hi; omega⟩, fun v i h => by simp [PS0] at h⟩, by rw [e]; simp⟩⟩, by rw [e, cnt_zero]; rfl, fun t x hx => by rw [e] at hx; simp at hx⟩
section
variable {F : BF} {l : List (Int × Int × Int)} {ws : List Int} {st : PS} {a : Nat} {w w' : World}
/-- a number is put at the end of stage 0 -/
theorem bmem_top (hF : F.ok) (h : BMem F l ws st a w) {i : Int} {w1 w2 : World} {v v' : Value} (hls : F.m + 1 = st.ss.length) (hg : w.grownBy w1 none)
    (hv : w.cell? ⟨F.gs, 0, none⟩ = some v) (hg2 : w1.grownBy w2 v.ownBlock) (ho : w2.ownsRow F.H0 3 1 v' ((stg st.ss 0).length + 1) ((stg st.ss 0).map iv ++ [.int .i64 i]))
    (hat : v'.ownBlock = v.ownBlock ∨ v'.ownBlock = some w1.heap.size ∨ v'.ownBlock = none) : BMem F l ws (putTop st i) a (w2.setCell ⟨F.gs, 0, none⟩ v') ∧ Frm F w (w2.setCell ⟨F.gs, 0, none⟩ v') := by
  have hc := hF.hc
  have hgs := hF.hg
  obtain ⟨V, h1, h2, h3, h4⟩ := h.cs
  obtain ⟨v0, g1, g2⟩ := h3 0 (by omega)
  have hv0 : v0 = v := by rw [h1.cell, g1] at hv; injection hv
  subst hv0
  have hsz1 := hg.size
  have hsz2 := hg2.size
  have hkk : ∀ b, b < w.heap.size → v0.ownBlock ≠ some b → w2.heap[b]? = w.heap[b]? := fun b hb e2 => (hg2.block b (by omega) (fun e => e2 e.symm)).trans (hg.block b hb (by simp))
  have hk3 : ∀ b, b < w.heap.size → v0.ownBlock ≠ some b → b ≠ F.gs → (w2.setCell ⟨F.gs, 0, none⟩ v').heap[b]? = w.heap[b]? := fun b hb e2 e3 => (Below.heap_setCell w2 _ _ b e3).trans (hkk b hb e2)
  have hown : ∀ b, b < F.H0 → v0.ownBlock ≠ some b := fun b hb e => by have := (g2.lt b e).1; omega
  have hfx : ∀ b, fixd F b → (w2.setCell ⟨F.gs, 0, none⟩ v').heap[b]? = w.heap[b]? := fun b hb => hk3 b (Nat.lt_of_lt_of_le hb.1 h.sz) (hown b hb.1) hb.2.1
  have hN : ∀ p : Addr, p.block < F.N → (w2.setCell ⟨F.gs, 0, none⟩ v').cell? p = w.cell? p := fun p hp => World.cell?_of_block (hfx _ (hF.fN _ hp))
  have hB2 : Blk w2 F.gs 23 V := h1.blk (hkk _ h1.lt (hown _ (by omega)))
  have hB3 := hB2.set_ 0 v'
  have hmz : (w2.setCell ⟨F.gs, 0, none⟩ v').heap.size = w2.heap.size := by simp [World.setCell]
  have e1 : stg (putTop st i).ss 0 = stg st.ss 0 ++ [i] := stg_set_same (by omega) _
  have e2 : ∀ j, j ≠ 0 → stg (putTop st i).ss j = stg st.ss j := fun j hj => stg_set_other hj _
  have hlen := h.sz
  have hVat : ∀ (j : Nat) u, (V.setIfInBounds 0 v')[j]? = some u → (j = 0 ∧ u = v') ∨ (j ≠ 0 ∧ V[j]? = some u) := fun j u hu => by
    by_cases hj : j = 0
    · subst hj
      rw [Array.getElem?_setIfInBounds_self_of_lt (by omega)] at hu
      injection hu with hu
      exact .inl ⟨rfl, hu.symm⟩
    · rw [Array.getElem?_setIfInBounds_ne (by omega)] at hu
      exact .inr ⟨hj, hu⟩
  have hnew : ∀ (j : Nat) u b, j ≠ 0 → V[j]? = some u → u.ownBlock = some b → v'.ownBlock ≠ some b := fun j u b hj hu hb he => by
    rcases hat with hat | hat | hat
    · rw [hat] at he; exact h4 j 0 u v0 b hj hu g1 hb he
    · rw [hat] at he
      injection he with he
      have hjm : j ≤ F.m := by have := (Array.getElem?_eq_some_iff.1 hu).1; omega
      obtain ⟨u', q1, q2⟩ := h3 j hjm
      rw [hu] at q1
      injection q1 with q1
      subst q1
      have := (q2.lt b hb).2
      omega
    · rw [hat] at he; cases he
  have hec : ∀ j, cnt ws (putTop st i).ss j = cnt ws st.ss j := fun j => by unfold cnt; rw [e2 _ (by omega)]
  refine ⟨⟨h.xl.blk (hfx _ hF.fl), h.xw.blk (hfx _ hF.fw), h.xu.blk (hfx _ hF.fu), h.xla.blk (hfx _ hF.fla), h.xb.blk (hfx _ hF.fb), h.xf.blk (hfx _ hF.ff), h.xs.blk (hfx _ hF.fs), ?_, ?_, ⟨_, hB3, by simp [h2], fun j hj => ?_, fun j j' u u' b hjj hu hu' hb => ?_⟩, fun j hj => ?_, fun j hj => ?_, h.rl.keep hN, h.rw.keep hN, by omega⟩, ?_⟩
  · obtain ⟨V, h1, h2⟩ := h.cu; exact ⟨V, h1.blk (hfx _ hF.ggu), h2⟩
  · obtain ⟨V, h1, h2⟩ := h.cf; exact ⟨V, h1.blk (hfx _ hF.ggf), h2⟩
  · by_cases hjk : j = 0
    · subst hjk
      refine ⟨v', Array.getElem?_setIfInBounds_self_of_lt (by omega), ?_⟩
      rw [e1, List.length_append, List.map_append]
      exact own_blk ho fun g eg => Below.heap_setCell w2 _ _ g (by have := (ho.lt g eg).1; show g ≠ F.gs; omega)
    · obtain ⟨u, q1, q2⟩ := h3 j hj
      refine ⟨u, by rw [Array.getElem?_setIfInBounds_ne (by omega)]; exact q1, ?_⟩
      rw [e2 j hjk]
      refine own_blk q2 fun g eg => ?_
      have := q2.lt g eg
      exact hk3 g this.2 (fun e => h4 j 0 u v0 g hjk q1 g1 eg e) (by omega)
  · rcases hVat j u hu with ⟨r1, r2⟩ | ⟨r1, r2⟩ <;> rcases hVat j' u' hu' with ⟨s1, s2⟩ | ⟨s1, s2⟩
    · omega
    · subst r2; exact fun e => hnew j' u' b s1 s2 e hb
    · subst s2; exact hnew j u b r1 r2 hb
    · exact h4 j j' u u' b hjj r2 s2 hb
  · rw [hec]
    exact (h.mf j hj).blk (hk3 _ (h.mf j hj).lt (hown _ (by omega)) (by omega))
  · obtain ⟨q, q1, q2⟩ := h.mu j hj
    exact ⟨q, q1, q2.blk (hk3 _ q2.lt (hown _ (by omega)) (by omega))⟩
  · refine ⟨hg2.os.trans hg.os, hg2.tape.trans hg.tape, hg2.output.trans hg.output, by omega, fun b hb q1 q2 q3 => hk3 b hb (fun e => q3 ⟨0, v0, hv, e⟩) q1, fun b hb => ?_⟩
    obtain ⟨j, u, q1, q2⟩ := hb
    rw [hB3.cell] at q1
    rcases hVat j u q1 with ⟨r1, r2⟩ | ⟨r1, r2⟩
    · subst r2
      rcases hat with hat | hat | hat
      · rw [hat] at q2; exact .inl ⟨0, v0, hv, q2⟩
      · rw [hat] at q2; injection q2 with q2; exact .inr (by omega)
      · rw [hat] at q2; cases q2
    · exact .inl ⟨j, u, by rw [h1.cell]; exact r2, q2⟩
/-- the table that the building's memory holds -/
theorem bmem_tab (h : BMem F l ws st a w) (hls : st.ss.length = F.m + 1) (hgs : w'.heap[F.gs]? = w.heap[F.gs]?) (hrow : ∀ b, F.H0 ≤ b → b < w.heap.size → w'.heap[b]? = w.heap[b]?) : ∃ vs, Reads w' w'.heap.size 1 (some ⟨F.gs, 0, none⟩) (F.m + 1) vs ∧ Rows w' w'.heap.size vs st.ss := by
  obtain ⟨V, h1, h2, h3, h4⟩ := h.cs
  have h1' := h1.blk hgs
  refine ⟨V.toList, ⟨by simp [h2], fun _ => ⟨_, rfl, h1'.lt, fun j u hu => ?_⟩⟩, by simp [h2, hls], fun i xs hx => ?_⟩
  · have e : (⟨F.gs, 0, none⟩ : Addr).add j = ⟨F.gs, j, none⟩ := by unfold Addr.add; split <;> simp_all
    rw [e, h1'.cell, ← Array.getElem?_toList]; exact hu
  · have hi : i ≤ F.m := by have := (List.getElem?_eq_some_iff.1 hx).1; omega
    obtain ⟨v, g1, g2⟩ := h3 i hi
    have e : stg st.ss i = xs := by simp [stg, List.getD, hx]
    rw [e] at g2
    obtain ⟨A, c, rfl, q1, q2⟩ := val_of_own (own_blk (w' := w') g2 fun g eg => hrow g (g2.lt g eg).1 (g2.lt g eg).2)
    exact ⟨A, c, by rw [Array.getElem?_toList]; exact g1, q1, q2⟩
end
/-- where Build lays its memory: s, h the heap's sizes at the start and behind Check -/
def bfOf (s h : Nat) (A : Option Addr) (n c : Nat) (A' : Option Addr) (m c' : Nat) : BF :=
  ⟨s, s + 1, h + 6, h, h + 7 + 2 * (m + 1), h + 4, h + 2, A, n, c, A', m, c', h + 1, h + 3, h + 5, h + 7, h + 8 + 2 * (m + 1), s⟩
theorem bfOf_ok {s h : Nat} {A : Option Addr} {n c : Nat} {A' : Option Addr} {m c' : Nat} (hs : s + 3 ≤ h) (hc : m ≤ c') (hn : n ≤ 2000000) : (bfOf s h A n c A' m c').ok := by
  refine ⟨?_, ?_, ?_, ?_, ?_, ?_, ?_, ?_, ?_, fun b hb => ?_, ?_, ?_, hc, hn⟩ <;> simp only [fixd, bfOf] at * <;> omega
/-- the memory of Build while its maps are made -/
structure Ini (F : BF) (rb k : Nat) (w0 wr : World) : Prop where
  sz : wr.heap.size = F.c0 + 2 * k
  xl : Blk wr F.bl 22 #[.slice F.A F.n F.c]
  xw : Blk wr F.bw 23 #[.slice F.A' F.m F.c']
  xr : Blk wr rb 28 #[.slice none 0 0, .slice none 0 0]
  xu : Blk wr F.bu 50 #[.slice (some ⟨F.gu, 0, none⟩) (F.m + 1) (F.m + 1)]
  xla : Blk wr F.bla 3 #[.int .i64 (F.m : Int)]
  xf : Blk wr F.bf 49 #[.slice (some ⟨F.gf, 0, none⟩) (F.m + 1) (F.m + 1)]
  xs : Blk wr F.bs 26 #[.slice (some ⟨F.gs, 0, none⟩) (F.m + 1) (F.m + 1)]
  cu : ∃ V, Blk wr F.gu 52 V ∧ V.size = F.m + 1 ∧ ∀ j, j < k → V[j]? = some (.map (some (F.c0 + 2 * j + 1)))
  cf : ∃ V, Blk wr F.gf 51 V ∧ V.size = F.m + 1 ∧ ∀ j, j < k → V[j]? = some (.map (some (F.c0 + 2 * j)))
  cs : ∃ V, Blk wr F.gs 23 V ∧ V.size = F.m + 1 ∧ ∀ j, j < F.m + 1 → V[j]? = some (.slice none 0 0)
  mf : ∀ j, j < k → MapIs Try.prog 9 3 Lit.string (Lit.int .i64) wr (F.c0 + 2 * j) 0 (fun _ => none)
  mu : ∀ j, j < k → MapIs Try.prog 3 3 (Lit.int .i64) (Lit.int .i64) wr (F.c0 + 2 * j + 1) 0 (fun _ => none)
  bel : Below w0.heap.size w0 wr

theorem blk_at {w : World} {t : TypeId} {cs : Array Value} {g : Nat} (hg : g = w.heap.size) : Blk (w.alloc (.cells cs t)) g t cs := hg ▸ Blk.new w t cs
theorem ini_zero {A : Option Addr} {n c : Nat} {A' : Option Addr} {m c' : Nat} {w w1 : World} {Z1 Z2 Z3 : Array Value} (hs : w.heap.size + 3 ≤ w1.heap.size)
    (P1 : Blk w1 w.heap.size 22 #[.slice A n c]) (P2 : Blk w1 (w.heap.size + 1) 23 #[.slice A' m c']) (P3 : Blk w1 (w.heap.size + 2) 28 #[.slice none 0 0, .slice none 0 0]) (hL : Below w.heap.size w w1)
    (h1 : Z1.size = m + 1 ∧ ∀ k, k < m + 1 → Z1[k]? = some (Value.slice none 0 0)) (h2 : Z2.size = m + 1) (h3 : Z3.size = m + 1) :
    Ini (bfOf w.heap.size w1.heap.size A n c A' m c') (w.heap.size + 2) 0 w (((((((w1.alloc (.cells #[.int .i64 (m : Int)] 3)).alloc (.cells Z1 23)).alloc (.cells #[.slice (some ⟨w1.heap.size + 1, 0, none⟩) (m + 1) (m + 1)] 26)).alloc (.cells Z2 51)).alloc (.cells #[.slice (some ⟨w1.heap.size + 1 + 1 + 1, 0, none⟩) (m + 1) (m + 1)] 49)).alloc (.cells Z3 52)).alloc (.cells #[.slice (some ⟨w1.heap.size + 1 + 1 + 1 + 1 + 1, 0, none⟩) (m + 1) (m + 1)] 50)) := by
  refine ⟨by simp [bfOf], ((((((P1.alloc _).alloc _).alloc _).alloc _).alloc _).alloc _).alloc _, ((((((P2.alloc _).alloc _).alloc _).alloc _).alloc _).alloc _).alloc _, ((((((P3.alloc _).alloc _).alloc _).alloc _).alloc _).alloc _).alloc _, blk_at (by simp [bfOf]), (((((blk_at rfl).alloc _).alloc _).alloc _).alloc _).alloc _ |>.alloc _, ((blk_at (by simp [bfOf])).alloc _).alloc _, ((((blk_at (by simp [bfOf])).alloc _).alloc _).alloc _).alloc _, ⟨_, (blk_at (by simp [bfOf])).alloc _, h3, fun j hj => absurd hj (by omega)⟩, ⟨_, (((blk_at (by simp [bfOf])).alloc _).alloc _).alloc _, h2, fun j hj => absurd hj (by omega)⟩, ⟨_, (((((blk_at (by simp [bfOf])).alloc _).alloc _).alloc _).alloc _).alloc _, h1⟩, fun j hj => absurd hj (by omega), fun j hj => absurd hj (by omega), ?_⟩
  refine ((((((hL.alloc ?_ _).alloc ?_ _).alloc ?_ _).alloc ?_ _).alloc ?_ _).alloc ?_ _).alloc ?_ _ <;> first | omega | (simp; omega)
theorem ini_step {F : BF} {A : Option Addr} {n c : Nat} {A' : Option Addr} {m c' s h k : Nat} {w wr : World} (hF : F = bfOf s h A n c A' m c') (hs : s + 3 ≤ h) (hw : w.heap.size = s) (hk : k ≤ m) (H : Ini F (s + 2) k w wr) :
    Ini F (s + 2) (k + 1) w ((((wr.setCell ⟨F.gf, k, none⟩ (.map (some wr.heap.size))).setCell ⟨F.gu, k, none⟩ (.map (some (wr.heap.size + 1)))).alloc (.map #[] 0)).alloc (.map #[] 0)) := by
  have hne : (∀ b, b = F.bl ∨ b = F.bw ∨ b = s + 2 ∨ b = F.bu ∨ b = F.bla ∨ b = F.bf ∨ b = F.bs ∨ b = F.gs → b ≠ F.gf ∧ b ≠ F.gu) ∧ F.gf ≠ F.gu ∧ F.gf < F.c0 ∧ F.gu < F.c0 ∧ s ≤ F.gf ∧ s ≤ F.gu ∧ F.m = m := by
    subst hF
    refine ⟨fun b hb => ?_, ?_, ?_, ?_, ?_, ?_, rfl⟩
    · simp only [bfOf] at hb ⊢; omega
    all_goals (simp only [bfOf]; omega)
  obtain ⟨hne, hfu, hfc, huc, hsf, hsu, hm⟩ := hne
  have hz := H.sz
  have go : ∀ {b : Nat} {t : TypeId} {cs : Array Value}, Blk wr b t cs → (b = F.bl ∨ b = F.bw ∨ b = s + 2 ∨ b = F.bu ∨ b = F.bla ∨ b = F.bf ∨ b = F.bs ∨ b = F.gs) → Blk ((((wr.setCell ⟨F.gf, k, none⟩ (.map (some wr.heap.size))).setCell ⟨F.gu, k, none⟩ (.map (some (wr.heap.size + 1)))).alloc (.map #[] 0)).alloc (.map #[] 0)) b t cs := fun hb he => (((hb.far (hne _ he).1 _).far (hne _ he).2 _).alloc _).alloc _
  have gm : ∀ {α β : Type} {kt et : TypeId} {kk : α → Lit} {ee : β → Lit} {b q : Nat} {f : α → Option β}, MapIs Try.prog kt et kk ee wr b q f → F.c0 ≤ b → MapIs Try.prog kt et kk ee ((((wr.setCell ⟨F.gf, k, none⟩ (.map (some wr.heap.size))).setCell ⟨F.gu, k, none⟩ (.map (some (wr.heap.size + 1)))).alloc (.map #[] 0)).alloc (.map #[] 0)) b q f := fun hb he => (((hb.setCell (show _ ≠ F.gf by omega) _).setCell (show _ ≠ F.gu by omega) _).alloc _).alloc _
  have hsz : ((wr.setCell ⟨F.gf, k, none⟩ (.map (some wr.heap.size))).setCell ⟨F.gu, k, none⟩ (.map (some (wr.heap.size + 1)))).heap.size = wr.heap.size := by simp [World.setCell]
  refine ⟨by simp; omega, go H.xl (by simp), go H.xw (by simp), go H.xr (by simp), go H.xu (by simp), go H.xla (by simp), go H.xf (by simp), go H.xs (by simp), ?_, ?_, ?_, fun j hj => ?_, fun j hj => ?_, ?_⟩
  · obtain ⟨V, h1, h2, h3⟩ := H.cu
    refine ⟨_, (((h1.far (Ne.symm hfu) _).set_ k _).alloc _).alloc _, by simp [h2], fun j hj => ?_⟩
    by_cases hjk : j = k
    · subst hjk; rw [Array.getElem?_setIfInBounds_self_of_lt (by omega), hz]
    · rw [Array.getElem?_setIfInBounds_ne (by omega)]; exact h3 j (by omega)
  · obtain ⟨V, h1, h2, h3⟩ := H.cf
    refine ⟨_, (((h1.set_ k _).far hfu _).alloc _).alloc _, by simp [h2], fun j hj => ?_⟩
    by_cases hjk : j = k
    · subst hjk; rw [Array.getElem?_setIfInBounds_self_of_lt (by omega), hz]
    · rw [Array.getElem?_setIfInBounds_ne (by omega)]; exact h3 j (by omega)
  · obtain ⟨V, h1, h2, h3⟩ := H.cs
    exact ⟨V, go h1 (by simp), h2, h3⟩
  · by_cases hjk : j = k
    · subst hjk
      have := (MapIs.made Try.prog 9 3 Lit.string (Lit.int .i64) ((wr.setCell ⟨F.gf, j, none⟩ (.map (some wr.heap.size))).setCell ⟨F.gu, j, none⟩ (.map (some (wr.heap.size + 1))))).alloc (.map #[] 0)
      rw [hsz, hz] at this
      rw [hz]
      exact this
    · exact gm (H.mf j (by omega)) (by omega)
  · by_cases hjk : j = k
    · subst hjk
      have := MapIs.made Try.prog 3 3 (Lit.int .i64) (Lit.int .i64) (((wr.setCell ⟨F.gf, j, none⟩ (.map (some wr.heap.size))).setCell ⟨F.gu, j, none⟩ (.map (some (wr.heap.size + 1)))).alloc (.map #[] 0))
      rw [show (((wr.setCell ⟨F.gf, j, none⟩ (.map (some wr.heap.size))).setCell ⟨F.gu, j, none⟩ (.map (some (wr.heap.size + 1)))).alloc (.map #[] 0)).heap.size = F.c0 + 2 * j + 1 by simp; omega] at this
      exact this
    · exact gm (H.mu j (by omega)) (by omega)
  · refine (((H.bel.setCell (p := ⟨F.gf, k, none⟩) (show w.heap.size ≤ F.gf by omega) _).setCell (p := ⟨F.gu, k, none⟩) (show w.heap.size ≤ F.gu by omega) _).alloc ?_ _).alloc ?_ _
    · have := H.bel.size; omega
    · have := H.bel.size; simp; omega
/-- the memory when the closure has been made -/
theorem bmem_start {F : BF} {A : Option Addr} {n c : Nat} {A' : Option Addr} {m c' s h : Nat} {w wr : World} {l : List (Int × Int × Int)} {ws : List Int} (hF : F = bfOf s h A n c A' m c') (hs : s + 3 ≤ h) (hw : w.heap.size = s) (H : Ini F (s + 2) (m + 1) w wr)
    (hr : Reads w s 3 A n (l.flatMap spv)) (hr' : Reads w s 1 A' m (ws.map iv)) : BMem F l ws (PS0 m) 0 (wr.alloc (.cells #[F.clos] 53)) := by
  have hm : F.m = m := by subst hF; rfl
  have hz := H.sz
  have hN : F.N = s ∧ F.A = A ∧ F.n = n ∧ F.A' = A' ∧ F.H0 = F.c0 + 2 * (m + 1) + 1 ∧ F.bb = F.c0 + 2 * (m + 1) ∧ s ≤ wr.heap.size := by
    subst hF
    refine ⟨rfl, rfl, rfl, rfl, ?_, ?_, ?_⟩ <;> simp only [bfOf] at hz ⊢ <;> omega
  obtain ⟨hN, hA, hn, hA', hH, hbb, hsw⟩ := hN
  have hrl : Reads (wr.alloc (.cells #[F.clos] 53)) s 3 A n (l.flatMap spv) := ((hr.below (hw ▸ H.bel))).alloc hsw _
  have hrw : Reads (wr.alloc (.cells #[F.clos] 53)) s 1 A' m (ws.map iv) := ((hr'.below (hw ▸ H.bel))).alloc hsw _
  have hst : ∀ k, stg (PS0 m).ss k = [] := fun k => stg_rep _ _
  refine ⟨H.xl.alloc _, H.xw.alloc _, H.xu.alloc _, H.xla.alloc _, blk_at (by omega), H.xf.alloc _, H.xs.alloc _, ?_, ?_, ?_, fun k hk => ?_, fun k hk => ⟨0, by simp, ?_⟩, by rw [hN, hA, hn]; exact hrl, by rw [hN, hA', hm]; exact hrw, by simp; omega⟩
  · obtain ⟨V, h1, _, h3⟩ := H.cu
    exact ⟨V, h1.alloc _, fun k hk => h3 k (by omega)⟩
  · obtain ⟨V, h1, _, h3⟩ := H.cf
    exact ⟨V, h1.alloc _, fun k hk => h3 k (by omega)⟩
  · obtain ⟨V, h1, h2, h3⟩ := H.cs
    refine ⟨V, h1.alloc _, h2, fun k hk => ⟨_, h3 k (by omega), by rw [hst]; exact World.ownsRow_nil _ _ _ _⟩, fun j k u v b hjk hu hv hb => ?_⟩
    have hj := (Array.getElem?_eq_some_iff.1 hu).1
    rw [h3 j (by omega)] at hu
    injection hu with hu
    subst hu
    cases hb
  · rw [cnt_zero]; exact (H.mf (k + 1) (by omega)).alloc _
  · exact (H.mu (k + 1) (by omega)).alloc _

/-- two blocks are as they were -/
def KB2 (b1 b2 : Nat) (w u : World) : Prop := u.heap[b1]? = w.heap[b1]? ∧ u.heap[b2]? = w.heap[b2]?
theorem KB2.set {b1 b2 : Nat} {w u : World} (h : KB2 b1 b2 w u) {p : Addr} (h1 : b1 ≠ p.block) (h2 : b2 ≠ p.block) (v : Value) : KB2 b1 b2 w (u.setCell p v) := ⟨(Below.heap_setCell u p v b1 h1).trans h.1, (Below.heap_setCell u p v b2 h2).trans h.2⟩
theorem rowB_ge {F : BF} {l : List (Int × Int × Int)} {ws : List Int} {st : PS} {a : Nat} {w : World} (h : BMem F l ws st a w) {b : Nat} (hb : rowB F w b) : F.H0 ≤ b := by
  obtain ⟨k, v, h1, h2⟩ := hb
  obtain ⟨V, g1, g2, g3, _⟩ := h.cs
  rw [g1.cell] at h1
  have hk := (Array.getElem?_eq_some_iff.1 h1).1
  obtain ⟨v', q1, q2⟩ := g3 k (by omega)
  rw [h1] at q1
  injection q1 with q1
  subst q1
  exact (q2.lt b h2).1

set_option maxRecDepth 100000 in
set_option maxHeartbeats 4000000 in
theorem build_any (A : Option Addr) (n c : Nat) (l : List (Int × Int × Int)) (A' : Option Addr) (m c' : Nat) (ws : List Int) (w : World) (hr : Reads w w.heap.size 3 A n (l.flatMap spv)) (hr' : Reads w w.heap.size 1 A' m (ws.map iv)) (hn : n ≤ 2000000) (hc' : m ≤ c') (hm : m ≤ 2000000) (hl : W64s l) :
    Calls Try.prog 12 #[.slice A n c, .slice A' m c'] w fun e w' => BuildE l ws m e w' ∧ Below w.heap.size w w' := by
  have Hr := Lib.hid hr
  have Hr' := Lib.hid hr'
  have Hl := Lib.hid hl
  clear hr hr' hl
  go_enter Try.func12, Try.ntmps12
  go_wp2_with fail
  have hL : Below w.heap.size w (((w.alloc (.cells #[.slice A n c] 22)).alloc (.cells #[.slice A' m c'] 23)).alloc (.cells #[.slice none 0 0, .slice none 0 0] 28)) := (((Below.refl _ _).alloc (Nat.le_refl _) _).alloc (by simp) _).alloc (by simp; omega) _
  have p1 : Blk (((w.alloc (.cells #[.slice A n c] 22)).alloc (.cells #[.slice A' m c'] 23)).alloc (.cells #[.slice none 0 0, .slice none 0 0] 28)) w.heap.size 22 #[.slice A n c] := ((Blk.new w _ _).alloc _).alloc _
  have p2 : Blk (((w.alloc (.cells #[.slice A n c] 22)).alloc (.cells #[.slice A' m c'] 23)).alloc (.cells #[.slice none 0 0, .slice none 0 0] 28)) (w.heap.size + 1) 23 #[.slice A' m c'] := by
    have := (Blk.new (w.alloc (.cells #[.slice A n c] 22)) 23 #[.slice A' m c']).alloc (.cells #[.slice none 0 0, .slice none 0 0] 28)
    simpa using this
  have p3 : Blk (((w.alloc (.cells #[.slice A n c] 22)).alloc (.cells #[.slice A' m c'] 23)).alloc (.cells #[.slice none 0 0, .slice none 0 0] 28)) (w.heap.size + 2) 28 #[.slice none 0 0, .slice none 0 0] := by
    have := (Blk.new ((w.alloc (.cells #[.slice A n c] 22)).alloc (.cells #[.slice A' m c'] 23)) 28 #[.slice none 0 0, .slice none 0 0])
    simpa using this
  obtain ⟨W, hW⟩ : ∃ W, W = (((w.alloc (.cells #[.slice A n c] 22)).alloc (.cells #[.slice A' m c'] 23)).alloc (.cells #[.slice none 0 0, .slice none 0 0] 28)) := ⟨_, rfl⟩
  have hW3 : W.heap.size = w.heap.size + 3 := by rw [hW]; simp
  rw [← hW] at hL p1 p2 p3 ⊢
  clear hW
  refine (check_any A n c l A' m c' ws W ((Hr.out.below hL).more hL.size) ((Hr'.out.below hL).more hL.size) hn hc' hm).mono ?_
  rintro e w1 ⟨⟨r, rfl, hr⟩, hb1⟩
  have hL1 := hL.trans (hb1.mono hL.size)
  have hsz3 : w.heap.size + 3 ≤ w1.heap.size := by have := hb1.size; rw [hW3] at this; exact this
  have Hsz3 := Lib.hid hsz3
  clear hsz3
  have P1 := Lib.hid (p1.stay hb1)
  have P2 := Lib.hid (p2.stay hb1)
  have P3 := Lib.hid (p3.stay hb1)
  have HL := Lib.hid hL1
  have HR := Lib.hid hr
  clear hL p1 p2 p3 hb1 hL1 hr
  have g0 := P1.out.cell 0
  have g1 := P2.out.cell 0
  have g3 := P3.out.cell 0
  have g4 := P3.out.cell 1
  have f3 := P3.out.frozen 0
  have f4 := P3.out.frozen 1
  by_cases hr0 : r = 0
  rotate_left
  · have hrb : (r != 0) = true := by simpa using hr0
    go_wp2
    (try simp only [Exit.inBlock, Exit.then])
    refine bodyPost_ret (ret_tab rfl rfl (x := .slice none 0 0) (y := .slice none 0 0) ?_) rfl ?_
    · have h1 := (P3.out.set_ 0 (.slice none 0 0)).set_ 1 (.slice none 0 0)
      simpa using h1
    · exact ⟨.inl ⟨r, hr0, HR.out, rfl⟩, ((HL.out.setCell (by simp; omega) _).setCell (by simp; omega) _)⟩
  subst hr0
  have hw : okW ws := by
    rcases HR.out with ⟨_, h⟩ | ⟨_, _, h⟩ | ⟨_, h, _⟩
    · omega
    · omega
    · exact h
  have hs : okS l := by
    rcases HR.out with ⟨_, h⟩ | ⟨_, _, h⟩ | ⟨h, _⟩
    · omega
    · omega
    · exact h
  have hml : ws.length = m := by have := Hr'.out.1; simpa using this
  have hm3 : 1 ≤ m ∧ m ≤ 3 := by rw [← hml]; exact ⟨hw.1, hw.2.1⟩
  obtain ⟨hm1, hm3⟩ := hm3
  have Hw := Lib.hid hw
  have Hs := Lib.hid hs
  have Hml := Lib.hid hml
  clear hw hs hml
  obtain ⟨i1, a1, a2, a3, a4⟩ := info_parts Try.infoT23
  obtain ⟨Z1, hZ1, hZ1k, hmk1⟩ := mk_any 26 23 i1 (.slice none 0 0) 24 Try.underlying26 a1 a2 a3 a4 (by omega) rfl (m + 1) (by omega)
  obtain ⟨i2, b1, b2, b3, b4⟩ := info_parts Try.infoT51
  obtain ⟨Z2, hZ2, hZ2k, hmk2⟩ := mk_any 49 51 i2 (.map none) 8 Try.underlying49 b1 b2 b3 b4 (by omega) rfl (m + 1) (by omega)
  obtain ⟨i3, d1, d2, d3, d4⟩ := info_parts Try.infoT52
  obtain ⟨Z3, hZ3, hZ3k, hmk3⟩ := mk_any 50 52 i3 (.map none) 8 Try.underlying50 d1 d2 d3 d4 (by omega) rfl (m + 1) (by omega)
  clear a1 a2 a3 a4 b1 b2 b3 b4 d1 d2 d3 d4
  rw [show ((m + 1 : Nat) : Int) = (m : Int) + 1 by omega] at hmk1 hmk2 hmk3
  have HZ1 := Lib.hid (And.intro hZ1 hZ1k)
  have HZ2 := Lib.hid (And.intro hZ2 hZ2k)
  have HZ3 := Lib.hid (And.intro hZ3 hZ3k)
  clear hZ1 hZ1k hZ2 hZ2k hZ3 hZ3k f3 f4 g3 g4
  go_wp2_with fail
  obtain ⟨F, hF⟩ : ∃ F, F = bfOf w.heap.size w1.heap.size A n c A' m c' := ⟨_, rfl⟩
  have hI : Ini F (w.heap.size + 2) 0 w (((((((w1.alloc (.cells #[.int .i64 (m : Int)] 3)).alloc (.cells Z1 23)).alloc (.cells #[.slice (some ⟨w1.heap.size + 1, 0, none⟩) (m + 1) (m + 1)] 26)).alloc (.cells Z2 51)).alloc (.cells #[.slice (some ⟨w1.heap.size + 1 + 1 + 1, 0, none⟩) (m + 1) (m + 1)] 49)).alloc (.cells Z3 52)).alloc (.cells #[.slice (some ⟨w1.heap.size + 1 + 1 + 1 + 1 + 1, 0, none⟩) (m + 1) (m + 1)] 50)) := by
    rw [hF]; exact ini_zero Hsz3.out P1.out P2.out P3.out HL.out HZ1.out HZ2.out.1 HZ3.out.1
  have HI := Lib.hid hI
  clear hI
  have hmm := @run_makeMap Try.prog
  go_loopw [36] (fun s36 wr => ∃ k : Nat, k ≤ m + 1 ∧ s36 = .int .i64 (k : Int) ∧ Hid (Ini F (w.heap.size + 2) k w wr)) (fun s36 _ => m + 1 - (intOf s36).toNat)
  case atStart => exact ⟨0, by omega, rfl, HI⟩
  case round =>
    obtain ⟨k, hk, rfl, HK⟩ := hrel
    obtain ⟨V2, cf1, cf2, cf3⟩ := HK.out.cf
    obtain ⟨V3, cu1, cu2, cu3⟩ := HK.out.cu
    have hkm : k < F.m + 1 → k < V2.size ∧ k < V3.size := fun h => ⟨by omega, by omega⟩
    have q1 : wr.cell? ⟨w1.heap.size + 1 + 1 + 1 + 1, 0, none⟩ = some (.slice (some ⟨w1.heap.size + 1 + 1 + 1, 0, none⟩) (m + 1) (m + 1)) := by have := HK.out.xf.cell 0; rw [hF] at this; exact this
    have q2 : wr.cell? ⟨w1.heap.size + 1 + 1 + 1 + 1 + 1 + 1, 0, none⟩ = some (.slice (some ⟨w1.heap.size + 1 + 1 + 1 + 1 + 1, 0, none⟩) (m + 1) (m + 1)) := by have := HK.out.xu.cell 0; rw [hF] at this; exact this
    have q5 : wr.frozen? ⟨w1.heap.size + 1 + 1 + 1, k, none⟩ = false := by have := cf1.frozen k; rw [hF] at this; exact this
    have q6 : wr.frozen? ⟨w1.heap.size + 1 + 1 + 1 + 1 + 1, k, none⟩ = false := by have := cu1.frozen k; rw [hF] at this; exact this
    have hFm : F.m = m := by rw [hF]; rfl
    have hsz : wr.heap.size = F.c0 + 2 * k := HK.out.sz
    have Hsz := Lib.hid hsz
    by_cases hlt : k < m + 1
    · have hki : (k : Int) < (m : Int) + 1 := by omega
      obtain ⟨x3, q3⟩ : ∃ x, wr.cell? ⟨w1.heap.size + 1 + 1 + 1, k, none⟩ = some x := by
        obtain ⟨x, hx⟩ : ∃ x, V2[k]? = some x := ⟨_, Array.getElem?_eq_getElem (hkm (by omega)).1⟩
        have := cf1.cell k; rw [hx, hF] at this; exact ⟨x, this⟩
      obtain ⟨x4, q4⟩ : ∃ x, wr.cell? ⟨w1.heap.size + 1 + 1 + 1 + 1 + 1, k, none⟩ = some x := by
        obtain ⟨x, hx⟩ : ∃ x, V3[k]? = some x := ⟨_, Array.getElem?_eq_getElem (hkm (by omega)).2⟩
        have := cu1.cell k; rw [hx, hF] at this; exact ⟨x, this⟩
      clear cf1 cf2 cf3 cu1 cu2 cu3 hkm
      have q7 : w1.heap.size + 1 + 1 + 1 < wr.heap.size := by rw [hsz, hF]; simp only [bfOf]; omega
      have q8 : w1.heap.size + 1 + 1 + 1 + 1 < wr.heap.size := by rw [hsz, hF]; simp only [bfOf]; omega
      have q9 : w1.heap.size + 1 + 1 + 1 + 1 + 1 < wr.heap.size := by rw [hsz, hF]; simp only [bfOf]; omega
      have q10 : w1.heap.size + 1 + 1 + 1 + 1 + 1 + 1 < wr.heap.size := by rw [hsz, hF]; simp only [bfOf]; omega
      clear hsz
      go_wp2
      have HK2 := Lib.hid (ini_step hF Hsz3.out rfl (by omega) HK.out)
      clear q1 q2 q3 q4 q5 q6 q7 q8 q9 q10
      refine ⟨⟨k + 1, by omega, by go_num, ?_⟩, by simp [intOf]; omega⟩
      rw [hF] at HK2 ⊢
      exact HK2
    · have hkm2 : k = m + 1 := by omega
      subst hkm2
      have hki : ¬ ((m + 1 : Nat) : Int) < (m : Int) + 1 := by omega
      have Hbb := Lib.hid (show wr.heap.size = F.bb by rw [hsz, hF]; rfl)
      have HF := Lib.hid hF
      have g1 : wr.cell? ⟨w.heap.size + 1, 0, none⟩ = some (.slice A' m c') := by have := HK.out.xw.cell 0; rw [hF] at this; exact this
      have q11 : w.heap.size + 1 < wr.heap.size := by rw [hsz, hF]; simp only [bfOf]; have := Hsz3.out; omega
      clear q1 q2 q5 q6 hFm hsz hF cf1 cf2 cf3 cu1 cu2 cu3 hkm hlt hk
      go_wp2_with fail
      obtain ⟨W0, hW0⟩ : ∃ W0, W0 = wr.alloc (.cells #[.func (.func 32) #[] #[.pointer (some ⟨w.heap.size, 0, none⟩), .pointer (some ⟨w.heap.size + 1, 0, none⟩), .pointer (some ⟨w1.heap.size + 1 + 1 + 1 + 1 + 1 + 1, 0, none⟩), .pointer (some ⟨w1.heap.size, 0, none⟩), .pointer (some ⟨wr.heap.size, 0, none⟩), .pointer (some ⟨w1.heap.size + 1 + 1 + 1 + 1, 0, none⟩), .pointer (some ⟨w1.heap.size + 1 + 1, 0, none⟩)]] 53) := ⟨_, rfl⟩
      have hcl : (Value.func (.func 32) #[] #[.pointer (some ⟨w.heap.size, 0, none⟩), .pointer (some ⟨w.heap.size + 1, 0, none⟩), .pointer (some ⟨w1.heap.size + 1 + 1 + 1 + 1 + 1 + 1, 0, none⟩), .pointer (some ⟨w1.heap.size, 0, none⟩), .pointer (some ⟨wr.heap.size, 0, none⟩), .pointer (some ⟨w1.heap.size + 1 + 1 + 1 + 1, 0, none⟩), .pointer (some ⟨w1.heap.size + 1 + 1, 0, none⟩)]) = F.clos := by
        rw [Hbb.out, HF.out]; rfl
      rw [← hW0]
      rw [hcl] at hW0
      have hB0 := bmem_start HF.out Hsz3.out rfl HK.out Hr.out Hr'.out
      rw [← hW0] at hB0
      have HB0 := Lib.hid hB0
      have hsw : w.heap.size ≤ W0.heap.size := by rw [hW0]; simp; omega
      have hbw : Below w.heap.size w W0 := by rw [hW0]; exact HK.out.bel.alloc (by omega) _
      have hxr : Blk W0 (w.heap.size + 2) 28 #[.slice none 0 0, .slice none 0 0] := by rw [hW0]; exact HK.out.xr.alloc _
      have HBw := Lib.hid hbw
      have HXr := Lib.hid hxr
      have HFok := Lib.hid (show F.ok by rw [HF.out]; exact bfOf_ok Hsz3.out hc' hn)
      clear hB0 hcl hbw hxr hW0 g1 q11 HK hki
      refine (sumT_any A' m c' 0 ws W0 ((Hr'.out.below HBw.out).more hsw) hc' hm3 (by omega) (fun x hx => Hw.out.2.2.1 x hx)).mono ?_
      rintro e w2 ⟨rfl, rfl⟩
      rw [bel_int Hw.out 0]
      have hb16 := bel_le Hw.out 0
      obtain ⟨b0, hb0⟩ : ∃ b0, b0 = bel ws 0 := ⟨_, rfl⟩
      rw [← hb0] at hb16 ⊢
      have Hb0 := Lib.hid hb0
      clear hb0
      go_wp2_with fail
      rw [← shr_int b0]
      obtain ⟨J, hJ⟩ : ∃ J, J = 1114112 / 2 ^ b0 := ⟨_, rfl⟩
      have hbb := Hbb.out
      have hbs : w1.heap.size + 1 + 1 = F.bs := by rw [HF.out]; rfl
      rw [← hJ, hbb, hbs]
      have HJ := Lib.hid hJ
      have Hbs := Lib.hid hbs
      have hJ6 : J ≤ 1114112 := by rw [hJ]; exact Nat.div_le_self _ _
      clear hJ hbb hbs hmm
      go_loopw [53] (fun s53 wx => ∃ (j : Nat) (st : PS), j ≤ J ∧ s53 = .int .i64 (j : Int) ∧ Hid (S0 ws l st j) ∧ Hid (BMem F l ws st (j * 2 ^ bel ws 0) wx) ∧ Hid (Frm F w2 wx)) (fun s53 _ => J - (intOf s53).toNat)
      case atStart => exact ⟨0, PS0 m, by omega, rfl, Lib.hid (s0_zero Hml.out), Lib.hid (by rw [Nat.zero_mul]; exact HB0.out), Lib.hid (Frm.refl _ _)⟩
      case round =>
        obtain ⟨j, st, hj, rfl, HS, HB, HFr⟩ := hrel
        have g12 := HB.out.xb.cell 0
        unfold BF.clos at g12
        by_cases hlt : j < J
        · have hjp : (j : Int) < (J : Int) := by omega
          have hM : (j + 1) * 2 ^ bel ws 0 ≤ 1114112 := by
            have h1 : (j + 1) * 2 ^ bel ws 0 ≤ J * 2 ^ bel ws 0 := Nat.mul_le_mul_right _ hlt
            rw [HJ.out, Hb0.out] at h1
            exact Nat.le_trans h1 (Nat.div_mul_le_self _ _)
          obtain ⟨C, hC⟩ : ∃ C, C = j * 2 ^ bel ws 0 := ⟨_, rfl⟩
          have hC2 : C + 2 ^ bel ws 0 ≤ 1114112 := by rw [hC, ← Nat.succ_mul]; exact hM
          have hsh : IntKind.i64.wrap ((j : Int) * 2 ^ b0) = (C : Int) := by
            have e : (j : Int) * 2 ^ b0 = (C : Int) := by rw [hC, ← Hb0.out, Int.natCast_mul, Int.natCast_pow]; rfl
            have hp := Nat.two_pow_pos (bel ws 0)
            rw [e]; exact IntWalk.i64_in _ (by omega)
          have HC := Lib.hid hC
          have hFm : F.m = m := by rw [HF.out]; rfl
          have Hcall : Calls Try.prog 32 (#[.int .i64 1, .int .i64 (C : Int)] ++ F.caps) wr.drew fun e w' => BlkE F l ws st 0 C wr.drew e w' := by
            have h0 := block_any F HFok.out l ws Hw.out Hs.out Hl.out (by rw [hFm]; exact Hml.out) (m - 1) 0 (by omega) C st wr.drew (by rw [hC]; exact HS.out.inv) hC2 (by rw [hC]; exact HB.out.stay HFok.out (Below.refl _ _).drew)
            simpa using h0
          have HCall := Lib.hid Hcall
          clear hC hM hC2 Hcall
          go_wp2_with fail
          clear hFm
          have K := Lib.hid (show wr.drew.cell? ⟨F.bb, 0, none⟩ = some (.func (.func 32) #[] F.caps) from g12)
          have KB := Lib.hid (show ∀ (st5 : PS) (a5 : Nat) (u : World), BMem F l ws st5 a5 u → u.cell? ⟨F.bb, 0, none⟩ = some (.func (.func 32) #[] F.caps) from fun st5 a5 u hu => hu.xb.cell 0)
          go_region_held3 (fun u => u.cell? ⟨F.bb, 0, none⟩ = some (.func (.func 32) #[] F.caps)) (first | exact K.out | exact KB.out _ _ _ hB5) (first | (go_at_call 32; (with_reducible refine HCall.out.mono ?_); rintro e w5 ⟨st5, i5, rfl, hP5, hB5, hF5, hL5⟩))
          have hFm : F.m = m := by rw [HF.out]; rfl
          obtain ⟨A8, c8, hc8, ho8⟩ := hB5.row (k := 0) (by omega)
          have d0 := hc8
          have d1 : w5.cell? ⟨F.bs, 0, none⟩ = some (.slice (some ⟨F.gs, 0, none⟩) (m + 1) (m + 1)) := by have := hB5.xs.cell 0; rw [hFm] at this; exact this
          have hfz := hB5.frozen 0
          have hgs5 := hB5.gs
          have hbs5 := hB5.xs.lt
          have hgl := HFok.out.hg
          have hcl := HFok.out.hc
          have hsz5 := hB5.sz
          have hbne := HFok.out.fs
          have hX : ∀ g : Nat, g < w5.heap.size → (w5.alloc (.cells #[.int .i64 (i5 : Int)] 3)).heap[g]? = w5.heap[g]? := fun g hg => Below.heap_alloc _ _ _ hg
          have HK := Lib.hid (show ∀ u, (w5.alloc (.cells #[.int .i64 (i5 : Int)] 3)).grownBy u (Value.slice A8 (stg st5.ss 0).length c8).ownBlock → u.cell? ⟨F.bs, 0, none⟩ = some (.slice (some ⟨F.gs, 0, none⟩) (m + 1) (m + 1)) ∧ (∃ y, u.cell? ⟨F.gs, 0, none⟩ = some y) ∧ u.frozen? ⟨F.gs, 0, none⟩ = false from fun u hu => by
            have e1 : u.heap[F.gs]? = w5.heap[F.gs]? := (hu.block _ (by simp; omega) (fun e => by have := (ho8.lt _ e.symm).1; omega)).trans (hX _ hgs5)
            have e2 : u.heap[F.bs]? = w5.heap[F.bs]? := (hu.block _ (by simp; omega) (fun e => by have := (ho8.lt _ e.symm).1; have := hbne.1; omega)).trans (hX _ hbs5)
            exact ⟨(World.cell?_of_block e2).trans d1, ⟨_, (World.cell?_of_block e1).trans d0⟩, (World.frozen?_of_block e1).trans hfz⟩)
          have HNEW := Lib.hid (show ∀ (u : World) (v' : Value), (w5.alloc (.cells #[.int .i64 (i5 : Int)] 3)).grownBy u (Value.slice A8 (stg st5.ss 0).length c8).ownBlock → u.ownsRow F.H0 3 1 v' ((stg st5.ss 0).length + 1) ((stg st5.ss 0).map iv ++ [.int .i64 (i5 : Int)]) → (v'.ownBlock = (Value.slice A8 (stg st5.ss 0).length c8).ownBlock ∨ v'.ownBlock = some (w5.alloc (.cells #[.int .i64 (i5 : Int)] 3)).heap.size) →
              S0 ws l (putTop st5 (i5 : Int)) (j + 1) ∧ BMem F l ws (putTop st5 (i5 : Int)) ((j + 1) * 2 ^ bel ws 0) (u.setCell ⟨F.gs, 0, none⟩ v') ∧ Frm F w2 (u.setCell ⟨F.gs, 0, none⟩ v') from fun u v' q1 q2 q3 => by
            obtain ⟨r1, r2⟩ := bmem_top HFok.out hB5 (by rw [hP5.inv.1, Hml.out, hFm]) (World.grownBy_alloc w5 _ none) hc8 q1 q2 (by rcases q3 with h | h; exact .inl h; exact .inr (.inl h))
            refine ⟨s0_step Hw.out HS.out (by rw [← HC.out]; exact hP5), by rw [Nat.succ_mul, ← HC.out]; exact r1, (HFr.out.trans ?_).trans r2⟩
            exact (Frm.out HB.out.gs (grown_of_below (Below.refl _ _).drew none) (by simp)).trans hF5)
          obtain ⟨L8, hL8⟩ : ∃ L8, L8 = (stg st5.ss 0).length := ⟨_, rfl⟩
          have hL8b : L8 ≤ 1114112 := by
            rw [hL8, hP5.ext.1 0 (Nat.le_refl _), HS.out.len]; omega
          rw [← hL8] at d0 HK HNEW ho8
          have Ho8 := Lib.hid (show ((w5.alloc (.cells #[.int .i64 (i5 : Int)] 3)).drew).ownsRow F.H0 3 1 (.slice A8 L8 c8) L8 ((stg st5.ss 0).map iv) from (ho8.alloc _).drew)
          have HR8 := Lib.hid (show Reads ((w5.alloc (.cells #[.int .i64 (i5 : Int)] 3)).drew) (w5.heap.size + 1) 1 (some ⟨w5.heap.size, 0, none⟩) 1 [.int .i64 (i5 : Int)] from
            ⟨rfl, fun _ => ⟨_, rfl, by simp, fun t u ht => by
              have hu := Blk.new w5 3 #[.int .i64 (i5 : Int)]
              cases t with
              | zero => simp at ht; subst ht; exact hu.cell 0
              | succ t => simp at ht⟩⟩)
          have hH8 : F.H0 ≤ ((w5.alloc (.cells #[.int .i64 (i5 : Int)] 3)).drew).heap.size := by simp; omega
          have HB5 := Lib.hid hB5
          obtain ⟨i0, hi, hz0, hz1', hz2'⟩ := info_parts Try.infoT3
          clear hL8 hc8 ho8 hgl hcl hsz5 hbne hX hP5 hB5 hF5 hL5 hFm
          go_wp2_with fail
          go_region_law (refine step_append_own_at rfl (.tmp 64) (.tmp 66) 23 rfl Try.underlying23 hi hz0 hz1' hz2' rfl (by omega) (.slice A8 L8 c8) L8 _ (by simp [Act.eval]) Ho8.out 1 1 (by omega) [.int .i64 (i5 : Int)] (by simp [Act.eval]) HR8.out (by intro u hu; simp at hu; subst hu; rfl) (by omega) hH8 ?_; intro v8 w8 ho9 hg8 hat8; obtain ⟨A10, c10, rfl, _, _⟩ := val_of_own ho9; have hg9 := grown_undrew hg8; obtain ⟨k1, ⟨ky, k2⟩, k3⟩ := HK.out w8 hg9)
          all_goals (go_wp2_with fail)
          all_goals (obtain ⟨r1, r2, r3⟩ := HNEW.out w8 _ hg9 ho9 hat8; go_roundw)
          all_goals (first | exact ⟨j + 1, putTop st5 (i5 : Int), by omega, by go_num, Lib.hid r1, Lib.hid r2, Lib.hid r3⟩ | (simp [intOf]; omega))
        · have hjJ : j = J := by omega
          subst hjJ
          have hcan := can_of Hw.out HS.out (by rw [HJ.out, Hb0.out, bel_zero])
          have HCan := Lib.hid hcan
          have hFm : F.m = m := by rw [HF.out]; rfl
          have hst := HCan.out.ok.2.1
          have d1 : wr.cell? ⟨F.bs, 0, none⟩ = some (.slice (some ⟨F.gs, 0, none⟩) (m + 1) (m + 1)) := by have := HB.out.xs.cell 0; rw [hFm] at this; exact this
          have d2 : wr.cell? ⟨w.heap.size + 1, 0, none⟩ = some (.slice A' m c') := by have := HB.out.xw.cell 0; rw [HF.out] at this; exact this
          have hkeep : ∀ b, b < w.heap.size + 3 → wr.heap[b]? = w2.heap[b]? := fun b hb => by
            have e := Hsz3.out
            have h1 : b < F.gs ∧ b < F.c0 ∧ b < F.H0 := by rw [HF.out]; simp only [bfOf]; omega
            exact HFr.out.block b (by have := HB0.out.sz; omega) (by omega) (fun h => by have := h.1; omega) (fun h => by have := rowB_ge HB0.out h; omega)
          have hbel : Below w.heap.size w wr := HBw.out.trans ⟨HFr.out.os, HFr.out.tape, HFr.out.output, HFr.out.size, fun b hb => hkeep b (by omega)⟩
          have hxr : Blk wr (w.heap.size + 2) 28 #[.slice none 0 0, .slice none 0 0] := HXr.out.blk (hkeep _ (by omega))
          have hbsne : w.heap.size + 2 ≠ F.bs := by rw [HF.out]; simp only [bfOf]; have := Hsz3.out; omega
          have hbsl := HB.out.xs.lt
          have hw3 : w.heap.size + 2 < wr.heap.size := hxr.lt
          have hrr := (Hr'.out.below hbel).more hbel.size
          have CR := Lib.hid (show Calls Try.prog 36 #[.slice A' m c'] wr.drew fun e v => ∃ A1 c1, e = .returned (.slice A1 m c1) ∧ v.ownsRow wr.heap.size 3 1 (.slice A1 m c1) m (ws.map iv) ∧ Below wr.heap.size wr v from
            (clone_any A' m c' ws wr.drew hrr (by omega) hm).mono fun e v ⟨A1, c1, h1, h2, h3⟩ => ⟨A1, c1, h1, h2, (Below.refl _ _).drew.trans h3⟩)
          have K := Lib.hid (show ∀ u, KB2 (w.heap.size + 1) F.bs wr u → u.cell? ⟨w.heap.size + 1, 0, none⟩ = some (.slice A' m c') ∧ u.cell? ⟨F.bs, 0, none⟩ = some (.slice (some ⟨F.gs, 0, none⟩) (m + 1) (m + 1)) from fun u hu => ⟨(World.cell?_of_block hu.1).trans d2, (World.cell?_of_block hu.2).trans d1⟩)
          have HN := Lib.hid (And.intro hbsne hbsl)
          have HTb := Lib.hid (show ∀ u : World, u.heap[F.gs]? = wr.heap[F.gs]? → (∀ b, F.H0 ≤ b → b < wr.heap.size → u.heap[b]? = wr.heap[b]?) → ∃ vs, Reads u u.heap.size 1 (some ⟨F.gs, 0, none⟩) (m + 1) vs ∧ Rows u u.heap.size vs st.ss from fun u h1 h2 => by have := bmem_tab HB.out (by rw [hst, Hml.out, hFm]) h1 h2; rw [hFm] at this; exact this)
          have HG := Lib.hid (show F.gs < wr.heap.size ∧ w.heap.size + 2 ≠ F.gs ∧ w.heap.size + 2 < F.H0 from ⟨HB.out.gs, by rw [HF.out]; simp only [bfOf]; have := Hsz3.out; omega, by rw [HF.out]; simp only [bfOf]; have := Hsz3.out; omega⟩)
          have HBel := Lib.hid hbel
          have HXr2 := Lib.hid hxr
          have hbK : KB2 (w.heap.size + 1) F.bs wr wr.drew := ⟨rfl, rfl⟩
          clear hkeep hbel hxr hst d1 d2 hFm hrr hcan hlt hj
          go_wp2_with fail
          go_region_held3 (fun u => u.cell? ⟨w.heap.size + 1, 0, none⟩ = some (.slice A' m c') ∧ u.cell? ⟨F.bs, 0, none⟩ = some (.slice (some ⟨F.gs, 0, none⟩) (m + 1) (m + 1))) (first | exact K.out _ hbK | exact K.out _ ((hbK.set (p := ⟨w.heap.size + 2, 0, none⟩) (by simp) HN.out.1.symm _).set (p := ⟨w.heap.size + 2, 1, none⟩) (by simp) HN.out.1.symm _)) (first | (go_at_call 36; (with_reducible refine CR.out.mono ?_); rintro e w5 ⟨A1, c1, rfl, ho5, hb5⟩; clear hbK; have hbK : KB2 (w.heap.size + 1) F.bs wr w5 := ⟨hb5.block _ (by omega), hb5.block _ HN.out.2⟩; have hF0 := HXr2.out.stay hb5; have z0 := hF0.cell 0; have z1 := hF0.cell 1; have f0 := hF0.frozen 0; have f1 := hF0.frozen 1))
          have hBlk : Blk ((w5.setCell ⟨w.heap.size + 1 + 1, 0, none⟩ (.slice A1 m c1)).setCell ⟨w.heap.size + 1 + 1, 1, none⟩ (.slice (some ⟨F.gs, 0, none⟩) (m + 1) (m + 1))) (w.heap.size + 1 + 1) 28 #[.slice A1 m c1, .slice (some ⟨F.gs, 0, none⟩) (m + 1) (m + 1)] := by
            have := (hF0.set_ 0 (.slice A1 m c1)).set_ 1 (.slice (some ⟨F.gs, 0, none⟩) (m + 1) (m + 1))
            simpa using this
          have hbel2 : Below w.heap.size w ((w5.setCell ⟨w.heap.size + 1 + 1, 0, none⟩ (.slice A1 m c1)).setCell ⟨w.heap.size + 1 + 1, 1, none⟩ (.slice (some ⟨F.gs, 0, none⟩) (m + 1) (m + 1))) :=
            ((HBel.out.trans (hb5.mono HBel.out.size)).setCell (by simp; omega) _).setCell (by simp; omega) _
          have hsz5 := hb5.size
          have hfar : ∀ b, b ≠ w.heap.size + 1 + 1 → ((w5.setCell ⟨w.heap.size + 1 + 1, 0, none⟩ (.slice A1 m c1)).setCell ⟨w.heap.size + 1 + 1, 1, none⟩ (.slice (some ⟨F.gs, 0, none⟩) (m + 1) (m + 1))).heap[b]? = w5.heap[b]? := fun b hb => (Below.heap_setCell _ _ _ b hb).trans (Below.heap_setCell _ _ _ b hb)
          obtain ⟨hG1, hG2, hG3⟩ := HG.out
          obtain ⟨vs, ht1, ht2⟩ := HTb.out _ ((hfar F.gs (by omega)).trans (hb5.block _ hG1)) (fun b h1 h2 => (hfar b (by omega)).trans (hb5.block b h2))
          obtain ⟨A2, c2, he2, hc2, hr2⟩ := val_of_own (own_blk ho5 fun g eg => hfar g (by have := (ho5.lt g eg).1; omega))
          injection he2 with e1 e2 e3
          subst e1
          subst e3
          have HE := Lib.hid (show BuildE l ws m (.returned (.tuple #[.agg #[.slice A1 m c1, .slice (some ⟨F.gs, 0, none⟩) (m + 1) (m + 1)], .int .i64 0])) ((w5.setCell ⟨w.heap.size + 1 + 1, 0, none⟩ (.slice A1 m c1)).setCell ⟨w.heap.size + 1 + 1, 1, none⟩ (.slice (some ⟨F.gs, 0, none⟩) (m + 1) (m + 1))) from
            .inr ⟨HR.out, _, _, rfl, ⟨A1, c1, _, _, rfl, ⟨hr2, hc2, vs, ht1, ht2⟩⟩, HCan.out⟩)
          clear ht1 ht2 hr2 hfar hbK z0 z1 f0 f1
          (try go_wp2)
          (try simp only [Exit.inBlock, Exit.then])
          exact bodyPost_ret (ret_tab rfl rfl hBlk) rfl ⟨HE.out, hbel2⟩
end Go.Proofs.Ytnlmikefihaldaa
