/- The closure of ReadPool. -/
import Derived.Test.YthpngcfggnhdjaaPlV
namespace Go.Proofs.Ythpngcfggnhdjaa
open Go.RowKit Go.Proofs.Img

theorem own_base {w : World} {base base' n : Nat} {e : TypeId} {v : Value} {xs : List Value} (h : w.ownsRow base e 1 v n xs) (hb : base' ≤ base) : w.ownsRow base' e 1 v n xs := by
  obtain ⟨h1, h2⟩ := h
  refine ⟨h1, ?_⟩
  rcases h2 with h2 | ⟨g, cap, cur, a1, a2, a3⟩
  · exact .inl h2
  · exact .inr ⟨g, cap, cur, a1, by omega, a3⟩
theorem val_of_own {w : World} {base n : Nat} {e : TypeId} {v : Value} {xs : List Value} (h : w.ownsRow base e 1 v n xs) : ∃ A c, v = .slice A n c ∧ n ≤ c ∧ Reads w w.heap.size 1 A n xs := by
  have h0 := h
  rcases h0.2 with ⟨rfl, rfl⟩ | ⟨g, cap, cur, rfl, _, _, hc, _⟩
  · exact ⟨none, 0, rfl, Nat.le_refl _, Reads.of_own h⟩
  · exact ⟨_, cap, rfl, hc, Reads.of_own h⟩
theorem wpList_appR {P : Program} {ops : Array Oper} {rest : List Oper} {o : Oper} {a : Act} {Q : Exit → Act → World → Prop} (hgd : o.guard = none) (s x : Operand) (t : TypeId)
    (ho : o.op = .call { callee := .builtin .append, args := #[s, x], argTypes := #[t, t] })
    {base : Nat} {e : TypeId} {i : TypeInfo} {z : Value} {bytes : Nat} (ht : P.underlying t = some (.slice e)) (hi : P.info? e = some i) (hz : i.zero = some z)
    (hsize : i.size = 1) (hby : i.bytes = bytes) (hzs : z.cells.size = 1) (hb24 : bytes ≤ 24)
    (w : World) (v : Value) (n : Nat) (xs : List Value) (hs : a.eval s = v) (hown : w.ownsRow base e 1 v n xs)
    {B : Nat} {A : Option Addr} {m c : Nat} {news : List Value} (hx : a.eval x = .slice A m c) (hr : Reads w B 1 A m news) (hu : ∀ u ∈ news, u.oneCell' = true)
    (hn : n + m ≤ 1000000000000) (hbase : base ≤ w.heap.size)
    (h : ∀ v' w', w'.ownsRow base e 1 v' (n + m) (xs ++ news) → Below base w w' → w.grownBy w' v.ownBlock → wpList P ops Q rest (a.put o.dst v') w') :
    wpList P ops Q (o :: rest) a w := by
  have hmul : (n + m) * bytes ≤ 140737488355328 := Nat.le_trans (Nat.mul_le_mul hn hb24) (by omega)
  have hB : ∀ w', w.grownBy w' v.ownBlock → Below base w w' := fun w' hg => (Below.refl _ _).grown hg hbase (fun g eg => (hown.lt g eg).1)
  rcases A with _ | ad
  · have hm : m = 0 := by
      rcases Nat.eq_zero_or_pos m with h0 | h0
      · exact h0
      · obtain ⟨ad, h, _⟩ := hr.2 h0
        cases h
    subst hm
    have hnn : news = [] := List.eq_nil_of_length_eq_zero (by simpa using hr.1)
    subst hnn
    have hrun : (Builtin.append_ #[t, t] o.type #[v, .slice none 0 c]).run P w = .ok v w := by
      rcases hown.2 with ⟨rfl, rfl⟩ | ⟨g, cap, cur, rfl, _, _, hnc, _⟩
      · simp [Builtin.append_, run_underlying ht, sizeOf, typeInfo, hi, Builtin.lenOf, Builtin.firstCells]
      · simp [Builtin.append_, run_underlying ht, sizeOf, typeInfo, hi, Builtin.lenOf, Builtin.firstCells, hnc, storeCells]
    refine wpList_plain hgd fun K hK => ?_
    unfold Oper.wp execOp
    simp only [ho, resolve, invoke, builtin, Sem.run_bind, Sem.run_pure, Result.andThen_ok, List.map_toArray, List.map_cons, List.map_nil, hs, hx, hrun]
    exact hK _ _ (h v w (by simpa using hown) (Below.refl _ _) (World.grownBy.refl w _))
  · refine wpList_append_own _ hgd s x t ho base e i z 1 bytes ht hi hz hsize hby hzs (by omega) v n xs hs hown ad m c news hx hr.1 ?_ hu (by unfold maxLen; omega) hmul hbase ?_
    · intro j u hj
      rcases Nat.eq_zero_or_pos m with h0 | h0
      · subst h0
        have hnn : news = [] := List.eq_nil_of_length_eq_zero (by simpa using hr.1)
        subst hnn
        simp at hj
      · obtain ⟨ad', h, _, hc⟩ := hr.2 h0
        injection h with h
        subst h
        exact hc j u hj
    · intro v' w' h1 h2 _
      exact h v' w' h1 (hB w' h2) h2
theorem own_below {base n : Nat} {w w' : World} {e : TypeId} {v : Value} {xs : List Value} (h : w.ownsRow base e 1 v n xs) (hb : Below w.heap.size w w') : w'.ownsRow base e 1 v n xs :=
  h.kept (row := none) ⟨hb.os, hb.tape, hb.output, hb.size, fun i hi _ => hb.block i hi⟩ (by
    cases hv : v.ownBlock with
    | none => exact .inl rfl
    | some k => exact .inr (by simp))

theorem bodyP_ok {l : List UInt8} {p : Pl} (h : bodyP l = .ok p) : ∃ i j k, readL l = .ok (p.codes, i) ∧ readL (l.drop i) = .ok (p.starts, j) ∧ readL (l.drop (i + j)) = .ok (p.lengths, k) ∧ i + j + k = l.length := by
  unfold bodyP at h
  cases h1 : readL l with
  | error e => rw [h1] at h; cases h
  | ok x =>
    obtain ⟨a, i⟩ := x
    rw [h1] at h
    simp only at h
    cases h2 : readL (l.drop i) with
    | error e => rw [h2] at h; cases h
    | ok y =>
      obtain ⟨b, j⟩ := y
      rw [h2] at h
      simp only at h
      cases h3 : readL (l.drop (i + j)) with
      | error e => rw [h3] at h; cases h
      | ok z =>
        obtain ⟨c, k⟩ := z
        rw [h3] at h
        simp only at h
        split at h
        · rename_i he
          injection h with h
          subst h
          exact ⟨i, j, k, rfl, h2, h3, he⟩
        · cases h
theorem bodyP_err {l : List UInt8} {c : Int} (h : bodyP l = .error c) : readL l = .error c ∨ (∃ a i, readL l = .ok (a, i) ∧ (readL (l.drop i) = .error c ∨
    ∃ b j, readL (l.drop i) = .ok (b, j) ∧ (readL (l.drop (i + j)) = .error c ∨ ∃ d k, readL (l.drop (i + j)) = .ok (d, k) ∧ i + j + k ≠ l.length ∧ c = 2))) := by
  unfold bodyP at h
  cases h1 : readL l with
  | error e => rw [h1] at h; injection h with h; subst h; exact .inl rfl
  | ok x =>
    obtain ⟨a, i⟩ := x
    rw [h1] at h
    simp only at h
    right
    refine ⟨a, i, rfl, ?_⟩
    cases h2 : readL (l.drop i) with
    | error e => rw [h2] at h; injection h with h; subst h; exact .inl rfl
    | ok y =>
      obtain ⟨b, j⟩ := y
      rw [h2] at h
      simp only at h
      right
      refine ⟨b, j, rfl, ?_⟩
      cases h3 : readL (l.drop (i + j)) with
      | error e => rw [h3] at h; injection h with h; subst h; exact .inl rfl
      | ok z =>
        obtain ⟨d, k⟩ := z
        rw [h3] at h
        simp only at h
        right
        refine ⟨d, k, rfl, ?_⟩
        split at h
        · cases h
        · rename_i he; injection h with h; exact ⟨he, h.symm⟩
theorem readL_le {l : List UInt8} {a : Nat} {xs : List Int} {k : Nat} (h : readL (l.drop a) = .ok (xs, k)) (ha : a ≤ l.length) : a + k ≤ l.length := by
  have := (readL_min h).2.2.2
  rw [List.length_drop] at this; omega
theorem grown_below {a b : World} {g B : Nat} (h : a.grownBy b (some g)) (hg : B ≤ g) (hB : B ≤ a.heap.size) : Below B a b := below_of_grown h hg hB

/-- the reader stands at the first block; p and the body's variable lie below -/
structure C44 (w : World) (bb pb : Nat) (l : List UInt8) : Prop where
  body : Blk w bb 9 #[.string ⟨l.toArray⟩]
  pool : ∃ s0 s1 s2, Blk w pb 42 #[s0, s1, s2]

set_option maxRecDepth 100000 in
set_option maxHeartbeats 2000000 in
theorem clos44_ok (l : List UInt8) (bb pb : Nat) (p : Pl) (w : World) (h0 : C44 w bb pb l) (hl : l.length ≤ 1000000) (h : bodyP l = .ok p) :
    Calls Try.prog 44 #[.pointer (some ⟨bb, 0, none⟩), .pointer (some ⟨pb, 0, none⟩)] w fun e w' => e = .returned (.tuple #[]) ∧ ∃ A0 c0 A1 c1 A2 c2, Blk w' pb 42 #[.slice A0 p.codes.length c0, .slice A1 p.starts.length c1, .slice A2 p.lengths.length c2] ∧
      w'.ownsRow (w.heap.size + 1) 3 1 (.slice A0 p.codes.length c0) p.codes.length (p.codes.map iv) ∧ w'.ownsRow (w.heap.size + 1) 3 1 (.slice A1 p.starts.length c1) p.starts.length (p.starts.map iv) ∧ w'.ownsRow (w.heap.size + 1) 3 1 (.slice A2 p.lengths.length c2) p.lengths.length (p.lengths.map iv) ∧ w.grownBy w' (some pb) := by
  obtain ⟨i, j, k, e1, e2, e3, e4⟩ := bodyP_ok h
  obtain ⟨hbb, s0, s1, s2, hpb⟩ := h0
  have cb := hbb.cell 0
  have hlt := hpb.lt
  have hlt2 := hbb.lt
  have E1 := Lib.hid (show readL (l.drop 0) = .ok (p.codes, i) from e1)
  have E2 := Lib.hid e2
  have E3 := Lib.hid e3
  have hi1 := readL_le E1.out (by omega)
  have hi2 := readL_le e2 (by omega)
  have H4 := Lib.hid e4
  clear e1 e2 e3 e4 h
  have hR0 : Rdr (w.alloc (.cells #[.string ⟨l.toArray⟩, .int .i64 0] 61)) w.heap.size l 0 := Blk.new _ _ _
  have hP0 := hpb.alloc (.cells #[.string ⟨l.toArray⟩, .int .i64 0] 61)
  have hG0 : Below w.heap.size w (w.alloc (.cells #[.string ⟨l.toArray⟩, .int .i64 0] 61)) := (Below.refl _ _).alloc (Nat.le_refl _) _
  have hs0 : w.heap.size + 1 ≤ (w.alloc (.cells #[.string ⟨l.toArray⟩, .int .i64 0] 61)).heap.size := by simp
  go_enter Try.func44, Try.ntmps44
  go_wp2_with fail
  clear cb
  obtain ⟨W, hW⟩ : ∃ W, W = w.alloc (.cells #[.string ⟨l.toArray⟩, .int .i64 0] 61) := ⟨_, rfl⟩
  rw [← hW] at hR0 hP0 hG0 hs0 ⊢
  clear hW
  refine (list_ok l 0 w.heap.size p.codes i W hR0 (by omega) hl E1.out).mono ?_
  rintro e w1 ⟨v1, rfl, ho1, hR1, hg1⟩
  rw [Nat.zero_add] at hR1 hi1
  obtain ⟨A0, c0, rfl, _, _⟩ := val_of_own ho1
  have hP1 := hP0.grown hg1 (by intro e; injection e; omega)
  have hs1 : w.heap.size + 1 ≤ w1.heap.size := by have := hg1.size; omega
  have o1 := own_base ho1 hs0
  have B1 := Lib.hid (grown_below (B := w.heap.size) hg1 (Nat.le_refl _) (by omega))
  clear ho1 hR0 hP0
  go_wp2_with fail
  refine (list_ok l i w.heap.size p.starts j w1 hR1 (by omega) hl E2.out).mono ?_
  rintro e w2 ⟨v2, rfl, ho2, hR2, hg2⟩
  obtain ⟨A1, c1, rfl, _, _⟩ := val_of_own ho2
  have hP2 := hP1.grown hg2 (by intro e; injection e; omega)
  have hs2 : w.heap.size + 1 ≤ w2.heap.size := by have := hg2.size; omega
  have o2 := own_base ho2 hs1
  have o12 := own_kept o1 hg2 (by omega)
  have B2 := Lib.hid (grown_below (B := w.heap.size) hg2 (Nat.le_refl _) (by omega))
  clear ho2 hR1 hP1 o1
  go_wp2_with fail
  refine (list_ok l (i + j) w.heap.size p.lengths k w2 hR2 (by omega) hl E3.out).mono ?_
  rintro e w3 ⟨v3, rfl, ho3, hR3, hg3⟩
  obtain ⟨A2, c2, rfl, _, _⟩ := val_of_own ho3
  have hP3 := hP2.grown hg3 (by intro e; injection e; omega)
  have hs3 : w.heap.size + 1 ≤ w3.heap.size := by have := hg3.size; omega
  have o3 := own_base ho3 hs2
  have o23 := own_kept o2 hg3 (by omega)
  have o13 := own_kept o12 hg3 (by omega)
  have B3 := Lib.hid (grown_below (B := w.heap.size) hg3 (Nat.le_refl _) (by omega))
  clear ho3 hR2 hP2 o2 o12
  have z0 := hP3.cell 0
  have z1 := hP3.cell 1
  have z2 := hP3.cell 2
  have f0 := hP3.frozen 0
  have f1 := hP3.frozen 1
  have f2 := hP3.frozen 2
  have hP4 := ((hP3.set_ 0 (.slice A0 p.codes.length c0)).set_ 1 (.slice A1 p.starts.length c1)).set_ 2 (.slice A2 p.lengths.length c2)
  have r1 := (ownsRow_setCell_below (ownsRow_setCell_below (ownsRow_setCell_below o13 (a := ⟨pb, 0, none⟩) (by simp; omega) (.slice A0 p.codes.length c0)) (a := ⟨pb, 1, none⟩) (by simp; omega) (.slice A1 p.starts.length c1)) (a := ⟨pb, 2, none⟩) (by simp; omega) (.slice A2 p.lengths.length c2))
  have r2 := (ownsRow_setCell_below (ownsRow_setCell_below (ownsRow_setCell_below o23 (a := ⟨pb, 0, none⟩) (by simp; omega) (.slice A0 p.codes.length c0)) (a := ⟨pb, 1, none⟩) (by simp; omega) (.slice A1 p.starts.length c1)) (a := ⟨pb, 2, none⟩) (by simp; omega) (.slice A2 p.lengths.length c2))
  have r3 := (ownsRow_setCell_below (ownsRow_setCell_below (ownsRow_setCell_below o3 (a := ⟨pb, 0, none⟩) (by simp; omega) (.slice A0 p.codes.length c0)) (a := ⟨pb, 1, none⟩) (by simp; omega) (.slice A1 p.starts.length c1)) (a := ⟨pb, 2, none⟩) (by simp; omega) (.slice A2 p.lengths.length c2))
  have hR4 : Rdr (((w3.setCell ⟨pb, 0, none⟩ (.slice A0 p.codes.length c0)).setCell ⟨pb, 1, none⟩ (.slice A1 p.starts.length c1)).setCell ⟨pb, 2, none⟩ (.slice A2 p.lengths.length c2)) w.heap.size l (i + j + k) := ((Blk.far hR3 (by simp; omega) _).far (by simp; omega) _).far (by simp; omega) _
  have G3 : w.grownBy w3 (some pb) := grown_of_below (((hG0.trans B1.out).trans B2.out).trans B3.out) _
  have G4 := grown_setCell (grown_setCell (grown_setCell G3 (p := ⟨pb, 0, none⟩) (.inl rfl) (.slice A0 p.codes.length c0)) (p := ⟨pb, 1, none⟩) (.inl rfl) (.slice A1 p.starts.length c1)) (p := ⟨pb, 2, none⟩) (.inl rfl) (.slice A2 p.lengths.length c2)
  have HP4 := Lib.hid hP4
  have Hr1 := Lib.hid r1
  have Hr2 := Lib.hid r2
  have Hr3 := Lib.hid r3
  have HR4 := Lib.hid hR4
  have HG4 := Lib.hid G4
  clear hP4 r1 r2 r3 hR4 G4 G3 hR3 o3 o23 o13
  go_wp2_with fail
  refine (end_ok l (i + j + k) w.heap.size _ HR4.out H4.out).mono ?_
  rintro e w5 ⟨rfl, q, rfl⟩
  go_wp2
  go_end0
  exact ⟨rfl, A0, c0, A1, c1, A2, c2, HP4.out.drewN q, Hr1.out, Hr2.out, Hr3.out, grown_drewN HG4.out q⟩

set_option maxRecDepth 100000 in
set_option maxHeartbeats 2000000 in
theorem clos44_err (l : List UInt8) (bb pb : Nat) (c : Int) (w : World) (h0 : C44 w bb pb l) (hl : l.length ≤ 1000000) (h : bodyP l = .error c) :
    Calls Try.prog 44 #[.pointer (some ⟨bb, 0, none⟩), .pointer (some ⟨pb, 0, none⟩)] w fun e w' => e = .panicked (stopV c) ∧ w.grownBy w' (some pb) := by
  obtain ⟨hbb, s0, s1, s2, hpb⟩ := h0
  have cb := hbb.cell 0
  have hlt := hpb.lt
  have hlt2 := hbb.lt
  have hR0 : Rdr (w.alloc (.cells #[.string ⟨l.toArray⟩, .int .i64 0] 61)) w.heap.size l 0 := Blk.new _ _ _
  have hP0 := hpb.alloc (.cells #[.string ⟨l.toArray⟩, .int .i64 0] 61)
  have hG0 : Below w.heap.size w (w.alloc (.cells #[.string ⟨l.toArray⟩, .int .i64 0] 61)) := (Below.refl _ _).alloc (Nat.le_refl _) _
  have hs0 : w.heap.size + 1 ≤ (w.alloc (.cells #[.string ⟨l.toArray⟩, .int .i64 0] 61)).heap.size := by simp
  rcases bodyP_err h with e1 | ⟨a, i, e1, e2⟩
  · have E1 := Lib.hid (show readL (l.drop 0) = .error c from e1)
    clear e1 h
    go_enter Try.func44, Try.ntmps44
    go_wp2_with fail
    clear cb
    obtain ⟨W, hW⟩ : ∃ W, W = w.alloc (.cells #[.string ⟨l.toArray⟩, .int .i64 0] 61) := ⟨_, rfl⟩
    rw [← hW] at hR0 hP0 hG0 hs0 ⊢
    clear hW
    refine (list_err l 0 w.heap.size c W hR0 (by omega) hl E1.out).mono ?_
    rintro e w1 ⟨rfl, _, hg1⟩
    exact ⟨rfl, rfl, grown_of_below (hG0.trans (grown_below (B := w.heap.size) hg1 (Nat.le_refl _) (by omega))) _⟩
  · have E1 := Lib.hid (show readL (l.drop 0) = .ok (a, i) from e1)
    have hi1 := readL_le E1.out (by omega)
    clear e1 h
    rcases e2 with e2 | ⟨b, j, e2, e3⟩
    · have E2 := Lib.hid e2
      clear e2
      go_enter Try.func44, Try.ntmps44
      go_wp2_with fail
      clear cb
      obtain ⟨W, hW⟩ : ∃ W, W = w.alloc (.cells #[.string ⟨l.toArray⟩, .int .i64 0] 61) := ⟨_, rfl⟩
      rw [← hW] at hR0 hP0 hG0 hs0 ⊢
      clear hW
      refine (list_ok l 0 w.heap.size a i W hR0 (by omega) hl E1.out).mono ?_
      rintro e w1 ⟨v1, rfl, ho1, hR1, hg1⟩
      rw [Nat.zero_add] at hR1 hi1
      obtain ⟨A0, c0, rfl, _, _⟩ := val_of_own ho1
      have hs1 : w.heap.size + 1 ≤ w1.heap.size := by have := hg1.size; omega
      have B1 := Lib.hid (grown_below (B := w.heap.size) hg1 (Nat.le_refl _) (by omega))
      clear ho1 hR0 hP0
      go_wp2_with fail
      refine (list_err l i w.heap.size c w1 hR1 (by omega) hl E2.out).mono ?_
      rintro e w2 ⟨rfl, _, hg2⟩
      exact ⟨rfl, rfl, grown_of_below ((hG0.trans B1.out).trans (grown_below (B := w.heap.size) hg2 (Nat.le_refl _) (by omega))) _⟩
    · have E2 := Lib.hid e2
      have hi2 := readL_le e2 (by omega)
      clear e2
      rcases e3 with e3 | ⟨d, k, e3, e4, rfl⟩
      · have E3 := Lib.hid e3
        clear e3
        go_enter Try.func44, Try.ntmps44
        go_wp2_with fail
        clear cb
        obtain ⟨W, hW⟩ : ∃ W, W = w.alloc (.cells #[.string ⟨l.toArray⟩, .int .i64 0] 61) := ⟨_, rfl⟩
        rw [← hW] at hR0 hP0 hG0 hs0 ⊢
        clear hW
        refine (list_ok l 0 w.heap.size a i W hR0 (by omega) hl E1.out).mono ?_
        rintro e w1 ⟨v1, rfl, ho1, hR1, hg1⟩
        rw [Nat.zero_add] at hR1 hi1
        obtain ⟨A0, c0, rfl, _, _⟩ := val_of_own ho1
        have hs1 : w.heap.size + 1 ≤ w1.heap.size := by have := hg1.size; omega
        have B1 := Lib.hid (grown_below (B := w.heap.size) hg1 (Nat.le_refl _) (by omega))
        clear ho1 hR0 hP0
        go_wp2_with fail
        refine (list_ok l i w.heap.size b j w1 hR1 (by omega) hl E2.out).mono ?_
        rintro e w2 ⟨v2, rfl, ho2, hR2, hg2⟩
        obtain ⟨A1, c1, rfl, _, _⟩ := val_of_own ho2
        have hs2 : w.heap.size + 1 ≤ w2.heap.size := by have := hg2.size; omega
        have B2 := Lib.hid (grown_below (B := w.heap.size) hg2 (Nat.le_refl _) (by omega))
        clear ho2 hR1
        go_wp2_with fail
        refine (list_err l (i + j) w.heap.size c w2 hR2 (by omega) hl E3.out).mono ?_
        rintro e w3 ⟨rfl, _, hg3⟩
        exact ⟨rfl, rfl, grown_of_below (((hG0.trans B1.out).trans B2.out).trans (grown_below (B := w.heap.size) hg3 (Nat.le_refl _) (by omega))) _⟩
      · have E3 := Lib.hid e3
        have hi3 := readL_le e3 (by omega)
        have H4 := Lib.hid e4
        clear e3 e4
        go_enter Try.func44, Try.ntmps44
        go_wp2_with fail
        clear cb
        obtain ⟨W, hW⟩ : ∃ W, W = w.alloc (.cells #[.string ⟨l.toArray⟩, .int .i64 0] 61) := ⟨_, rfl⟩
        rw [← hW] at hR0 hP0 hG0 hs0 ⊢
        clear hW
        refine (list_ok l 0 w.heap.size a i W hR0 (by omega) hl E1.out).mono ?_
        rintro e w1 ⟨v1, rfl, ho1, hR1, hg1⟩
        rw [Nat.zero_add] at hR1 hi1
        obtain ⟨A0, c0, rfl, _, _⟩ := val_of_own ho1
        have hP1 := hP0.grown hg1 (by intro e; injection e; omega)
        have hs1 : w.heap.size + 1 ≤ w1.heap.size := by have := hg1.size; omega
        have B1 := Lib.hid (grown_below (B := w.heap.size) hg1 (Nat.le_refl _) (by omega))
        clear ho1 hR0 hP0
        go_wp2_with fail
        refine (list_ok l i w.heap.size b j w1 hR1 (by omega) hl E2.out).mono ?_
        rintro e w2 ⟨v2, rfl, ho2, hR2, hg2⟩
        obtain ⟨A1, c1, rfl, _, _⟩ := val_of_own ho2
        have hP2 := hP1.grown hg2 (by intro e; injection e; omega)
        have hs2 : w.heap.size + 1 ≤ w2.heap.size := by have := hg2.size; omega
        have B2 := Lib.hid (grown_below (B := w.heap.size) hg2 (Nat.le_refl _) (by omega))
        clear ho2 hR1 hP1
        go_wp2_with fail
        refine (list_ok l (i + j) w.heap.size d k w2 hR2 (by omega) hl E3.out).mono ?_
        rintro e w3 ⟨v3, rfl, ho3, hR3, hg3⟩
        obtain ⟨A2, c2, rfl, _, _⟩ := val_of_own ho3
        have hP3 := hP2.grown hg3 (by intro e; injection e; omega)
        have hs3 : w.heap.size + 1 ≤ w3.heap.size := by have := hg3.size; omega
        have B3 := Lib.hid (grown_below (B := w.heap.size) hg3 (Nat.le_refl _) (by omega))
        clear ho3 hR2 hP2
        have z0 := hP3.cell 0
        have z1 := hP3.cell 1
        have z2 := hP3.cell 2
        have f0 := hP3.frozen 0
        have f1 := hP3.frozen 1
        have f2 := hP3.frozen 2
        have hR4 : Rdr (((w3.setCell ⟨pb, 0, none⟩ (.slice A0 a.length c0)).setCell ⟨pb, 1, none⟩ (.slice A1 b.length c1)).setCell ⟨pb, 2, none⟩ (.slice A2 d.length c2)) w.heap.size l (i + j + k) := ((Blk.far hR3 (by simp; omega) _).far (by simp; omega) _).far (by simp; omega) _
        have G3 : w.grownBy w3 (some pb) := grown_of_below (((hG0.trans B1.out).trans B2.out).trans B3.out) _
        have G4 := grown_setCell (grown_setCell (grown_setCell G3 (p := ⟨pb, 0, none⟩) (.inl rfl) (.slice A0 a.length c0)) (p := ⟨pb, 1, none⟩) (.inl rfl) (.slice A1 b.length c1)) (p := ⟨pb, 2, none⟩) (.inl rfl) (.slice A2 d.length c2)
        have HR4 := Lib.hid hR4
        have HG4 := Lib.hid G4
        clear hR4 G4 G3 hR3
        go_wp2_with fail
        refine (end_err l (i + j + k) w.heap.size _ HR4.out H4.out).mono ?_
        rintro e w5 ⟨rfl, hb5⟩
        exact ⟨rfl, rfl, grown_trans_below HG4.out hb5⟩
end Go.Proofs.Ythpngcfggnhdjaa
