import Derived.Test.YthpngcfggnhdjaaRead
namespace Go.Proofs.Ythpngcfggnhdjaa
open Go.RowKit Go.Proofs.Img

theorem list_ok (l : List UInt8) (at_ b : Nat) (xs : List Int) (k : Nat) (w : World) (hr : Rdr w b l at_) (hat : at_ ≤ l.length) (hl : l.length ≤ 1000000) (h : readL (l.drop at_) = .ok (xs, k)) :
    Calls Try.prog 40 #[.pointer (some ⟨b, 0, none⟩)] w fun e w' => ∃ v, e = .returned v ∧ w'.ownsRow w.heap.size 3 1 v xs.length (xs.map iv) ∧ Rdr w' b l (at_ + k) ∧ w.grownBy w' (some b) :=
  (list_any l at_ b w hr hat hl).mono fun e w' ⟨hg, hm⟩ => by rw [h] at hm; obtain ⟨v, h1, h2, h3⟩ := hm; exact ⟨v, h1, h2, h3, hg⟩
theorem list_err (l : List UInt8) (at_ b : Nat) (c : Int) (w : World) (hr : Rdr w b l at_) (hat : at_ ≤ l.length) (hl : l.length ≤ 1000000) (h : readL (l.drop at_) = .error c) :
    Calls Try.prog 40 #[.pointer (some ⟨b, 0, none⟩)] w fun e w' => e = .panicked (stopV c) ∧ (∃ at', Rdr w' b l at') ∧ w.grownBy w' (some b) :=
  (list_any l at_ b w hr hat hl).mono fun e w' ⟨hg, hm⟩ => by rw [h] at hm; exact ⟨hm.1, hm.2, hg⟩

set_option maxHeartbeats 400000 in
theorem clos39_ok (l : List UInt8) (at_ b p q : Nat) (s0 : Value) (xs : List Int) (k : Nat) (w : World) (hp : w.cell? ⟨p, 0, none⟩ = some (.pointer (some ⟨b, 0, none⟩))) (hr : Rdr w b l at_) (hq : Blk w q 26 #[s0]) (hbq : b ≠ q)
    (hat : at_ ≤ l.length) (hl : l.length ≤ 1000000) (h : readL (l.drop at_) = .ok (xs, k)) :
    Calls Try.prog 39 #[.pointer (some ⟨p, 0, none⟩), .pointer (some ⟨q, 0, none⟩)] w fun e w' => e = .returned (.tuple #[]) ∧ ∃ w1 v, w.grownBy w1 (some b) ∧ w1.ownsRow w.heap.size 3 1 v xs.length (xs.map iv) ∧ Rdr w1 b l (at_ + k) ∧ w' = w1.setCell ⟨q, 0, none⟩ v := by
  have Hc := Lib.hid (list_ok l at_ b xs k w hr hat hl h)
  clear hr h
  go_enter Try.func39, Try.ntmps39
  go_wp2_with fail
  refine Hc.out.mono ?_
  rintro e w1 ⟨v, rfl, ho, hR, hg⟩
  have hq1 := hq.grown hg (by intro e; injection e with e; exact hbq e.symm)
  have hc1 := hq1.cell 0
  have hf1 := hq1.frozen 0
  rcases ho.2 with ⟨rfl, _⟩ | ⟨g, cap, cur, rfl, _⟩
  · go_wp2
    go_end0
    exact ⟨rfl, w1, _, hg, ho, hR, rfl⟩
  · go_wp2
    go_end0
    exact ⟨rfl, w1, _, hg, ho, hR, rfl⟩

set_option maxHeartbeats 400000 in
theorem clos39_err (l : List UInt8) (at_ b p q : Nat) (c : Int) (w : World) (hp : w.cell? ⟨p, 0, none⟩ = some (.pointer (some ⟨b, 0, none⟩))) (hr : Rdr w b l at_)
    (hat : at_ ≤ l.length) (hl : l.length ≤ 1000000) (h : readL (l.drop at_) = .error c) :
    Calls Try.prog 39 #[.pointer (some ⟨p, 0, none⟩), .pointer (some ⟨q, 0, none⟩)] w fun e w' => e = .panicked (stopV c) ∧ w.grownBy w' (some b) := by
  have Hc := Lib.hid (list_err l at_ b c w hr hat hl h)
  clear hr h
  go_enter Try.func39, Try.ntmps39
  go_wp2_with fail
  refine Hc.out.mono ?_
  rintro e w1 ⟨rfl, _, hg⟩
  exact ⟨rfl, rfl, hg⟩

theorem call39 (caps : Array Value) (w : World) : (callFunc 39 caps).run Try.prog w = .ok (.enter 39 caps) w := by
  simp [go_sem]

def rdW (w : World) (l : List UInt8) : World :=
  ((w.alloc (.cells #[.string ⟨l.toArray⟩, .int .i64 0] 61)).alloc (.cells #[.pointer (some ⟨w.heap.size, 0, none⟩)] 59)).alloc (.cells #[.slice none 0 0] 26)

theorem rdW_size (w : World) (l : List UInt8) : (rdW w l).heap.size = w.heap.size + 3 := by simp [rdW]
theorem rdW_rdr (w : World) (l : List UInt8) : Rdr (rdW w l) w.heap.size l 0 := ((Blk.new w 61 _).alloc _).alloc _
theorem rdW_ptr (w : World) (l : List UInt8) : Blk (rdW w l) (w.heap.size + 1) 59 #[.pointer (some ⟨w.heap.size, 0, none⟩)] := by
  have := (Blk.new (w.alloc (.cells #[.string ⟨l.toArray⟩, .int .i64 0] 61)) 59 #[.pointer (some ⟨w.heap.size, 0, none⟩)]).alloc (.cells #[.slice none 0 0] 26)
  simpa [rdW] using this
theorem rdW_sl (w : World) (l : List UInt8) : Blk (rdW w l) (w.heap.size + 1 + 1) 26 #[.slice none 0 0] := by
  have := (Blk.new ((w.alloc (.cells #[.string ⟨l.toArray⟩, .int .i64 0] 61)).alloc (.cells #[.pointer (some ⟨w.heap.size, 0, none⟩)] 59)) 26 #[.slice none 0 0])
  simpa [rdW] using this
theorem rdW_below (w : World) (l : List UInt8) : Below w.heap.size w (rdW w l) :=
  (((Below.refl _ _).alloc (Nat.le_refl _) _).alloc (by simp) _).alloc (by simp; omega) _

/-- what is known behind the call of 'read' in ReadInts -/
def RdOk (w : World) (l : List UInt8) (xs : List Int) (k : Nat) (w1 : World) : Prop :=
  ∃ v, Blk w1 (w.heap.size + 1 + 1) 26 #[v] ∧ w1.ownsRow (w.heap.size + 4) 3 1 v xs.length (xs.map iv) ∧ Rdr w1 w.heap.size l k ∧
    Blk w1 (w.heap.size + 1) 59 #[.pointer (some ⟨w.heap.size, 0, none⟩)] ∧ Below w.heap.size w w1

theorem readCall_ok (w : World) (l : List UInt8) (xs : List Int) (k : Nat) (hl : l.length ≤ 1000000) (h : readL l = .ok (xs, k)) :
    Calls Try.prog 38 #[.func (.func 39) #[] #[.pointer (some ⟨w.heap.size + 1, 0, none⟩), .pointer (some ⟨w.heap.size + 1 + 1, 0, none⟩)]] (rdW w l) fun e w' => e = .returned (.int .i64 0) ∧ RdOk w l xs k w' := by
  have hs := rdW_size w l
  have hr1 := (rdW_rdr w l)
  have hE : Rdr ((rdW w l).alloc (.cells #[.int .i64 0] 30)) w.heap.size l 0 := Blk.alloc hr1 _
  have hP := (rdW_ptr w l).alloc (.cells #[.int .i64 0] 30)
  have hS := (rdW_sl w l).alloc (.cells #[.int .i64 0] 30)
  have hN := Blk.new (rdW w l) 30 #[.int .i64 0]
  refine (read_ok 39 _ (rdW w l) (RdOk w l xs k) (call39 _) ((clos39_ok l 0 w.heap.size (w.heap.size + 1) (w.heap.size + 1 + 1) _ xs k _ (hP.cell 0) hE hS (by omega) (by omega) hl (by simpa using h)).mono ?_)).mono ?_
  · rintro e w' ⟨rfl, w1, v, hg, ho, hR, rfl⟩
    rw [hs] at hN
    rw [Nat.zero_add] at hR
    have hsz : ((rdW w l).alloc (.cells #[.int .i64 0] 30)).heap.size = w.heap.size + 4 := by simp [hs]
    rw [hsz] at ho
    have hg2 : ∀ x, x ≠ w.heap.size → some x ≠ some w.heap.size := fun x hx e => hx (by injection e)
    refine ⟨rfl, ?_, v, (hS.grown hg (hg2 _ (by omega))).set_ 0 v, ownsRow_setCell_below ho (by first | (simp; done) | (simp; omega)) v, Blk.far hR (by first | (simp; done) | (simp; omega)) v, (hP.grown hg (hg2 _ (by omega))).far (by simp) v, ?_⟩
    · rw [hs]; exact (hN.grown hg (hg2 _ (by omega))).far (by first | (simp; done) | (simp; omega)) v
    · exact (((rdW_below w l).alloc (by omega) _).trans (below_of_grown hg (by omega) (by omega))).setCell (by first | (simp; done) | (simp; omega)) v
  · rintro e w' ⟨rfl, w1, ⟨v, h1, h2, h3, h4, h5⟩, hg⟩
    rw [hs] at hg
    have hg2 : ∀ x, x ≠ w.heap.size + 3 → some x ≠ some (w.heap.size + 3) := fun x hx e => hx (by injection e)
    refine ⟨rfl, v, h1.grown hg (hg2 _ (by omega)), own_kept h2 hg (by omega), Blk.grown h3 hg (hg2 _ (by omega)), h4.grown hg (hg2 _ (by omega)), ?_⟩
    exact h5.trans (below_of_grown hg (by omega) h5.size)

theorem readCall_err (w : World) (l : List UInt8) (c : Int) (hl : l.length ≤ 1000000) (h : readL l = .error c) :
    Calls Try.prog 38 #[.func (.func 39) #[] #[.pointer (some ⟨w.heap.size + 1, 0, none⟩), .pointer (some ⟨w.heap.size + 1 + 1, 0, none⟩)]] (rdW w l) fun e w' => e = .returned (.int .i64 c) ∧ Below w.heap.size w w' := by
  have hs := rdW_size w l
  have hr1 := (rdW_rdr w l)
  have hE : Rdr ((rdW w l).alloc (.cells #[.int .i64 0] 30)) w.heap.size l 0 := Blk.alloc hr1 _
  have hP := (rdW_ptr w l).alloc (.cells #[.int .i64 0] 30)
  have hN := Blk.new (rdW w l) 30 #[.int .i64 0]
  refine (read_err 39 _ (rdW w l) c (Below w.heap.size w) (call39 _) ((clos39_err l 0 w.heap.size (w.heap.size + 1) (w.heap.size + 1 + 1) c _ (hP.cell 0) hE (by omega) hl (by simpa using h)).mono ?_)).mono ?_
  · rintro e w' ⟨rfl, hg⟩
    have hg2 : ∀ x, x ≠ w.heap.size → some x ≠ some w.heap.size := fun x hx e => hx (by injection e)
    refine ⟨rfl, hN.grown hg (hg2 _ (by omega)), ((rdW_below w l).alloc (by omega) _).trans (below_of_grown hg (by omega) (by simp; omega))⟩
  · rintro e w' ⟨rfl, w1, h5, hg⟩
    rw [hs] at hg
    exact ⟨rfl, h5.trans (below_of_grown hg (by omega) h5.size)⟩

set_option maxRecDepth 100000 in
set_option maxHeartbeats 400000 in
theorem readInts_err (l : List UInt8) (c : Int) (w : World) (hl : l.length ≤ 1000000) (hc : c ≠ 0) (h : readL l = .error c) :
    Calls Try.prog 18 #[.string ⟨l.toArray⟩] w fun e w' => e = .returned (.tuple #[.slice none 0 0, .int .i64 0, .int .i64 c]) ∧ Below w.heap.size w w' := by
  have hmf : ∀ (fn : Fn) (first cap : Array Value) (w : World), (Instr.makeFunc fn first cap).run Try.prog w = .ok (.func fn first cap) w := fun _ _ _ _ => rfl
  have hne : ((c : Int) != 0) = true := by simpa using hc
  have Hc := Lib.hid (readCall_err w l c hl h)
  clear h hc
  go_enter Try.func18, Try.ntmps18
  go_wp2_with fail
  refine Hc.out.mono ?_
  rintro e w1 ⟨rfl, hb⟩
  go_wp2
  go_ret3
  exact ⟨rfl, hb⟩

set_option maxRecDepth 100000 in
set_option maxHeartbeats 400000 in
theorem readInts_ok (l : List UInt8) (xs : List Int) (k : Nat) (w : World) (hl : l.length ≤ 1000000) (h : readL l = .ok (xs, k)) :
    Calls Try.prog 18 #[.string ⟨l.toArray⟩] w fun e w' => ∃ v, e = .returned (.tuple #[v, .int .i64 (k : Int), .int .i64 0]) ∧ w'.ownsRow (w.heap.size + 4) 3 1 v xs.length (xs.map iv) ∧ Below w.heap.size w w' := by
  have hmf : ∀ (fn : Fn) (first cap : Array Value) (w : World), (Instr.makeFunc fn first cap).run Try.prog w = .ok (.func fn first cap) w := fun _ _ _ _ => rfl
  have Hc := Lib.hid (readCall_ok w l xs k hl h)
  clear h
  go_enter Try.func18, Try.ntmps18
  go_wp2_with fail
  refine Hc.out.mono ?_
  rintro e w1 ⟨rfl, v, h1, ho, hR, hP, hb⟩
  have c1 := h1.cell 0
  have c2 : w1.cell? ⟨w.heap.size, 1, none⟩ = some (.int .i64 (k : Int)) := Blk.cell hR 1
  have c3 := hP.cell 0
  go_wp2
  go_quiet (fail)
  go_wp2
  go_ret3
  exact ⟨v, rfl, ho, below_drewN hb _⟩
end Go.Proofs.Ythpngcfggnhdjaa
