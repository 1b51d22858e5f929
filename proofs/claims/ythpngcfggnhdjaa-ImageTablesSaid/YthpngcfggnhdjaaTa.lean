/- Tables read from bytes: the plain law of reading, rows of rows in memory. -/
import Derived.Test.YthpngcfggnhdjaaTg
import Derived.Test.YthpngcfggnhdjaaPlQ
namespace Go.Proofs.Ythpngcfggnhdjaa
open Go.RowKit Go.Proofs.Img

structure Tt where
  ws : List Int
  ss : List (List Int)
def Tt.none : Tt := ⟨[], []⟩
def Tt.ok (t : Tt) : Prop := okT t.ws t.ss
def bodyT (s : List UInt8) : Except Int Tt :=
  match readL s with
  | .error e => .error e
  | .ok (ws, k) =>
    match lists (ws.length + 1) (s.drop k) with
    | .error e => .error e
    | .ok (ss, m) => if k + m = s.length then .ok ⟨ws, ss⟩ else .error 2
theorem bodyT_w {s : List UInt8} {c : Int} (h : readL s = .error c) : bodyT s = .error c := by rw [bodyT, h]
theorem bodyT_l {s : List UInt8} {ws : List Int} {k : Nat} {c : Int} (h : readL s = .ok (ws, k)) (h2 : lists (ws.length + 1) (s.drop k) = .error c) : bodyT s = .error c := by rw [bodyT, h]; simp only [h2]
theorem bodyT_end {s : List UInt8} {ws : List Int} {ss : List (List Int)} {k m : Nat} (h : readL s = .ok (ws, k)) (h2 : lists (ws.length + 1) (s.drop k) = .ok (ss, m)) (h3 : k + m ≠ s.length) : bodyT s = .error 2 := by
  rw [bodyT, h]; simp only [h2]; rw [if_neg h3]
theorem bodyT_ok {s : List UInt8} {ws : List Int} {ss : List (List Int)} {k m : Nat} (h : readL s = .ok (ws, k)) (h2 : lists (ws.length + 1) (s.drop k) = .ok (ss, m)) (h3 : k + m = s.length) : bodyT s = .ok ⟨ws, ss⟩ := by
  rw [bodyT, h]; simp only [h2]; rw [if_pos h3]
theorem lists_code : ∀ (n : Nat) (s : List UInt8) (c : Int), lists n s = .error c → c ≠ 0
  | 0, s, c, h => by cases h
  | n + 1, s, c, h => by
    rw [lists] at h
    cases h1 : readL s with
    | error e => rw [h1] at h; injection h with h; subst h; exact readL_code h1
    | ok r =>
      obtain ⟨xs, k⟩ := r
      rw [h1] at h
      simp only at h
      cases h2 : lists n (s.drop k) with
      | error e => rw [h2] at h; injection h with h; subst h; exact lists_code n _ _ h2
      | ok r => rw [h2] at h; cases h
theorem bodyT_code {s : List UInt8} {c : Int} (h : bodyT s = .error c) : c ≠ 0 := by
  unfold bodyT at h
  cases h1 : readL s with
  | error e => rw [h1] at h; injection h with h; subst h; exact readL_code h1
  | ok r =>
    obtain ⟨ws, k⟩ := r
    rw [h1] at h
    simp only at h
    cases h2 : lists (ws.length + 1) (s.drop k) with
    | error e => rw [h2] at h; injection h with h; subst h; exact lists_code _ _ _ h2
    | ok r =>
      obtain ⟨ss, m⟩ := r
      rw [h2] at h
      simp only at h
      split at h
      · cases h
      · injection h with h; omega
theorem lists_I64 : ∀ (n : Nat) (s : List UInt8) (ls : List (List Int)) (m : Nat), lists n s = .ok (ls, m) → ls.length = n ∧ ∀ l ∈ ls, (∀ x ∈ l, I64 x) ∧ l.length ≤ s.length
  | 0, s, ls, m, h => by simp [lists] at h; obtain ⟨rfl, rfl⟩ := h; simp
  | n + 1, s, ls, m, h => by
    rw [lists] at h
    cases h1 : readL s with
    | error e => rw [h1] at h; cases h
    | ok r =>
      obtain ⟨xs, k⟩ := r
      rw [h1] at h
      simp only at h
      cases h2 : lists n (s.drop k) with
      | error e => rw [h2] at h; cases h
      | ok r =>
        obtain ⟨ys, q⟩ := r
        rw [h2] at h
        simp only [Except.ok.injEq, Prod.mk.injEq] at h
        obtain ⟨rfl, rfl⟩ := h
        obtain ⟨i1, i2⟩ := lists_I64 n _ _ _ h2
        refine ⟨by simp [i1], fun l hl => ?_⟩
        rcases List.mem_cons.1 hl with rfl | hl
        · exact ⟨(readL_min h1).1, readL_len h1⟩
        · have := i2 l hl
          rw [List.length_drop] at this
          exact ⟨this.1, by omega⟩
theorem bodyT_facts {s : List UInt8} {t : Tt} (h : bodyT s = .ok t) : t.ss.length = t.ws.length + 1 ∧ t.ws.length ≤ s.length ∧ (∀ x ∈ t.ws, I64 x) ∧ ∀ l ∈ t.ss, (∀ x ∈ l, I64 x) ∧ l.length ≤ s.length := by
  unfold bodyT at h
  cases h1 : readL s with
  | error e => rw [h1] at h; cases h
  | ok r =>
    obtain ⟨ws, k⟩ := r
    rw [h1] at h
    simp only at h
    cases h2 : lists (ws.length + 1) (s.drop k) with
    | error e => rw [h2] at h; cases h
    | ok r =>
      obtain ⟨ss, m⟩ := r
      rw [h2] at h
      simp only at h
      split at h
      · injection h with h
        subst h
        obtain ⟨i1, i2⟩ := lists_I64 _ _ _ _ h2
        exact ⟨i1, readL_len h1, (readL_min h1).1, fun l hl => ⟨(i2 l hl).1, by have := (i2 l hl).2; rw [List.length_drop] at this; omega⟩⟩
      · cases h
theorem stg_mem {ss : List (List Int)} {i : Nat} {p : List Int → Prop} (h : ∀ l ∈ ss, p l) (h0 : p []) : p (stg ss i) := by
  unfold stg
  rw [List.getD_eq_getElem?_getD]
  cases hi : ss[i]? with
  | none => exact h0
  | some l => exact h l (List.mem_of_getElem? hi)
theorem W64_I64 {x : Int} (h : I64 x) : W64 x := by unfold I64 at h; unfold W64; omega

/-- what ReadTable returns -/
def TR (s : List UInt8) (t : Tt) (e : Int) : Prop :=
  (∃ body, openR s = (body, e) ∧ e ≠ 0 ∧ t = Tt.none) ∨
  ∃ body, openR s = (body, 0) ∧ ((bodyT body = .error e ∧ t = Tt.none) ∨ ∃ q, bodyT body = .ok q ∧ ((q.ok ∧ t = q ∧ e = 0) ∨ (¬ q.ok ∧ t = Tt.none ∧ e = 11)))
theorem TR_some (s : List UInt8) : ∃ t e, TR s t e := by
  obtain ⟨⟨body, e⟩, hO⟩ : ∃ x, openR s = x := ⟨_, rfl⟩
  by_cases he : e = 0
  · subst he
    cases hB : bodyT body with
    | error c => exact ⟨Tt.none, c, Or.inr ⟨body, hO, Or.inl ⟨hB, rfl⟩⟩⟩
    | ok q =>
      by_cases hq : q.ok
      · exact ⟨q, 0, Or.inr ⟨body, hO, Or.inr ⟨q, hB, Or.inl ⟨hq, rfl, rfl⟩⟩⟩⟩
      · exact ⟨Tt.none, 11, Or.inr ⟨body, hO, Or.inr ⟨q, hB, Or.inr ⟨hq, rfl, rfl⟩⟩⟩⟩
  · exact ⟨Tt.none, e, Or.inl ⟨body, hO, he, rfl⟩⟩

/-- each slice of a list has its capacity -/
def Capped (vs : List Value) : Prop := ∀ u ∈ vs, ∀ A n c, u = Value.slice A n c → n ≤ c
theorem Capped.nil : Capped [] := fun _ h => by cases h
theorem Capped.add {vs : List Value} (h : Capped vs) {A : Option Addr} {n c : Nat} (hc : n ≤ c) : Capped (vs ++ [.slice A n c]) := by
  intro u hu A' n' c' e
  rcases List.mem_append.1 hu with hu | hu
  · exact h u hu A' n' c' e
  · simp at hu; subst hu; injection e with e1 e2 e3; omega
theorem rows_of {w : World} {B : Nat} {vs : List Value} {ls : List (List Int)} {g : Option Nat} (h : RowsIn w B vs ls g) (hc : Capped vs) : Rows w w.heap.size vs ls := by
  refine ⟨h.1, fun i xs hx => ?_⟩
  have hi : i < vs.length := by rw [h.1]; exact (List.getElem?_eq_some_iff.1 hx).1
  have hu := List.getElem?_eq_getElem hi
  obtain ⟨A, c, e, hr, _⟩ := h.2 i _ xs hu hx
  refine ⟨A, c, by rw [hu, e], hc _ (List.getElem_mem hi) A _ c e, hr⟩
theorem RowsIn.far {w w' : World} {B b : Nat} {vs : List Value} {ls : List (List Int)} {g : Option Nat} (h : RowsIn w B vs ls g) (hg : w.grownBy w' (some b)) (hb : b < B) : RowsIn w' B vs ls g := by
  refine ⟨h.1, fun i u xs h1 h2 => ?_⟩
  obtain ⟨A, c, e, hr, hn⟩ := h.2 i u xs h1 h2
  exact ⟨A, c, e, reads_far hr (fun ad ha h0 => by have := (hn ad ha h0).1; intro e; injection e; omega) hg, hn⟩
theorem RowsIn.set_ {w : World} {B b i : Nat} {vs : List Value} {ls : List (List Int)} {g : Option Nat} (h : RowsIn w B vs ls g) (hb : b < B) (u : Value) : RowsIn (w.setCell ⟨b, i, Option.none⟩ u) B vs ls g := by
  refine ⟨h.1, fun k x xs h1 h2 => ?_⟩
  obtain ⟨A, c, e, hr, hn⟩ := h.2 k x xs h1 h2
  exact ⟨A, c, e, reads_set hr (fun ad ha h0 => (hn ad ha h0).1) hb u, hn⟩
theorem RowsIn.one {w : World} {B : Nat} {A : Option Addr} {c : Nat} {xs : List Int} {g : Option Nat} (hr : Reads w w.heap.size 1 A xs.length (xs.map iv)) (hn : ∀ ad, A = some ad → 0 < xs.length → B ≤ ad.block ∧ g ≠ some ad.block) : RowsIn w B [.slice A xs.length c] [xs] g := by
  have := (RowsIn.nil w B g).add (c := c) hr hn
  simpa using this
theorem RowsIn.out1 {w : World} {B : Nat} {A : Option Addr} {n c : Nat} {xs : List Int} {g : Option Nat} (h : RowsIn w B [.slice A n c] [xs] g) : Reads w w.heap.size 1 A n (xs.map iv) := by
  obtain ⟨A', c', e, hr, _⟩ := h.2 0 _ xs rfl rfl
  injection e with e1 e2 e3
  subst e1 e2
  exact hr
theorem tab_of {w : World} {B : Nat} {A : Option Addr} {c n : Nat} {v : Value} {t : Tt} {vs : List Value} {g : Option Nat} (h1 : RowsIn w B [.slice A t.ws.length c] [t.ws] g) (hc : t.ws.length ≤ c) (ho : w.ownsRow B 26 1 v n vs) (hn : n = t.ss.length) (hR : RowsIn w B vs t.ss g) (hC : Capped vs) :
    ∃ A' c', v = .slice A' t.ss.length c' ∧ Tab w w.heap.size A t.ws.length c A' t.ss.length c' t.ws t.ss := by
  subst hn
  obtain ⟨A', c', rfl, _, hr⟩ := val_of_own ho
  exact ⟨A', c', rfl, h1.out1, hc, vs, hr, rows_of hR hC⟩
/-- 'append(rows, row)' inside a region that draws its order -/
theorem step_appRow {ops : Array Oper} {o : Oper} {a : Act} {K : Act → World → Prop} {Q : Exit → Act → World → Prop} {E : Prop} (hgd : o.guard = none) (s x : Operand)
    (ho : o.op = .call { callee := .builtin .append, args := #[s, x], argTypes := #[49, 49] })
    {base : Nat} {w : World} (v : Value) (n : Nat) (vs : List Value) (ls : List (List Int)) (hs : a.eval s = v) (hown : w.ownsRow base 26 1 v n vs)
    (ad : Addr) (A : Option Addr) (c : Nat) (xs : List Int) (hx : a.eval x = .slice (some ad) 1 1) (hc : w.cell? ad = some (.slice A xs.length c))
    (hR : RowsIn w base vs ls v.ownBlock) (hr : Reads w w.heap.size 1 A xs.length (xs.map iv)) (hne : ∀ ad, A = some ad → 0 < xs.length → base ≤ ad.block ∧ v.ownBlock ≠ some ad.block)
    (hn : n ≤ 1000000000) (hbase : base ≤ w.heap.size)
    (h : ∀ v' w', w'.ownsRow base 26 1 v' (n + 1) (vs ++ [.slice A xs.length c]) → RowsIn w' base (vs ++ [.slice A xs.length c]) (ls ++ [xs]) v'.ownBlock → w.grownBy w' v.ownBlock → (v'.ownBlock = v.ownBlock ∨ ∃ N, v'.ownBlock = some N ∧ w.heap.size ≤ N) → K (a.put o.dst v') w') :
    if Region.wanted o (yielded ops a.tmps) = true then Oper.wp Try.prog o a w K Q else E := by
  obtain ⟨i0, hi, hz0, hz1, hz2⟩ := info_parts Try.info26
  refine step_append_lies w hgd s x 49 ho base 26 i0 _ 1 24 Try.underlying49 hi hz0 hz1 hz2 rfl (by omega) v n vs hs hown ad 1 1 [.slice A xs.length c] hx rfl ?_ (by simp [Value.oneCell']) (by omega) (by unfold maxLen; omega) (by omega) hbase _ rfl ?_
  · intro j u' hj
    match j, hj with
    | 0, hj => simp at hj; subst hj; rw [add_zero_]; exact hc
  · intro g cap w' h1 h2 h3 h4
    have hall := hR.add (A := A) (c := c) (xs := xs) hr hne
    refine h _ w' h1 (hall.grow h2 ?_) h2 ?_
    · rcases h3 with h3 | h3
      · left; rw [h3]; rfl
      · right; exact ⟨g, rfl, by omega⟩
    · rcases h3 with h3 | h3
      · left; rw [h3]; rfl
      · right; exact ⟨g, rfl, by omega⟩
end Go.Proofs.Ythpngcfggnhdjaa
