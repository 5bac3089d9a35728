/-
  Rows of alerts of the call's own: how they read, how one more is appended.
-/
import Derived.Test.YtmpbhngjkbidcaaGreatDoorW19
namespace Go.Proofs.YtmpbhngjkbidcaaGreatDoor
open Go.RowKit Al

theorem flat_at {α : Type} {f : α → List Value} {sz : Nat} : ∀ {L : List α} (_ : ∀ x, (f x).length = sz) {k : Nat} (hk : k < L.length) {j : Nat} (_ : j < sz), (L.flatMap f)[k * sz + j]? = (f L[k])[j]?
  | [], _, k, hk, _, _ => absurd hk (by simp)
  | x :: L, hf, 0, _, j, hj => by
    rw [List.flatMap_cons, Nat.zero_mul, Nat.zero_add, List.getElem?_append_left (by rw [hf]; exact hj)]
    rfl
  | x :: L, hf, k + 1, hk, j, hj => by
    rw [List.flatMap_cons, List.getElem?_append_right (by rw [hf, Nat.add_mul]; omega), hf, show (k + 1) * sz + j - sz = k * sz + j by rw [Nat.add_mul]; omega, flat_at hf (by simpa using hk) hj]
    rfl
theorem flat_take {α : Type} {f : α → List Value} {sz : Nat} : ∀ {L : List α} (_ : ∀ x, (f x).length = sz) (k : Nat), (L.take k).flatMap f = (L.flatMap f).take (k * sz)
  | [], _, k => by simp
  | x :: L, hf, 0 => by simp
  | x :: L, hf, k + 1 => by
    rw [List.take_succ_cons, List.flatMap_cons, List.flatMap_cons, flat_take hf k, List.take_append, hf, show (k + 1) * sz - sz = k * sz by rw [Nat.add_mul]; omega, List.take_of_length_le (l := f x) (by rw [hf, Nat.add_mul]; omega)]
theorem flat_size {α : Type} {f : α → List Value} {sz : Nat} (hf : ∀ x, (f x).length = sz) : ∀ L : List α, (L.flatMap f).length = L.length * sz
  | [] => by simp
  | x :: L => by rw [List.flatMap_cons, List.length_append, hf, flat_size hf L, List.length_cons, Nat.add_mul]; omega
theorem Sl.cut {w : World} {B sz n c : Nat} {A : Option Addr} {xs : List Value} (h : Sl w B sz A n c xs) {m : Nat} (hm : m ≤ n) : Sl w B sz A m c (xs.take (m * sz)) :=
  ⟨by rw [List.length_take, h.len]; exact Nat.min_eq_left (Nat.mul_le_mul_right _ hm), Nat.le_trans hm h.cap, h.max, h.nil_, fun hn => by
    obtain ⟨b, off, e, hb, hc⟩ := h.at_ (by omega)
    refine ⟨b, off, e, hb, fun j u hu => hc j u ?_⟩
    rw [List.getElem?_take] at hu
    split at hu
    · exact hu
    · cases hu⟩
/-- An alert with the place of its cells. -/
structure Ia where
  a : Alr
  A : Option Addr
  c : Nat
def Ia.lst (x : Ia) : List Value := x.a.lst x.A x.c
def iaCells (L : List Ia) : List Value := L.flatMap Ia.lst
theorem Ia.len (x : Ia) : x.lst.length = 9 := rfl
theorem iaCells_snoc (L : List Ia) (x : Ia) : iaCells (L ++ [x]) = iaCells L ++ x.lst := by simp [iaCells]
theorem iaCells_take (L : List Ia) (k : Nat) : iaCells (L.take k) = (iaCells L).take (k * 9) := flat_take Ia.len k
theorem alst_one (a : Alr) (A : Option Addr) (c : Nat) : ∀ u ∈ a.lst A c, u.oneCell' = true := by
  intro u hu
  simp [Alr.lst] at hu
  rcases hu with rfl | rfl | rfl | rfl | rfl | rfl | rfl | rfl | rfl <;> rfl
theorem Sl.al_at {w : World} {B n c : Nat} {A : Option Addr} {L : List Ia} (h : Sl w B 9 A n c (iaCells L)) {k : Nat} (hk : k < L.length) :
    ∃ b off, A = some ⟨b, off, none⟩ ∧ b < B ∧ w.cell? ⟨b, off + k * 9, none⟩ = some (.string L[k].a.ev)
    ∧ w.cell? ⟨b, off + k * 9 + 1, none⟩ = some (.int .i64 L[k].a.ver)
    ∧ w.cell? ⟨b, off + k * 9 + 2, none⟩ = some (.int .i64 L[k].a.tm)
    ∧ w.cell? ⟨b, off + k * 9 + 3, none⟩ = some (.int .i64 L[k].a.n)
    ∧ w.cell? ⟨b, off + k * 9 + 4, none⟩ = some (.int .i64 L[k].a.of)
    ∧ w.cell? ⟨b, off + k * 9 + 5, none⟩ = some (.int .i64 L[k].a.grid)
    ∧ w.cell? ⟨b, off + k * 9 + 6, none⟩ = some (.slice L[k].A L[k].a.cells.length L[k].c)
    ∧ w.cell? ⟨b, off + k * 9 + 7, none⟩ = some (.bool L[k].a.wd)
    ∧ w.cell? ⟨b, off + k * 9 + 8, none⟩ = some (.int .i64 L[k].a.before) := by
  have hn : n = L.length := by have := h.len; unfold iaCells at this; rw [flat_size Ia.len] at this; omega
  obtain ⟨b, off, e, hb, hc⟩ := h.at_ (by omega)
  have at_ : ∀ j u, j < 9 → L[k].lst[j]? = some u → w.cell? ⟨b, off + k * 9 + j, none⟩ = some u := fun j u hj hu => by
    rw [Nat.add_assoc]
    exact hc _ _ ((flat_at Ia.len hk hj).trans hu)
  exact ⟨b, off, e, hb, at_ 0 _ (by decide) rfl, at_ 1 _ (by decide) rfl, at_ 2 _ (by decide) rfl, at_ 3 _ (by decide) rfl, at_ 4 _ (by decide) rfl, at_ 5 _ (by decide) rfl, at_ 6 _ (by decide) rfl, at_ 7 _ (by decide) rfl, at_ 8 _ (by decide) rfl⟩
theorem Sl.it_at {w : World} {B n c : Nat} {A : Option Addr} {L : List It} (h : Sl w B 10 A n c (itCells L)) {k : Nat} (hk : k < L.length) :
    ∃ b off, A = some ⟨b, off, none⟩ ∧ b < B ∧ w.cell? ⟨b, off + k * 10, none⟩ = some (.string L[k].n.a.ev)
    ∧ w.cell? ⟨b, off + k * 10 + 1, none⟩ = some (.int .i64 L[k].n.a.ver)
    ∧ w.cell? ⟨b, off + k * 10 + 2, none⟩ = some (.int .i64 L[k].n.a.tm)
    ∧ w.cell? ⟨b, off + k * 10 + 3, none⟩ = some (.int .i64 L[k].n.a.n)
    ∧ w.cell? ⟨b, off + k * 10 + 4, none⟩ = some (.int .i64 L[k].n.a.of)
    ∧ w.cell? ⟨b, off + k * 10 + 5, none⟩ = some (.int .i64 L[k].n.a.grid)
    ∧ w.cell? ⟨b, off + k * 10 + 6, none⟩ = some (.slice L[k].A L[k].n.a.cells.length L[k].c)
    ∧ w.cell? ⟨b, off + k * 10 + 7, none⟩ = some (.bool L[k].n.a.wd)
    ∧ w.cell? ⟨b, off + k * 10 + 8, none⟩ = some (.int .i64 L[k].n.a.before)
    ∧ w.cell? ⟨b, off + k * 10 + 9, none⟩ = some (.slice L[k].S L[k].n.sg.length L[k].sc) := by
  have len : ∀ x : It, x.lst.length = 10 := fun _ => rfl
  have hn : n = L.length := by have := h.len; rw [itCells_len] at this; omega
  obtain ⟨b, off, e, hb, hc⟩ := h.at_ (by omega)
  have at_ : ∀ j u, j < 10 → L[k].lst[j]? = some u → w.cell? ⟨b, off + k * 10 + j, none⟩ = some u := fun j u hj hu => by
    rw [Nat.add_assoc]
    exact hc _ _ ((flat_at len hk hj).trans hu)
  exact ⟨b, off, e, hb, at_ 0 _ (by decide) rfl, at_ 1 _ (by decide) rfl, at_ 2 _ (by decide) rfl, at_ 3 _ (by decide) rfl, at_ 4 _ (by decide) rfl, at_ 5 _ (by decide) rfl, at_ 6 _ (by decide) rfl, at_ 7 _ (by decide) rfl, at_ 8 _ (by decide) rfl, at_ 9 _ (by decide) rfl⟩

/-- A growing row of alerts of the call's own, each with cells of the call's own. -/
structure Hs (base : Nat) (w0 : World) (M : List Ia) (P : Option Addr) (pc : Nat) (wr : World) : Prop where
  row : wr.ownsRow base 55 9 (.slice P M.length pc) M.length (iaCells M)
  its : ∀ x ∈ M, SlR wr (fun i => base ≤ i ∧ ∀ p, P = some p → i ≠ p.block) 1 x.A x.a.cells.length x.c (ints x.a.cells)
  bel : Below base w0 wr
theorem Hs.start {base : Nat} {w0 wr : World} (h : Below base w0 wr) : Hs base w0 [] none 0 wr := ⟨World.ownsRow_nil _ _ _ _, by simp, h⟩
theorem own_none {A : Option Addr} {n c i : Nat} : (Value.slice A n c).ownBlock = some i ↔ ∃ p, A = some p ∧ p.block = i := by
  cases A with
  | none => exact ⟨fun h => (nomatch h), fun ⟨p, h, _⟩ => (nomatch h)⟩
  | some a => exact ⟨fun h => ⟨a, rfl, Option.some.inj h⟩, fun ⟨p, h, e⟩ => by cases h; exact congrArg some e⟩
theorem Hs.step {base : Nat} {w0 wr w3 w4 w5 : World} {M : List Ia} {P : Option Addr} {pc : Nat} {a : Alr} {A : Option Addr} {c g cap : Nat} (h : Hs base w0 M P pc wr) (hbs : base ≤ wr.heap.size) (h3 : Below wr.heap.size wr w3) (own : ARow w3 wr.heap.size a A c) (h4 : Below w3.heap.size w3 w4)
    (hown : w5.ownsRow base 55 9 (.slice (some ⟨g, 0, none⟩) (M.length + 1) cap) (M.length + 1) (iaCells M ++ a.lst A c)) (hg : w4.grownBy w5 (Value.slice P M.length pc).ownBlock) (hat : (Value.slice P M.length pc).ownBlock = some g ∨ g = w4.heap.size) :
    Hs base w0 (M ++ [⟨a, A, c⟩]) (some ⟨g, 0, none⟩) cap w5 := by
  have s3 := h3.size
  have s4 := h4.size
  have B4 : Below wr.heap.size wr w4 := h3.trans (h4.mono s3)
  have K5 : Kp (fun i => ∃ p, P = some p ∧ p.block = i) wr w5 := (Kp.of_below B4).grown hg (fun k hk => .inl (own_none.1 hk))
  have hPlt : ∀ p, P = some p → base ≤ p.block ∧ p.block < wr.heap.size := fun p hp => own_lt h.row (g := p.block) (by rw [hp]; rfl)
  have hgP : (∃ p, P = some p ∧ p.block = g) ∨ g = w4.heap.size := by
    rcases hat with h1 | h1
    · exact .inl (own_none.1 h1)
    · exact .inr h1
  refine ⟨?_, fun x hx => ?_, ?_⟩
  · rw [List.length_append, iaCells_snoc]
    exact hown
  · rcases List.mem_append.1 hx with hx | hx
    · have hs := (h.its x hx)
      have hk := hs.keep K5 (fun i hi f => by
        obtain ⟨p, hp, he⟩ := f
        exact hi.2 p hp he.symm)
      refine ⟨hk.sl, fun hn ad ea => ⟨(hk.at_ hn ad ea).1, fun p hp => ?_⟩⟩
      cases hp
      show ad.block ≠ g
      obtain ⟨b, off, e, hb, _⟩ := hs.sl.at_ hn
      rw [ea] at e
      cases e
      show b ≠ g
      rcases hgP with ⟨p, hp, he⟩ | he
      · have := (hs.at_ hn _ ea).2 p hp
        intro e2
        exact this (e2.trans he.symm)
      · omega
    · obtain rfl := List.mem_singleton.1 hx
      have o4 : ARow w4 wr.heap.size a A c := own_below own (Nat.le_refl _) h4
      have K4 : Kp (fun i => ∃ p, P = some p ∧ p.block = i) w4 w5 := (Kp.refl _ _).grown hg (fun k hk => .inl (own_none.1 hk))
      have o5 : ARow w5 wr.heap.size a A c := own_keep o4 K4 (fun i hi f => by
        obtain ⟨p, hp, he⟩ := f
        have := (hPlt p hp).2
        have := (own_lt own hi).1
        omega)
      refine ⟨Sl.of_own o5, fun hn ad ea => ⟨?_, fun p hp => ?_⟩⟩
      · have := (own_lt own (g := ad.block) (by have ea' : A = some ad := ea; rw [ea']; rfl)).1
        show base ≤ ad.block
        omega
      · cases hp
        show ad.block ≠ g
        have := own_lt own (g := ad.block) (by have ea' : A = some ad := ea; rw [ea']; rfl)
        rcases hgP with ⟨p, hp, he⟩ | he
        · have := (hPlt p hp).2
          omega
        · omega
  · exact h.bel.trans (K5.below hbs (fun i ⟨p, hp, he⟩ => by have := (hPlt p hp).1; omega))
/-- Alerts handed back in memory of the call's own. -/
def OwnAs (base : Nat) (l : List Alr) (w : World) (e : Ending) (w' : World) : Prop :=
  ∃ (L : List Ia) (P : Option Addr) (pc : Nat), L.map (·.a) = l ∧ e = .returned (.slice P L.length pc) ∧ w'.ownsRow base 55 9 (.slice P L.length pc) L.length (iaCells L) ∧ (∀ x ∈ L, SlR w' (fun i => base ≤ i) 1 x.A x.a.cells.length x.c (ints x.a.cells)) ∧ Below base w w'
theorem Hs.own {base : Nat} {w0 wr : World} {M : List Ia} {P : Option Addr} {pc : Nat} (h : Hs base w0 M P pc wr) {l : List Alr} (hl : M.map (·.a) = l) {B : Nat} (hB : B ≤ base) {w : World} (hw : Below B w wr) : OwnAs B l w (.returned (.slice P M.length pc)) wr :=
  ⟨M, P, pc, hl, rfl, own_more h.row hB, fun x hx => (h.its x hx).mono (fun _ hi => Nat.le_trans hB hi.1), hw⟩
end Go.Proofs.YtmpbhngjkbidcaaGreatDoor

/-
  What the alerts of a board say of each other: plain.
-/
namespace Go.Proofs.YtmpbhngjkbidcaaGreatDoor
open Go.RowKit Al

theorem okA_ev {a : Alr} (h : okA a = true) : a.ev.size ≤ maxLen := by
  have h2 := (okA_parts h).2.1
  rw [isName_size, Bool.and_eq_true] at h2
  have := inB_true.1 h2.1
  unfold maxLen
  omega
/-- The alerts of an event, in the order in which they came. -/
def hist (ns : List Ntc) (s : List UInt8) : List Alr := (ns.map (·.a)).filter fun a => decide (a.ev.data.toList = s)
theorem hist_nil (s : List UInt8) : hist [] s = [] := rfl
theorem hist_snoc (ns : List Ntc) (n : Ntc) (s : List UInt8) : hist (ns ++ [n]) s = if n.a.ev.data.toList = s then hist ns s ++ [n.a] else hist ns s := by
  unfold hist
  rw [List.map_append, List.filter_append]
  by_cases h : n.a.ev.data.toList = s <;> simp [h]
theorem lastOf_hist (s : List UInt8) : ∀ ns : List Ntc, lastOf ns s = (hist ns s).getLast?
  | [] => rfl
  | m :: l => by
    have ih := lastOf_hist s l
    unfold hist at ih ⊢
    rw [lastOf, ih]
    by_cases h : m.a.ev.data.toList = s
    · rw [List.map_cons, List.filter_cons_of_pos (by simp [h]), List.getLast?_cons, if_pos h]
      cases (List.filter (fun a => decide (a.ev.data.toList = s)) (List.map (·.a) l)).getLast? <;> rfl
    · rw [List.map_cons, List.filter_cons_of_neg (by simp [h]), if_neg h]
      cases (List.filter (fun a => decide (a.ev.data.toList = s)) (List.map (·.a) l)).getLast? <;> rfl
/-- Alerts of an event that follow from each other. -/
structure Chn (h : List Alr) : Prop where
  ver : ∀ k (hk : k < h.length), h[k].ver = k + 1
  wd : ∀ k (hk : k + 1 < h.length), h[k].wd = false
  bef : ∀ k (hk : k + 1 < h.length), h[k + 1].before = digA h[k]
  tm : ∀ k (hk : k + 1 < h.length), h[k].tm ≤ h[k + 1].tm
  ok : ∀ a ∈ h, okA a = true
theorem Chn.nil : Chn [] := ⟨fun _ h => absurd h (by simp), fun _ h => absurd h (by simp), fun _ h => absurd h (by simp), fun _ h => absurd h (by simp), by simp⟩
theorem Chn.one {a : Alr} (h : okA a = true) (hv : a.ver = 1) : Chn [a] :=
  ⟨fun k hk => by obtain rfl : k = 0 := by simp at hk; exact hk
                  simpa using hv, fun _ h => absurd h (by simp), fun _ h => absurd h (by simp), fun _ h => absurd h (by simp), by simpa using h⟩
theorem Chn.snoc {h : List Alr} (c : Chn h) {a x : Alr} (hl : h.getLast? = some x) (hok : okA a = true) (h1 : x.wd = false) (h2 : a.ver = x.ver + 1) (h3 : a.before = digA x) (h4 : x.tm ≤ a.tm) : Chn (h ++ [a]) := by
  have hne : h ≠ [] := by rintro rfl; cases hl
  have hpos : 0 < h.length := List.length_pos_iff.2 hne
  have hx : h[h.length - 1] = x := by
    rw [List.getLast?_eq_some_getLast hne, List.getLast_eq_getElem] at hl
    exact Option.some.inj hl
  refine ⟨fun k hk => ?_, fun k hk => ?_, fun k hk => ?_, fun k hk => ?_, fun b hb => ?_⟩
  · by_cases e : k < h.length
    · rw [List.getElem_append_left e]; exact c.ver k e
    · obtain rfl : k = h.length := by simp at hk; omega
      rw [List.getElem_append_right (by omega)]
      simp only [Nat.sub_self, List.getElem_cons_zero]
      have := c.ver (h.length - 1) (by omega)
      rw [hx] at this
      omega
  · have e : k < h.length := by simp at hk; omega
    rw [List.getElem_append_left e]
    by_cases e2 : k + 1 < h.length
    · exact c.wd k e2
    · have e3 : k = h.length - 1 := by omega
      subst e3
      rw [hx]; exact h1
  · have e : k < h.length := by simp at hk; omega
    rw [List.getElem_append_left e]
    by_cases e2 : k + 1 < h.length
    · rw [List.getElem_append_left e2]; exact c.bef k e2
    · have e3 : k = h.length - 1 := by omega
      subst e3
      rw [List.getElem_append_right (by omega), hx, ← h3]
      have : h.length - 1 + 1 - h.length = 0 := by omega
      simp [this]
  · have e : k < h.length := by simp at hk; omega
    rw [List.getElem_append_left e]
    by_cases e2 : k + 1 < h.length
    · rw [List.getElem_append_left e2]; exact c.tm k e2
    · have e3 : k = h.length - 1 := by omega
      subst e3
      rw [List.getElem_append_right (by omega), hx]
      have : h.length - 1 + 1 - h.length = 0 := by omega
      simp [this]
      exact h4
  · rcases List.mem_append.1 hb with hb | hb
    · exact c.ok b hb
    · rw [List.mem_singleton.1 hb]; exact hok
/-- The notices of a board: those of each event follow from each other. -/
def Chained (ns : List Ntc) : Prop := ∀ s, Chn (hist ns s)
theorem Chained.nil : Chained [] := fun _ => Chn.nil
theorem chX_zero {x : Alr} {bf : Int} {len : Nat} {n : Ntc} (h : chainX x bf len n = 0) : x.wd = false ∧ n.a.ver = x.ver + 1 ∧ n.a.before = bf ∧ x.tm ≤ n.a.tm ∧ len < 256 := by
  unfold chainX at h
  split at h
  · cases h
  · rename_i h1
    split at h
    · cases h
    · rename_i h2
      split at h
      · cases h
      · rename_i h3
        split at h
        · cases h
        · rename_i h4
          split at h
          · cases h
          · rename_i h5
            exact ⟨by simpa using h1, by omega, by omega, by omega, by omega⟩
theorem postE_zero {ks : List (Int × Int)} {q : Int} {ns : List Ntc} {n : Ntc} (h : postE ks q ns n = 0) : okA n.a = true ∧ chainE ns n = 0 := by
  unfold postE at h
  split at h
  · rename_i h1
    exact ⟨(noticeE_zero h1).1, h⟩
  · rename_i h1
    exact absurd h h1
theorem Chained.post {ks : List (Int × Int)} {q : Int} {ns : List Ntc} (h : Chained ns) (n : Ntc) : Chained (postN ks q ns n) := by
  unfold postN
  split
  · rename_i h0
    obtain ⟨hok, hc⟩ := postE_zero h0
    intro s
    rw [hist_snoc]
    split
    · rename_i hs
      subst hs
      cases hl : lastOf ns n.a.ev.data.toList with
      | none =>
        rw [chain_none hl] at hc
        obtain ⟨_, h2, _⟩ := chX_zero hc
        rw [lastOf_hist] at hl
        rw [List.getLast?_eq_none_iff.1 hl]
        exact Chn.one hok (by rw [h2]; rfl)
      | some x =>
        rw [chain_some hl] at hc
        obtain ⟨h1, h2, h3, h4, _⟩ := chX_zero hc
        rw [lastOf_hist] at hl
        exact (h _).snoc hl hok h1 h2 h3 h4
    · exact h s
  · exact h
theorem hist_post {ks : List (Int × Int)} {q : Int} (ns : List Ntc) (n : Ntc) : hist (postN ks q ns n) n.a.ev.data.toList = if postE ks q ns n = 0 then hist ns n.a.ev.data.toList ++ [n.a] else hist ns n.a.ev.data.toList := by
  unfold postN
  split
  · rw [hist_snoc, if_pos rfl]
  · rfl
end Go.Proofs.YtmpbhngjkbidcaaGreatDoor

/-
  The walks of filtered, with the closure of History.
-/
namespace Go.Proofs.YtmpbhngjkbidcaaGreatDoor
open Go.RowKit Al

/-- Is a notice of the event? -/
def ofEv (ev : ByteArray) (x : It) : Bool := x.n.a.ev.toList == ev.toList
def ofL (ev : ByteArray) (L : List It) (k : Nat) : List It := (L.take k).filter (ofEv ev)
theorem ofL_yes {ev : ByteArray} {L : List It} {k : Nat} (hk : k < L.length) (h : (L[k].n.a.ev.toList == ev.toList) = true) : ofL ev L (k + 1) = ofL ev L k ++ [L[k]] := by
  unfold ofL
  rw [List.take_succ_eq_append_getElem hk, List.filter_append, List.filter_cons_of_pos (by exact h), List.filter_nil]
theorem ofL_no {ev : ByteArray} {L : List It} {k : Nat} (hk : k < L.length) (h : (L[k].n.a.ev.toList == ev.toList) = false) : ofL ev L (k + 1) = ofL ev L k := by
  unfold ofL
  rw [List.take_succ_eq_append_getElem hk, List.filter_append, List.filter_cons_of_neg (by unfold ofEv; rw [h]; simp), List.filter_nil, List.append_nil]
theorem ofL_len (ev : ByteArray) (L : List It) (k : Nat) : (ofL ev L k).length ≤ L.length := Nat.le_trans (List.length_filter_le _ _) (by rw [List.length_take]; omega)
theorem ofL_end (ev : ByteArray) (L : List It) : ofL ev L L.length = L.filter (ofEv ev) := by unfold ofL; rw [List.take_length]

set_option maxRecDepth 100000 in
theorem hist1_ (x : It) (g : Nat) (ev : ByteArray) (v : Bool) (w : World) (hv : (x.n.a.ev.toList == ev.toList) = v) (hg : w.cell? ⟨g, 0, none⟩ = some (.string ev)) (hlt : g < w.heap.size) :
    Calls Tryz.prog 81 #[x.n.val x.A x.c x.S x.sc, .pointer (some ⟨g, 0, none⟩)] w fun e w' => e = .returned (.bool v) ∧ Below w.heap.size w w' := by
  have hlt2 : g < w.heap.size + 1 := by omega
  go_enter Tryz.func81, Tryz.ntmps81
  go_wp2_with fail
  go_ret
  exact ⟨ret_bool (by first | exact hv | simp [← hv]), (by repeat (first | exact Below.refl _ _ | assumption | refine below_drewN ?_ _ | refine Below.drew ?_ | refine Below.setCell ?_ (by first | omega | (simp; done) | (simp; omega)) _ | refine Below.alloc ?_ (by first | omega | (simp; done) | (simp; omega)) _))⟩

def FiRel (w : World) (L : List It) (ev : ByteArray) (o i : Value) (wr : World) : Prop :=
  ∃ (k : Nat) (A : Option Addr) (c : Nat), k ≤ L.length ∧ o = .slice A (ofL ev L k).length c ∧ i = .int .i64 k ∧ wr.ownsRow w.heap.size 72 10 (.slice A (ofL ev L k).length c) (ofL ev L k).length (itCells (ofL ev L k)) ∧ Below w.heap.size w wr
/-- A row of notices of the call's own. -/
def OwnIts (L : List It) (w : World) (e : Ending) (w' : World) : Prop := ∃ A c, e = .returned (.slice A L.length c) ∧ w'.ownsRow w.heap.size 72 10 (.slice A L.length c) L.length (itCells L) ∧ Below w.heap.size w w'
theorem fi_step {w w4 w5 : World} {L : List It} {ev : ByteArray} {k : Nat} {A : Option Addr} {c g cap : Nat} (hlt : k < L.length) (hx : ofL ev L (k + 1) = ofL ev L k ++ [L[k]])
    (hown : w5.ownsRow w.heap.size 72 10 (.slice (some ⟨g, 0, none⟩) ((ofL ev L k).length + 1) cap) ((ofL ev L k).length + 1) (itCells (ofL ev L k) ++ L[k].lst)) (h4 : Below w.heap.size w w4) (hg : w4.grownBy w5 (Value.slice A (ofL ev L k).length c).ownBlock)
    (hA : ∀ g, (Value.slice A (ofL ev L k).length c).ownBlock = some g → w.heap.size ≤ g) :
    FiRel w L ev (.slice (some ⟨g, 0, none⟩) ((ofL ev L k).length + 1) cap) (.int .i64 ((k + 1 : Nat) : Int)) w5 := by
  refine ⟨k + 1, some ⟨g, 0, none⟩, cap, by omega, by rw [hx, List.length_append]; rfl, rfl, ?_, h4.grown hg h4.size hA⟩
  rw [hx, List.length_append, itCells_snoc]
  exact hown

set_option maxRecDepth 100000 in
set_option maxHeartbeats 4000000 in
theorem filtered_ (L : List It) (N : Option Addr) (nc : Nat) (ev : ByteArray) (g : Nat) (w : World) (hL : Sl w w.heap.size 10 N L.length nc (itCells L)) (hlen : L.length ≤ 1048576) (hg : w.cell? ⟨g, 0, none⟩ = some (.string ev)) (hgl : g < w.heap.size) :
    Calls Tryz.prog 62 #[.slice N L.length nc, .func (.func 81) #[] #[.pointer (some ⟨g, 0, none⟩)]] w (OwnIts (L.filter (ofEv ev)) w) := by
  obtain ⟨i0, hi, hz0, hz1, hz2⟩ := info_parts infoNtc
  have HL := Lib.hid hL
  clear hL
  go_enter Tryz.func62, Tryz.ntmps62
  go_wp2_with fail
  go_loopw [5, 10] (fun o i wr => FiRel w L ev o i wr) (fun _ i _ => L.length - (intOf i).toNat)
  case atStart => exact ⟨0, none, 0, Nat.zero_le _, rfl, rfl, World.ownsRow_nil _ _ _ _, Below.refl _ _⟩
  case round =>
    obtain ⟨k, A, c, hk, rfl, rfl, hown, hB⟩ := hrel
    have hsz := hB.size
    have HB := Lib.hid hB
    have HO := Lib.hid hown
    have hgc0 : wr.cell? ⟨g, 0, none⟩ = some (.string ev) := by rw [hB.cell (p := ⟨g, 0, none⟩) hgl]; exact hg
    clear hB hown
    by_cases hlt : k < L.length
    · obtain ⟨b, off, rfl, hb, y0, y1, y2, y3, y4, y5, y6, y7, y8, y9⟩ := (HL.out.below HB.out).it_at hlt
      have i0' : (0 : Int) ≤ (k : Int) := by omega
      have i1' : (k : Int) < (L.length : Int) := by omega
      have hb2 : b < wr.heap.size := by omega
      have hgr : g < wr.heap.size := by omega
      have hgc : wr.cell? ⟨g, 0, none⟩ = some (.string ev) := hgc0
      have hll := ofL_len ev L k
      by_cases ho : (L[k].n.a.ev.toList == ev.toList) = true
      · have HX := Lib.hid (ofL_yes hlt ho)
        go_wp2_with (first
          | (go_at_call 81; refine (hist1_ L[k] g ev true _ ho (by simp [go_sem, hgr, hgc]) (by simp; omega)).mono ?_; rintro e w3 ⟨rfl, hb3⟩; obtain ⟨hcw3, hfw3⟩ := bcell hb3; have hz3 := hb3.size; (try simp at hz3); have HB3 := Lib.hid ((show Below wr.heap.size wr _ from (by repeat (first | exact Below.refl _ _ | assumption | refine below_drewN ?_ _ | refine Below.drew ?_ | refine Below.setCell ?_ (by first | omega | (simp; done) | (simp; omega)) _ | refine Below.alloc ?_ (by first | omega | (simp; done) | (simp; omega)) _))).trans (hb3.mono (by first | omega | (simp; done) | (simp; omega)))); clear hb3; have l0 : wr.heap.size < w3.heap.size := (by omega))
          | (at_builtin; refine wpList_append_lies _ rfl _ _ 78 rfl w.heap.size 72 i0 (.agg #[.string ⟨#[]⟩, .int .i64 0, .int .i64 0, .int .i64 0, .int .i64 0, .int .i64 0, .slice none 0 0, .bool false, .int .i64 0, .slice none 0 0]) 10 120 Tryz.underlying78 hi hz0 hz1 hz2 rfl (by decide) (.slice A (ofL ev L k).length c) (ofL ev L k).length (itCells (ofL ev L k)) rfl (own_below HO.out (Nat.le_refl _) (by repeat (first | exact Below.refl _ _ | exact (HB3).out | refine below_drewN ?_ _ | refine Below.drew ?_ | refine Below.setCell ?_ (by first | omega | (simp; done) | (simp; omega)) _ | refine Below.alloc ?_ (by first | omega | (simp; done) | (simp; omega)) _))) _ 1 1 L[k].lst rfl rfl (World.news_of_block (heap_alloc_new w3 _)) (ntL_one _ _ _ _ _ _) (by decide) (by unfold maxLen; omega) (by omega) (by simp; omega) _ rfl ?_; intro g5 cap w5 hown5 hg5 hat5 hlt5))
        go_roundw
        case rel => exact fi_step hlt HX.out hown5 (HB.out.trans (Below.mono (by repeat (first | exact Below.refl _ _ | exact (HB3).out | refine below_drewN ?_ _ | refine Below.drew ?_ | refine Below.setCell ?_ (by first | omega | (simp; done) | (simp; omega)) _ | refine Below.alloc ?_ (by first | omega | (simp; done) | (simp; omega)) _)) hsz)) hg5 (fun g hg => own_base HO.out hg)
        case measure => simp [intOf]; omega
      · have ho' : (L[k].n.a.ev.toList == ev.toList) = false := by simpa using ho
        have HX := Lib.hid (ofL_no hlt ho')
        go_wp2_with (go_at_call 81; refine (hist1_ L[k] g ev false _ ho' (by simp [go_sem, hgr, hgc]) (by simp; omega)).mono ?_; rintro e w3 ⟨rfl, hb3⟩; obtain ⟨hcw3, hfw3⟩ := bcell hb3; have hz3 := hb3.size; (try simp at hz3); have HB3 := Lib.hid ((show Below wr.heap.size wr _ from (by repeat (first | exact Below.refl _ _ | assumption | refine below_drewN ?_ _ | refine Below.drew ?_ | refine Below.setCell ?_ (by first | omega | (simp; done) | (simp; omega)) _ | refine Below.alloc ?_ (by first | omega | (simp; done) | (simp; omega)) _))).trans (hb3.mono (by first | omega | (simp; done) | (simp; omega)))); clear hb3; have l0 : wr.heap.size < w3.heap.size := (by omega))
        go_roundw
        case rel =>
          refine ⟨k + 1, A, c, by omega, ?_, by go_num, ?_, HB.out.trans (HB3.out.mono hsz)⟩
          · rw [HX.out]
          · rw [HX.out]
            exact own_below HO.out (Nat.le_refl _) HB3.out
        case measure => simp [intOf]; omega
    · obtain rfl : k = L.length := by omega
      rw [ofL_end] at *
      go_wp2_with fail
      go_ret
      exact ⟨A, c, rfl, HO.out, HB.out⟩
end Go.Proofs.YtmpbhngjkbidcaaGreatDoor

/-
  The walk of History: the alerts of an event, in memory of the call's own.
-/
namespace Go.Proofs.YtmpbhngjkbidcaaGreatDoor
open Go.RowKit Al

theorem infoAl : (Tryz.prog.info? 55).map (fun i => (i.zero, i.size, i.bytes)) = some (some (.agg #[.string ⟨#[]⟩, .int .i64 0, .int .i64 0, .int .i64 0, .int .i64 0, .int .i64 0, .slice none 0 0, .bool false, .int .i64 0]), 9, 96) := by kernel_rfl
theorem hist_of (ev : ByteArray) : ∀ L : List It, (L.filter (ofEv ev)).map (·.n.a) = hist (L.map (·.n)) ev.data.toList
  | [] => rfl
  | x :: L => by
    have ih := hist_of ev L
    unfold hist at ih ⊢
    have he : ofEv ev x = decide (x.n.a.ev.data.toList = ev.data.toList) := by
      unfold ofEv
      rw [Lib.toList_data, Lib.toList_data, Bool.eq_iff_iff]
      simp
    by_cases h : x.n.a.ev.data.toList = ev.data.toList
    · rw [List.filter_cons_of_pos (by rw [he]; simp [h]), List.map_cons, List.map_cons, List.map_cons, List.filter_cons_of_pos (by simp [h]), ih]
    · rw [List.filter_cons_of_neg (by rw [he]; simp [h]), List.map_cons, List.map_cons, List.filter_cons_of_neg (by simp [h]), ih]
theorem filtered_is (L : List It) (N : Option Addr) (nc : Nat) (ev : ByteArray) (g : Nat) (F : List It) (w : World) (hF : L.filter (ofEv ev) = F) (hL : Sl w w.heap.size 10 N L.length nc (itCells L)) (hlen : L.length ≤ 1048576) (hg : w.cell? ⟨g, 0, none⟩ = some (.string ev)) (hgl : g < w.heap.size) :
    Calls Tryz.prog 62 #[.slice N L.length nc, .func (.func 81) #[] #[.pointer (some ⟨g, 0, none⟩)]] w (OwnIts F w) := hF ▸ filtered_ L N nc ev g w hL hlen hg hgl
def HiRel (w2 : World) (L : List It) (o i : Value) (wr : World) : Prop :=
  ∃ (k : Nat) (M : List Ia) (P : Option Addr) (pc : Nat), k ≤ L.length ∧ Hid (M.length = k) ∧ Hid (M.map (·.a) = (L.take k).map (·.n.a)) ∧ o = .slice P M.length pc ∧ i = .int .i64 k ∧ Hs w2.heap.size w2 M P pc wr
theorem hi_next {L : List It} {M : List Ia} {k : Nat} {A : Option Addr} {c : Nat} (hk : k < L.length) (h : M.map (·.a) = (L.take k).map (·.n.a)) : (M ++ [(⟨L[k].n.a, A, c⟩ : Ia)]).map (·.a) = (L.take (k + 1)).map (·.n.a) := by
  rw [List.take_succ_eq_append_getElem hk, List.map_append, List.map_append, h]
  rfl
set_option maxRecDepth 100000 in
theorem history_nil (ev : ByteArray) (w : World) :
    Calls Tryz.prog 47 #[.pointer none, .string ev] w fun e w' => e = .returned (.slice none 0 0) ∧ Below w.heap.size w w' := by
  go_enter Tryz.func47, Tryz.ntmps47
  go_wp2_with (go_at_call 44; refine (none_nil _).mono ?_; rintro e w' ⟨rfl, rfl⟩)
  go_ret
  exact ⟨rfl, (by repeat (first | exact Below.refl _ _ | assumption | refine below_drewN ?_ _ | refine Below.drew ?_ | refine Below.setCell ?_ (by first | omega | (simp; done) | (simp; omega)) _ | refine Below.alloc ?_ (by first | omega | (simp; done) | (simp; omega)) _))⟩
set_option maxRecDepth 100000 in
set_option maxHeartbeats 4000000 in
theorem history_ (R : Nat → Prop) (b : Nat) (ks : List (Int × Int)) (q : Int) (K : Option Addr) (kc : Nat) (L : List It) (N : Option Addr) (nc mb : Nat) (G : List UInt8 → Option (Alr × Option Addr × Nat)) (ev : ByteArray) (w : World)
    (h : BdAt w R b ks q K kc L N nc mb G) :
    Calls Tryz.prog 47 #[.pointer (some ⟨b, 0, none⟩), .string ev] w (OwnAs w.heap.size (hist (L.map (·.n)) ev.data.toList) w) := by
  obtain ⟨i0, hi, hz0, hz1, hz2⟩ := info_parts infoAl
  have c2 := h.c2
  have c3 := h.c3
  have hlt := h.lt.1
  have hmx := h.max
  have HH := Lib.hid h
  have hlt2 : b < w.heap.size + 1 := by omega
  have HLs := Lib.hid (Sl.of_own h.row)
  obtain ⟨F', hF'⟩ : ∃ F', L.filter (ofEv ev) = F' := ⟨_, rfl⟩
  have HF := Lib.hid (hist_of ev L)
  have hFl : F'.length ≤ 256 := by rw [← hF']; exact Nat.le_trans (List.length_filter_le _ _) hmx
  have HI0 : Hid (∀ x ∈ F', ItIn w R x) := fun x hx => by rw [← hF'] at hx; exact h.its x (List.mem_filter.1 hx).1
  rw [hF'] at HF
  have HFF := Lib.hid hF'
  clear h hF'
  go_enter Tryz.func47, Tryz.ntmps47
  go_wp2_with (go_at_call 44; refine (none_ b mb _ (by simp [go_sem, hlt, c3])).mono ?_; rintro e w' ⟨rfl, rfl⟩)
  refine (filtered_is L N nc ev w.heap.size F' _ HFF.out ((HLs.out.below (by (repeat (first | exact Below.refl _ _ | assumption | refine below_drewN ?_ _ | refine Below.drew ?_ | refine Below.setCell ?_ (by first | omega | (simp; done) | (simp; omega)) _ | refine Below.alloc ?_ (by first | omega | (simp; done) | (simp; omega)) _)))).more (by simp)) (by omega) (by simp [go_sem]) (by simp)).mono ?_
  rintro e w2 ⟨F, fc, rfl, hown, hb⟩
  have HO := Lib.hid (Sl.of_own hown)
  have Hw2 := Lib.hid ((show Below w.heap.size w _ from (by repeat (first | exact Below.refl _ _ | assumption | refine below_drewN ?_ _ | refine Below.drew ?_ | refine Below.setCell ?_ (by first | omega | (simp; done) | (simp; omega)) _ | refine Below.alloc ?_ (by first | omega | (simp; done) | (simp; omega)) _))).trans (hb.mono (by first | omega | (simp; done) | (simp; omega))))
  have hz := hb.size
  simp at hz
  clear hb hown
  have HI := Lib.hid (fun x (hx : x ∈ F') => (HI0.out x hx).keep (F := fun _ => False) (Kp.of_below Hw2.out) (fun _ _ f => f))
  go_wp2_with fail
  go_loopw [5, 17] (fun o i wr => HiRel w2 F' o i wr) (fun _ i _ => F'.length - (intOf i).toNat)
  case atStart => exact ⟨0, [], none, 0, Nat.zero_le _, rfl, rfl, rfl, rfl, Hs.start (Below.refl _ _)⟩
  case round =>
    obtain ⟨k, M, P, pc, hk, hMk, hM, rfl, rfl, hs⟩ := hrel
    have HS := Lib.hid hs
    have HB := Lib.hid hs.bel
    have hsz := hs.bel.size
    clear hs
    by_cases hlt3 : k < F'.length
    · obtain ⟨fb, off, rfl, hfb, y0, y1, y2, y3, y4, y5, y6, y7, y8, y9⟩ := (HO.out.below HB.out).it_at hlt3
      have i0' : (0 : Int) ≤ (k : Int) := by omega
      have i1' : (k : Int) < (F'.length : Int) := by omega
      have hb2 : fb < wr.heap.size := by omega
      have hit := HI.out F'[k] (List.getElem_mem hlt3)
      have HA := Lib.hid (show AIn wr F'[k].n.a F'[k].A F'[k].c from ⟨okA_ev hit.ok, (hit.cells.keep (F := fun _ => False) (Kp.of_below HB.out) (fun _ _ f => f)).sl⟩)
      have hsh := okA_short hit.ok
      have HX := Lib.hid (fun (A : Option Addr) (c : Nat) => hi_next (A := A) (c := c) hlt3 hM.out)
      clear hit
      obtain ⟨x, hx⟩ : ∃ x, x = F'[k] := ⟨_, rfl⟩
      rw [← hx] at y0 y1 y2 y3 y4 y5 y6 y7 y8 y9 HA hsh HX
      clear hx
      go_wp2_with fail
      refine (copied_ x.n.a x.A x.c _ (HA.out.below (by (repeat (first | exact Below.refl _ _ | assumption | refine below_drewN ?_ _ | refine Below.drew ?_ | refine Below.setCell ?_ (by first | omega | (simp; done) | (simp; omega)) _ | refine Below.alloc ?_ (by first | omega | (simp; done) | (simp; omega)) _)))) hsh).mono ?_
      rintro e w3 ⟨A', c', rfl, hown3, hb3⟩
      have HO3 := Lib.hid (own_more (base' := wr.heap.size) hown3 (by simp))
      have HB3 := Lib.hid ((show Below wr.heap.size wr _ from (by (repeat (first | exact Below.refl _ _ | assumption | refine below_drewN ?_ _ | refine Below.drew ?_ | refine Below.setCell ?_ (by first | omega | (simp; done) | (simp; omega)) _ | refine Below.alloc ?_ (by first | omega | (simp; done) | (simp; omega)) _)))).trans (hb3.mono (by first | omega | (simp; done) | (simp; omega))))
      have hz3 := hb3.size
      simp at hz3
      have l0 : wr.heap.size < w3.heap.size := by omega
      obtain ⟨hcw3, hfw3⟩ := bcell hb3
      clear hb3 hown3
      have hml : M.length ≤ 256 := by have := hMk.out; omega
      go_wp2_with (at_builtin; refine wpList_append_lies _ rfl _ _ 118 rfl w2.heap.size 55 i0 (.agg #[.string ⟨#[]⟩, .int .i64 0, .int .i64 0, .int .i64 0, .int .i64 0, .int .i64 0, .slice none 0 0, .bool false, .int .i64 0]) 9 96 Tryz.underlying118 hi hz0 hz1 hz2 rfl (by decide) (.slice P M.length pc) M.length (iaCells M) rfl (own_below HS.out.row (Nat.le_refl _) (by repeat (first | exact Below.refl _ _ | exact (HB3).out | refine below_drewN ?_ _ | refine Below.drew ?_ | refine Below.setCell ?_ (by first | omega | (simp; done) | (simp; omega)) _ | refine Below.alloc ?_ (by first | omega | (simp; done) | (simp; omega)) _))) _ 1 1 (x.n.a.lst A' c') rfl rfl (World.news_of_block (heap_alloc_new w3 _)) (alst_one _ _ _) (by decide) (by unfold maxLen; omega) (by omega) (by simp; omega) _ rfl ?_; intro g5 cap w5 hown5 hg5 hat5 hlt5)
      go_roundw
      case rel => exact ⟨k + 1, M ++ [⟨x.n.a, A', c'⟩], some ⟨g5, 0, none⟩, cap, by omega, (by show _ = _; rw [List.length_append, hMk.out]; rfl), Lib.hid (HX.out A' c'), by rw [List.length_append]; rfl, by go_num, HS.out.step hsz HB3.out HO3.out ((Below.refl _ _).alloc (Nat.le_refl _) _) hown5 hg5 hat5⟩
      case measure => simp [intOf]; omega
    · obtain rfl : k = F'.length := by omega
      go_wp2_with fail
      go_ret
      refine HS.out.own ?_ Hw2.out.size (Hw2.out.trans (HB.out.mono Hw2.out.size))
      rw [hM.out, List.take_of_length_le (Nat.le_refl _)]
      exact HF.out
end Go.Proofs.YtmpbhngjkbidcaaGreatDoor
