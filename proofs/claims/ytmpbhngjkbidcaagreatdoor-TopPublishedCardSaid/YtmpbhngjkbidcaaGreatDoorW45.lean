/-
  Maps in memory, whatever the keys: what stands at each key, and how many there are.
-/
import Derived.Test.YtmpbhngjkbidcaaGreatDoorW36
import Derived.Sort.KeysCollected
import Derived.Lib.SlKeysI
import Derived.Test.YtmpbhngjkbidcaaGreatDoorW38
namespace Go.Proofs.YtmpbhngjkbidcaaGreatDoor
open Go.RowKit Al

/-- Block mb is a map with c entries: what f says of each key. -/
def MapK {α : Type} (kt : TypeId) (mk : α → Lit) (w : World) (mb n c : Nat) (f : α → Option Value) : Prop :=
  ∃ D : DataW Value, w.ownsMap Tryz.prog kt MapR mb n D ∧ Maps.size D = c ∧ ∀ s, Maps.has D (mk s) = (f s).isSome ∧ ∀ v, f s = some v → ∀ z, D.atKey (mk s) z = .held v
section
variable {α : Type} {kt : TypeId} {mk : α → Lit} {w : World} {mb n c : Nat} {f : α → Option Value}
theorem MapK.made (kt : TypeId) (mk : α → Lit) (w : World) : MapK kt mk (w.alloc (.map #[] 0)) w.heap.size 0 0 (fun _ => none) :=
  ⟨_, World.ownsMap_made w _ _ _, rfl, fun _ => ⟨rfl, fun _ h => (nomatch h)⟩⟩
theorem MapK.lt (h : MapK kt mk w mb n c f) : mb < w.heap.size := by
  obtain ⟨D, h1, _⟩ := h
  exact h1.lt
theorem MapK.mono (h : MapK kt mk w mb n c f) {m : Nat} (hm : n ≤ m) : MapK kt mk w mb m c f := by
  obtain ⟨D, h1, h2⟩ := h
  exact ⟨D, h1.mono hm, h2⟩
theorem MapK.keep (h : MapK kt mk w mb n c f) {w' : World} {F : Nat → Prop} (k : Kp F w w') (hF : ¬ F mb) : MapK kt mk w' mb n c f := by
  have hlt := h.lt
  obtain ⟨D, ⟨es, clock, hb, r⟩, h2⟩ := h
  exact ⟨D, ⟨es, clock, (k.block mb hlt hF).trans hb, r⟩, h2⟩
theorem MapK.look (h : MapK kt mk w mb n c f) {t e : TypeId} (K : Maps.Keyed Tryz.prog kt) (ht : Tryz.prog.underlying t = some (.map kt e)) {z : Value} (hz : (zeroValue e).run Tryz.prog w = .ok z w) {key : Value} {s : α} (hkey : keyOf Tryz.prog kt key = some (mk s)) :
    (Instr.lookup t (.map (some mb)) key false).run Tryz.prog w = .ok ((f s).getD z) w := by
  obtain ⟨D, h1, _, h2⟩ := h
  obtain ⟨hh, ha⟩ := h2 s
  obtain ⟨v, ps, hrun, hv⟩ := h1.lookup K ht hz (zd := .held z) (zp := []) rfl hkey
  rw [hrun]
  have hv' : DataW.held v = D.atKey (mk s) (.held z) := congrArg Prod.fst (Option.some.inj hv)
  cases hf : f s with
  | none =>
    rw [hf] at hh
    rw [Maps.atKey_of_not_has hh] at hv'
    cases hv'
    rfl
  | some u =>
    rw [ha u hf] at hv'
    cases hv'
    rfl
theorem MapK.put [DecidableEq α] (h : MapK kt mk w mb n c f) {t e : TypeId} (K : Maps.Keyed Tryz.prog kt) (ht : Tryz.prog.underlying t = some (.map kt e)) (hn : n < maxLen) {key : Value} {s : α} (hkey : keyOf Tryz.prog kt key = some (mk s)) (hinj : ∀ u, mk u = mk s → u = s) (hK : WideAt.IsKeyLit (mk s)) (v : Value) :
    ∃ w', (Instr.mapUpdate t (.map (some mb)) key v).run Tryz.prog w = .ok () w' ∧ MapK kt mk w' mb (n + 1) (if (f s).isSome then c else c + 1) (fun k => if k = s then some v else f k) ∧ w.grownBy w' (some mb) := by
  obtain ⟨D, h1, hc, h2⟩ := h
  obtain ⟨w', hrun, h3, h4⟩ := h1.update K ht hn hkey (val := v) (d := .held v) (ps := []) rfl
  have hm := h1.isMap
  refine ⟨w', hrun, ⟨_, h3, ?_, fun k => ?_⟩, h4⟩
  · rw [Maps.size_put (h1.tidy K), (h2 s).1, hc]
  by_cases hk : k = s
  · subst hk
    simp only [if_true]
    refine ⟨Maps.has_put_same hm hK _, fun u hu z => ?_⟩
    cases hu
    exact Maps.atKey_put_same hm hK _ _
  · simp only [if_neg hk]
    have hne : mk k ≠ mk s := fun e => hk (hinj _ e)
    obtain ⟨hh, ha⟩ := h2 k
    refine ⟨by rw [Maps.has_put_other hne]; exact hh, fun u hu z => ?_⟩
    rw [Maps.atKey_put_other hne]
    exact ha u hu z
end

/-- Maps whose keys are strings; whose keys are ints. -/
abbrev MapS := MapK 9 Lit.string
abbrev MapI := MapK 3 (Lit.int .i64)
theorem keyLawI : Maps.Keyed Tryz.prog 3 := Maps.int_keyed Tryz.underlying3
theorem strLit_inj (s u : List UInt8) (h : Lit.string u = .string s) : u = s := by injection h
theorem intLit_inj (s u : Int) (h : Lit.int .i64 u = .int .i64 s) : u = s := by injection h
theorem isKeyI {v : Int} (_ : (Lit.int .i64 v).wf = true) : WideAt.IsKeyLit (.int .i64 v) := by first | trivial | (simp [WideAt.IsKeyLit]; done)
end Go.Proofs.YtmpbhngjkbidcaaGreatDoor

/-
  Plain: the names of the events are those of the notices, in order; what sorted keys are; the forks.
-/
namespace Go.Proofs.YtmpbhngjkbidcaaGreatDoor
open Go.RowKit Al

theorem lt_of_not {x n : List UInt8} (h : ¬ n < x) (hne : x ≠ n) : x < n := by
  refine Decidable.byContradiction fun h2 => hne (List.le_antisymm ?_ ?_)
  · exact List.not_lt.1 h
  · exact List.not_lt.1 h2
theorem less_is (x : List UInt8) : ∀ y : List UInt8, Op.bytesLess x y = decide (x < y) := by
  induction x with
  | nil => intro y; cases y <;> simp [Op.bytesLess]
  | cons a x ih =>
    intro y
    cases y with
    | nil => simp [Op.bytesLess]
    | cons b y =>
      rw [Op.bytesLess, ih y]
      simp only [List.cons_lt_cons_iff]
      by_cases h1 : a < b <;> by_cases h2 : a = b <;> by_cases h3 : x < y <;> simp [h1, h2, h3]
theorem less_iff (n x : ByteArray) : Op.bytesLess n.toList x.toList = true ↔ n.data.toList < x.data.toList := by
  rw [less_is, Lib.toList_data, Lib.toList_data, decide_eq_true_eq]
theorem mem_insW_iff {m n : ByteArray} : ∀ {out : List ByteArray}, m ∈ insW n out ↔ m = n ∨ m ∈ out
  | [] => by simp [insW]
  | x :: r => by
    unfold insW
    split
    · simp
    · simp only [List.mem_cons, mem_insW_iff (out := r)]
      constructor
      · rintro (h | h | h) <;> simp [h]
      · rintro (h | h | h) <;> simp [h]
def LtD (x y : ByteArray) : Prop := x.data.toList < y.data.toList
theorem insW_sorted {n : ByteArray} : ∀ {out : List ByteArray}, out.Pairwise LtD → (∀ x ∈ out, x.data.toList ≠ n.data.toList) → (insW n out).Pairwise LtD
  | [], _, _ => by simp [insW]
  | x :: r, hs, hn => by
    obtain ⟨h1, h2⟩ := List.pairwise_cons.1 hs
    unfold insW
    split
    · rename_i h
      have hlt := (less_iff n x).1 h
      refine List.pairwise_cons.2 ⟨fun y hy => ?_, hs⟩
      rcases List.mem_cons.1 hy with rfl | hy
      · exact hlt
      · exact List.lt_trans hlt (h1 y hy)
    · rename_i h
      have hlt : x.data.toList < n.data.toList := lt_of_not (fun e => h ((less_iff n x).2 e)) (hn x List.mem_cons_self)
      refine List.pairwise_cons.2 ⟨fun y hy => ?_, insW_sorted h2 (fun z hz => hn z (List.mem_cons_of_mem _ hz))⟩
      rcases mem_insW_iff.1 hy with rfl | hy
      · exact hlt
      · exact h1 y hy
theorem wordIn_iff {s : ByteArray} {l : List ByteArray} : wordIn s l = true ↔ s ∈ l := by
  unfold wordIn
  rw [List.any_eq_true]
  constructor
  · rintro ⟨x, hx, h⟩
    have h2 : x.toList = s.toList := by simpa using h
    rw [← bytes_inj h2]
    exact hx
  · intro h
    exact ⟨s, h, by simp⟩
theorem evW_spec (L : List It) : (evW L).Pairwise LtD ∧ ∀ m, m ∈ evW L ↔ ∃ x ∈ L, x.n.a.ev = m := by
  have key : ∀ (L : List It) (out : List ByteArray), out.Pairwise LtD → (L.foldl (fun out x => if wordIn x.n.a.ev out then out else insW x.n.a.ev out) out).Pairwise LtD ∧ ∀ m, m ∈ L.foldl (fun out x => if wordIn x.n.a.ev out then out else insW x.n.a.ev out) out ↔ m ∈ out ∨ ∃ x ∈ L, x.n.a.ev = m := by
    intro L
    induction L with
    | nil => intro out h; exact ⟨h, fun m => by simp⟩
    | cons x L ih =>
      intro out h
      rw [List.foldl_cons]
      by_cases hw : wordIn x.n.a.ev out = true
      · rw [if_pos hw]
        obtain ⟨h1, h2⟩ := ih out h
        refine ⟨h1, fun m => ?_⟩
        rw [h2]
        have := wordIn_iff.1 hw
        constructor
        · rintro (h | ⟨y, hy, e⟩)
          · exact .inl h
          · exact .inr ⟨y, List.mem_cons_of_mem _ hy, e⟩
        · rintro (h | ⟨y, hy, e⟩)
          · exact .inl h
          · rcases List.mem_cons.1 hy with rfl | hy
            · exact .inl (e ▸ this)
            · exact .inr ⟨y, hy, e⟩
      · rw [if_neg hw]
        have hnot : x.n.a.ev ∉ out := fun e => hw (wordIn_iff.2 e)
        obtain ⟨h1, h2⟩ := ih (insW x.n.a.ev out) (insW_sorted h (fun y hy e => hnot (data_inj e ▸ hy)))
        refine ⟨h1, fun m => ?_⟩
        rw [h2, mem_insW_iff]
        constructor
        · rintro ((rfl | h) | ⟨y, hy, e⟩)
          · exact .inr ⟨x, List.mem_cons_self, rfl⟩
          · exact .inl h
          · exact .inr ⟨y, List.mem_cons_of_mem _ hy, e⟩
        · rintro (h | ⟨y, hy, e⟩)
          · exact .inl (.inr h)
          · rcases List.mem_cons.1 hy with rfl | hy
            · exact .inl (.inl e.symm)
            · exact .inr ⟨y, hy, e⟩
  obtain ⟨h1, h2⟩ := key L [] List.Pairwise.nil
  exact ⟨h1, fun m => (h2 m).trans (by simp)⟩
/-- The keys of a map, sorted. -/
theorem keys_sorted {w : World} {mb n : Nat} {D : DataW Value} (hown : w.ownsMap Tryz.prog 9 MapR mb n D) {ss0 : List (List UInt8)} (hs : ss0.Pairwise (· < ·)) (hm : ∀ s, s ∈ ss0 ↔ Maps.has D (.string s) = true) {ss : List (List UInt8)} (hp : ss.Perm (strKeys D)) :
    ss.mergeSort (fun x y => decide (x ≤ y)) = ss0 := by
  obtain ⟨es, rfl, h1, _⟩ := hown.entries keyLaw
  obtain ⟨es', e, h2⟩ := hown.keysOf
  cases e
  have hnd : ss0.Nodup := hs.imp (fun h e => by subst e; exact List.lt_irrefl _ h)
  have hk : ∀ p ∈ es, ∃ x, p.1 = .string x := fun p hp => by
    obtain ⟨key, hkey⟩ := h2 p hp
    obtain ⟨x, _, e, _⟩ := Maps.keyOf_str Tryz.underlying9 hkey
    exact ⟨x, e⟩
  have hq := perm_strKeys h1 hk hnd hm
  have h3 := mergeSort_of_perm (hp.trans hq.symm)
  refine h3.trans (List.mergeSort_of_pairwise (hs.imp fun h => ?_))
  simp only [decide_eq_true_eq]
  exact List.le_of_lt h
theorem keys_sorted_i {w : World} {mb n : Nat} {D : DataW Value} (hown : w.ownsMap Tryz.prog 3 MapR mb n D) {ss0 : List Int} (hs : ss0.Pairwise (· < ·)) (hm : ∀ s, s ∈ ss0 ↔ Maps.has D (.int .i64 s) = true) {ss : List Int} (hp : ss.Perm (intKeys D)) :
    ss.mergeSort (fun x y => decide (x ≤ y)) = ss0 := by
  obtain ⟨es, rfl, h1, _⟩ := hown.entries keyLawI
  obtain ⟨es', e, h2⟩ := hown.keysOf
  cases e
  have hnd : ss0.Nodup := hs.imp (fun h e => by subst e; exact Int.lt_irrefl _ h)
  have hk : ∀ p ∈ es, ∃ x, p.1 = .int .i64 x := fun p hp => by
    obtain ⟨key, hkey⟩ := h2 p hp
    obtain ⟨x, _, e, _⟩ := Maps.keyOf_i64 Tryz.underlying3 hkey
    exact ⟨x, e⟩
  have hq := perm_intKeys h1 hk hnd hm
  have h3 := mergeSort_of_perm_i (hp.trans hq.symm)
  refine h3.trans (List.mergeSort_of_pairwise (hs.imp fun h => ?_))
  simp only [decide_eq_true_eq]
  exact Int.le_of_lt h
/-- A list of what is of use, of a greater one. -/
theorem flat_sub {α : Type} {g : Int → List α} {us vs : List Int} (hus : us.Pairwise (· < ·)) (hvs : vs.Pairwise (· < ·)) (hsub : ∀ v ∈ vs, v ∈ us) (h : ∀ v ∈ us, v ∉ vs → g v = []) : vs.flatMap g = us.flatMap g := by
  have e : us.filter (fun v => decide (v ∈ vs)) = vs := by
    have hp : (us.filter (fun v => decide (v ∈ vs))).Perm vs := by
      refine (List.perm_ext_iff_of_nodup ?_ (hvs.imp fun h => Int.ne_of_lt h)).2 fun v => ?_
      · exact (hus.imp (fun h => Int.ne_of_lt h) : us.Nodup).filter _
      · rw [List.mem_filter, decide_eq_true_eq]
        exact ⟨fun h => h.2, fun h => ⟨hsub v h, h⟩⟩
    exact List.Perm.eq_of_pairwise (le := fun a b => a < b) (fun a b _ _ h1 h2 => by omega) (hus.filter _) hvs hp
  have key : ∀ l : List Int, (∀ v ∈ l, v ∉ vs → g v = []) → (l.filter (fun v => decide (v ∈ vs))).flatMap g = l.flatMap g := by
    intro l
    induction l with
    | nil => intro _; rfl
    | cons v l ih =>
      intro hl
      rw [List.filter_cons, List.flatMap_cons]
      by_cases hv : v ∈ vs
      · rw [if_pos (by simpa using hv), List.flatMap_cons, ih (fun u hu => hl u (List.mem_cons_of_mem _ hu))]
      · rw [if_neg (by simpa using hv), hl v List.mem_cons_self hv, ih (fun u hu => hl u (List.mem_cons_of_mem _ hu))]
        rfl
  rw [← key us h, e]
/-- A fork, as it is said: the event, the version, who signed two ways. -/
structure Frk where
  ev : ByteArray
  ver : Int
  who : List Int
/-- Who signed two ways, of the first ones. -/
def forkWho (L : List It) (v : Int) (k : Nat) : List Int := ((List.range k).map fun s : Nat => (s : Int)).filter fun s => pairAny (twoV v s) L L.length
theorem forkWho_next (L : List It) (v : Int) (k : Nat) : forkWho L v (k + 1) = forkWho L v k ++ if pairAny (twoV v k) L L.length then [(k : Int)] else [] := by
  unfold forkWho
  rw [List.range_succ, List.map_append, List.filter_append]
  congr 1
  rw [List.map_cons, List.map_nil, List.filter_cons]
  split <;> rfl
theorem forkWho_len (L : List It) (v : Int) (k : Nat) : (forkWho L v k).length ≤ k := by
  unfold forkWho
  exact Nat.le_trans (List.length_filter_le _ _) (by simp)
/-- The forks of a version: one or none. -/
def forkAt (nk : Nat) (L : List It) (m : ByteArray) (v : Int) : List Frk := if pairAny (splitV v) L L.length then [⟨m, v, forkWho L v nk⟩] else []
/-- The versions to a number. -/
def versTo (k : Nat) : List Int := (List.range k).map fun j : Nat => (j : Int) + 1
theorem versTo_next (k : Nat) : versTo (k + 1) = versTo k ++ [(k : Int) + 1] := by simp [versTo, List.range_succ]
theorem versTo_sorted (k : Nat) : (versTo k).Pairwise (· < ·) := by
  unfold versTo
  refine List.pairwise_map.2 ((List.pairwise_lt_range).imp fun h => ?_)
  omega
theorem mem_versTo {k : Nat} {v : Int} : v ∈ versTo k ↔ 1 ≤ v ∧ v ≤ k := by
  unfold versTo
  rw [List.mem_map]
  constructor
  · rintro ⟨j, hj, rfl⟩
    have := List.mem_range.1 hj
    omega
  · rintro ⟨h1, h2⟩
    exact ⟨(v - 1).toNat, List.mem_range.2 (by omega), by omega⟩
/-- The forks of an event, and of all. -/
def forksE (nk : Nat) (L : List It) (m : ByteArray) : List Frk := (versTo 1000).flatMap (forkAt nk L m)
def forksS (ks : List (Int × Int)) (q : Int) (L : List It) : List Frk := (evW (validN ks q L)).flatMap fun m => forksE ks.length ((validN ks q L).filter (ofEv m)) m
end Go.Proofs.YtmpbhngjkbidcaaGreatDoor

/-
  Plain: how events stand, and the forks, depend on which notices are valid alone, not on their order.
-/
namespace Go.Proofs.YtmpbhngjkbidcaaGreatDoor
open Go.RowKit Al

theorem textsV_set {L M : List It} (h : ∀ x, x ∈ L ↔ x ∈ M) (v : Int) : (textsV L v).length = (textsV M v).length := by
  refine List.Perm.length_eq ((List.perm_ext_iff_of_nodup (textsV_nodup L v) (textsV_nodup M v)).2 fun s => ?_)
  rw [mem_textsV, mem_textsV]
  exact ⟨fun ⟨x, hx, e⟩ => ⟨x, (h x).1 hx, e⟩, fun ⟨x, hx, e⟩ => ⟨x, (h x).2 hx, e⟩⟩
theorem verAt_best {L : List It} : ∀ {i : Nat}, i ≤ L.length → ∀ j, j < i → verAt L j ≤ verAt L (bestI L i)
  | 0, _, j, h => absurd h (by omega)
  | i + 1, hi, j, h => by
    have ih := verAt_best (L := L) (i := i) (by omega)
    unfold bestI
    by_cases e : verAt L (bestI L i) < verAt L i
    · rw [if_pos e]
      by_cases hj : j = i
      · subst hj; exact Int.le_refl _
      · have := ih j (by omega)
        omega
    · rw [if_neg e]
      by_cases hj : j = i
      · subst hj; omega
      · exact ih j (by omega)
/-- The best one is of the list, and none has a greater version. -/
theorem best_spec {L : List It} (hne : 0 < L.length) : ∃ x, L[bestI L L.length]? = some x ∧ x ∈ L ∧ ∀ y ∈ L, y.n.a.ver ≤ x.n.a.ver := by
  have hb := bestI_lt L L.length hne
  refine ⟨L[bestI L L.length], List.getElem?_eq_getElem hb, List.getElem_mem hb, fun y hy => ?_⟩
  obtain ⟨j, hj, rfl⟩ := List.getElem_of_mem hy
  have := verAt_best (L := L) (Nat.le_refl _) j hj
  rwa [verAt_eq hj, verAt_eq hb] at this
theorem any_set {α : Type} {p : α → Bool} {L M : List α} (h : ∀ x, x ∈ L ↔ x ∈ M) : L.any p = M.any p := by
  rw [Bool.eq_iff_iff, List.any_eq_true, List.any_eq_true]
  exact ⟨fun ⟨x, hx, e⟩ => ⟨x, (h x).1 hx, e⟩, fun ⟨x, hx, e⟩ => ⟨x, (h x).2 hx, e⟩⟩
theorem disp_set {L M : List It} (h : ∀ x, x ∈ L ↔ x ∈ M) (hok : ∀ x ∈ L, okA x.n.a = true) : disp L L.length = disp M M.length := by
  rw [Bool.eq_iff_iff, disp_texts hok, disp_texts (fun x hx => hok x ((h x).2 hx))]
  exact ⟨fun ⟨v, e⟩ => ⟨v, by rw [← textsV_set h]; exact e⟩, fun ⟨v, e⟩ => ⟨v, by rw [textsV_set h]; exact e⟩⟩
theorem same_tx {L : List It} (hok : ∀ x ∈ L, okA x.n.a = true) (hd : disp L L.length = false) {x y : It} (hx : x ∈ L) (hy : y ∈ L) (hv : x.n.a.ver = y.n.a.ver) : x.tx = y.tx := by
  refine Decidable.byContradiction fun hne => ?_
  have h2 : 2 ≤ (textsV L x.n.a.ver).length := (two_len (textsV_nodup L _)).2 ⟨_, mem_textsV.2 ⟨x, hx, rfl, rfl⟩, _, mem_textsV.2 ⟨y, hy, hv.symm, rfl⟩, hne⟩
  rw [(disp_texts hok).2 ⟨_, h2⟩] at hd
  cases hd
theorem standS_set {m : ByteArray} {L M : List It} (h : ∀ x, x ∈ L ↔ x ∈ M) (hok : ∀ x ∈ L, okA x.n.a = true) : standS m L = standS m M := by
  unfold standS
  rw [any_set h, disp_set h hok]
  by_cases hw : M.any (fun x => x.n.a.wd) = true
  · rw [if_pos hw, if_pos hw]
  · rw [if_neg hw, if_neg hw]
    by_cases hd : disp M M.length = true
    · rw [if_pos hd, if_pos hd]
    · rw [if_neg hd, if_neg hd]
      by_cases hne : 0 < L.length
      · have hne2 : 0 < M.length := List.length_pos_of_mem ((h _).1 (List.getElem_mem hne))
        obtain ⟨x, e1, hx, hx2⟩ := best_spec hne
        obtain ⟨y, e2, hy, hy2⟩ := best_spec hne2
        have hv : x.n.a.ver = y.n.a.ver := Int.le_antisymm (hy2 x ((h x).1 hx)) (hx2 y ((h y).2 hy))
        have ht := same_tx hok (by rw [disp_set h hok]; simpa using hd) hx ((h y).2 hy) hv
        rw [e1, e2]
        show Std.mk m 1 x.n.a.ver (digL x.tx) = Std.mk m 1 y.n.a.ver (digL y.tx)
        rw [hv, ht]
      · have hl : L = [] := List.eq_nil_of_length_eq_zero (by omega)
        have hm : M = [] := by
          cases M with
          | nil => rfl
          | cons z M =>
            have := (h z).2 List.mem_cons_self
            rw [hl] at this
            cases this
        rw [hl, hm]
theorem evW_set {L M : List It} (h : ∀ x, x ∈ L ↔ x ∈ M) : evW L = evW M := by
  obtain ⟨h1, h2⟩ := evW_spec L
  obtain ⟨k1, k2⟩ := evW_spec M
  have nd : ∀ {l : List ByteArray}, l.Pairwise LtD → l.Nodup := fun h => h.imp (fun h e => by subst e; exact List.lt_irrefl _ h)
  refine List.Perm.eq_of_pairwise (le := LtD) (fun a b _ _ h3 h4 => absurd (List.lt_trans h3 h4) (List.lt_irrefl _)) h1 k1 ((List.perm_ext_iff_of_nodup (nd h1) (nd k1)).2 fun m => ?_)
  rw [h2, k2]
  exact ⟨fun ⟨x, hx, e⟩ => ⟨x, (h x).1 hx, e⟩, fun ⟨x, hx, e⟩ => ⟨x, (h x).2 hx, e⟩⟩
theorem pair_set {p : It → It → Bool} (hs : ∀ x y, p x y = p y x) (hr : ∀ x, p x x = false) {L M : List It} (h : ∀ x, x ∈ L ↔ x ∈ M) : pairAny p L L.length = pairAny p M M.length := by
  rw [Bool.eq_iff_iff, pairAny_mem hs hr, pairAny_mem hs hr]
  exact ⟨fun ⟨x, hx, y, hy, e⟩ => ⟨x, (h x).1 hx, y, (h y).1 hy, e⟩, fun ⟨x, hx, y, hy, e⟩ => ⟨x, (h x).2 hx, y, (h y).2 hy, e⟩⟩
theorem forkWho_set {L M : List It} (h : ∀ x, x ∈ L ↔ x ∈ M) (v : Int) (k : Nat) : forkWho L v k = forkWho M v k := by
  unfold forkWho
  have e : (fun s => pairAny (twoV v s) L L.length) = fun s => pairAny (twoV v s) M M.length := funext fun s => pair_set (twoV_comm v s) (twoV_self v s) h
  rw [e]
theorem forkAt_set {nk : Nat} {L M : List It} (h : ∀ x, x ∈ L ↔ x ∈ M) (m : ByteArray) (v : Int) : forkAt nk L m v = forkAt nk M m v := by
  unfold forkAt
  rw [pair_set (splitV_comm v) (splitV_self v) h, forkWho_set h]
theorem valid_ok {ks : List (Int × Int)} {q : Int} {L : List It} : ∀ x ∈ validN ks q L, okA x.n.a = true := by
  intro x hx
  obtain ⟨_, h2⟩ := List.mem_filter.1 hx
  exact (noticeE_zero (by simpa using h2)).1
theorem filter_set {α : Type} {p : α → Bool} {L M : List α} (h : ∀ x, x ∈ L ↔ x ∈ M) : ∀ x, x ∈ L.filter p ↔ x ∈ M.filter p := by
  intro x
  rw [List.mem_filter, List.mem_filter, h]
theorem settleS_set {ks : List (Int × Int)} {q : Int} {L M : List It} (h : ∀ x, x ∈ validN ks q L ↔ x ∈ validN ks q M) : settleS ks q L = settleS ks q M := by
  unfold settleS
  rw [evW_set h]
  refine List.map_congr_left fun m _ => standS_set (filter_set h) fun x hx => valid_ok x (List.mem_filter.1 hx).1
theorem forksE_set {nk : Nat} {L M : List It} (h : ∀ x, x ∈ L ↔ x ∈ M) (m : ByteArray) : forksE nk L m = forksE nk M m := by
  have e : forkAt nk L m = forkAt nk M m := funext fun v => forkAt_set h m v
  unfold forksE
  rw [e]
theorem forksS_set {ks : List (Int × Int)} {q : Int} {L M : List It} (h : ∀ x, x ∈ validN ks q L ↔ x ∈ validN ks q M) : forksS ks q L = forksS ks q M := by
  have e : (fun m => forksE ks.length ((validN ks q L).filter (ofEv m)) m) = fun m => forksE ks.length ((validN ks q M).filter (ofEv m)) m := funext fun m => forksE_set (filter_set h) m
  unfold forksS
  rw [evW_set h, e]
end Go.Proofs.YtmpbhngjkbidcaaGreatDoor

/-
  Plain: what has stood never stands for less when further notices come.
-/
namespace Go.Proofs.YtmpbhngjkbidcaaGreatDoor
open Go.RowKit Al

theorem standS_wd {m : ByteArray} {L : List It} (h : L.any (fun x => x.n.a.wd) = true) : standS m L = ⟨m, 2, 0, 0⟩ := by unfold standS; rw [if_pos h]
theorem standS_disp {m : ByteArray} {L : List It} (h : L.any (fun x => x.n.a.wd) = false) (hd : disp L L.length = true) : standS m L = ⟨m, 3, 0, 0⟩ := by unfold standS; rw [if_neg (by simp [h]), if_pos hd]
theorem standS_force {m : ByteArray} {L : List It} (h : L.any (fun x => x.n.a.wd) = false) (hd : disp L L.length = false) (hne : 0 < L.length) : ∃ x ∈ L, standS m L = ⟨m, 1, x.n.a.ver, digA x.n.a⟩ ∧ ∀ y ∈ L, y.n.a.ver ≤ x.n.a.ver := by
  obtain ⟨x, e, hx, hx2⟩ := best_spec hne
  refine ⟨x, hx, ?_, hx2⟩
  unfold standS
  rw [if_neg (by simp [h]), if_neg (by simp [hd]), e]
theorem standS_ev (m : ByteArray) (L : List It) : (standS m L).ev = m := by
  unfold standS
  split
  · rfl
  · split
    · rfl
    · split <;> rfl
theorem any_sub {α : Type} {p : α → Bool} {L M : List α} (h : ∀ x ∈ L, x ∈ M) (ha : M.any p = false) : L.any p = false := by
  cases hl : L.any p with
  | false => rfl
  | true =>
    obtain ⟨x, hx, e⟩ := List.any_eq_true.1 hl
    rw [List.any_eq_true.2 ⟨x, h x hx, e⟩] at ha
    cases ha
theorem disp_sub {L M : List It} (h : ∀ x ∈ L, x ∈ M) (hok : ∀ x ∈ M, okA x.n.a = true) (ha : disp M M.length = false) : disp L L.length = false := by
  cases hl : disp L L.length with
  | false => rfl
  | true =>
    obtain ⟨v, hv⟩ := (disp_texts (fun x hx => hok x (h x hx))).1 hl
    obtain ⟨s, hs, t, ht, hne⟩ := (two_len (textsV_nodup L v)).1 hv
    obtain ⟨x, hx, e1, e2⟩ := mem_textsV.1 hs
    obtain ⟨y, hy, e3, e4⟩ := mem_textsV.1 ht
    rw [(disp_texts hok).2 ⟨v, (two_len (textsV_nodup M v)).2 ⟨s, mem_textsV.2 ⟨x, h x hx, e1, e2⟩, t, mem_textsV.2 ⟨y, h y hy, e3, e4⟩, hne⟩⟩] at ha
    cases ha
/-- What may not be: an event that stands for less. -/
def lessStd (a b : Std) : Bool := (a.st == 2 && !(b.st == 2)) || (a.st == 3 && b.st == 1) || (b.st == 1 && decide (b.ver < a.ver))
theorem stays {m : ByteArray} {L M : List It} (h : ∀ x ∈ L, x ∈ M) (hok : ∀ x ∈ M, okA x.n.a = true) (hne : 0 < L.length) : lessStd (standS m L) (standS m M) = false := by
  have hne2 : 0 < M.length := List.length_pos_of_mem (h _ (List.getElem_mem hne))
  cases hw : M.any (fun x => x.n.a.wd) with
  | true => rw [standS_wd hw]; unfold lessStd; simp
  | false =>
    have hw2 := any_sub h hw
    cases hd : disp M M.length with
    | true =>
      rw [standS_disp hw hd]
      cases hd2 : disp L L.length with
      | true => rw [standS_disp hw2 hd2]; rfl
      | false =>
        obtain ⟨x, hx, e, _⟩ := standS_force (m := m) hw2 hd2 hne
        rw [e]
        unfold lessStd
        simp
    | false =>
      have hd2 := disp_sub h hok hd
      obtain ⟨x, hx, e, _⟩ := standS_force (m := m) hw2 hd2 hne
      obtain ⟨y, hy, e2, hy2⟩ := standS_force (m := m) hw hd hne2
      rw [e, e2]
      unfold lessStd
      have := hy2 x (h x hx)
      simp
      omega
theorem valid_take {ks : List (Int × Int)} {q : Int} {L : List It} {k : Nat} : ∀ x ∈ validN ks q (L.take k), x ∈ validN ks q L := by
  intro x hx
  obtain ⟨h1, h2⟩ := List.mem_filter.1 hx
  exact List.mem_filter.2 ⟨List.mem_of_mem_take h1, h2⟩
/-- What was settled of the first notices stands for no less by all of them. -/
theorem settle_stays {ks : List (Int × Int)} {q : Int} {L : List It} {k : Nat} {a : Std} (ha : a ∈ settleS ks q (L.take k)) :
    (∃ b ∈ settleS ks q L, b.ev = a.ev) ∧ ∀ b ∈ settleS ks q L, b.ev = a.ev → lessStd a b = false := by
  obtain ⟨m, hm, rfl⟩ := List.mem_map.1 ha
  rw [standS_ev]
  have hm2 : m ∈ evW (validN ks q L) := by
    obtain ⟨x, hx, e⟩ := ((evW_spec _).2 m).1 hm
    exact ((evW_spec _).2 m).2 ⟨x, valid_take x hx, e⟩
  refine ⟨⟨_, List.mem_map.2 ⟨m, hm2, rfl⟩, standS_ev _ _⟩, fun b hb e => ?_⟩
  obtain ⟨m', _, rfl⟩ := List.mem_map.1 hb
  rw [standS_ev] at e
  subst e
  refine stays (fun x hx => ?_) (fun x hx => valid_ok x (List.mem_filter.1 hx).1) (evW_some hm)
  obtain ⟨h1, h2⟩ := List.mem_filter.1 hx
  exact List.mem_filter.2 ⟨valid_take x h1, h2⟩
end Go.Proofs.YtmpbhngjkbidcaaGreatDoor
