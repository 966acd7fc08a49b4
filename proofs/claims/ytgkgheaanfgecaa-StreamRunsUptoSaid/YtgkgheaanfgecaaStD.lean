/- A network's calls: New, ports, Conns, Dial. -/
import Derived.Test.YtgkgheaanfgecaaStC
namespace Go.Proofs.Ytgkgheaanfgecaa
open Go Go.Fw

/-! ### maps of numbers that are there -/
abbrev Found := Option (Nat × Value)
theorem KeysI.isKey {es : Array MapEntry} {ps : Int → Bool} (hk : KeysI es ps) : ∀ x, x ∈ es.toList → MapKept.IsKey (.int .i64) x.key := fun x hx => by
  obtain ⟨n, e, _⟩ := hk.key x hx
  rw [e]
  rfl
theorem KeysI.find {es : Array MapEntry} {ps : Int → Bool} (hk : KeysI es ps) (n : Int) : ∃ r : Found, Instr.findNow (.int .i64) (iv n) es.toList 0 = some r ∧
    ((ps n = false ∧ r = none) ∨ (ps n = true ∧ ∃ j e, r = some (j, .bool true) ∧ es.toList[j]? = some e ∧ e.key = iv n)) := by
  rcases MapKept.findNow_spec (d := .int .i64) (k := iv n) rfl es.toList 0 hk.isKey with ⟨h1, h2⟩ | ⟨j, e, h1, h2, h3⟩
  · refine ⟨none, h1, .inl ⟨?_, rfl⟩⟩
    cases hp : ps n with
    | false => rfl
    | true =>
      obtain ⟨x, hx, hxk⟩ := (hk.has n).1 hp
      exact absurd hxk (h2 x hx)
  · have hm := List.mem_of_getElem? h2
    obtain ⟨m, _, hv⟩ := hk.key e hm
    rw [Nat.zero_add, hv] at h1
    exact ⟨_, h1, .inr ⟨(hk.has n).2 ⟨e, hm, h3⟩, j, e, rfl, h2, h3⟩⟩
theorem KeysI.get {es : Array MapEntry} {ps : Int → Bool} (hk : KeysI es ps) (n : Int) : ∃ r : Found, Instr.findNow (.int .i64) (iv n) es.toList 0 = some r ∧ (r.map (·.2)).getD (.bool false) = .bool (ps n) := by
  obtain ⟨r, h, ⟨hp, rfl⟩ | ⟨hp, j, e, rfl, _⟩⟩ := hk.find n
  · exact ⟨_, h, by rw [hp]; rfl⟩
  · exact ⟨_, h, by rw [hp]; rfl⟩
theorem KeysI.put {es : Array MapEntry} {ps : Int → Bool} (hk : KeysI es ps) (n : Int) (c : Nat) : ∃ r : Found, Instr.findNow (.int .i64) (iv n) es.toList 0 = some r ∧ ∃ es' c', putO es c (iv n) (.bool true) r = .map es' c' ∧ KeysI es' (fun m => ps m || m == n) := by
  obtain ⟨r, h, ⟨hp, rfl⟩ | ⟨hp, j, e, rfl, hj, hje⟩⟩ := hk.find n
  · refine ⟨_, h, _, _, rfl, ⟨fun x hx => ?_, ?_, fun m => ?_⟩⟩
    · simp only [Array.toList_push, List.mem_append, List.mem_singleton] at hx
      rcases hx with hx | rfl
      · exact hk.key x hx
      · exact ⟨n, rfl, rfl⟩
    · rw [Array.toList_push, List.pairwise_append]
      refine ⟨hk.apart, List.pairwise_singleton _ _, fun x hx y hy => ?_⟩
      have : y = _ := List.mem_singleton.1 hy
      subst this
      intro he
      have : ps n = true := (hk.has n).2 ⟨x, hx, he⟩
      rw [hp] at this; cases this
    · simp only [Array.toList_push, List.mem_append, List.mem_singleton, Bool.or_eq_true, beq_iff_eq, hk.has m]
      constructor
      · rintro (⟨x, hx, hxk⟩ | rfl)
        · exact ⟨x, .inl hx, hxk⟩
        · exact ⟨_, .inr rfl, rfl⟩
      · rintro ⟨x, hx | rfl, hxk⟩
        · exact .inl ⟨x, hx, hxk⟩
        · exact .inr (by cases hxk; rfl)
  · have hm := List.mem_of_getElem? hj
    obtain ⟨m0, _, hv⟩ := hk.key e hm
    have he : (es.modify j fun x => { x with key := iv n, val := .bool true }) = es := by
      apply Array.ext_getElem?
      intro i
      rw [Array.getElem?_modify]
      by_cases hi : j = i
      · subst hi
        rw [if_pos rfl]
        have : es[j]? = some e := by simpa using hj
        rw [this]
        show some _ = some e
        obtain ⟨k0, v0, b0⟩ := e
        simp only at hje hv
        subst hje hv
        rfl
      · rw [if_neg hi]
    refine ⟨_, h, es, c, by show Obj.map _ _ = _; rw [he], ⟨hk.key, hk.apart, fun m => ?_⟩⟩
    rw [← hk.has m]
    by_cases hmn : m = n
    · subst hmn; simp [hp]
    · simp [hmn]
theorem KeysI.del {es : Array MapEntry} {ps : Int → Bool} (hk : KeysI es ps) (n : Int) (c : Nat) : ∃ r : Found, Instr.findNow (.int .i64) (iv n) es.toList 0 = some r ∧ ∃ es' c', delO es c r = .map es' c' ∧ KeysI es' (fun m => ps m && m != n) := by
  obtain ⟨r, h, ⟨hp, rfl⟩ | ⟨hp, j, e, rfl, hj, hje⟩⟩ := hk.find n
  · refine ⟨_, h, es, c, rfl, ⟨hk.key, hk.apart, fun m => ?_⟩⟩
    rw [← hk.has m]
    by_cases hmn : m = n
    · subst hmn; simp [hp]
    · simp [hmn]
  · have hlt : j < es.toList.length := by
      rcases Nat.lt_or_ge j es.toList.length with h9 | h9
      · exact h9
      · rw [List.getElem?_eq_none h9] at hj; cases hj
    have he : (es.eraseIdxIfInBounds j).toList = es.toList.eraseIdx j := by
      unfold Array.eraseIdxIfInBounds
      rw [dif_pos (by simpa using hlt)]
      simp
    have hs : (es.eraseIdxIfInBounds j).toList.Sublist es.toList := by rw [he]; exact List.eraseIdx_sublist _ _
    refine ⟨_, h, es.eraseIdxIfInBounds j, c, rfl, ⟨fun x hx => hk.key x (hs.subset hx), hk.apart.sublist hs, fun m => ?_⟩⟩
    have hj9 : es.toList[j] = e := by rw [List.getElem?_eq_getElem hlt] at hj; exact Option.some.inj hj
    have hap := List.pairwise_iff_getElem.1 hk.apart
    have mem : ∀ x, x ∈ es.toList.eraseIdx j ↔ x ∈ es.toList ∧ x.key ≠ iv n := fun x => by
      constructor
      · intro hx
        obtain ⟨i, hne, hi⟩ := List.mem_eraseIdx_iff_getElem?.1 hx
        refine ⟨List.mem_of_getElem? hi, fun hxk => ?_⟩
        have hil : i < es.toList.length := by
          rcases Nat.lt_or_ge i es.toList.length with h9 | h9
          · exact h9
          · rw [List.getElem?_eq_none h9] at hi; cases hi
        have hi9 : es.toList[i] = x := by rw [List.getElem?_eq_getElem hil] at hi; exact Option.some.inj hi
        rcases Nat.lt_or_ge i j with h9 | h9
        · exact hap i j hil hlt h9 (by rw [hi9, hj9, hxk, hje])
        · exact hap j i hlt hil (by omega) (by rw [hi9, hj9, hxk, hje])
      · rintro ⟨hx, hxk⟩
        obtain ⟨i, hil, hi⟩ := List.mem_iff_getElem.1 hx
        refine List.mem_eraseIdx_iff_getElem?.2 ⟨i, fun hij => ?_, by rw [List.getElem?_eq_getElem hil, hi]⟩
        subst hij
        rw [hj9] at hi
        subst hi
        exact hxk hje
    rw [he]
    simp only [Bool.and_eq_true, bne_iff_ne, hk.has m]
    constructor
    · rintro ⟨⟨x, hx, hxk⟩, hne⟩
      exact ⟨x, (mem x).2 ⟨hx, fun h9 => hne (by rw [hxk] at h9; cases h9; rfl)⟩, hxk⟩
    · rintro ⟨x, hx, hxk⟩
      obtain ⟨h8, h9⟩ := (mem x).1 hx
      exact ⟨⟨x, h8, hxk⟩, fun he9 => h9 (by rw [hxk, he9])⟩

theorem setMap {h : Heap} {mb : Nat} {x y : Obj} (hb : h[mb]? = some x) : (h.setIfInBounds mb y)[mb]? = some y ∧ Upd (· = mb) h (h.setIfInBounds mb y) ∧ (h.setIfInBounds mb y).size = h.size := by
  have hl := blk_lt hb
  refine ⟨by simp [hl], ⟨by simp, fun k _ hk => ?_⟩, by simp⟩
  rw [Array.getElem?_setIfInBounds_ne (Ne.symm hk)]

theorem PortsR.put {h : Heap} {mb : Nat} {ps : Int → Bool} (hp : PortsR h mb ps) (n : Int) {K : Heap → Prop} (hk : ∀ h', PortsR h' mb (fun m => ps m || m == n) → Upd (· = mb) h h' → h'.size = h.size → K h') : mapPut (.int .i64) h (some mb) (iv n) (.bool true) K := by
  obtain ⟨es, c, hb, hks⟩ := hp
  obtain ⟨r, hr, es', c', ho, hks'⟩ := hks.put n c
  obtain ⟨a, b, d⟩ := setMap (y := putO es c (iv n) (.bool true) r) hb
  exact ⟨mb, es, c, r, rfl, hb, hks.isKey, hr, hk _ ⟨es', c', by rw [a, ho], hks'⟩ b d⟩
theorem PortsR.del {h : Heap} {mb : Nat} {ps : Int → Bool} (hp : PortsR h mb ps) (n : Int) {K : Heap → Prop} (hk : ∀ h', PortsR h' mb (fun m => ps m && m != n) → Upd (· = mb) h h' → h'.size = h.size → K h') : mapDel (.int .i64) h (some mb) (iv n) K := by
  obtain ⟨es, c, hb, hks⟩ := hp
  obtain ⟨r, hr, es', c', ho, hks'⟩ := hks.del n c
  obtain ⟨a, b, d⟩ := setMap (y := delO es c r) hb
  refine ⟨(fun h => by cases h), fun m hm => ?_⟩
  cases hm
  exact ⟨es, c, r, hb, hr, hk _ ⟨es', c', by rw [a, ho], hks'⟩ b d⟩
theorem PortsR.get {h : Heap} {mb : Nat} {ps : Int → Bool} (hp : PortsR h mb ps) (n : Int) {K : Bool → Prop} (hk : K (ps n)) : mapGet (.int .i64) h (some mb) (iv n) fun r => asB (r.getD (.bool false)) K := by
  obtain ⟨es, c, hb, hks⟩ := hp
  obtain ⟨r, hr, hv⟩ := hks.get n
  refine ⟨(fun h => by cases h), fun m hm => ?_⟩
  cases hm
  exact ⟨es, c, r, hb, hr, ps n, hv, hk⟩
theorem PortsR.new (h : Heap) : PortsR (h.push (.map #[] 0)) h.size (fun _ => false) := ⟨#[], 0, push_new, ⟨by simp, by simp, by simp⟩⟩

/-! ### New -/
theorem New_spec {h : Heap} {K : Option Addr → Heap → Prop} (hk : ∀ h' T, Net h' T (h.size + 1) (fun _ => false) [] → Ext h h' → (∀ k, T k ≠ none → h.size ≤ k) → K (some ⟨h.size + 1, 0, none⟩) h') : m_stream_New K h := by
  unfold m_stream_New g_stream_New
  have hp := PortsR.new h
  have e1 := Ext.push h (.map #[] 0)
  have z1 : (h.push (.map #[] 0)).size = h.size + 1 := by simp
  unfold newMap
  dsimp only
  generalize h.push (.map #[] 0) = h1 at hp e1 z1
  refine newK fun h2 c2 e2 z2 => ?_
  rw [z1] at c2 ⊢
  refine hk h2 (fun k => if k = h.size + 1 then some 0 else if k = h.size then some 1 else none) ⟨h.size, ⟨none, 0, 0⟩, [], ⟨c2, by simp, ?_, by simp, Own.nil _ _ 8, fun k hk => by simp [Sl.blk] at hk, fun i q hq => by simp at hq, fun k hk => ?_⟩, rfl⟩ (e1.trans e2) fun k hk => ?_
  · obtain ⟨es, c, hb, hr⟩ := hp
    exact ⟨es, c, keepE hb e2, hr⟩
  · by_cases q1 : k = h.size + 1
    · omega
    · by_cases q2 : k = h.size
      · omega
      · rw [if_neg q1, if_neg q2] at hk; exact absurd rfl hk
  · by_cases q1 : k = h.size + 1
    · omega
    · by_cases q2 : k = h.size
      · omega
      · rw [if_neg q1, if_neg q2] at hk; exact absurd rfl hk

/-! ### ports -/
def badP (p : Int) : Bool := decide (p < 1) || decide (p > 65535)
theorem areP1_spec {p : Int} {K : Bool → Heap → Prop} {h : Heap} (hk : K (badP p) h) : m_stream_Net_arePorts_1 p K h := by
  unfold m_stream_Net_arePorts_1 g_stream_Net_arePorts_1
  unfold badP at hk
  refine ⟨fun e => ?_, fun e => bindB_intro ?_⟩
  · rw [e] at hk; exact hk
  · rw [e] at hk; exact hk
theorem IndexP_spec {s : Sl} {l : List Int} {h : Heap} {K : Int → Heap → Prop} (hs : Ints h s l) (h1 : l.any badP = false → K (-1) h) (h2 : ∀ i : Nat, l.any badP = true → K (i : Int) h) : m_slices_IndexFunc_int_int___stream_Net_arePorts_1 s K h := by
  unfold m_slices_IndexFunc_int_int___stream_Net_arePorts_1 g_slices_IndexFunc_int_int___stream_Net_arePorts_1
  have hlen := hs.length
  have hcap := hs.cap
  have hbig := hs.big
  refine bindI_intro (loopM_intro (fun p h' => h' = h ∧ ∃ k : Nat, p.1 = (k : Int) ∧ k ≤ l.length ∧ (l.take k).any badP = false) (fun p _ => l.length - p.1.toNat) ⟨rfl, 0, rfl, Nat.zero_le _, rfl⟩ ?_)
  rintro ⟨i, u⟩ h' ⟨rfl, k, hi, hkl, ht⟩
  dsimp only at hi
  subst hi
  dsimp only
  refine iteP_dec (fun hlt => bindI_intro ?_) (fun hge => bindI_intro ?_)
  · have hk1 : k < l.length := by omega
    have htk : l.take (k + 1) = l.take k ++ [l[k]] := List.take_succ_eq_append_getElem hk1
    refine Ints.idx hs rfl (List.getElem?_eq_getElem hk1) (areP1_spec ⟨fun e => bindI_intro (h2 k ?_), fun e => ?_⟩)
    · exact List.any_eq_true.2 ⟨l[k], List.getElem_mem hk1, e⟩
    · rw [wrap64 (by omega) (by omega)]
      refine ⟨⟨rfl, k + 1, by omega, by omega, ?_⟩, by omega⟩
      rw [htk, List.any_append, ht]
      simpa using e
  · rw [List.take_of_length_le (by omega)] at ht
    exact h1 ht
def portE (l : List Int) : Int := if l.any badP then 2 else 0
theorem areP_spec {nb : Nat} {s : Sl} {l : List Int} {h : Heap} {K : Int → Heap → Prop} (hs : Ints h s l) (hk : K (portE l) h) : m_stream_Net_arePorts (some ⟨nb, 0, none⟩) s K h := by
  unfold m_stream_Net_arePorts g_stream_Net_arePorts
  unfold portE at hk
  refine bindI_intro (bindB_intro (iteP_false ?_))
  unfold m_slices_ContainsFunc_int_int___stream_Net_arePorts_1 g_slices_ContainsFunc_int_int___stream_Net_arePorts_1
  refine IndexP_spec hs (fun e => bindB_intro (bindB_intro (iteP_neg (by decide) (bindI_intro ?_)))) (fun i e => bindB_intro (bindB_intro (iteP_pos (decide_eq_true (by omega)) (bindI_intro ?_))))
  · rw [if_neg (by rw [e]; simp)] at hk; exact hk
  · rw [if_pos e] at hk; exact hk

theorem NetR.ports' {h h' : Heap} {T : Nat → Option Nat} {nb mb : Nat} {s : Sl} {ps ps' : Int → Bool} {qs : List Q} (hn : NetR h T nb mb s ps qs) (hp : PortsR h' mb ps') (hu : Upd (· = mb) h h') : NetR h' T nb mb s ps' qs ∧ Stp T T h h' := by
  have g : ∀ {k t : Nat}, T k = some t → t ≠ 1 → k ≠ mb := fun {k t} hk ht he => by
    subst he
    rw [hn.tm] at hk
    exact ht (Option.some.inj hk).symm
  have mv : ∀ {i' : Nat} {r : Q}, QR h T i' r → QR h' T i' r := fun {i' r} hr => by
    obtain ⟨a1, a2, a3, a4⟩ := hr
    exact ⟨a1.congr fun k hk hl => hu.old k hl (g hk (by omega)), a2.congr fun k hk hl => hu.old k hl (g hk (by omega)), a3.congr fun k hk hl => hu.old k hl (g hk (by omega)), a4.congr fun k hk hl => hu.old k hl (g hk (by omega))⟩
  refine ⟨⟨?_, hn.tn, hp, hn.tm, hn.row.congr fun k hk hl _ => hu.old k hl (g (hn.tr k hk) (by omega)), hn.tr, fun i q hq => mv (hn.each i q hq), fun k hk => Nat.lt_of_lt_of_le (hn.lt k hk) hu.size⟩, ⟨hu.mono fun k _ hk => by subst hk; show T k ≠ none; rw [hn.tm]; simp, fun k hk => .inl hk⟩⟩
  rw [hu.old nb (blk_lt hn.cells) (g hn.tn (by omega))]
  exact hn.cells

def addP (ps : Int → Bool) (l : List Int) : Int → Bool := l.foldl (fun ps n m => ps m || m == n) ps
def delP (ps : Int → Bool) (l : List Int) : Int → Bool := l.foldl (fun ps n m => ps m && m != n) ps
def liP (ps : Int → Bool) (l : List Int) : Int → Bool := if portE l = 0 then addP ps l else ps
def spP (ps : Int → Bool) (l : List Int) : Int → Bool := if portE l = 0 then delP ps l else ps

theorem Listen_spec {h : Heap} {T : Nat → Option Nat} {nb : Nat} {ps : Int → Bool} {cs : List Cn} (hn : Net h T nb ps cs) {s : Sl} {l : List Int} (hs : Ints h s l) (hd : ∀ k, s.blk = some k → T k = none) {K : Int → Heap → Prop}
    (hk : ∀ h', Net h' T nb (liP ps l) cs → Stp T T h h' → K (portE l) h') : m_stream_Net_Listen (some ⟨nb, 0, none⟩) s K h := by
  obtain ⟨mb, sc, qs, hn, rfl⟩ := hn
  unfold m_stream_Net_Listen g_stream_Net_Listen
  unfold liP at hk
  have hlen := hs.length
  have hcap := hs.cap
  have hbig := hs.big
  refine bindI_intro (areP_spec hs (bindI_intro ⟨fun e => bindI_intro ?_, fun e => ?_⟩))
  · rw [if_neg (by simpa using e)] at hk
    exact hk h ⟨mb, sc, qs, hn, rfl⟩ (Stp.refl _ _)
  · have e0 : portE l = 0 := by simpa using e
    rw [if_pos e0, e0] at hk
    refine loopM_intro (fun p h' => ∃ k : Nat, p.1 = (k : Int) ∧ k ≤ l.length ∧ NetR h' T nb mb sc (addP ps (l.take k)) qs ∧ Stp T T h h') (fun p _ => l.length - p.1.toNat) ⟨0, rfl, Nat.zero_le _, hn, Stp.refl _ _⟩ ?_
    rintro ⟨i, u⟩ h' ⟨k, hi, hkl, hn', hst⟩
    dsimp only at hi
    subst hi
    dsimp only
    refine iteP_dec (fun hlt => ?_) (fun hge => bindI_intro ?_)
    · have hk1 : k < l.length := by omega
      have htk : l.take (k + 1) = l.take k ++ [l[k]] := List.take_succ_eq_append_getElem hk1
      have hs' : Ints h' s l := Row.congr hs fun b o hp _ hl => hst.upd.old b hl fun hb => hb (hd b (by simp [Sl.blk, hp]))
      refine Ints.idx hs' rfl (List.getElem?_eq_getElem hk1) (bindI_intro (deref_ ⟨some mb, (cell_block hn'.cells).trans rfl, hn'.ports.put l[k] fun h2 hp2 hu2 z2 => ?_⟩))
      obtain ⟨hn2, hst2⟩ := hn'.ports' hp2 hu2
      rw [wrap64 (by omega) (by omega)]
      refine ⟨⟨k + 1, by omega, by omega, ?_, hst.trans hst2⟩, by omega⟩
      have e : addP ps (l.take (k + 1)) = fun m => addP ps (l.take k) m || m == l[k] := by unfold addP; rw [htk, List.foldl_append]; rfl
      rw [e]
      exact hn2
    · rw [List.take_of_length_le (by omega)] at hn'
      exact hk h' ⟨mb, sc, qs, hn', rfl⟩ hst

theorem Stop_spec {h : Heap} {T : Nat → Option Nat} {nb : Nat} {ps : Int → Bool} {cs : List Cn} (hn : Net h T nb ps cs) {s : Sl} {l : List Int} (hs : Ints h s l) (hd : ∀ k, s.blk = some k → T k = none) {K : Int → Heap → Prop}
    (hk : ∀ h', Net h' T nb (spP ps l) cs → Stp T T h h' → K (portE l) h') : m_stream_Net_Stop (some ⟨nb, 0, none⟩) s K h := by
  obtain ⟨mb, sc, qs, hn, rfl⟩ := hn
  unfold m_stream_Net_Stop g_stream_Net_Stop
  unfold spP at hk
  have hlen := hs.length
  have hcap := hs.cap
  have hbig := hs.big
  refine bindI_intro (areP_spec hs (bindI_intro ⟨fun e => bindI_intro ?_, fun e => ?_⟩))
  · rw [if_neg (by simpa using e)] at hk
    exact hk h ⟨mb, sc, qs, hn, rfl⟩ (Stp.refl _ _)
  · have e0 : portE l = 0 := by simpa using e
    rw [if_pos e0, e0] at hk
    refine loopM_intro (fun p h' => ∃ k : Nat, p.1 = (k : Int) ∧ k ≤ l.length ∧ NetR h' T nb mb sc (delP ps (l.take k)) qs ∧ Stp T T h h') (fun p _ => l.length - p.1.toNat) ⟨0, rfl, Nat.zero_le _, hn, Stp.refl _ _⟩ ?_
    rintro ⟨i, u⟩ h' ⟨k, hi, hkl, hn', hst⟩
    dsimp only at hi
    subst hi
    dsimp only
    refine iteP_dec (fun hlt => ?_) (fun hge => bindI_intro ?_)
    · have hk1 : k < l.length := by omega
      have htk : l.take (k + 1) = l.take k ++ [l[k]] := List.take_succ_eq_append_getElem hk1
      have hs' : Ints h' s l := Row.congr hs fun b o hp _ hl => hst.upd.old b hl fun hb => hb (hd b (by simp [Sl.blk, hp]))
      refine Ints.idx hs' rfl (List.getElem?_eq_getElem hk1) (bindI_intro (deref_ ⟨some mb, (cell_block hn'.cells).trans rfl, hn'.ports.del l[k] fun h2 hp2 hu2 z2 => ?_⟩))
      obtain ⟨hn2, hst2⟩ := hn'.ports' hp2 hu2
      rw [wrap64 (by omega) (by omega)]
      refine ⟨⟨k + 1, by omega, by omega, ?_, hst.trans hst2⟩, by omega⟩
      have e : delP ps (l.take (k + 1)) = fun m => delP ps (l.take k) m && m != l[k] := by unfold delP; rw [htk, List.foldl_append]; rfl
      rw [e]
      exact hn2
    · rw [List.take_of_length_le (by omega)] at hn'
      exact hk h' ⟨mb, sc, qs, hn', rfl⟩ hst

end Go.Proofs.Ytgkgheaanfgecaa
