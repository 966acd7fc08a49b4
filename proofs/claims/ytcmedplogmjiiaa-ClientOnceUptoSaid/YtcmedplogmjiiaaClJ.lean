/- ClientOnce's law, on its model. -/
import Derived.Test.YtcmedplogmjiiaaClI
namespace Go.Proofs.Ytcmedplogmjiiaa
open Go Go.Fw

structure Dd where
  kind : Int
  at_ : Int
  r : Rq
  b : List UInt8
def ddC (d : Dd) (s : Sl) : List Value := [iv d.kind, iv d.at_] ++ rqC d.r ++ [slV s]
def Deeds21 (h : Heap) (l : Sl) (ds : List Dd) : Prop := l.len = ds.length ∧ ∀ (i : Nat) (d : Dd), ds[i]? = some d → ∃ b o s, l.ptr = some ⟨b, o, none⟩ ∧ h.has b (o + i * 9) (ddC d s) ∧ Bytes h s d.b ∧ d.r.2.2.2.2.1.size < 9223372036854775808
def bulk21 (ds : List Dd) : Nat := (ds.map fun d => d.b.length + 1).sum
theorem bulk21_get : ∀ {ds : List Dd} {d : Dd}, d ∈ ds → d.b.length + 1 ≤ bulk21 ds
  | x :: ds, d, h => by
    simp only [bulk21, List.map_cons, List.sum_cons]
    rcases List.mem_cons.1 h with rfl | h
    · omega
    · have := bulk21_get h
      simp only [bulk21] at this
      omega
theorem Deeds21.idx {h : Heap} {s : Sl} {ds : List Dd} (hd : Deeds21 h s ds) {i : Int} {n : Nat} (hi : i = (n : Int)) {d : Dd} (hv : ds[n]? = some d) {K : Nat → Nat → Prop}
    (hk : ∀ b o bl, h.has b o (ddC d bl) → Bytes h bl d.b → d.r.2.2.2.2.1.size < 9223372036854775808 → K b o) : idxA s.ptr s.len i 9 K := by
  subst hi
  have hlt : n < ds.length := (List.getElem?_eq_some_iff.1 hv).1
  obtain ⟨b, o, bl, h1, h2, h3, h4⟩ := hd.2 n d hv
  refine ⟨b, o, h1, by omega, by have := hd.1; omega, ?_⟩
  have e : o + (n : Int).toNat * 9 = o + n * 9 := by omega
  rw [e]
  exact hk b _ bl h2 h3 h4

def doS (c : Cl) (k at_ : Int) (l : List UInt8) : Cl :=
  if k = 0 then c.atS at_ else if k = 2 then c.atS at_ else if k = 3 then c.upS at_ else if k = 4 then c.refS at_ else if k = 5 then c.lostS at_ else if k = 6 then (c.bytesR at_ l).1 else if k = 7 then { c with out := [] } else c
def ddV (d : Dd) (s : Sl) : Deed21 := (d.kind, d.at_, d.r.1, d.r.2.1, d.r.2.2.1, d.r.2.2.2.1, d.r.2.2.2.2.1, d.r.2.2.2.2.2.1, s, ())

theorem do1_spec {h : Heap} {T : Nat → Option Nat} {cb : Nat} {c : Cl} {tmo : Int} {n : Nat} (hC : Client h T cb c) (hI : OnI c tmo n) (hn : n ≤ 1000) {d : Dd} {s : Sl} (hb : Bytes h s d.b) (hbT : d.b ≠ [] → ∀ k, s.blk = some k → T k = none) (hl : d.b.length ≤ 1048576) {K : Heap → Prop}
    (hk : ∀ h' T', Client h' T' cb (doS c d.kind d.at_ d.b) → Stp T T' h h' → K h') : m_spillwaylaw21_do1 (some ⟨cb, 0, none⟩) (ddV d s) K h := by
  unfold m_spillwaylaw21_do1 g_spillwaylaw21_do1
  unfold doS at hk
  have hW := hI.w
  have hN := hI.nk
  have ho := hI.out
  have hr := hI.rb
  refine newK fun h1 c1 e1 z1 => ldIk c1 rfl ?_
  have hC1 := hC.ext e1
  have s1 := Stp.ofExt (T := T) e1
  refine bindB_intro ⟨fun q => ?_, fun q0 => bindB_intro ⟨fun q => ?_, fun q2 => bindB_intro ⟨fun q => ?_, fun q3 => bindB_intro ⟨fun q => ?_, fun q4 => bindB_intro ⟨fun q => ?_, fun q5 => bindB_intro ⟨fun q => ?_, fun q6 => bindB_intro ⟨fun q => ?_, fun q7 => ?_⟩⟩⟩⟩⟩⟩⟩
  · have q : d.kind = 0 := by simpa [ddV] using q
    rw [if_pos q] at hk
    exact ldIk c1 rfl (Tick_spec hC1 hW fun h5 T5 hC5 st5 => hk h5 T5 hC5 (s1.trans st5))
  all_goals (have q0 : d.kind ≠ 0 := by simpa [ddV] using q0)
  all_goals rw [if_neg q0] at hk
  · have q : d.kind = 2 := by simpa [ddV] using q
    rw [if_pos q] at hk
    exact ldIk c1 rfl (Dial_spec hC1 hW fun h5 T5 hC5 st5 => hk h5 T5 hC5 (s1.trans st5))
  all_goals (have q2 : d.kind ≠ 2 := by simpa [ddV] using q2)
  all_goals rw [if_neg q2] at hk
  · have q : d.kind = 3 := by simpa [ddV] using q
    rw [if_pos q] at hk
    exact ldIk c1 rfl (Up_spec hC1 hW hN (by omega) fun h5 T5 hC5 st5 => hk h5 T5 hC5 (s1.trans st5))
  all_goals (have q3 : d.kind ≠ 3 := by simpa [ddV] using q3)
  all_goals rw [if_neg q3] at hk
  · have q : d.kind = 4 := by simpa [ddV] using q
    rw [if_pos q] at hk
    exact ldIk c1 rfl (Refused_spec hC1 hW hN fun h5 T5 hC5 st5 => hk h5 T5 hC5 (s1.trans st5))
  all_goals (have q4 : d.kind ≠ 4 := by simpa [ddV] using q4)
  all_goals rw [if_neg q4] at hk
  · have q : d.kind = 5 := by simpa [ddV] using q
    rw [if_pos q] at hk
    exact ldIk c1 rfl (Lost_spec hC1 hW hN fun h5 T5 hC5 st5 => hk h5 T5 hC5 (s1.trans st5))
  all_goals (have q5 : d.kind ≠ 5 := by simpa [ddV] using q5)
  all_goals rw [if_neg q5] at hk
  · have q : d.kind = 6 := by simpa [ddV] using q
    rw [if_pos q] at hk
    exact ldIk c1 rfl (ldLk (s := s) c1 rfl (Bytes_spec hC1 hW hN hI.br (hb.ext e1) hbT (by omega) fun h5 T5 hC5 st5 => hk h5 T5 hC5 (s1.trans st5)))
  all_goals (have q6 : d.kind ≠ 6 := by simpa [ddV] using q6)
  all_goals rw [if_neg q6] at hk
  · have q : d.kind = 7 := by simpa [ddV] using q
    rw [if_pos q] at hk
    exact Send_spec hC1 fun _ h5 T5 _ hC5 st5 => hk h5 T5 hC5 (s1.trans st5)
  · have q7 : d.kind ≠ 7 := by simpa [ddV] using q7
    rw [if_neg q7] at hk
    exact hk h1 T hC1 s1

theorem Did.do1 {c : Cl} {tmo : Int} {n : Nat} {d : Dd} (hI : OnI c tmo n) (ht : c.told = []) (hl : d.b.length ≤ 1048576) (h1 : d.kind ≠ 1) : Did c.waits c (doS c d.kind d.at_ d.b) tmo n d.kind d.at_ := by
  unfold doS
  split
  · exact Did.atS hI ht (by omega) (by omega)
  · split
    · exact Did.atS hI ht (by omega) (by omega)
    · split
      · exact Did.upS hI ht (by omega) (by omega)
      · split
        · exact Did.refS hI ht (by omega) (by omega)
        · split
          · exact Did.lostS hI ht (by omega) (by omega)
          · split
            · exact Did.bytes hl hI ht (by omega) (by omega)
            · split
              · exact Did.send hI ht (by omega)
              · exact Did.none hI ht (by omega)

theorem once_told {A : List (Int × Int)} {l : List Tld} {k : Nat} {t : Tld} (hA : Asc A) (hnd : (l.map (·.id)).Nodup) (ht : l[k]? = some t) {p : Int × Int} (hp : p ∈ A) (hpe : p.1 = t.id) :
    ∃ i, (A.filter fun q => !toldB (l.take k) q)[i]? = some p ∧ (A.filter fun q => !toldB (l.take k) q).eraseIdx i = A.filter fun q => !toldB (l.take (k + 1)) q := by
  have hk : k < l.length := (List.getElem?_eq_some_iff.1 ht).1
  have htk : l.take (k + 1) = l.take k ++ [t] := by
    rw [List.take_succ_eq_append_getElem hk]
    congr 2
    exact (List.getElem?_eq_some_iff.1 ht).2
  have hno : toldB (l.take k) p = false := by
    unfold toldB
    refine List.any_eq_false.2 fun u hu he => ?_
    have he : u.id = p.1 := by simpa using he
    obtain ⟨j, hj⟩ := List.getElem?_of_mem hu
    rw [List.getElem?_take] at hj
    split at hj
    · rename_i hjk
      have h1 : (l.map (·.id))[j]? = some t.id := by rw [List.getElem?_map, hj]; simp [he, hpe]
      have h2 : (l.map (·.id))[k]? = some t.id := by rw [List.getElem?_map, ht]; rfl
      have hj9 := (List.getElem?_eq_some_iff.1 h1)
      have hk9 := (List.getElem?_eq_some_iff.1 h2)
      obtain ⟨hj1, hj2⟩ := hj9
      obtain ⟨hk1, hk2⟩ := hk9
      have := (List.getElem_inj hnd).1 (hj2.trans hk2.symm)
      omega
    · cases hj
  have hm : p ∈ A.filter fun q => !toldB (l.take k) q := List.mem_filter.2 ⟨hp, by rw [hno]; rfl⟩
  obtain ⟨i, hi⟩ := List.getElem?_of_mem hm
  refine ⟨i, hi, ?_⟩
  rw [asc_erase (asc_filter hA _) hi, List.filter_filter]
  refine List.filter_congr fun q _ => ?_
  rw [htk, toldB_snoc]
  cases toldB (l.take k) q
  · by_cases hq : q.1 = p.1
    · simp [hq, hpe]
    · have h1 : (q.1 != p.1) = true := by simpa using hq
      have h2 : (t.id == q.1) = false := by simpa using fun h => hq (by rw [hpe, h])
      rw [h1, h2]; rfl
  · simp

theorem ClientOnce_true {s : Int × Int × Int × Unit} {l : Sl} {ds : List Dd} {h : Heap} {K : Bool → Heap → Prop} (hd : Deeds21 h l ds) (hb1 : bulk21 ds ≤ 1048576) (hfin : ∀ h', Ext h h' → K true h') : m_spillwaylaw21_ClientOnce s l K h := by
  unfold m_spillwaylaw21_ClientOnce g_spillwaylaw21_ClientOnce
  obtain ⟨tmo, least, most, u⟩ := s
  refine newK fun h1 c1 e1 z1 => ldIk c1 rfl (ldIk c1 rfl (ldIk c1 rfl ?_))
  refine New_spec (name := xT) (by decide) (fun hb h6 e6 => bindI_intro (iteP_pos (by simpa using hb) (live_spec fun h8 e8 => iteP_true (bindB_intro (hfin h8 ((e1.trans e6).trans e8)))))) fun hz h6 T6 cb hC6 e6 t6 => bindI_intro (iteP_false (newMapK fun h11 m11 e11 z11 => bindI_intro (bindI_intro ?_)))
  obtain ⟨hb, _⟩ := new_ok hz
  dsimp only at hb
  have z6 := e6.size
  have hb10 : T6 h6.size = none := none_new hC6.lt (Nat.le_refl _)
  have hI0 : OnI (newCl tmo least most xT) tmo 0 := ⟨WOK.new, NOK.new hz, rfl, Int.le_refl _, Nat.zero_le _, Nat.zero_le _, Nat.zero_le _, (fun p hp => (by cases hp)), rfl⟩
  have fin : ∀ {h' : Heap}, Ext h1 h' → m_spillwaylaw21_live (fun t h'' => bindB t fun t => K t h'') h' := fun {h'} e => live_spec fun h8 e8 => bindB_intro (hfin h8 ((e1.trans e).trans e8))
  refine loopM_intro (fun p h' => ∃ (n : Nat) (T : Nat → Option Nat) (c : Cl), p.2.1 = (n : Int) ∧ n ≤ ds.length ∧ n ≤ 100 ∧ p.1 = c.last ∧ Client h' T cb c ∧ OnI c tmo n ∧ c.told = [] ∧ MapI h' h6.size c.waits ∧ T h6.size = none ∧ Ext h1 h' ∧ ∀ k, T k ≠ none → h1.size ≤ k) (fun p _ => ds.length - p.2.1.toNat)
    ⟨0, T6, _, rfl, Nat.zero_le _, by omega, rfl, hC6.ext e11, hI0, rfl, m11, hb10, e6.trans e11, t6⟩ ?_
  rintro ⟨now, i, u⟩ h16 ⟨n, T, c, hi, hnl, hn100, hnow, hC, hI, htold, hM, hTb, x16, low⟩
  dsimp only at hi hnow
  subst hi hnow
  dsimp only
  have hsl := hd.1
  refine iteP_dec (fun hlt => iteP_dec (fun hlt100 => ?_) fun _ => fin x16) fun _ => fin x16
  have hk1 : n < ds.length := by omega
  have hx : ds[n]? = some ds[n] := List.getElem?_eq_getElem hk1
  have hdb := bulk21_get (List.getElem_mem hk1)
  generalize ds[n] = d at hx hdb
  have x16' := e1.trans x16
  refine hd.idx rfl hx fun b17 o17 bl hh0 hbl hrs => ?_
  have hh := has_congr (x16'.old b17 (has_lt hh0 (by simp [ddC]))) hh0
  refine ⟨_, hh.1, _, hh.2.1, _, hh.2.2.1, _, hh.2.2.2.1, _, hh.2.2.2.2.1, _, hh.2.2.2.2.2.1, _, hh.2.2.2.2.2.2.1, _, hh.2.2.2.2.2.2.2.1, bl, hh.2.2.2.2.2.2.2.2.1, newK fun h28 c28 e28 z28 => stsAll c28 rfl rfl fun h29 c29 u29 z29 => ldIk c29 rfl ?_⟩
  have e29 : Ext h16 h29 := e28.then u29 fun k hk => by omega
  have hC29 := hC.ext e29
  have hM29 : MapI h29 h6.size c.waits := hM.congr (e29.old _ hM.lt)
  have n29 : T h16.size = none := none_new hC.lt (Nat.le_refl _)
  have x29 := x16.trans e29
  have lM := hM.lt
  refine ⟨fun q8 => bindI_intro ?_, fun q8 => ?_⟩
  · rw [wrap64 (n := (n : Int) + 1) (by omega) (by omega)]
    exact ⟨⟨n + 1, T, c, rfl, by omega, by omega, rfl, hC29, hI.mono (Nat.le_succ n), htold, hM29, hTb, x29, low⟩, by omega⟩
  · refine cutP_intro (fun _ h' => ∃ (T' : Nat → Option Nat) (c' : Cl) (A : List (Int × Int)), Client h' T' cb c' ∧ Did A c c' tmo n d.kind d.at_ ∧ MapI h' h6.size A ∧ (∀ p, p ∈ A → 0 ≤ p.2 ∧ p.2 ≤ 1152921504606846976) ∧ T' h6.size = none ∧ h'[h16.size]? = some (.cells (ddC d bl).toArray 41 (0, 0)) ∧ Ext h1 h' ∧ ∀ k, T' k ≠ none → h1.size ≤ k) ?_ ?_
    · rintro ⟨⟩ h60 ⟨T', c', A, hC', hD, hA, hats, hTA, c60, x60, low'⟩
      refine cutP_intro (fun p h' => h' = h60 ∧ p.1 = nowF c.last d.kind d.at_) ?_ ?_
      · rintro ⟨now', u⟩ h70 ⟨rfl, hn'⟩
        dsimp only at hn'
        rw [← hD.last] at hn'
        subst hn'
        dsimp only
        have hR := hD.rel
        have hlast' := hD.on.w.last
        have htm := hD.on.tmo
        refine Told_spec hC' fun t71 h72 T72 ho72 ht72 hC72 st72 => bindI_intro ?_
        have l60 : h6.size < h70.size := hA.lt
        have hM72 : MapI h72 h6.size A := hA.congr (st72.upd.old _ l60 fun h9 => h9 hTA)
        have n72 := st72.none_ hTA l60
        have x72 := st72.ext x60 low'
        have low72 := st72.low x60 low'
        have htl : t71.len = c'.told.length := by
          have := ho72.len
          rw [flat_len tC_len] at this
          omega
        have htn : ∀ k, t71.blk = some k → k ≠ h6.size := fun k hk h9 => by
          have := ht72 k hk
          rw [h9, hTA] at this
          cases this
        have sm := hD.on.sum
        refine loopM_intro (fun p h' => ∃ k : Nat, p.1 = (k : Int) ∧ k ≤ c'.told.length ∧ MapI h' h6.size (A.filter fun q => !toldB (c'.told.take k) q) ∧ Upd (· = h6.size) h72 h' ∧ h'.size = h72.size) (fun p _ => c'.told.length - p.1.toNat)
          ⟨0, rfl, Nat.zero_le _, ?_, Upd.refl _ _, rfl⟩ ?_
        · have : (A.filter fun q => !toldB (c'.told.take 0) q) = A := List.filter_eq_self.2 fun _ _ => rfl
          rw [this]
          exact hM72
        rintro ⟨i, u⟩ h76 ⟨k, hi, hkl, hM76, u76, z76⟩
        dsimp only at hi
        subst hi
        dsimp only
        have x76 : Ext h1 h76 := x72.then u76 fun k hk => by omega
        have c76 := keepE c1 x76
        refine iteP_dec (fun hlt => ?_) (fun hge => ?_)
        · have hk1 : k < c'.told.length := by omega
          have ht : c'.told[k]? = some c'.told[k] := List.getElem?_eq_getElem hk1
          have hmt : c'.told[k] ∈ c'.told := List.getElem_mem hk1
          generalize c'.told[k] = t at ht hmt
          obtain ⟨p, hp, hpe, hpf⟩ := hR.each t hmt
          obtain ⟨i9, hi9, he9⟩ := once_told hR.asc hR.nodup ht hp hpe
          have hasc := asc_filter hR.asc (fun q => !toldB (c'.told.take k) q)
          have ho76 : Own h76 0 t71 7 (c'.told.flatMap tC) := ho72.congr fun k hk hl _ => u76.old k hl (htn k hk)
          have hpa := hats p hp
          refine tld_idx ho76 ht rfl fun b77 o78 hh77 => ⟨p.1, by rw [hpe]; exact hh77.1, hM76.get hasc hi9 ⟨p.2, rfl, bindI_intro (bindB_intro ?_)⟩⟩
          refine cutP_intro (fun _ h' => h' = h76) ?_ ?_
          · rintro ⟨⟩ h89 rfl
            refine tld_idx ho76 ht rfl fun b90 o91 hh90 => ⟨p.1, by rw [hpe]; exact hh90.1, hM76.del hasc hi9 fun h93 m93 u93 z93 => bindI_intro ?_⟩
            rw [wrap64 (n := (k : Int) + 1) (by omega) (by omega)]
            rw [he9] at m93
            exact ⟨⟨k + 1, rfl, by omega, m93, u76.trans u93, by omega⟩, by omega⟩
          · refine iteP_false (tld_idx ho76 ht rfl fun b84 o85 hh84 => ⟨t.fb, hh84.2.2.2.2.2.2.1, ?_⟩)
            cases hfb : t.fb with
            | true => exact iteP_false rfl
            | false =>
              have := hpf hfb
              refine iteP_true (ldIk c76 rfl (iteP_neg (decide_eq_false ?_) rfl))
              rw [wrap64 (n := c'.last - p.2) (by omega) (by omega)]
              omega
        · have hk2 : k = c'.told.length := by omega
          rw [hk2, List.take_length, hR.rest] at hM76
          have hC76 := hC72.upd u76 fun k _ hk => by subst hk; exact n72
          obtain ⟨rb, mb, so, st, sb, hRc⟩ := hC76
          have hids : ∀ p, p ∈ c'.waits → -9223372036854775808 ≤ p.1 ∧ p.1 < 9223372036854775808 := fun p hp => by
            have := hD.on.w.ids p hp
            have := hD.on.w.next
            omega
          refine Waiting_spec hRc hD.on.w.asc hids (by show c'.waits.length ≤ _; omega) fun t95 h96 ho96 e96 => ?_
          have hM96 : MapI h96 h6.size c'.waits := hM76.congr (e96.old _ hM76.lt)
          have hwl : t95.len = c'.waits.length := by
            have := ho96.len
            simp at this
            omega
          refine hM96.len_ (iteP_neg (by rw [hwl]; simp) (bindI_intro ?_))
          refine loopM_intro (fun p h' => h' = h96 ∧ ∃ k : Nat, p.1 = (k : Int) ∧ k ≤ c'.waits.length) (fun p _ => c'.waits.length - p.1.toNat) ⟨rfl, 0, rfl, Nat.zero_le _⟩ ?_
          rintro ⟨i, u⟩ h102 ⟨rfl, j, hi, hjl⟩
          dsimp only at hi
          subst hi
          dsimp only
          have x102 := x76.trans e96
          have c102 := keepE c1 x102
          refine iteP_dec (fun hlt => ?_) (fun hge => bindI_intro ?_)
          · have hj1 : j < c'.waits.length := by omega
            have hp : c'.waits[j]? = some c'.waits[j] := List.getElem?_eq_getElem hj1
            have hmem : c'.waits[j] ∈ c'.waits := List.getElem_mem hj1
            generalize c'.waits[j] = p at hp hmem
            have hpa := hats p (hR.mem hmem).1
            have hfr := hD.on.fresh p hmem
            refine Ints.idx ho96.row rfl (x := p.1) (by rw [List.getElem?_map, hp]; rfl) (hM96.get hD.on.w.asc hp ⟨p.2, rfl, bindI_intro (bindB_intro (iteP_false (ldIk c102 rfl (iteP_neg (decide_eq_false ?_) (bindI_intro ?_)))))⟩)
            · rw [wrap64 (n := c'.last - p.2) (by omega) (by omega)]
              omega
            · rw [wrap64 (n := (j : Int) + 1) (by omega) (by omega)]
              exact ⟨⟨rfl, j + 1, rfl, by omega⟩, by omega⟩
          · rw [wrap64 (n := (n : Int) + 1) (by omega) (by omega)]
            have hO := hD.on
            refine ⟨⟨n + 1, T72, { c' with told := [] }, rfl, by omega, by omega, rfl, (Client.ext ⟨rb, mb, so, st, sb, hRc⟩ e96), ⟨⟨hO.w.asc, hO.w.ids, hO.w.ats, hO.w.last, hO.w.next, ?_⟩, ⟨hO.nk.tmo, hO.nk.least, hO.nk.back, hO.nk.most, hO.nk.name⟩, hO.br, hO.next, hO.out, hO.rb, ?_, hO.fresh.congr rfl rfl rfl, hO.tmo⟩, rfl, hM96, n72, x102, low72⟩, by omega⟩
            · show 0 + c'.waits.length ≤ _
              omega
            · show 0 + c'.waits.length ≤ _
              omega
      · have no : ∀ {p : Int}, ¬ (0 ≤ d.kind ∧ d.kind ≤ 6 ∧ c.last ≤ d.at_ ∧ d.at_ ≤ 1152921504606846976) → p = c.last → p = nowF c.last d.kind d.at_ := fun h1 h2 => by unfold nowF; rw [if_neg h1]; exact h2
        refine ldIk c60 rfl (iteP_dec (fun a0 => ldIk c60 rfl (iteP_dec (fun a6 => ldIk c60 rfl (iteP_dec (fun an => ldIk c60 rfl (iteP_dec (fun am => ldIk c60 rfl (bindI_intro ⟨rfl, ?_⟩)) fun am => ⟨rfl, no (fun hh => am hh.2.2.2) rfl⟩)) fun an => ⟨rfl, no (fun hh => an hh.2.2.1) rfl⟩)) fun a6 => ⟨rfl, no (fun hh => a6 hh.2.1) rfl⟩)) fun a0 => ⟨rfl, no (fun hh => a0 hh.1) rfl⟩)
        unfold nowF
        rw [if_pos ⟨a0, a6, an, am⟩]
    · have hbT : d.b ≠ [] → ∀ k, bl.blk = some k → T k = none := fun hne k hk => by
        rcases hbl.at_ with h0 | ⟨b, o, hp, hhb⟩
        · have := Bytes.length hbl
          exact absurd (List.eq_nil_of_length_eq_zero (by omega)) hne
        · simp [Sl.blk, hp] at hk
          subst hk
          have hlt := has_lt hhb (fun he => hne (List.map_eq_nil_iff.1 he))
          refine Classical.byContradiction fun h9 => ?_
          have := low b h9
          omega
      have hlast := hI.w.last
      have hats0 : ∀ p, p ∈ c.waits → 0 ≤ p.2 ∧ p.2 ≤ 1152921504606846976 := fun p hp => by
        have := hI.w.ats p hp
        omega
      refine ldIk c29 rfl ⟨fun q1 => ?_, fun q1 => ?_⟩
      · have q1 : d.kind = 1 := by simpa using q1
        refine ldIk c29 rfl (ldIk c29 rfl (ldIk c29 rfl (ldIk c29 rfl (ldIk c29 rfl (ldSk c29 rfl (ldIk c29 rfl ?_))))))
        have hnx := hI.next
        have hou := hI.out
        refine Ask_spec (r := d.r) hC29 hI.w (by omega) (by omega) hrs fun h44 T44 hC44 st44 => bindI_intro (bindB_intro (bindI_intro ?_))
        obtain ⟨hD, hnum⟩ := Did.ask (at_ := d.at_) (r := d.r) (by omega) hI htold
        have l29 := e29.size
        have hM44 : MapI h44 h6.size c.waits := hM29.congr (st44.upd.old _ (by omega) fun h9 => h9 hTb)
        have n44 := st44.none_ hTb (show h6.size < h29.size by omega)
        have c44 := st44.keep n29 c29
        have x44 := st44.ext x29 low
        have low44 := st44.low x29 low
        have q1s : ∀ {A : List (Int × Int)} {c' : Cl}, Did A c c' tmo n 1 d.at_ → Did A c c' tmo n d.kind d.at_ := fun h9 => by rw [q1]; exact h9
        have plain : ¬ ((c.askR d.at_ d.r).1.2.2 = 0 ∧ (c.askR d.at_ d.r).1.2.1 = false) → c.askA d.at_ d.r = c.waits := fun h9 => by unfold Cl.askA; rw [if_neg h9]
        have same : ¬ ((c.askR d.at_ d.r).1.2.2 = 0 ∧ (c.askR d.at_ d.r).1.2.1 = false) → ∃ (T' : Nat → Option Nat) (c' : Cl) (A : List (Int × Int)), Client h44 T' cb c' ∧ Did A c c' tmo n d.kind d.at_ ∧ MapI h44 h6.size A ∧ (∀ p, p ∈ A → 0 ≤ p.2 ∧ p.2 ≤ 1152921504606846976) ∧ T' h6.size = none ∧ h44[h16.size]? = some (.cells (ddC d bl).toArray 41 (0, 0)) ∧ Ext h1 h44 ∧ ∀ k, T' k ≠ none → h1.size ≤ k := fun h9 => by
          rw [plain h9] at hD
          exact ⟨T44, _, _, hC44, q1s hD, hM44, hats0, n44, c44, x44, low44⟩
        refine ⟨fun h5 => ?_, fun h5 => same fun h9 => by rw [h9.1] at h5; cases h5⟩
        have h5 : (c.askR d.at_ d.r).1.2.2 = 0 := by simpa using h5
        refine ⟨fun h6' => ?_, fun h6' => same fun h9 => by rw [h9.2] at h6'; cases h6'⟩
        have h6' : (c.askR d.at_ d.r).1.2.1 = false := by simpa using h6'
        have hnm := hnum h5 h6'
        have hask : c.askA d.at_ d.r = c.waits ++ [((c.askR d.at_ d.r).1.1, d.at_)] := by unfold Cl.askA; rw [if_pos ⟨h5, h6'⟩]
        rw [hask] at hD
        have hne : ∀ p, p ∈ c.waits → p.1 ≠ (c.askR d.at_ d.r).1.1 := fun p hp => by
          have := (hI.w.ids p hp).2
          omega
        have hat : 0 ≤ d.at_ ∧ d.at_ ≤ 1152921504606846976 := by
          have : c.atE d.at_ = 0 := by
            refine Classical.byContradiction fun h9 => ?_
            unfold Cl.askR at h5
            rw [if_neg h9] at h5
            exact h9 h5
          have := atE_zero this
          omega
        refine hM44.getNone hne ⟨0, rfl, bindI_intro (bindB_intro (iteP_false (ldIk c44 rfl (hM44.put hne fun h48 m48 u48 z48 => ?_))))⟩
        refine ⟨T44, _, _, hC44.upd u48 fun k _ hk => by subst hk; exact n44, q1s hD, m48, fun p hp => ?_, n44, keepB c44 u48 (by omega), x44.then u48 fun k hk => by omega, low44⟩
        rcases List.mem_append.1 hp with h9 | h9
        · exact hats0 p h9
        · have : p = (_, d.at_) := List.mem_singleton.1 h9
          subst this
          exact hat
      · have q1 : d.kind ≠ 1 := by simpa using q1
        refine ldIk c29 rfl (ldIk c29 rfl (ldIk c29 rfl (ldIk c29 rfl (ldIk c29 rfl (ldIk c29 rfl (ldSk c29 rfl (ldIk c29 rfl (ldLk (s := bl) c29 rfl ?_))))))))
        refine do1_spec (d := d) (s := bl) hC29 hI (by omega) (hbl.ext (e1.trans x29)) hbT (by omega) fun h58 T58 hC58 st58 => ?_
        exact ⟨T58, _, _, hC58, Did.do1 hI htold (by omega) q1, hM29.congr (st58.upd.old _ (by have := e29.size; omega) fun h9 => h9 hTb), hats0, st58.none_ hTb (by have := e29.size; omega), st58.keep n29 c29, st58.ext x29 low, st58.low x29 low⟩

end Go.Proofs.Ytcmedplogmjiiaa
