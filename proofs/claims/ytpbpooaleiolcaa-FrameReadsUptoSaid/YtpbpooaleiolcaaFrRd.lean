/- FrameReads' law, on its model. -/
import Derived.Test.YtpbpooaleiolcaaFrU
namespace Go.Proofs.Ytpbpooaleiolcaa
open Go Go.Fw

/-- both readers, alike -/
structure St (h0 : Heap) (A : Nat) (h : Heap) (B : Nat) (st : List UInt8) (br : Bool) : Prop where
  ext : Ext h0 h
  ra : IsG 62 h A (fun k => k ≠ A ∧ k ≠ B) st br
  rb : IsG 66 h B (fun k => k ≠ A ∧ k ≠ B) st br
  ne : A ≠ B
  la : h0.size ≤ A
  lb : h0.size ≤ B
  len : st.length ≤ 4099
  brk : br = true → st = []
  ok : ¬ st.length < 4 → lenok st = true

theorem putS_ok {st : List UInt8} {br : Bool} (l : List UInt8) (hok : ¬ st.length < 4 → lenok st = true) : ¬ (putS st br l).2.2.length < 4 → lenok (putS st br l).2.2 = true := by
  cases br with
  | true => exact hok
  | false => exact cutA_ok _ (st ++ l) (Nat.le_refl _)

theorem Handed.own {h : Heap} {base : Nat} {s : Sl} {l : List UInt8} (hs : Handed h base s l) : Own h base s 1 (l.map bv) := by
  obtain ⟨b, e, rfl, h1, hb, hl⟩ := hs.at_
  refine ⟨by simp, by simp, hl, .inr ⟨b, _, e, rfl, h1, hb, by simp [pat], ?_⟩⟩
  simp

theorem xor_bv (x : UInt8) : ∃ y : UInt8, Value.int .u8 (xorV .u8 (x.toNat : Int) 255) = bv y := ⟨_, bv_ofNat _⟩

theorem FrameReads_true {pieces : Sl} {ll : List (List UInt8)} {h : Heap} {K : Bool → Heap → Prop} (hp : RowsB h pieces ll) (hb : total ll ≤ 1048576) (hk : ∀ h', Ext h h' → K true h') : m_spillwaylaw18_FrameReads pieces K h := by
  unfold m_spillwaylaw18_FrameReads g_spillwaylaw18_FrameReads
  have hlen := hp.len
  have hcnt := total_count ll
  refine live_spec fun h1 hext1 => iteP_false ?_
  refine New2_spec fun h2 hr2 hext2 hsz2 => ?_
  refine RNew_spec fun h3 hr3 hext3 hsz3 => bindI_intro ?_
  have hz1 := hext1.size
  refine loopM_intro (fun s h' => ∃ (k B : Nat) (st : List UInt8) (br : Bool), s.1 = some ⟨B, 0, none⟩ ∧ s.2.1 = (k : Int) ∧ k ≤ ll.length ∧ St h h1.size h' B st br) (fun s _ => ll.length - s.2.1.toNat)
    ⟨0, h2.size, [], false, rfl, rfl, Nat.zero_le _, ⟨(hext1.trans hext2).trans hext3, (hr2.ext hext3).mono fun k hk => hk.elim, hr3.mono fun k hk => hk.elim, by omega, hz1, by omega, by simp, by simp, by simp⟩⟩ ?_
  rintro ⟨rb, i, u⟩ h8 ⟨k, B, st, br, hB, hi, hkl, hS⟩
  dsimp only at hB hi
  subst hB hi
  dsimp only
  refine iteP_dec (fun hlt => ?_) (fun _ => hk _ hS.ext)
  have hk1 : k < ll.length := by omega
  have hl : ll[k]? = some ll[k] := List.getElem?_eq_getElem hk1
  have hll := mem_le_total hl
  generalize ll[k] = l at hl hll
  refine cutP_intro (fun s' h' => ∃ (B' : Nat) (st' : List UInt8) (br' : Bool), s'.1 = some ⟨B', 0, none⟩ ∧ St h h1.size h' B' st' br') ?_ ?_
  · clear hS hlt
    rintro ⟨rb, u⟩ h17 ⟨B, st, br, hB, hS⟩
    dsimp only at hB
    subst hB
    dsimp only
    have hA := hS.ra.lt
    have hB := hS.rb.lt
    have hst := hS.len
    have hne := hS.ne
    have hla := hS.la
    have hlb := hS.lb
    refine Fork_spec hS.ra (by omega) fun o h19 hO ho1 ho2 hext19 => ?_
    refine RFork_spec (hS.rb.ext hext19) (by omega) fun w h21 hW hw1 hw2 hext21 => ?_
    have e21 := hext19.trans hext21
    refine RowsB.idx (hp.ext (hS.ext.trans e21)) rfl hl fun x hx => ?_
    refine Hand_spec hx (by omega) fun t h26 ht hext26 => ?_
    have e26 := e21.trans hext26
    have z19 := hext19.size
    have z21 := hext21.size
    have z26 := hext26.size
    refine Put2_spec ((hS.ra.ext e26).mono fun k hk => hk.1) ht.bytes (by omega) fun out h29 mid hm1 hm2 hout hra29 hu29 => bindI_intro ?_
    have z29 := hu29.size
    have e029 : Ext h h29 := (hS.ext.trans e26).then hu29 fun k hk => by omega
    refine RowsB.idx (hp.ext e029) rfl hl fun x2 hx2 => ?_
    have hrb29 : IsG 66 h29 B (fun k => k ≠ B) st br := ((hS.rb.ext e26).upd hu29 (fun he => hne he.symm) (fun k hk => hk.1)).mono fun k hk => hk.2
    refine RPut_spec hrb29 hx2 (by omega) fun m h35 hm hrb35 hu35 => bindI_intro ?_
    have z35 := hu35.size
    have e035 : Ext h h35 := e029.then hu35 fun k hk => by omega
    have hra35 := hra29.upd hu35 hne fun k hk => by omega
    obtain ⟨p1, p2, p3, p4, p5⟩ := putS_inv st br l hst hS.brk
    have p6 := putS_ok (br := br) l hS.ok
    generalize hP : putS st br l = P at *
    obtain ⟨ls, br', st'⟩ := P
    dsimp only at *
    have hout35 : OwnRows h35 mid out ls := hout.congr fun b hb hge => hu35.old b hb (by omega)
    refine SamePayloads_spec (OwnRows.rowsB hout35) hm (by omega) ?_
    rw [decide_eq_true rfl]
    refine iteP_false (iteP_neg (by simp) ?_)
    refine LeftF_spec hra35.isF (RLeftF_spec hrb35.isF (iteP_neg (by simp) ?_))
    refine Missing_spec (hra35.mono fun k hk => by omega).isR (by omega) (RMissing_spec hrb35 (by omega) p6 (iteP_neg (by simp) ?_))
    refine BrokenF_spec hra35.isF (RBrokenF_spec hrb35.isF (iteP_neg (by simp) ?_))
    refine RowsB.idx (hp.ext e035) rfl hl fun x3 hx3 => ?_
    have ht35 : Handed h35 h21.size t l := (ht.congr fun k hk hlt => hu29.old k hlt (by have := (ht.lt hk).1; omega)).congr fun k hk hlt => hu35.old k hlt (by have := (ht.lt hk).1; omega)
    refine Kept_spec ht35 hx3 (by omega) (iteP_false ?_)
    have hO35 := ((hO.ext (hext21.trans hext26)).upd hu29 (by omega)).upd hu35 (by omega)
    have hW35 := ((hW.ext hext26).upd hu29 (by omega)).upd hu35 (by omega)
    refine LeftF_spec hO35 (RLeftF_spec hW35 (iteP_neg (by simp) ?_))
    refine BrokenF_spec hO35 (RBrokenF_spec hW35 (iteP_neg (by simp) (bindI_intro ?_)))
    -- what was handed in is changed
    have htl := Own.blen ht35.own
    refine loopM_intro (fun s h' => ∃ (m : Nat) (l' : List UInt8), s.1 = (m : Int) ∧ m ≤ t.len ∧ Own h' h21.size t 1 (l'.map bv) ∧ Upd (fun k => t.blk = some k) h35 h') (fun s _ => t.len - s.1.toNat)
      ⟨0, l, rfl, Nat.zero_le _, ht35.own, Upd.refl _ _⟩ ?_
    rintro ⟨i, u⟩ h66 ⟨n, l', hi, hnl, hown, hu66⟩
    dsimp only at hi
    subst hi
    dsimp only
    refine iteP_dec (fun hn => ?_) (fun _ => newC_intro ?_)
    · have hl'l := Own.blen hown
      have hx9 : l'[n]? = some l'[n] := List.getElem?_eq_getElem (by omega)
      refine Bytes.idx hown.row rfl hx9 ?_
      obtain ⟨y, hy⟩ := xor_bv l'[n]
      rw [hy]
      refine Own.store hown (by omega) y fun h72 ho72 hu72 _ => bindI_intro ?_
      rw [wrap64 (n := (n : Int) + 1) (by omega) (by omega)]
      exact ⟨⟨n + 1, _, by omega, by omega, ho72, hu66.trans hu72⟩, by omega⟩
    -- the book
    have z66 := hu66.size
    have htb : ∀ k, t.blk = some k → h21.size ≤ k ∧ k < h26.size := fun k hk => ht.lt hk
    obtain ⟨us, hur, hub, hul, huo, hud⟩ := OwnRows.parts hout
    have lift : ∀ k, mid ≤ k → k < h29.size → h66[k]? = h29[k]? := fun k h1 h2 => by
      rw [hu66.old k (by omega) fun he => by have := htb k he; omega, hu35.old k h2 (by omega)]
    have pext : Ext h66 (h66.push (.cells [nilV, nilV, nilV, nilV, nilV, nilV, nilV, nilV].toArray 47)) := Ext.push h66 _
    have hB0 : BookR (h66.push (.cells [nilV, nilV, nilV, nilV, nilV, nilV, nilV, nilV].toArray 47)) h66.size (h66.size + 1) ⟨none, 0, 0⟩ [] :=
      ⟨push_new, Own.nil _ _ 1, by omega, by simp⟩
    have p0 : (h66.push (.cells [nilV, nilV, nilV, nilV, nilV, nilV, nilV, nilV].toArray 47)).size = h66.size + 1 := by simp
    show m_spillwaymem_Book_TakePayloads (some ⟨h66.size, 0, none⟩) out _ (h66.push (.cells [nilV, nilV, nilV, nilV, nilV, nilV, nilV, nilV].toArray 47))
    generalize (h66.push (.cells [nilV, nilV, nilV, nilV, nilV, nilV, nilV, nilV].toArray 47)) = hq at *
    have nob : ∀ k, Sl.blk ⟨none, 0, 0⟩ ≠ some k := fun k => by simp [Sl.blk]
    have lowU : ∀ y ∈ us, ∀ k, y.blk = some k → mid ≤ k ∧ k < h29.size := fun y hy k hk => by
      obtain ⟨j, hj, rfl⟩ := List.mem_iff_getElem.1 hy
      obtain ⟨m, _, ho⟩ := huo j _ (List.getElem?_eq_getElem hj)
      exact ho.lt hk
    have hur66 : Row h66 out 1 (us.map slV) := hur.congr fun b o hp _ hl => lift b (hub b (by simp [Sl.blk, hp])).1 hl
    refine TakePayloads_spec hB0 (hur66.ext pext) (fun k hk => ?_) (fun y hy k hk => ?_) (by simp; omega) (by omega) fun s1 h76 hB1 hu76 _ => ?_
    · have := hub k hk
      exact ⟨by omega, nob k⟩
    · have := lowU y hy k hk
      exact ⟨by omega, nob k, by omega⟩
    have z76 := hu76.size
    refine Alone_spec hB1 (by omega) (by simp; omega) (fun j y hy => ?_) ?_ fun h78 hu78 => iteP_false (bindI_intro ?_)
    · have hy' : us[j]? = some y := by simpa using hy
      obtain ⟨m, hmm, ho⟩ := huo j _ hy'
      have h1 := p1 m hmm
      have h2 := Own.blen ho
      refine ⟨by omega, m, ?_⟩
      have ho66 : Own h66 mid y 1 (m.map bv) := ho.congr fun k _ hl hb => lift k hb hl
      refine ((ho66.congr fun k _ hl _ => pext.old k hl).congr fun k hks hl hb => hu76.old k hl fun hS => ?_).base (Nat.zero_le _)
      rcases hS with hS | hS
      · have := ho66.lt hks; omega
      · exact nob k hS
    · simpa using hud
    rw [wrap64 (n := (k : Int) + 1) (by omega) (by omega)]
    have hU : Upd (fun k => t.blk = some k ∨ h35.size ≤ k ∨ inRows us k) h35 h78 := by
      refine (((hu66.mono fun k _ hk => .inl hk).trans (pext.upd _)).trans (hu76.mono fun k _ hk => ?_)).trans (hu78.mono fun k _ hk => ?_)
      · rcases hk with hk | hk
        · exact .inr (.inl (by omega))
        · exact absurd hk (nob k)
      · rcases hk with hk | hk
        · exact .inr (.inl (by omega))
        · exact .inr (.inr (by simpa using hk))
    have out1 : ∀ k, (k < h21.size ∨ h26.size ≤ k) → (k < mid ∨ h29.size ≤ k) → k < h35.size → ¬ (t.blk = some k ∨ h35.size ≤ k ∨ inRows us k) := fun k c1 c2 c3 hk => by
      rcases hk with hk | hk | ⟨y, hy, hk⟩
      · have := htb k hk; omega
      · omega
      · have := lowU y hy k hk; omega
    refine ⟨⟨k + 1, B, st', br', rfl, by omega, by omega, ⟨e035.then hU fun k hk => ?_, ?_, ?_, hne, hla, hlb, p2, p3, p6⟩⟩, by omega⟩
    · have := hS.ext.size
      rcases hk with hk | hk | ⟨y, hy, hk⟩
      · have := htb k hk; omega
      · have := e035.size; omega
      · have := lowU y hy k hk; omega
    · refine (hra35.upd hU (out1 _ (by omega) (by omega) (by omega)) fun k hk => out1 k (by omega) (by omega) (by omega)).mono fun k hk => by omega
    · refine (hrb35.upd hU (out1 _ (by omega) (by omega) (by omega)) fun k hk => out1 k (by omega) (by omega) (by omega)).mono fun k hk => by omega
  · refine RowsB.idx (hp.ext hS.ext) rfl hl fun x hx => ?_
    have same : ∃ (B' : Nat) (st' : List UInt8) (br' : Bool), (some ⟨B, 0, none⟩ : Option Addr) = some ⟨B', 0, none⟩ ∧ St h h1.size h8 B' st' br' := ⟨B, st, br, rfl, hS⟩
    refine ⟨fun _ => ⟨by decide, fun _ => ?_, fun _ => same⟩, fun _ => same⟩
    refine Reset_spec hS.ra fun h9 hr9 hu9 => ?_
    refine RNew_spec fun h10 hr10 hext10 hsz10 => ?_
    have z9 := hu9.size
    have hA := hS.ra.lt
    have hla := hS.la
    have z0 := hS.ext.size
    exact ⟨h9.size, [], false, rfl, ⟨(hS.ext.then hu9 fun k hk => by omega).trans hext10, (hr9.ext hext10).mono fun k hk => hk.elim, hr10.mono fun k hk => hk.elim, by omega, hla, by omega, by simp, by simp, by simp⟩⟩

end Go.Proofs.Ytpbpooaleiolcaa
