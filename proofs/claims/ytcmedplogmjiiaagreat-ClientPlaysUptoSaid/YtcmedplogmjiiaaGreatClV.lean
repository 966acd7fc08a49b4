/- ClientPlays' law, on its model. -/
import Derived.Test.YtcmedplogmjiiaaGreatClU
namespace Go.Proofs.YtcmedplogmjiiaaGreat
open Go Go.Fw

def Deeds21 (h : Heap) (l : Sl) (ds : List Dd) : Prop := l.len = ds.length ∧ ∀ (i : Nat) (d : Dd), ds[i]? = some d → ∃ b o s, l.ptr = some ⟨b, o, none⟩ ∧ h.has b (o + i * 9) (ddC d s) ∧ Bytes h s d.b ∧ d.r.2.2.2.2.1.size < 9223372036854775808
def bulk21 (ds : List Dd) : Nat := (ds.map fun d => d.b.length + 1).sum
theorem bulk21_get : ∀ {ds : List Dd} {d : Dd}, d ∈ ds → d.b.length + 1 ≤ bulk21 ds
  | x :: ds, d, h => by
    simp only [bulk21, List.map_cons, List.sum_cons]
    rcases List.mem_cons.1 h with rfl | h
    · omega
    · have := bulk21_get h
      simp only [bulk21] at this
      omega
theorem Deeds21.idx {h : Heap} {s : Sl} {ds : List Dd} (hd : Deeds21 h s ds) {i : Int} {n : Nat} (hi : i = (n : Int)) {d : Dd} (hv : ds[n]? = some d) {K : Nat → Nat → Prop}
    (hk : ∀ b o bl, h.has b o (ddC d bl) → Bytes h bl d.b → d.r.2.2.2.2.1.size < 9223372036854775808 → K b o) : idxA s.ptr s.len i 9 K := by
  subst hi
  have hlt : n < ds.length := (List.getElem?_eq_some_iff.1 hv).1
  obtain ⟨b, o, bl, h1, h2, h3, h4⟩ := hd.2 n d hv
  refine ⟨b, o, h1, by omega, by have := hd.1; omega, ?_⟩
  have e : o + (n : Int).toNat * 9 = o + n * 9 := by omega
  rw [e]
  exact hk b _ bl h2 h3 h4

theorem Go2.ext {T T2 T' T2' : Nat → Option Nat} {h0 h h' : Heap} (g : Go2 T T2 T' T2' h h') (e : Ext h0 h) (low : ∀ k, T k ≠ none ∨ T2 k ≠ none → h0.size ≤ k) : Ext h0 h' := e.then g.upd low
theorem Go2.low {T T2 T' T2' : Nat → Option Nat} {h0 h h' : Heap} (g : Go2 T T2 T' T2' h h') (e : Ext h0 h) (low : ∀ k, T k ≠ none ∨ T2 k ≠ none → h0.size ≤ k) : ∀ k, T' k ≠ none ∨ T2' k ≠ none → h0.size ≤ k := fun k hk => by
  have := e.size
  rcases g.new k hk with h1 | h1
  · exact low k h1
  · omega

structure PlayI (h0 : Heap) (T T2 F F2 : Nat → Option Nat) (cb rb gb hb : Nat) (c cf : Cl) (n : Nat) (h : Heap) : Prop where
  two : Two h T T2 cb rb c c
  on : On2 c n
  fk : Two h F F2 gb hb cf cf
  fon : On2 cf n
  dis : ∀ k, T k ≠ none ∨ T2 k ≠ none → F k = none ∧ F2 k = none
  low : ∀ k, T k ≠ none ∨ T2 k ≠ none → h0.size ≤ k
  flow : ∀ k, F k ≠ none ∨ F2 k ≠ none → h0.size ≤ k
  ext : Ext h0 h
def Plays (h0 : Heap) (cb rb n : Nat) (g g2 : Option Addr) (h : Heap) : Prop := ∃ T T2 F F2 gb hb c cf, g = some ⟨gb, 0, none⟩ ∧ g2 = some ⟨hb, 0, none⟩ ∧ PlayI h0 T T2 F F2 cb rb gb hb c cf n h
theorem PlayI.grow {h0 h h' : Heap} {T T2 F F2 : Nat → Option Nat} {cb rb gb hb n : Nat} {c cf : Cl} (hP : PlayI h0 T T2 F F2 cb rb gb hb c cf n h) (e : Ext h h') : PlayI h0 T T2 F F2 cb rb gb hb c cf n h' :=
  ⟨hP.two.ext e, hP.on, hP.fk.ext e, hP.fon, hP.dis, hP.low, hP.flow, hP.ext.trans e⟩
theorem PlayI.step {h0 h h' : Heap} {T T2 T' T2' F F2 : Nat → Option Nat} {cb rb gb hb n : Nat} {c c' cf : Cl} (hP : PlayI h0 T T2 F F2 cb rb gb hb c cf n h) (hT : Two h' T' T2' cb rb c' c') (g : Go2 T T2 T' T2' h h') (hI : On2 c' (n + 1)) : PlayI h0 T' T2' F F2 cb rb gb hb c' cf (n + 1) h' := by
  refine ⟨hT, hI, hP.fk.upd g.upd fun k _ hk => hP.dis k hk, hP.fon.succ, fun k hk => ?_, g.low hP.ext hP.low, hP.flow, g.ext hP.ext hP.low⟩
  rcases g.new k hk with h1 | h1
  · exact hP.dis k h1
  · exact hP.fk.none_ h1

theorem forks {h0 h : Heap} {T T2 : Nat → Option Nat} {cb rb n : Nat} {c : Cl} (hT : Two h T T2 cb rb c c) (hI : On2 c n) (hn : n ≤ 1000) (low : ∀ k, T k ≠ none ∨ T2 k ≠ none → h0.size ≤ k) (ext : Ext h0 h) {K : Option Addr → Option Addr → Heap → Prop}
    (hk : ∀ g g2 h', Plays h0 cb rb n g g2 h' → (∃ F F2 gb hb, g = some ⟨gb, 0, none⟩ ∧ g2 = some ⟨hb, 0, none⟩ ∧ PlayI h0 T T2 F F2 cb rb gb hb c c n h') → Ext h h' → K g g2 h') : m_client_Client_Fork (some ⟨cb, 0, none⟩) (fun t h16 => m_spillwayref21_Client_Fork (some ⟨rb, 0, none⟩) (fun t2 h18 => K t t2 h18) h16) h := by
  have h1 := hI.out
  have h2 := hI.sum
  have h3 := hI.rb
  refine Fork_spec hT.a (by omega) (by omega) (by omega) fun h16 F gb hF e16 f16 => ?_
  have hT16 := hT.ext e16
  refine RCFork_spec hT16.b (by omega) (by omega) (by omega) (by omega) fun h18 F2 hb hF2 e18 f18 => ?_
  have s0 := ext.size
  have s16 := e16.size
  have hP : PlayI h0 T T2 F F2 cb rb gb hb c c n h18 := by
    refine ⟨hT16.ext e18, hI, ⟨hF.ext e18, hF2, fun k hk => Classical.byContradiction fun h9 => ?_⟩, hI, fun k hk => ?_, low, fun k hk => ?_, (ext.trans e16).trans e18⟩
    · have := hF.lt k hk
      have := f18 k h9
      omega
    · have hl := hT.lt hk
      exact ⟨Classical.byContradiction fun h9 => by have := f16 k h9; omega, Classical.byContradiction fun h9 => by have := f18 k h9; omega⟩
    · rcases hk with hk | hk
      · have := f16 k hk; omega
      · have := f18 k hk; omega
  exact hk _ _ h18 ⟨T, T2, F, F2, gb, hb, c, c, rfl, rfl, hP⟩ ⟨F, F2, gb, hb, rfl, rfl, hP⟩ (e16.trans e18)

theorem ClientPlays_true {s : Int × Int × Int × Unit} {name : ByteArray} (hname : name.size < 9223372036854775808) {l : Sl} {ds : List Dd} {h : Heap} {K : Bool → Heap → Prop} (hd : Deeds21 h l ds) (hb1 : bulk21 ds ≤ 1048576) (hfin : ∀ h', Ext h h' → K true h') : m_spillwaylaw21_ClientPlays s name l K h := by
  unfold m_spillwaylaw21_ClientPlays g_spillwaylaw21_ClientPlays
  obtain ⟨tmo, least, most, u⟩ := s
  refine newK fun h1 c1 e1 z1 => ldIk c1 rfl (ldIk c1 rfl (ldIk c1 rfl ?_))
  refine New_spec hname (fun hb h6 e6 => bindI_intro ?_) fun hz h6 T6 cb hC6 e6 t6 => bindI_intro ?_
  · have c6 := keepE c1 e6
    refine ldIk c6 rfl (ldIk c6 rfl (ldIk c6 rfl (RefNew_spec (fun _ h12 e12 => bindI_intro (live_spec fun h14 e14 => ?_)) fun h9 => absurd h9 hb)))
    exact iteP_false (iteP_neg (by simp) (iteP_neg rfl (iteP_true (hfin h14 (((e1.trans e6).trans e12).trans e14)))))
  have c6 := keepE c1 e6
  refine ldIk c6 rfl (ldIk c6 rfl (ldIk c6 rfl (RefNew_spec (fun h9 => absurd hz h9) fun _ h12 T12 rb hC12 e12 t12 => bindI_intro (live_spec fun h14 e14 => ?_))))
  refine iteP_false (iteP_neg (by simp) (iteP_neg rfl (iteP_false ?_)))
  have s6 := e6.size
  have hT12 : Two h12 T6 T12 cb rb (newCl tmo least most name) (newCl tmo least most name) := ⟨hC6.ext e12, hC12, fun k hk => Classical.byContradiction fun h9 => by have := hC6.lt k hk; have := t12 k h9; omega⟩
  have hI0 : On2 (newCl tmo least most name) 0 := ⟨WOK.new, NOK.new hz, rfl, List.Pairwise.nil, Int.le_refl _, Nat.zero_le _, Nat.zero_le _, Nat.zero_le _⟩
  have low0 : ∀ k, T6 k ≠ none ∨ T12 k ≠ none → h1.size ≤ k := fun k hk => by
    rcases hk with hk | hk
    · exact t6 k hk
    · have := t12 k hk; omega
  have x14 := (e6.trans e12).trans e14
  refine forks (hT12.ext e14) hI0 (by omega) low0 x14 fun g g2 h18 _ hP18 _ => ?_
  obtain ⟨F0, F02, gb0, hb0, rfl, rfl, hP18⟩ := hP18
  refine cutP_intro (fun p h' => ∃ n, n ≤ 100 ∧ Plays h1 cb rb n p.1 p.2.1 h') ?_ ?_
  · rintro ⟨g, g2, u⟩ h60 ⟨n, hn, T, T2, F, F2, gb, hb, c, cf, hg, hg2, hP⟩
    dsimp only at hg hg2
    subst hg hg2
    dsimp only
    have z0 : (ByteArray.mk #[]).size < 9223372036854775808 := by decide
    refine do_spec (d := ⟨8, 0, (0, 0, 0, 0, ByteArray.mk #[], 0, ()), []⟩) (s := ⟨none, 0, 0⟩) hP.fk hP.fon (by omega) (Row.nil _ 1) (fun h9 => absurd rfl h9) (Nat.zero_le _) z0 fun h62 U U2 hU go62 => iteP_true ?_
    have hI62 := On2.doP (show n ≤ 1000 by omega) hP.fon 8 0 (0, 0, 0, 0, ByteArray.mk #[], 0, ()) (l := []) (Nat.zero_le _)
    refine do_spec (d := ⟨7, 0, (0, 0, 0, 0, ByteArray.mk #[], 0, ()), []⟩) (s := ⟨none, 0, 0⟩) hU hI62 (by omega) (Row.nil _ 1) (fun h9 => absurd rfl h9) (Nat.zero_le _) z0 fun h64 V V2 hV go64 => iteP_true ?_
    refine Connected_spec hV.a (RConnected_spec hV.b (bindB_intro ?_))
    have x64 := (go62.trans go64).ext hP.ext hP.flow
    have := hfin h64 (e1.trans x64)
    simpa using this
  · refine bindI_intro (loopM_intro (fun p h' => ∃ n : Nat, p.2.2.1 = (n : Int) ∧ n ≤ ds.length ∧ n ≤ 100 ∧ Plays h1 cb rb n p.1 p.2.1 h') (fun p _ => ds.length - p.2.2.1.toNat) ⟨0, rfl, Nat.zero_le _, by omega, T6, T12, F0, F02, gb0, hb0, _, _, rfl, rfl, hP18⟩ ?_)
    rintro ⟨g, g2, i, u⟩ h24 ⟨n, hi, hnl, hn100, hPl⟩
    dsimp only at hi hPl
    subst hi
    dsimp only
    have hsl := hd.1
    refine iteP_dec (fun hlt => iteP_dec (fun hlt100 => ?_) fun _ => ⟨n, hn100, hPl⟩) fun _ => ⟨n, hn100, hPl⟩
    have hk1 : n < ds.length := by omega
    have hx : ds[n]? = some ds[n] := List.getElem?_eq_getElem hk1
    have hdb := bulk21_get (List.getElem_mem hk1)
    generalize ds[n] = d at hx hdb
    refine cutP_intro (fun p h' => Plays h1 cb rb n p.1 p.2.1 h') ?_ ?_
    · rintro ⟨g, g2, u⟩ h33 ⟨T, T2, F, F2, gb, hb, c, cf, hg, hg2, hP⟩
      dsimp only at hg hg2
      subst hg hg2
      dsimp only
      have x33 := e1.trans hP.ext
      refine hd.idx rfl hx fun b17 o17 bl hh0 hbl hrs => ?_
      have hh := has_congr (x33.old b17 (has_lt hh0 (by simp [ddC]))) hh0
      refine ⟨_, hh.1, _, hh.2.1, _, hh.2.2.1, _, hh.2.2.2.1, _, hh.2.2.2.2.1, _, hh.2.2.2.2.2.1, _, hh.2.2.2.2.2.2.1, _, hh.2.2.2.2.2.2.2.1, bl, hh.2.2.2.2.2.2.2.2.1, ?_⟩
      have hbT : d.b ≠ [] → ∀ k, bl.blk = some k → T k = none ∧ T2 k = none := fun hne k hk => by
        have hlk : k < h1.size := by
          rcases hbl.at_ with h0 | ⟨b, o, hp, hhb⟩
          · have := Bytes.length hbl
            exact absurd (List.eq_nil_of_length_eq_zero (by omega)) hne
          · simp [Sl.blk, hp] at hk
            subst hk
            have := has_lt hhb (fun he => hne (List.map_eq_nil_iff.1 he))
            omega
        have hno : ¬ (T k ≠ none ∨ T2 k ≠ none) := fun h9 => by have := hP.low k h9; omega
        exact ⟨Classical.byContradiction fun h9 => hno (.inl h9), Classical.byContradiction fun h9 => hno (.inr h9)⟩
      refine do_spec (d := d) (s := bl) hP.two hP.on (by omega) (Row.ext hbl x33) hbT (by omega) hrs fun h45 T' T2' hT45 go45 => iteP_false ?_
      have hI45 := On2.doP (show n ≤ 1000 by omega) hP.on d.kind d.at_ d.r (l := d.b) (by omega)
      have hP45 := hP.step hT45 go45 hI45
      refine Connected_spec hT45.a (RConnected_spec hT45.b (iteP_neg (by simp) ?_))
      have hnx := hI45.next
      have hsm := hI45.sum
      have hb64 : ∀ p, p ∈ (doP c d.kind d.at_ d.r d.b).waits → -9223372036854775808 ≤ p.1 ∧ p.1 < 9223372036854775808 := fun p hp => by have := hI45.w.ids p hp; omega
      obtain ⟨rb5, mb5, so5, st5, sb5, hR5⟩ := hT45.a
      refine Waiting_spec hR5 hI45.w.asc hb64 (by omega) fun t50 h51 ho51 e51 => ?_
      have hP51 := hP45.grow e51
      refine RWaiting_spec hP51.two.b (by omega) fun t52 h53 ho53 e53 => ?_
      have hP53 := hP51.grow e53
      refine SInts_spec (l := (doP c d.kind d.at_ d.r d.b).waits.map (·.1)) (ho51.row.ext e53) ho53.row (iteP_false (bindI_intro ?_))
      rw [wrap64 (n := (n : Int) + 1) (by omega) (by omega)]
      exact ⟨⟨n + 1, by omega, by omega, by omega, T', T2', F, F2, gb, hb, _, cf, rfl, rfl, hP53⟩, by omega⟩
    · refine ⟨by decide, ⟨fun _ => ?_, fun _ => hPl⟩⟩
      obtain ⟨T, T2, F, F2, gb, hb, c, cf, hg, hg2, hP⟩ := hPl
      exact forks hP.two hP.on (by omega) hP.low hP.ext fun g' g2' h' hPl' _ _ => hPl'

end Go.Proofs.YtcmedplogmjiiaaGreat
