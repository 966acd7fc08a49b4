/- StreamOrder's law, on its model. -/
import Derived.Test.YtgkgheaanfgecaaStH
namespace Go.Proofs.Ytgkgheaanfgecaa
open Go Go.Fw

theorem ltO {A B : Cn} {w r : Nat → List UInt8} {m : Nat → Int} {n : Nat} (hL : LawsO A B w r m n 0) {e : Nat} (he : e < 2) : (r e).length + (A.side e).come.length + (A.side e).way.length = (w e).length := by
  rw [(hL.law e he (Nat.zero_le _)).2.1, List.length_append, List.length_append]; omega

theorem StreamOrder_true {s o : Sl} {ds : List Deed} {ob : List UInt8} {h : Heap} {K : Bool → Heap → Prop} (hd : Deeds h s ds) (ho : Bytes h o ob) (hb1 : bulkD ds ≤ 1048576) (hb2 : ob.length ≤ 1048576) (hk : ∀ h', Ext h h' → K true h') : m_spillwaylaw22_StreamOrder s o K h := by
  unfold m_spillwaylaw22_StreamOrder g_spillwaylaw22_StreamOrder
  have hn1 : ds.length ≤ 1048576 := Nat.le_trans (bulk_len ds) hb1
  have hsl := hd.1
  refine live_spec fun h1 e1 => iteP_false ?_
  refine New_spec fun h3 T3 hn3 e3 t3 => newK fun h4 c4 e4 z4 => ?_
  have x4 := (e1.trans e3).trans e4
  have t3' : ∀ k, T3 k ≠ none → h.size ≤ k := fun k hk => Nat.le_trans e1.size (t3 k hk)
  refine Listen_spec (hn3.ext e4) (one_row c4) (fun k hk => none_new hn3.lt (by simp [Sl.blk] at hk; omega)) fun h6 hn6 st6 => iteP_false ?_
  have x6 := st6.ext x4 t3'
  refine Dial_spec hn6 (by decide) fun h9 T9 hn9 st9 => bindI_intro (bindI_intro ?_)
  have x9 := st9.ext x6 t3'
  have t9 := st9.low x6 t3'
  have d1 : diS (liP (fun _ => false) [1]) [] 1 = ((1, 0), [newC_ 1]) := rfl
  rw [d1] at hn9 ⊢
  refine Dial_spec hn9 (by decide) fun h12 T12 hn12 st12 => bindI_intro (bindI_intro ?_)
  have x12 := st12.ext x9 t9
  have t12 := st12.low x9 t9
  have d2 : diS (liP (fun _ => false) [1]) [newC_ 1] 1 = ((2, 0), [newC_ 1, newC_ 1]) := rfl
  rw [d2] at hn12 ⊢
  dsimp only at hn12
  dsimp only
  refine iteP_false (iteP_false (newK fun h15 c15 e15 z15 => newK fun h17 c17 e17 z17 => newK fun h19 c19 e19 z19 => stsAll c19 rfl rfl fun h20 c20 u20 z20 => bindI_intro ?_))
  have x12s := x12.size
  have lt12 := hn12.lt
  have e1220 : Ext h12 h20 := ((e15.trans e17).trans e19).then u20 fun k hk => by omega
  have hO0 : OrdC h h20 (h1.size + 1) h12.size h15.size h17.size T12 (fun k => if k = h12.size then some 10 else if k = h15.size then some 11 else if k = h17.size then some 12 else none) (liP (fun _ => false) [1]) (newC_ 1) (newC_ 1) (fun _ => ⟨none, 0, 0⟩) (fun _ => ⟨none, 0, 0⟩) (fun _ => []) (fun _ => []) (fun _ => 0) := by
    refine ⟨hn12.ext e1220, ⟨?_, by simp, fun e _ => nil_row _ _ _⟩, ⟨?_, ?_, fun e _ => nil_row _ _ _⟩, c20, ?_, fun k hk => ?_, fun k hk => ?_, fun k hk => ?_, x12.trans e1220⟩
    · exact keepB (keepE (keepE c15 e17) e19) u20 (by omega)
    · exact keepB (keepE c17 e19) u20 (by omega)
    · show (if _ then _ else _) = _
      rw [if_neg (by omega), if_pos rfl]
    · show (if _ then _ else _) = _
      rw [if_neg (by omega), if_neg (by omega), if_pos rfl]
    · by_cases q1 : k = h12.size
      · omega
      · by_cases q2 : k = h15.size
        · omega
        · by_cases q3 : k = h17.size
          · omega
          · simp only [q1, q2, q3, if_false] at hk; exact absurd rfl hk
    · refine none_new lt12 ?_
      by_cases q1 : k = h12.size
      · omega
      · by_cases q2 : k = h15.size
        · omega
        · by_cases q3 : k = h17.size
          · omega
          · simp only [q1, q2, q3, if_false] at hk; exact absurd rfl hk
    · rcases hk with hk | hk
      · by_cases q1 : k = h12.size
        · omega
        · by_cases q2 : k = h15.size
          · omega
          · by_cases q3 : k = h17.size
            · omega
            · simp only [q1, q2, q3, if_false] at hk; exact absurd rfl hk
      · exact t12 k hk
  have hL0 : LawsO (newC_ 1) (newC_ 1) (fun _ => []) (fun _ => []) (fun _ => 0) 0 0 :=
    ⟨rfl, fun e he _ => by rcases two e he with rfl | rfl <;> exact ⟨rfl, rfl, rfl⟩, fun e he => by rcases two e he with rfl | rfl <;> exact ⟨by decide, by decide, by decide, by decide, by decide, by decide⟩⟩
  generalize h1.size + 1 = nb at hO0 ⊢
  generalize h12.size = b14 at hO0 ⊢
  generalize h15.size = b16 at hO0 ⊢
  generalize h17.size = b18 at hO0 ⊢
  generalize liP (fun _ => false) [1] = ps at hO0
  refine loopM_intro (fun p h' => ∃ n : Nat, p.1 = (n : Int) ∧ n ≤ ds.length ∧ ∃ T T2 A B ws rs w r m, OrdC h h' nb b14 b16 b18 T T2 ps A B ws rs w r m ∧ LawsO A B w r m n 0) (fun p _ => ds.length - p.1.toNat) ⟨0, rfl, Nat.zero_le _, _, _, _, _, _, _, _, _, _, hO0, hL0⟩ ?_
  rintro ⟨i, u⟩ h23 ⟨n, hi, hnl, T, T2, A, B, ws, rs, w, r, m, hO, hL⟩
  dsimp only at hi
  subst hi
  dsimp only
  refine iteP_dec (fun hlt => ?_) (fun hge => bindI_intro ?_)
  · have hk1 : n < ds.length := by omega
    have hx : ds[n]? = some ds[n] := List.getElem?_eq_getElem hk1
    have hdb := bulk_get (List.getElem_mem hk1)
    generalize ds[n] = d at hx hdb
    refine hd.idx rfl hx fun b24 o24 pl bl hh0 hpl hbl => ?_
    have hh := has_congr (hO.ext.old b24 (has_lt hh0 (by simp [dC]))) hh0
    refine ⟨_, hh.1, _, hh.2.1, _, hh.2.2.1, _, hh.2.2.2.1, pl, hh.2.2.2.2.1, bl, hh.2.2.2.2.2.1, newK fun h32 c32 e32 z32 => stsAll c32 rfl rfl fun h33 c33 u33 z33 => ldIk c33 rfl ⟨by decide, bindI_intro ?_⟩⟩
    have e33 : Ext h23 h33 := e32.then u33 fun k hk => by omega
    have hb31 : T h23.size = none := none_new hO.net.lt (Nat.le_refl _)
    have hb31' : T2 h23.size = none := none_new hO.lt (Nat.le_refl _)
    obtain ⟨j, hj, hje⟩ := end_two d.end_
    rw [hje]
    have hO33 := hO.upd e33
    obtain ⟨B1, hB1, hB1'⟩ := wr_b (A := A) (B := B) hj ob fun i hi => (hL.bnd i hi).2.2.1
    refine Write_spec hO33.net (ho.ext hO33.ext) (by omega) (fun c j hc hj => (hL.hw (by omega) c j hc hj).1) fun h36 T36 hn36 st36 => ?_
    rw [hB1] at hn36
    have hO36 := hO33.step hn36 st36
    have hL36 : LawsO A B1 w r m n 0 := hL.other fun i hi => by have := hB1' i hi; have := hL.bnd i hi; omega
    obtain ⟨B2, hB2, hB2'⟩ := mv_b (A := A) (B := B1) hj fun i hi => (hB1' i hi).1
    refine Move_spec hO36.net (hL36.hw (by omega)) fun h39 T39 hn39 st39 => ?_
    rw [hB2] at hn39
    have hO39 := hO36.step hn39 st39
    have hL39 : LawsO A B2 w r m (n + 1) 0 := (hL36.mono (Nat.le_succ n)).other fun i hi => by have := hB2' i hi; have := hL36.bnd i hi; omega
    have n36 : T36 h23.size = none := st36.none_ hb31 (blk_lt c33)
    have c36 := st36.keep hb31 c33
    have c39 := st39.keep n36 c36
    have n39 : T39 h23.size = none := st39.none_ n36 (blk_lt c36)
    have hbl39 : Bytes h39 bl d.b := hbl.ext hO39.ext
    refine cutP_intro (fun _ h' => ∃ T T2 A B ws rs w r m, OrdC h h' nb b14 b16 b18 T T2 ps A B ws rs w r m ∧ LawsO A B w r m (n + 1) 0) ?_ ?_
    · rintro ⟨⟩ h84 ⟨T, T2, A, B, ws, rs, w, r, m, hO, hL⟩
      refine bindI_intro (loopM_intro (fun p h' => h' = h84 ∧ ∃ k : Nat, p.1 = (k : Int) ∧ k ≤ 2) (fun p _ => 2 - p.1.toNat) ⟨rfl, 0, rfl, by omega⟩ ?_)
      rintro ⟨i, u⟩ h' ⟨rfl, k, hi, hk2⟩
      dsimp only at hi
      subst hi
      dsimp only
      refine iteP_dec (fun hlt2 => ?_) (fun hge2 => bindI_intro ?_)
      · have hk2' : k < 2 := by omega
        have hlaw := hL.law k hk2' (Nat.zero_le _)
        have hbd := hL.bnd k hk2'
        have hlo := ltO hL hk2'
        have hrl : (rs k).len = (r k).length := Bytes.length (hO.pr.row k hk2').own.row
        have hwl : (ws k).len = (w k).length := Bytes.length (hO.pw.row k hk2').own.row
        have hwc := (hO.pw.row k hk2').own.cap
        refine idxN_ rfl hk2' ⟨rs k, hO.pr.cell hk2', idxN_ rfl hk2' ⟨m k, hO.cellM hk2', iteP_neg (decide_eq_false (by rw [hlaw.2.2]; omega)) ?_⟩⟩
        refine idxN_ rfl hk2' ⟨rs k, hO.pr.cell hk2', idxN_ rfl hk2' ⟨ws k, hO.pw.cell hk2', idxN_ rfl hk2' ⟨rs k, hO.pr.cell hk2', ?_⟩⟩⟩
        refine Row.slc (hO.pw.row k hk2').own.row (a := 0) (b := (rs k).len) (m := (ws k).cap) rfl rfl rfl (Nat.zero_le _) (by omega) (by omega) (Nat.le_refl _) fun t100 ht _ _ _ => ?_
        rw [List.drop_zero, Nat.sub_zero, ← List.map_take] at ht
        refine ⟨(decide (r k = (w k).take (rs k).len), ()), Same_spec (hO.pr.row k hk2').own.row ht ⟨rfl, rfl⟩, ?_⟩
        have heq : r k = (w k).take (rs k).len := by rw [hlaw.2.1, hrl, List.take_left']; rfl
        refine iteP_neg (by simp [← heq]) (bindI_intro ?_)
        rw [wrap64 (by omega) (by omega)]
        exact ⟨⟨rfl, k + 1, by omega, by omega⟩, by omega⟩
      · rw [wrap64 (by omega) (by omega)]
        exact ⟨⟨n + 1, by omega, by omega, T, T2, A, B, ws, rs, w, r, m, hO, hL⟩, by omega⟩
    · have again : ∃ T T2 A B ws rs w r m, OrdC h h39 nb b14 b16 b18 T T2 ps A B ws rs w r m ∧ LawsO A B w r m (n + 1) 0 := ⟨_, _, _, _, _, _, _, _, _, hO39, hL39⟩
      have hlawj := hL39.law j hj (Nat.zero_le _)
      have hbdj := hL36.bnd j hj
      refine ldIk c39 rfl (bindB_intro ⟨fun k3 => ?_, fun k3 => bindB_intro ⟨fun k4 => ?_, fun k4 => bindB_intro ⟨fun k5 => ?_, fun k5 => again⟩⟩⟩)
      · -- a write
        refine ldLk c39 rfl (Write_spec hO39.net hbl39 (by omega) (fun c j hc hj => (hL39.hw (by omega) c j hc hj).1) fun h45 T45 hn45 st45 => ?_)
        rw [wr_a hL39.brk hj hlawj.1] at hn45 ⊢
        by_cases hf : (A.side j).way.length + d.b.length > 65536
        · rw [if_pos hf] at hn45 ⊢
          exact iteP_false ⟨_, _, _, _, _, _, _, _, _, hO39.step hn45 st45, hL39⟩
        · rw [if_neg hf] at hn45 ⊢
          have hO45 := hO39.step hn45 st45
          have c45 := st45.keep n39 c39
          have hbl45 : Bytes h45 bl d.b := hbl.ext hO45.ext
          refine iteP_true (idxN_ rfl hj ⟨ws j, hO45.pw.cell hj, ldLk c45 rfl (Row.rd hbl45 ?_)⟩)
          refine hO45.appW hj rfl (Bytes.length hbl45) (by omega) fun h51 T2' ws' hO51 => ⟨_, _, _, _, _, _, _, _, _, hO51, ?_⟩
          have := (hL36.write (l := d.b) hj hf).other (B' := B2) fun i hi => by have := hL39.bnd i hi; omega
          exact this
      · -- a move
        refine ldIk c39 rfl (Move_spec hO39.net (hL39.hw (by omega)) fun h56 T56 hn56 st56 => bindI_intro (bindI_intro ?_))
        rw [mv_a hL39.brk hj] at hn56 ⊢
        by_cases hm : d.n < 0
        · rw [if_pos hm] at hn56 ⊢
          refine cutP_intro (fun _ h' => h' = h56) ?_ (iteP_false rfl)
          rintro ⟨⟩ h63 rfl
          exact iteP_false ⟨_, _, _, _, _, _, _, _, _, hO39.step hn56 st56, hL39⟩
        · rw [if_neg hm] at hn56 ⊢
          have hO56 := hO39.step hn56 st56
          have c56 := st56.keep n39 c39
          have hle : min d.n.toNat (A.side j).way.length ≤ (A.side j).way.length := Nat.min_le_right _ _
          have hle2 : min d.n.toNat (A.side j).way.length ≤ d.n.toNat := Nat.min_le_left _ _
          have hLm := (hL36.move hj _ hle).other (B' := B2) fun i hi => by have := hL39.bnd i hi; omega
          generalize min d.n.toNat (A.side j).way.length = q at hn56 hO56 hLm hle hle2 ⊢
          have hlo := ltO hL39 hj
          have hwm : IntKind.wrap .i64 (m j + (q : Int)) = m j + (q : Int) := by rw [hlawj.2.2]; exact wrap64 (by omega) (by omega)
          refine cutP_intro (fun _ h' => (∃ T, OrdC h h' nb b14 b16 b18 T T2 ps (A.putS j ⟨(A.side j).way.drop q, (A.side j).come ++ (A.side j).way.take q, (A.side j).x⟩) B2 ws rs w r (fun i => if i = j then m j + (q : Int) else m i)) ∧ h'[h23.size]? = some (.cells (dC d pl bl).toArray 35 (0, 0))) ?_ ?_
          · rintro ⟨⟩ h63 ⟨⟨T63, hO63⟩, c63⟩
            refine iteP_true (ldIk c63 rfl (iteP_neg (decide_eq_false (by show ¬ (q : Int) > d.n; omega)) (idxN_ rfl hj ⟨_, hO63.cellM hj, idxN_ rfl hj ⟨ws j, hO63.pw.cell hj, iteP_neg (decide_eq_false ?_) ⟨_, _, _, _, _, _, _, _, _, hO63, hLm⟩⟩⟩)))
            have hwl : (ws j).len = (w j).length := Bytes.length (hO39.pw.row j hj).own.row
            simp only [if_true]
            rw [hlawj.2.2]
            omega
          · refine iteP_true (idxN_ rfl hj ⟨m j, hO56.cellM hj, idxN_ rfl hj ?_⟩)
            rw [hwm]
            refine hO56.stM hj fun h61 hO61 u61 => ⟨⟨_, hO61⟩, keepB c56 u61 fun he => ?_⟩
            have := hO56.tm
            rw [← he, hb31'] at this
            cases this
      · -- a read
        refine ldIk c39 rfl (Read_spec hO39.net (hL39.hw (by omega)) fun out h74 T74 hn74 st74 ho74 hT74 => bindB_intro (bindI_intro ?_))
        rw [rd_a hL39.brk hj] at hn74 ho74
        have hj1 : 1 - j < 2 := by omega
        have hwr : IntKind.wrap .i64 ((1 : Int) - (j : Int)) = ((1 - j : Nat) : Int) := by rw [wrap64 (by omega) (by omega)]; omega
        by_cases hm : d.n < 0
        · rw [if_pos hm] at hn74 ho74
          have hO74 := hO39.step hn74 st74
          refine idxN_ hwr hj1 ⟨rs (1 - j), hO74.pr.cell hj1, Row.rd ho74.row ?_⟩
          refine hO74.appR hj1 hwr (Bytes.length ho74.row) (by have := hL39.bnd (1 - j) hj1; simp; omega) fun h82 T2' rs' hO82 => ⟨_, _, _, _, _, _, _, _, _, hO82, ?_⟩
          have e : (fun i => if i = 1 - j then r (1 - j) ++ [] else r i) = r := by
            funext i
            split
            · rename_i hi; subst hi; simp
            · rfl
          dsimp only
          rw [e]
          exact hL39
        · rw [if_neg hm] at hn74 ho74
          have hO74 := hO39.step hn74 st74
          refine idxN_ hwr hj1 ⟨rs (1 - j), hO74.pr.cell hj1, Row.rd ho74.row ?_⟩
          refine hO74.appR hj1 hwr (Bytes.length ho74.row) (by
            have h1 := hL39.bnd (1 - j) hj1
            show (r (1 - j)).length + ((A.side (1 - j)).come.take _).length ≤ _
            rw [List.length_take]
            omega) fun h82 T2' rs' hO82 => ⟨_, _, _, _, _, _, _, _, _, hO82, hL39.read hj1 _⟩
  · have hnd : n = ds.length := by omega
    have hLn := hL.mono (Nat.le_refl n)
    refine loopM_intro (fun p h' => ∃ k : Nat, p.1 = (k : Int) ∧ k ≤ 2 ∧ ∃ T T2 A B ws rs w r m, OrdC h h' nb b14 b16 b18 T T2 ps A B ws rs w r m ∧ LawsO A B w r m n k) (fun p _ => 2 - p.1.toNat) ⟨0, rfl, by omega, _, _, _, _, _, _, _, _, _, hO, hL⟩ ?_
    clear hO hL hLn
    rintro ⟨i, u⟩ h108 ⟨k, hi, hk2, T, T2, A, B, ws, rs, w, r, m, hO, hL⟩
    dsimp only at hi
    subst hi
    dsimp only
    refine iteP_dec (fun hlt2 => ?_) (fun hge2 => hk h108 hO.ext)
    have hj : k < 2 := by omega
    have hlaw := hL.law k hj (Nat.le_refl _)
    have hbd := hL.bnd k hj
    have hrl : (rs k).len = (r k).length := Bytes.length (hO.pr.row k hj).own.row
    have hwl : (ws k).len = (w k).length := Bytes.length (hO.pw.row k hj).own.row
    have hlen : (w k).length = (r k).length + ((A.side k).come.length + (A.side k).way.length) := by rw [hlaw.2.1, List.length_append, List.length_append]
    refine idxN_ rfl hj ⟨ws k, hO.pw.cell hj, idxN_ rfl hj ⟨rs k, hO.pr.cell hj, bindI_intro ?_⟩⟩
    have hrest : IntKind.wrap .i64 (((ws k).len : Int) - ((rs k).len : Int)) = (((A.side k).come.length + (A.side k).way.length : Nat) : Int) := by
      rw [hwl, hrl, wrap64 (by omega) (by omega)]
      omega
    rw [hrest]
    generalize hR : (A.side k).come.length + (A.side k).way.length = R at hlen
    have hRb : R ≤ 137438953472 := by omega
    have hwk : IntKind.wrap .i64 ((1 : Int) - (k : Int)) = ((1 - k : Nat) : Int) := by rw [wrap64 (by omega) (by omega)]; omega
    have hk1 : 1 - k < 2 := by omega
    have hkk : 1 - (1 - k) = k := by omega
    refine Shut_spec hO.net fun h114 hn114 st114 => ?_
    rw [sh_a hL.brk hj hlaw.1] at hn114 ⊢
    have hO114 := hO.step hn114 st114
    refine iteP_false (cutP_intro (fun _ h' => ∃ T T2 A B ws rs w r m, OrdC h h' nb b14 b16 b18 T T2 ps A B ws rs w r m ∧ LawsO A B w r m n (k + 1) ∧ (A.side k).way = [] ∧ (A.side k).x = true ∧ w k = r k ++ (A.side k).come ∧ (A.side k).come.length ≤ R + 1) ?_ ?_)
    · clear hrest hlaw hbd hrl hwl hlen hn114 st114 hO114 hO hL hR
      rintro ⟨⟩ h132 ⟨T, T2, A, B, ws, rs, w, r, m, hO, hL, hA1, hA2, hA3, hA4⟩
      have hbd := hL.bnd k hj
      rw [hwk]
      have hR1 : IntKind.wrap .i64 ((R : Int) + 1) = ((R + 1 : Nat) : Int) := by rw [wrap64 (by omega) (by omega)]; omega
      rw [hR1]
      refine Read_spec hO.net (hL.hw (by omega)) fun out h136 T136 hn136 st136 ho136 _ => bindB_intro (bindI_intro ?_)
      rw [rd_a hL.brk hk1, if_neg (by omega), hkk] at hn136 ho136 ⊢
      have hmin : min ((R + 1 : Nat) : Int).toNat (A.side k).come.length = (A.side k).come.length := by omega
      rw [hmin] at hn136 ho136 ⊢
      rw [List.take_of_length_le (Nat.le_refl _)] at ho136
      dsimp only at ho136
      have hO136 := hO.step hn136 st136
      refine idxN_ rfl hj ⟨rs k, hO136.pr.cell hj, Row.rd ho136.row ?_⟩
      refine hO136.appR hj rfl (Bytes.length ho136.row) (by have := hbd; omega) fun h145 T2' rs' hO145 => ?_
      refine iteP_false (iteP_neg ?_ ?_)
      · show (!((A.side k).x && ((A.side k).way.length == 0 && ((A.side k).come.drop (A.side k).come.length).length == 0))) = false
        rw [hA1, hA2, List.drop_length]
        rfl
      · refine idxN_ rfl hj ⟨_, hO145.pr.cell hj, idxN_ rfl hj ⟨_, hO145.pw.cell hj, ?_⟩⟩
        have r1 := (hO145.pr.row k hj).own.row
        simp only [if_true] at r1
        rw [← hA3] at r1
        refine ⟨(decide (w k = w k), ()), Same_spec r1 (hO145.pw.row k hj).own.row ⟨rfl, rfl⟩, iteP_neg (by simp) (bindI_intro ?_)⟩
        rw [wrap64 (by omega) (by omega)]
        refine ⟨⟨k + 1, by omega, by omega, _, _, _, _, _, _, _, _, _, hO145, ?_⟩, by omega⟩
        refine hL.setK hj (by show (A.side k).way.length ≤ _; omega) (by rw [List.drop_length]; simp) ?_
        rw [← hA3]
        omega
    · refine iteP_dec (fun hpos => ?_) (fun hnpos => ?_)
      · have hbdw := hL.weaken.bnd k hj
        have hL1 : LawsO (A.putS k { A.side k with x := true }) B w (fun i => if i = k then r k else r i) m n (k + 1) := hL.weaken.setK hj (by show (A.side k).way.length ≤ _; omega) (by show (A.side k).come.length ≤ _; omega) (by omega)
        have hs1 : (A.putS k { A.side k with x := true }).side k = { A.side k with x := true } := by rw [side_put A hj hj, if_pos rfl]
        refine Move_spec hO114.net (hL1.hw (by omega)) fun h118 T118 hn118 st118 => ?_
        rw [mv_a (by rw [brk_put]; exact hL.brk) hj, if_neg (by omega), hs1] at hn118
        dsimp only at hn118
        have hmin : min ((R : Nat) : Int).toNat (A.side k).way.length = (A.side k).way.length := by omega
        rw [hmin, List.drop_length, List.take_of_length_le (Nat.le_refl _)] at hn118
        have hO118 := hO114.step hn118 st118
        have hL2 : LawsO ((A.putS k { A.side k with x := true }).putS k ⟨[], (A.side k).come ++ (A.side k).way, true⟩) B w (fun i => if i = k then r k else (fun i => if i = k then r k else r i) i) m n (k + 1) :=
          hL1.setK hj (by simp) (by rw [List.length_append]; omega) (by omega)
        have hs2 : ((A.putS k { A.side k with x := true }).putS k ⟨[], (A.side k).come ++ (A.side k).way, true⟩).side k = ⟨[], (A.side k).come ++ (A.side k).way, true⟩ := by rw [side_put _ hj hj, if_pos rfl]
        rw [hwk]
        have hR1 : IntKind.wrap .i64 ((R : Int) - 1) = ((R - 1 : Nat) : Int) := by rw [wrap64 (by omega) (by omega)]; omega
        rw [hR1]
        refine Read_spec hO118.net (hL2.hw (by omega)) fun out h122 T122 hn122 st122 ho122 _ => bindB_intro (bindI_intro ?_)
        rw [rd_a (by rw [brk_put, brk_put]; exact hL.brk) hk1, if_neg (by omega), hkk, hs2] at hn122 ho122 ⊢
        dsimp only at hn122 ho122 ⊢
        have hmin2 : min ((R - 1 : Nat) : Int).toNat ((A.side k).come ++ (A.side k).way).length = R - 1 := by rw [List.length_append]; omega
        rw [hmin2] at hn122 ho122 ⊢
        have hdl : (((A.side k).come ++ (A.side k).way).drop (R - 1)).length = 1 := by rw [List.length_drop, List.length_append]; omega
        have hO122 := hO118.step hn122 st122
        refine iteP_false (iteP_neg (by rw [hdl]; rfl) (idxN_ rfl hj ⟨rs k, hO122.pr.cell hj, Row.rd ho122.row ?_⟩))
        refine hO122.appR hj rfl (Bytes.length ho122.row) (by rw [List.length_take, List.length_append]; omega) fun h130 T2' rs' hO130 => ⟨_, _, _, _, _, _, _, _, _, hO130, ?_⟩
        have hL3 := hL2.setK (s := ⟨[], ((A.side k).come ++ (A.side k).way).drop (R - 1), true⟩) (l := r k ++ ((A.side k).come ++ (A.side k).way).take (R - 1)) hj (by simp) (by rw [hdl]; omega) (by rw [List.length_append, List.length_take, List.length_append]; omega)
        have hre : (fun i => if i = k then r k ++ ((A.side k).come ++ (A.side k).way).take (R - 1) else (fun i => if i = k then r k else (fun i => if i = k then r k else r i) i) i) = (fun i => if i = k then r k ++ ((A.side k).come ++ (A.side k).way).take (R - 1) else r i) := by
          funext i
          by_cases hik : i = k
          · simp [hik]
          · simp [hik]
        rw [hre] at hL3
        refine ⟨hL3, ?_, ?_, ?_, ?_⟩
        · rw [side_put _ hj hj, if_pos rfl]
        · rw [side_put _ hj hj, if_pos rfl]
        · rw [side_put _ hj hj, if_pos rfl]
          simp only [if_true]
          rw [hlaw.2.1, List.append_assoc, List.take_append_drop]
        · rw [side_put _ hj hj, if_pos rfl, hdl]
          omega
      · have hR0 : R = 0 := by omega
        have hc0 : (A.side k).come = [] := List.eq_nil_of_length_eq_zero (by omega)
        have hw0 : (A.side k).way = [] := List.eq_nil_of_length_eq_zero (by omega)
        have hL1 : LawsO (A.putS k { A.side k with x := true }) B w (fun i => if i = k then r k else r i) m n (k + 1) := hL.weaken.setK hj (by show (A.side k).way.length ≤ _; omega) (by show (A.side k).come.length ≤ _; omega) (by omega)
        have hre : (fun i => if i = k then r k else r i) = r := by
          funext i
          by_cases hik : i = k
          · simp [hik]
          · simp [hik]
        rw [hre] at hL1
        refine ⟨_, _, _, _, _, _, _, _, _, hO114, hL1, ?_, ?_, ?_, ?_⟩
        · rw [side_put A hj hj, if_pos rfl]; exact hw0
        · rw [side_put A hj hj, if_pos rfl]
        · rw [side_put A hj hj, if_pos rfl]
          show w k = r k ++ (A.side k).come
          rw [hlaw.2.1, hc0, hw0]
          simp
        · rw [side_put A hj hj, if_pos rfl]
          show (A.side k).come.length ≤ _
          omega

end Go.Proofs.Ytgkgheaanfgecaa
