/- An evaluator by rewriting: what each word of the models comes to on a memory that is written out (blocks pushed, cells put). Plain laws, no program. -/
import Derived.Test.YtledmkhbaacdnaaFwU
namespace Go.Fw
open Go

def obj (h : Heap) (b : Nat) : Option Obj := h[b]?
def sz (h : Heap) : Nat := h.size
theorem size_def {h : Heap} : Array.size h = sz h := rfl
theorem get_def {h : Heap} {b : Nat} : h[b]? = obj h b := rfl
theorem sz_push {h : Heap} {x : Obj} : sz (h.push x) = sz h + 1 := by unfold sz; simp
theorem sz_put {h : Heap} {b o : Nat} {v : Value} : sz (h.put b o v) = sz h := by unfold sz; exact put_size
theorem obj_push {h : Heap} {x : Obj} {b : Nat} : obj (h.push x) b = if b = sz h then some x else obj h b := by
  unfold obj sz; rw [Array.getElem?_push]
def objSet (o : Nat) (v : Value) : Option Obj → Option Obj
  | some (.cells c e f) => some (.cells (c.setIfInBounds o v) e f)
  | x => x
theorem objSet_cells {o : Nat} {v : Value} {l : List Value} {e : TypeId} {f : Nat × Nat} : objSet o v (some (.cells l.toArray e f)) = some (.cells (l.set o v).toArray e f) := by
  simp [objSet]
theorem obj_put {h : Heap} {b o k : Nat} {v : Value} : obj (h.put b o v) k = if k = b then objSet o v (obj h k) else obj h k := by
  unfold obj Heap.put
  rw [Array.getElem?_modify]
  by_cases hk : b = k
  · subst hk
    rw [if_pos rfl, if_pos rfl]
    cases h[b]? with
    | none => rfl
    | some x => cases x <;> rfl
  · rw [if_neg hk, if_neg (Ne.symm hk)]
def objCell (o : Nat) : Option Obj → Option Value
  | some (.cells c _ _) => c[o]?
  | _ => none
def objFree (o : Nat) : Option Obj → Bool
  | some (.cells c _ f) => decide (o < c.size) && (f.1 == 0 && f.2 == 0)
  | _ => false
theorem objCell_cells {o : Nat} {l : List Value} {e : TypeId} {f : Nat × Nat} : objCell o (some (.cells l.toArray e f)) = l[o]? := by simp [objCell]
theorem objFree_cells {o : Nat} {l : List Value} {e : TypeId} : objFree o (some (.cells l.toArray e (0, 0))) = decide (o < l.length) := by simp [objFree]
theorem cell_def {h : Heap} {b o : Nat} : h.cell b o = objCell o (obj h b) := by unfold Heap.cell obj objCell; rfl
theorem free_cell {h : Heap} {b o : Nat} (hf : objFree o (obj h b) = true) : (∃ u, h.cell b o = some u) ∧ h.froz b o = false := by
  unfold objFree at hf
  split at hf
  · rename_i c e f hb
    simp only [Bool.and_eq_true, decide_eq_true_eq, beq_iff_eq] at hf
    obtain ⟨h1, h2, h3⟩ := hf
    have hb' : h[b]? = some (.cells c e f) := hb
    refine ⟨⟨c[o], by unfold Heap.cell; rw [hb']; simp [h1]⟩, ?_⟩
    unfold Heap.froz
    rw [hb']
    obtain ⟨lo, hi⟩ := f
    simp only at h2 h3
    subst h2 h3
    simp
  · cases hf

/-! ### the words -/
theorem bindI_ev {n : Int} {K : Int → Prop} : bindI n K = K n := propext ⟨fun h => h, fun h => h⟩
theorem bindB_ev {n : Bool} {K : Bool → Prop} : bindB n K = K n := propext ⟨fun h => h, fun h => h⟩
theorem newC_ev {h : Heap} {cells : List Value} {t : TypeId} {K : Nat → Heap → Prop} : newC h cells t K = K (sz h) (h.push (.cells cells.toArray t (0, 0))) := propext ⟨fun h => h, fun h => h⟩
theorem newMap_ev {h : Heap} {K : Nat → Heap → Prop} : newMap h K = K (sz h) (h.push (.map #[] 0)) := propext ⟨fun h => h, fun h => h⟩
theorem need_ev {p K : Prop} : need p K = (p ∧ K) := propext ⟨fun h => h, fun h => h⟩
theorem bothP_ev {p K : Prop} : bothP p K = (p ∧ K) := propext ⟨fun h => h, fun h => h⟩
theorem deref_ev {b o : Nat} {K : Nat → Nat → Prop} : derefP (some ⟨b, o, none⟩) K = K b o := propext ⟨fun ⟨b', o', e, h⟩ => (by cases e; exact h), fun h => ⟨b, o, rfl, h⟩⟩
theorem iteT_ev {A B : Prop} : iteP true A B = A := propext ⟨fun h => h.1 rfl, fun h => iteP_true h⟩
theorem iteF_ev {A B : Prop} : iteP false A B = B := propext ⟨fun h => h.2 rfl, fun h => iteP_false h⟩
theorem ldI_ev {h : Heap} {b o : Nat} {k : IntKind} {n : Int} {K : Int → Prop} (hc : objCell o (obj h b) = some (.int k n)) : ldI h b o k K = K n :=
  propext ⟨fun ⟨m, e, hk⟩ => (by rw [cell_def, hc] at e; cases e; exact hk), fun hk => ⟨n, by rw [cell_def, hc], hk⟩⟩
theorem ldB_ev {h : Heap} {b o : Nat} {n : Bool} {K : Bool → Prop} (hc : objCell o (obj h b) = some (.bool n)) : ldB h b o K = K n :=
  propext ⟨fun ⟨m, e, hk⟩ => (by rw [cell_def, hc] at e; cases e; exact hk), fun hk => ⟨n, by rw [cell_def, hc], hk⟩⟩
theorem ldS_ev {h : Heap} {b o : Nat} {n : ByteArray} {K : ByteArray → Prop} (hc : objCell o (obj h b) = some (.string n)) : ldS h b o K = K n :=
  propext ⟨fun ⟨m, e, hk⟩ => (by rw [cell_def, hc] at e; cases e; exact hk), fun hk => ⟨n, by rw [cell_def, hc], hk⟩⟩
theorem ldP_ev {h : Heap} {b o : Nat} {n : Option Addr} {K : Option Addr → Prop} (hc : objCell o (obj h b) = some (.pointer n)) : ldP h b o K = K n :=
  propext ⟨fun ⟨m, e, hk⟩ => (by rw [cell_def, hc] at e; cases e; exact hk), fun hk => ⟨n, by rw [cell_def, hc], hk⟩⟩
theorem ldM_ev {h : Heap} {b o : Nat} {n : Option Nat} {K : Option Nat → Prop} (hc : objCell o (obj h b) = some (.map n)) : ldM h b o K = K n :=
  propext ⟨fun ⟨m, e, hk⟩ => (by rw [cell_def, hc] at e; cases e; exact hk), fun hk => ⟨n, by rw [cell_def, hc], hk⟩⟩
theorem ldV_ev {h : Heap} {b o : Nat} {n : Value} {K : Value → Prop} (hc : objCell o (obj h b) = some n) : ldV h b o K = K n :=
  propext ⟨fun ⟨m, e, hk⟩ => (by rw [cell_def, hc] at e; cases e; exact hk), fun hk => ⟨n, by rw [cell_def, hc], hk⟩⟩
theorem ldL_ev {h : Heap} {b o : Nat} {p : Option Addr} {l c : Nat} {K : Sl → Prop} (hc : objCell o (obj h b) = some (.slice p l c)) : ldL h b o K = K ⟨p, l, c⟩ :=
  propext ⟨fun ⟨m, e, hk⟩ => (by rw [cell_def, hc] at e; cases e; exact hk), fun hk => ⟨⟨p, l, c⟩, by rw [cell_def, hc], hk⟩⟩
theorem st_ev {h : Heap} {b o : Nat} {v : Value} {K : Heap → Prop} (hf : objFree o (obj h b) = true) (hv : oneCell v = true) : st h b o v K = K (h.put b o v) :=
  propext ⟨fun hk => hk.2.2.2, fun hk => ⟨(free_cell hf).1, (free_cell hf).2, hv, hk⟩⟩
def freesB : List Nat → Option Obj → Bool
  | [], _ => true
  | o :: os, x => objFree o x && freesB os x
theorem free_ofB {h : Heap} {b : Nat} : ∀ (n o : Nat), (∀ i, i < n → objFree (o + i) (obj h b) = true) → h.free b o n
  | 0, _, _ => trivial
  | n + 1, o, hf => ⟨free_cell (by have := hf 0 (by omega); simpa using this), free_ofB n (o + 1) fun i hi => by have := hf (i + 1) (by omega); rw [show o + 1 + i = o + (i + 1) from by omega]; exact this⟩
def freeN (o n : Nat) : Option Obj → Bool
  | some (.cells c _ f) => decide (o + n ≤ c.size) && (f.1 == 0 && f.2 == 0)
  | _ => false
theorem freeN_cells {o n : Nat} {l : List Value} {e : TypeId} : freeN o n (some (.cells l.toArray e (0, 0))) = decide (o + n ≤ l.length) := by simp [freeN]
theorem freeN_of {h : Heap} {b o n : Nat} (hf : freeN o n (obj h b) = true) : h.free b o n := by
  refine free_ofB n o fun i hi => ?_
  unfold freeN at hf
  split at hf
  · rename_i c e f hb
    rw [hb]
    simp only [Bool.and_eq_true, decide_eq_true_eq] at hf
    simp only [objFree, Bool.and_eq_true, decide_eq_true_eq]
    exact ⟨by omega, hf.2⟩
  · cases hf
theorem sts_ev {h : Heap} {b o : Nat} {vs : List Value} {K : Heap → Prop} (hf : freeN o vs.length (obj h b) = true) (hv : vs.all oneCell = true) : sts h b o vs K = K (h.puts b o vs) :=
  propext ⟨fun hk => hk.2.2, fun hk => ⟨freeN_of hf, hv, hk⟩⟩
theorem sz_puts {h : Heap} {b o : Nat} {vs : List Value} : sz (h.puts b o vs) = sz h := puts_size
def objPuts : Nat → List Value → Option Obj → Option Obj
  | _, [], x => x
  | o, v :: vs, x => objPuts (o + 1) vs (objSet o v x)
def listPuts : Nat → List Value → List Value → List Value
  | _, [], l => l
  | o, v :: vs, l => listPuts (o + 1) vs (l.set o v)
theorem objPuts_cells {e : TypeId} {f : Nat × Nat} : ∀ {vs : List Value} {o : Nat} {l : List Value}, objPuts o vs (some (.cells l.toArray e f)) = some (.cells (listPuts o vs l).toArray e f)
  | [], _, _ => rfl
  | v :: vs, o, l => by unfold objPuts listPuts; rw [objSet_cells, objPuts_cells]
theorem obj_puts {b : Nat} : ∀ {vs : List Value} {h : Heap} {o k : Nat}, obj (h.puts b o vs) k = if k = b then objPuts o vs (obj h k) else obj h k
  | [], h, o, k => by
    unfold Heap.puts objPuts
    split <;> rfl
  | v :: vs, h, o, k => by
    unfold Heap.puts
    rw [obj_puts, obj_put]
    by_cases hk : k = b
    · rw [if_pos hk, if_pos hk, if_pos hk]; rfl
    · rw [if_neg hk, if_neg hk, if_neg hk]
theorem heldL_nil {h : Heap} : heldL h [] = True := rfl
theorem heldL_cons {h : Heap} {b o : Nat} {v : Value} {r : List (Nat × Nat × Value)} : heldL h ((b, o, v) :: r) = (objCell o (obj h b) = some v ∧ heldL h r) := by
  rw [← cell_def]; rfl
theorem has_nil {h : Heap} {b o : Nat} : h.has b o [] = True := rfl
theorem idxA_ev {b o l size : Nat} {i : Int} {n : Nat} {K : Nat → Nat → Prop} (hi : i = (n : Int)) (hl : n < l) (hk : K b (o + n * size)) : idxA (some ⟨b, o, none⟩) l i size K := by
  subst hi
  exact ⟨b, o, rfl, by omega, by omega, by simpa using hk⟩

theorem ldI_ex {h : Heap} {b o : Nat} {k : IntKind} {K : Int → Prop} : ldI h b o k K = ∃ n, objCell o (obj h b) = some (.int k n) ∧ K n := by
  unfold ldI; exact propext ⟨fun ⟨n, e, hk⟩ => ⟨n, cell_def ▸ e, hk⟩, fun ⟨n, e, hk⟩ => ⟨n, cell_def.trans e, hk⟩⟩
theorem ldB_ex {h : Heap} {b o : Nat} {K : Bool → Prop} : ldB h b o K = ∃ n, objCell o (obj h b) = some (.bool n) ∧ K n := by
  unfold ldB; exact propext ⟨fun ⟨n, e, hk⟩ => ⟨n, cell_def ▸ e, hk⟩, fun ⟨n, e, hk⟩ => ⟨n, cell_def.trans e, hk⟩⟩
theorem ldS_ex {h : Heap} {b o : Nat} {K : ByteArray → Prop} : ldS h b o K = ∃ n, objCell o (obj h b) = some (.string n) ∧ K n := by
  unfold ldS; exact propext ⟨fun ⟨n, e, hk⟩ => ⟨n, cell_def ▸ e, hk⟩, fun ⟨n, e, hk⟩ => ⟨n, cell_def.trans e, hk⟩⟩
theorem ldP_ex {h : Heap} {b o : Nat} {K : Option Addr → Prop} : ldP h b o K = ∃ n, objCell o (obj h b) = some (.pointer n) ∧ K n := by
  unfold ldP; exact propext ⟨fun ⟨n, e, hk⟩ => ⟨n, cell_def ▸ e, hk⟩, fun ⟨n, e, hk⟩ => ⟨n, cell_def.trans e, hk⟩⟩
theorem ldM_ex {h : Heap} {b o : Nat} {K : Option Nat → Prop} : ldM h b o K = ∃ n, objCell o (obj h b) = some (.map n) ∧ K n := by
  unfold ldM; exact propext ⟨fun ⟨n, e, hk⟩ => ⟨n, cell_def ▸ e, hk⟩, fun ⟨n, e, hk⟩ => ⟨n, cell_def.trans e, hk⟩⟩
theorem ldV_ex {h : Heap} {b o : Nat} {K : Value → Prop} : ldV h b o K = ∃ n, objCell o (obj h b) = some n ∧ K n := by
  unfold ldV; exact propext ⟨fun ⟨n, e, hk⟩ => ⟨n, cell_def ▸ e, hk⟩, fun ⟨n, e, hk⟩ => ⟨n, cell_def.trans e, hk⟩⟩
theorem ldL_ex {h : Heap} {b o : Nat} {K : Sl → Prop} : ldL h b o K = ∃ s : Sl, objCell o (obj h b) = some (slV s) ∧ K s := by
  unfold ldL; exact propext ⟨fun ⟨n, e, hk⟩ => ⟨n, cell_def ▸ e, hk⟩, fun ⟨n, e, hk⟩ => ⟨n, cell_def.trans e, hk⟩⟩
theorem slV_eq {s t : Sl} : (slV s = slV t) = (s = t) := by
  refine propext ⟨fun h => ?_, fun h => by rw [h]⟩
  cases s; cases t
  unfold slV at h
  injection h with h1 h2 h3
  subst h1 h2 h3
  rfl
/-- a loop, and a cut, whose way on is hidden from the rewriting -/
theorem loopQ {σ : Type} {body : (σ → Heap → Prop) → σ → Heap → Prop} {s : σ} {h : Heap} (I : σ → Heap → Prop) (μ : σ → Heap → Nat)
    (h0 : I s h) (hr : ∀ s h, I s h → ∀ Q : σ → Heap → Prop, (∀ s' h', I s' h' → μ s' h' < μ s h → Q s' h') → body Q s h) : loopM body s h := ⟨I, μ, h0, fun s h hs => hr s h hs _ fun _ _ a b => ⟨a, b⟩⟩
theorem cutQ {σ : Type} {rest : σ → Heap → Prop} {pre : (σ → Heap → Prop) → Prop} (J : σ → Heap → Prop)
    (h1 : ∀ s h, J s h → rest s h) (h2 : ∀ Q : σ → Heap → Prop, (∀ s h, J s h → Q s h) → pre Q) : cutP rest pre := ⟨J, h1, h2 _ fun _ _ h => h⟩
theorem sl_eta {s : Sl} : Value.slice s.ptr s.len s.cap = slV s := rfl
theorem one_int {k : IntKind} {n : Int} : oneCell (.int k n) = true := by simp [oneCell]
theorem one_bool {b : Bool} : oneCell (.bool b) = true := by simp [oneCell]
theorem one_str {b : ByteArray} : oneCell (.string b) = true := by simp [oneCell]
theorem one_ptr {b : Option Addr} : oneCell (.pointer b) = true := by simp [oneCell]
theorem one_sl {b : Option Addr} {l c : Nat} : oneCell (.slice b l c) = true := by simp [oneCell]
theorem one_slV {s : Sl} : oneCell (slV s) = true := by simp [oneCell, slV]
theorem one_map {b : Option Nat} : oneCell (.map b) = true := by simp [oneCell]
theorem one_iface {t : TypeId} {v : Value} : oneCell (.iface t v) = true := by simp [oneCell]
theorem one_nilI : oneCell .nilIface = true := by simp [oneCell]
theorem one_fn {f : Fn} {a b : Array Value} : oneCell (.func f a b) = true := by simp [oneCell]
theorem lt_ne {h : Heap} {b : Nat} (hb : b < sz h) (k : Nat) : (b = sz h + k) = False := eq_false (by omega)
theorem lt_ne0 {h : Heap} {b : Nat} (hb : b < sz h) : (b = sz h) = False := eq_false (by omega)
theorem lt_en {h : Heap} {b : Nat} (hb : b < sz h) (k : Nat) : (sz h + k = b) = False := eq_false (by omega)
theorem lt_en0 {h : Heap} {b : Nat} (hb : b < sz h) : (sz h = b) = False := eq_false (by omega)

/-! ### what stays -/
theorem ext_obj {h h' : Heap} (e : Ext h h') {b : Nat} (hb : b < sz h) : obj h' b = obj h b := e.old b hb
theorem upd_obj {S : Nat → Prop} {h h' : Heap} (e : Upd S h h') {b : Nat} (hb : b < sz h) (hs : ¬ S b) : obj h' b = obj h b := e.old b hb hs
theorem ext_sz {h h' : Heap} (e : Ext h h') : sz h ≤ sz h' := e.size
theorem ext_push {h h1 : Heap} {x : Obj} (he : Ext h h1) : Ext h (h1.push x) := he.trans (Ext.push _ _)
theorem ext_put {h h1 : Heap} {b o : Nat} {v : Value} (he : Ext h h1) (hb : sz h ≤ b) : Ext h (h1.put b o v) :=
  he.then (Upd.put _ _ _ _) fun k hk => by subst hk; exact hb
theorem ext_puts {h h1 : Heap} {b o : Nat} {vs : List Value} (he : Ext h h1) (hb : sz h ≤ b) : Ext h (h1.puts b o vs) :=
  he.then (Upd.puts _ _ _ _) fun k hk => by subst hk; exact hb
theorem upd_push {S : Nat → Prop} {h h1 : Heap} {x : Obj} (he : Upd S h h1) : Upd S h (h1.push x) := ⟨Nat.le_trans he.size (by simp), fun k hk hs => (push_old (Nat.lt_of_lt_of_le hk he.size)).trans (he.old k hk hs)⟩
theorem upd_put {S : Nat → Prop} {h h1 : Heap} {b o : Nat} {v : Value} (he : Upd S h h1) (hb : sz h ≤ b ∨ S b) : Upd S h (h1.put b o v) :=
  ⟨by rw [put_size]; exact he.size, fun k hk hs => (put_other fun e => by subst e; exact hb.elim (fun h9 => by unfold sz at h9; omega) hs).trans (he.old k hk hs)⟩
theorem upd_puts {S : Nat → Prop} {h h1 : Heap} {b o : Nat} {vs : List Value} (he : Upd S h h1) (hb : sz h ≤ b ∨ S b) : Upd S h (h1.puts b o vs) :=
  ⟨by rw [puts_size]; exact he.size, fun k hk hs => (puts_other fun e => by subst e; exact hb.elim (fun h9 => by unfold sz at h9; omega) hs).trans (he.old k hk hs)⟩
theorem obj_lt {h : Heap} {b : Nat} {x : Obj} (hb : obj h b = some x) : b < sz h := by
  unfold obj at hb
  rcases Nat.lt_or_ge b h.size with hl | hl
  · exact hl
  · rw [Array.getElem?_eq_none hl] at hb; cases hb

theorem keepX {h h' : Heap} {b : Nat} {x : Obj} (hb : obj h b = some x) (e : Ext h h') : obj h' b = some x := (ext_obj e (obj_lt hb)).trans hb
theorem keepU {S : Nat → Prop} {h h' : Heap} {b : Nat} {x : Obj} (hb : obj h b = some x) (e : Upd S h h') (hs : ¬ S b) : obj h' b = some x := (upd_obj e (obj_lt hb) hs).trans hb

/-! ### ranges over functions -/
theorem sz_setO {h : Heap} {l : Nat} {o : Obj} : sz (setO h l o) = sz h := by unfold sz setO; simp
theorem obj_setO {h : Heap} {l k : Nat} {o : Obj} (hl : l < sz h) : obj (setO h l o) k = if k = l then some o else obj h k := by
  unfold obj setO
  by_cases hk : k = l
  · subst hk
    rw [if_pos rfl, Array.getElem?_setIfInBounds_self_of_lt hl]
  · rw [if_neg hk, Array.getElem?_setIfInBounds_ne (Ne.symm hk)]
theorem upd_setO {S : Nat → Prop} {h h1 : Heap} {l : Nat} {o : Obj} (he : Upd S h h1) (hb : sz h ≤ l ∨ S l) : Upd S h (setO h1 l o) :=
  ⟨by unfold setO; simp; exact he.size, fun k hk hs => by
    unfold setO
    rw [Array.getElem?_setIfInBounds_ne (fun e => by subst e; exact hb.elim (fun h9 => by unfold sz at h9; omega) hs)]
    exact he.old k hk hs⟩
theorem ext_setO {h h1 : Heap} {l : Nat} {o : Obj} (he : Ext h h1) (hb : sz h ≤ l) : Ext h (setO h1 l o) :=
  (upd_setO (S := fun _ => False) (he.upd _) (.inl hb)).ext fun _ _ h => h
theorem isRec_ev {h : Heap} {l : Nat} {r : Loop} {st : LoopState} {p : Option Code} {K : Prop} : isRec h l r st p K = (obj h l = some (recSt r st p) ∧ K) := rfl
theorem busyM_ev {r : Loop} {l : Nat} {h : Heap} {K : Heap → Prop} : busyM r l h K = (obj h l = some (recSt r .ready none) ∧ K (setO h l (recSt r .busy none))) := propext ⟨fun h => h, fun h => h⟩
theorem shutM_ev {D : Nat} {h : Heap} {K : Heap → Prop} : shutM D h K = (obj h D = some (.deferred (some [])) ∧ K (setO h D (.deferred none))) := propext ⟨fun h => h, fun h => h⟩
theorem rangeM_ev {n : Nat} {it : Yld → Nat → (Heap → Prop) → Heap → Prop} {body : Nat → Loop → List Value → Heap → (Option Code → Heap → Prop) → Prop} {h : Heap} {K : Option Code → Nat → Heap → Prop} :
    rangeM n it body h K = ∀ r : Loop, it (yieldM r (sz h + 1) n (body (sz h + 1) r)) (sz h + 1)
      (fun h' => ∃ st p, st ≠ .busy ∧ (obj h' (sz h + 1) = some (recSt r st p) ∧ K p (sz h) (setO h' (sz h + 1) (recSt r .exhausted p)))) ((h.push (.deferred (some []))).push (recSt r .ready none)) := propext ⟨fun h => h, fun h => h⟩
theorem yieldM_ev {r : Loop} {l n : Nat} {body : List Value → Heap → (Option Code → Heap → Prop) → Prop} {l' : Nat} {vs : List Value} {k : Bool → Heap → Prop} {h : Heap} :
    yieldM r l n body l' vs k h = (l' = l ∧ vs.length = n ∧ (obj h l = some (recSt r .ready none) ∧ body vs h fun p h' => (obj h' l = some (recSt r .busy none) ∧ k p.isNone (setO h' l (recSt r (if p.isNone then .ready else .done) p))))) := propext ⟨fun h => h, fun h => h⟩
theorem jump_none {N : Prop} {X : Nat → Prop} {R : Prop} : jumpP none N X R = N := rfl
theorem jump_ret {N : Prop} {X : Nat → Prop} {R : Prop} : jumpP (some .ret) N X R = R := rfl
theorem jump_exit {id : Nat} {N : Prop} {X : Nat → Prop} {R : Prop} : jumpP (some (.exit id)) N X R = X id := rfl
theorem Ext.updS {h h1 h2 : Heap} {S : Nat → Prop} (e : Ext h h1) (u : Upd S h1 h2) (hs : ∀ k, S k → sz h ≤ k) : Ext h h2 := e.then u fun k hk => hs k hk

/-- the rewriting laws, gathered -/
theorem evAll : (∀ {h : Heap} {cells : List Value} {t : TypeId} {K : Nat → Heap → Prop}, newC h cells t K = K (sz h) (h.push (.cells cells.toArray t (0, 0)))) ∧
  (∀ {h : Heap} {K : Nat → Heap → Prop}, newMap h K = K (sz h) (h.push (.map #[] 0))) ∧
  (∀ {n : Int} {K : Int → Prop}, bindI n K = K n) ∧
  (∀ {n : Bool} {K : Bool → Prop}, bindB n K = K n) ∧
  (∀ {p K : Prop}, need p K = (p ∧ K)) ∧
  (∀ {p K : Prop}, bothP p K = (p ∧ K)) ∧
  (∀ {b o : Nat} {K : Nat → Nat → Prop}, derefP (some ⟨b, o, none⟩) K = K b o) ∧
  (∀ {A B : Prop}, iteP true A B = A) ∧
  (∀ {A B : Prop}, iteP false A B = B) ∧
  (∀ {h : Heap} {b o : Nat} {k : IntKind} {K : Int → Prop}, ldI h b o k K = ∃ n, objCell o (obj h b) = some (.int k n) ∧ K n) ∧
  (∀ {h : Heap} {b o : Nat} {K : Bool → Prop}, ldB h b o K = ∃ n, objCell o (obj h b) = some (.bool n) ∧ K n) ∧
  (∀ {h : Heap} {b o : Nat} {K : ByteArray → Prop}, ldS h b o K = ∃ n, objCell o (obj h b) = some (.string n) ∧ K n) ∧
  (∀ {h : Heap} {b o : Nat} {K : Option Addr → Prop}, ldP h b o K = ∃ n, objCell o (obj h b) = some (.pointer n) ∧ K n) ∧
  (∀ {h : Heap} {b o : Nat} {K : Option Nat → Prop}, ldM h b o K = ∃ n, objCell o (obj h b) = some (.map n) ∧ K n) ∧
  (∀ {h : Heap} {b o : Nat} {K : Value → Prop}, ldV h b o K = ∃ n, objCell o (obj h b) = some n ∧ K n) ∧
  (∀ {h : Heap} {b o : Nat} {K : Sl → Prop}, ldL h b o K = ∃ s : Sl, objCell o (obj h b) = some (slV s) ∧ K s) ∧
  (∀ {h : Heap} {b o : Nat} {v : Value} {K : Heap → Prop} (hf : objFree o (obj h b) = true) (hv : oneCell v = true), st h b o v K = K (h.put b o v)) ∧
  (∀ {h : Heap} {b o : Nat} {vs : List Value} {K : Heap → Prop} (hf : freeN o vs.length (obj h b) = true) (hv : vs.all oneCell = true), sts h b o vs K = K (h.puts b o vs)) ∧
  (∀ {h : Heap} {x : Obj}, sz (h.push x) = sz h + 1) ∧
  (∀ {h : Heap} {b o : Nat} {v : Value}, sz (h.put b o v) = sz h) ∧
  (∀ {h : Heap} {b o : Nat} {vs : List Value}, sz (h.puts b o vs) = sz h) ∧
  (∀ {h : Heap} {x : Obj} {b : Nat}, obj (h.push x) b = if b = sz h then some x else obj h b) ∧
  (∀ {h : Heap} {b o k : Nat} {v : Value}, obj (h.put b o v) k = if k = b then objSet o v (obj h k) else obj h k) ∧
  (∀ {b : Nat} {vs : List Value} {h : Heap} {o k : Nat}, obj (h.puts b o vs) k = if k = b then objPuts o vs (obj h k) else obj h k) ∧
  (∀ {o : Nat} {v : Value} {l : List Value} {e : TypeId} {f : Nat × Nat}, objSet o v (some (.cells l.toArray e f)) = some (.cells (l.set o v).toArray e f)) ∧
  (∀ {e : TypeId} {f : Nat × Nat}, (∀ {vs : List Value} {o : Nat} {l : List Value}, objPuts o vs (some (.cells l.toArray e f)) = some (.cells (listPuts o vs l).toArray e f))) ∧
  (∀ {o : Nat} {l : List Value} {e : TypeId} {f : Nat × Nat}, objCell o (some (.cells l.toArray e f)) = l[o]?) ∧
  (∀ {o : Nat} {l : List Value} {e : TypeId}, objFree o (some (.cells l.toArray e (0, 0))) = decide (o < l.length)) ∧
  (∀ {o n : Nat} {l : List Value} {e : TypeId}, freeN o n (some (.cells l.toArray e (0, 0))) = decide (o + n ≤ l.length)) ∧
  (∀ {h : Heap}, heldL h [] = True) ∧
  (∀ {h : Heap} {b o : Nat} {v : Value} {r : List (Nat × Nat × Value)}, heldL h ((b, o, v) :: r) = (objCell o (obj h b) = some v ∧ heldL h r)) ∧
  (∀ {h : Heap}, Array.size h = sz h) ∧
  (∀ {s t : Sl}, (slV s = slV t) = (s = t)) ∧
  (∀ {s : Sl}, Value.slice s.ptr s.len s.cap = slV s) ∧
  (∀ {k : IntKind} {n : Int}, oneCell (.int k n) = true) ∧
  (∀ {b : Bool}, oneCell (.bool b) = true) ∧
  (∀ {b : ByteArray}, oneCell (.string b) = true) ∧
  (∀ {b : Option Addr}, oneCell (.pointer b) = true) ∧
  (∀ {b : Option Addr} {l c : Nat}, oneCell (.slice b l c) = true) ∧
  (∀ {s : Sl}, oneCell (slV s) = true) ∧
  (∀ {b : Option Nat}, oneCell (.map b) = true) ∧
  (∀ {t : TypeId} {v : Value}, oneCell (.iface t v) = true) ∧
  (oneCell .nilIface = true) ∧
  (∀ {f : Fn} {a b : Array Value}, oneCell (.func f a b) = true) ∧
  (∀ (h : Heap), Ext h h) ∧
  (∀ {h h1 : Heap} {x : Obj} (he : Ext h h1), Ext h (h1.push x)) ∧
  (∀ {h h1 : Heap} {b o : Nat} {v : Value} (he : Ext h h1) (hb : sz h ≤ b), Ext h (h1.put b o v)) ∧
  (∀ {h h1 : Heap} {b o : Nat} {vs : List Value} (he : Ext h h1) (hb : sz h ≤ b), Ext h (h1.puts b o vs)) ∧
  (∀ (p : Prop), (p ∧ p) = p) ∧
  (∀ (p : Prop), (True ∧ p) = p) ∧
  (∀ (p : Prop), (p ∧ True) = p) ∧
  (∀ (b : Bool), (b && b) = b) ∧
  (∀ (b : Bool), (true && b) = b) ∧
  (∀ (b : Bool), (b && true) = b) ∧
  ((!true) = false) ∧
  ((!false) = true) ∧
  (∀ {p : Prop} [Decidable p], (decide p = true) = p) ∧
  (∀ (n : Nat), 0 + n = n) ∧
  (∀ (n : Nat), n + 0 = n) ∧
  (∀ (n m k : Nat), n + m + k = n + (m + k)) ∧
  (∀ {m k n : Nat}, n + m = n + k ↔ m = k) ∧
  (∀ {a b : Nat}, a + b = a ↔ b = 0) ∧
  (∀ {a b : Nat}, a = a + b ↔ b = 0) ∧
  (∀ {m k n : Nat}, n + m ≤ n + k ↔ m ≤ k) ∧
  (∀ (n k : Nat), n ≤ n + k) ∧
  (∀ (n : Nat), n ≤ n) ∧
  ((1 : Nat) ≠ 0) ∧
  (∀ {k n m : Nat}, k + n < k + m ↔ n < m) ∧
  (∀ {n k : Nat}, n < n + k ↔ 0 < k) :=
  ⟨@newC_ev, @newMap_ev, @bindI_ev, @bindB_ev, @need_ev, @bothP_ev, @deref_ev, @iteT_ev, @iteF_ev, @ldI_ex, @ldB_ex, @ldS_ex, @ldP_ex, @ldM_ex, @ldV_ex, @ldL_ex, @st_ev, @sts_ev, @sz_push, @sz_put, @sz_puts, @obj_push, @obj_put, @obj_puts, @objSet_cells, @objPuts_cells, @objCell_cells, @objFree_cells, @freeN_cells, @heldL_nil, @heldL_cons, @size_def, @slV_eq, @sl_eta, @one_int, @one_bool, @one_str, @one_ptr, @one_sl, @one_slV, @one_map, @one_iface, @one_nilI, @one_fn, @Ext.refl, @ext_push, @ext_put, @ext_puts, @and_self, @true_and, @and_true, @Bool.and_self, @Bool.true_and, @Bool.and_true, Bool.not_true, Bool.not_false, @decide_eq_true_eq, @Nat.zero_add, @Nat.add_zero, @Nat.add_assoc, @Nat.add_left_cancel_iff, @Nat.add_eq_left, @Nat.left_eq_add, @Nat.add_le_add_iff_left, @Nat.le_add_right, @Nat.le_refl, Nat.one_ne_zero, @Nat.add_lt_add_iff_left, @Nat.lt_add_right_iff_pos⟩

end Go.Fw
