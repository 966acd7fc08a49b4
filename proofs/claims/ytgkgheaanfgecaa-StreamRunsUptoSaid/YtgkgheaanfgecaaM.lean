/- The models of the functions. Written by a program out of the translated functions. -/
import Derived.Test.YtgkgheaanfgecaaFwA
import GoSem.Machine.Frame
import GoSem.Op.String
namespace Go.Proofs.Ytgkgheaanfgecaa
open Go Go.Fw

/-- stream.New -/
def g_stream_New (K : (Option Addr) → Heap → Prop) (h : Heap) : Prop :=
  newMap h fun b h1 => 
  newC h1 [Value.map (some b), Value.slice none 0 0] 60 fun b2 h3 => 
  K (some ⟨b2, 0, none⟩) h3

def m_stream_New (K : (Option Addr) → Heap → Prop) (h : Heap) : Prop := g_stream_New  K h

/-- (*stream.Net).arePorts$1 -/
def g_stream_Net_arePorts_1 (p : Int) (K : Bool → Heap → Prop) (h : Heap) : Prop :=
  iteP (decide (p < 1)) (
    K true h) (
    bindB (decide (p > 65535)) fun t => 
    K t h)

def m_stream_Net_arePorts_1 (p : Int) (K : Bool → Heap → Prop) (h : Heap) : Prop := g_stream_Net_arePorts_1 p K h

/-- slices.IndexFunc[[]int,int] -/
def g_slices_IndexFunc_int_int___stream_Net_arePorts_1 (f_stream_Net_arePorts_1 : Int → (Bool → Heap → Prop) → Heap → Prop) (s : Sl) (K : Int → Heap → Prop) (h : Heap) : Prop :=
  bindI 0 fun t => 
  loopM (σ := Int × Unit) (fun J1 s2 h3 =>
    (fun (s8 : Int) =>
      iteP (decide (s8 < (s.len : Int))) (
        bindI s8 fun i => 
        idxA s.ptr s.len i 1 fun b o => 
        ldI h3 b o .i64 fun t4 => 
        f_stream_Net_arePorts_1 t4 (fun t5 h6 =>
          iteP t5 (
            bindI i fun t7 => 
            K t7 h6) (
            J1 (IntKind.wrap .i64 (s8 + 1), ()) h6)) h3) (
        bindI (-1) fun t8 => 
        K t8 h3)) s2.1) (0, ()) h

def m_slices_IndexFunc_int_int___stream_Net_arePorts_1 (s : Sl) (K : Int → Heap → Prop) (h : Heap) : Prop := g_slices_IndexFunc_int_int___stream_Net_arePorts_1 m_stream_Net_arePorts_1 s K h

/-- slices.ContainsFunc[[]int,int] -/
def g_slices_ContainsFunc_int_int___stream_Net_arePorts_1 (f_slices_IndexFunc_int_int___stream_Net_arePorts_1 : Sl → (Int → Heap → Prop) → Heap → Prop) (s : Sl) (K : Bool → Heap → Prop) (h : Heap) : Prop :=
  f_slices_IndexFunc_int_int___stream_Net_arePorts_1 s (fun t h1 =>
    bindB (decide (t ≥ 0)) fun t2 => 
    K t2 h1) h

def m_slices_ContainsFunc_int_int___stream_Net_arePorts_1 (s : Sl) (K : Bool → Heap → Prop) (h : Heap) : Prop := g_slices_ContainsFunc_int_int___stream_Net_arePorts_1 m_slices_IndexFunc_int_int___stream_Net_arePorts_1 s K h

/-- (*stream.Net).arePorts -/
def g_stream_Net_arePorts (f_slices_ContainsFunc_int_int___stream_Net_arePorts_1 : Sl → (Bool → Heap → Prop) → Heap → Prop) (n : Option Addr) (l : Sl) (K : Int → Heap → Prop) (h : Heap) : Prop :=
  bindI 0 fun t => 
  bindB n.isNone fun t1 => 
  iteP t1 (
    bindI 1 fun t2 => 
    K t2 h) (
    f_slices_ContainsFunc_int_int___stream_Net_arePorts_1 l (fun t3 h4 =>
      bindB t3 fun t5 => 
      iteP t5 (
        bindI 2 fun t6 => 
        K t6 h4) (
        bindI 0 fun t7 => 
        K t7 h4)) h)

def m_stream_Net_arePorts (n : Option Addr) (l : Sl) (K : Int → Heap → Prop) (h : Heap) : Prop := g_stream_Net_arePorts m_slices_ContainsFunc_int_int___stream_Net_arePorts_1 n l K h

/-- (*stream.Net).Listen -/
def g_stream_Net_Listen (f_stream_Net_arePorts : (Option Addr) → Sl → (Int → Heap → Prop) → Heap → Prop) (n : Option Addr) (ports : Sl) (K : Int → Heap → Prop) (h : Heap) : Prop :=
  bindI 0 fun t => 
  f_stream_Net_arePorts n ports (fun t1 h2 =>
    bindI t1 fun e => 
    iteP (e != 0) (
      bindI e fun t3 => 
      K t3 h2) (
      loopM (σ := Int × Unit) (fun J4 s h5 =>
        (fun (s16 : Int) =>
          iteP (decide (s16 < (ports.len : Int))) (
            idxA ports.ptr ports.len s16 1 fun b o => 
            ldI h5 b o .i64 fun t6 => 
            bindI t6 fun p => 
            derefP n fun b7 o8 => 
            ldM h5 b7 o8 fun t9 => 
            mapPut (.int .i64) h5 t9 (Value.int .i64 p) (Value.bool true) fun h10 => 
            J4 (IntKind.wrap .i64 (s16 + 1), ()) h10) (
            bindI 0 fun t11 => 
            K t11 h5)) s.1) (0, ()) h2)) h

def m_stream_Net_Listen (n : Option Addr) (ports : Sl) (K : Int → Heap → Prop) (h : Heap) : Prop := g_stream_Net_Listen m_stream_Net_arePorts n ports K h

/-- (*stream.Net).Conns -/
def g_stream_Net_Conns (n : Option Addr) (K : Sl → Heap → Prop) (h : Heap) : Prop :=
  iteP n.isNone (
    K ⟨none, 0, 0⟩ h) (
    derefP n fun b o => 
    ldL h b (o + 1) fun t => 
    loopM (σ := Sl × Int × Unit) (fun J1 s h2 =>
      (fun (l : Sl) (s13 : Int) =>
        iteP (decide (s13 < (t.len : Int))) (
          idxA t.ptr t.len s13 8 fun b3 o4 => 
          ldL h2 b3 o4 fun t5 => ldL h2 b3 (o4 + 1) fun t6 => ldB h2 b3 (o4 + 2) fun t7 => ldL h2 b3 (o4 + 3) fun t8 => ldL h2 b3 (o4 + 4) fun t9 => ldB h2 b3 (o4 + 5) fun t10 => ldI h2 b3 (o4 + 6) .i64 fun t11 => ldB h2 b3 (o4 + 7) fun t12 => 
          newC h2 [Value.slice none 0 0, Value.slice none 0 0, Value.bool false, Value.slice none 0 0, Value.slice none 0 0, Value.bool false, Value.int .i64 0, Value.bool false] 66 fun b13 h14 => 
          bindI s13 fun i => 
          sts h14 b13 0 [Value.slice t5.ptr t5.len t5.cap, Value.slice t6.ptr t6.len t6.cap, Value.bool t7, Value.slice t8.ptr t8.len t8.cap, Value.slice t9.ptr t9.len t9.cap, Value.bool t10, Value.int .i64 t11, Value.bool t12] fun h15 => 
          ldB h15 b13 (0 + 7) fun t16 => 
          iteP (!t16) (
            newC h15 [Value.int .i64 (IntKind.wrap .i64 (i + 1))] 3 fun b17 h18 => 
            rdS ⟨some ⟨b17, 0, none⟩, 1, 1⟩ 1 h18 fun new => app 3 1 8 [Value.int .i64 0] l 1 new h18 fun t19 h20 => 
            J1 (t19, IntKind.wrap .i64 (s13 + 1), ()) h20) (
            J1 (l, IntKind.wrap .i64 (s13 + 1), ()) h15)) (
          K l h2)) s.1 s.2.1) (⟨none, 0, 0⟩, 0, ()) h)

def m_stream_Net_Conns (n : Option Addr) (K : Sl → Heap → Prop) (h : Heap) : Prop := g_stream_Net_Conns n K h

/-- (*stream.Net).Dial -/
def g_stream_Net_Dial (f_stream_Net_arePorts : (Option Addr) → Sl → (Int → Heap → Prop) → Heap → Prop) (f_stream_Net_Conns : (Option Addr) → (Sl → Heap → Prop) → Heap → Prop) (n : Option Addr) (port : Int) (K : Int → Int → Heap → Prop) (h : Heap) : Prop :=
  bindI 0 fun t => 
  bindI 0 fun t1 => 
  newC h [Value.int .i64 port] 3 fun b h2 => 
  f_stream_Net_arePorts n ⟨some ⟨b, 0, none⟩, 1, 1⟩ (fun t3 h4 =>
    bindI t3 fun e => 
    iteP (e != 0) (
      bindI 0 fun t5 => 
      bindI e fun t6 => 
      K t5 t6 h4) (
      derefP n fun b7 o => 
      ldM h4 b7 o fun t8 => 
      mapGet (.int .i64) h4 t8 (Value.int .i64 port) fun r => asB (r.getD (Value.bool false)) fun t9 => 
      bindB (!t9) fun t10 => 
      iteP t10 (
        bindI 0 fun t11 => 
        bindI 51 fun t12 => 
        K t11 t12 h4) (
        f_stream_Net_Conns n (fun t13 h14 =>
          bindB (decide ((t13.len : Int) ≥ 64)) fun t15 => 
          iteP t15 (
            bindI 0 fun t16 => 
            bindI 3 fun t17 => 
            K t16 t17 h14) (
            derefP n fun b18 o19 => 
            ldL h14 b18 (o19 + 1) fun t20 => 
            newC h14 [Value.slice none 0 0, Value.slice none 0 0, Value.bool false, Value.slice none 0 0, Value.slice none 0 0, Value.bool false, Value.int .i64 port, Value.bool false] 66 fun b21 h22 => 
            rdS ⟨some ⟨b21, 0, none⟩, 1, 1⟩ 8 h22 fun new => app 66 8 128 [Value.slice none 0 0, Value.slice none 0 0, Value.bool false, Value.slice none 0 0, Value.slice none 0 0, Value.bool false, Value.int .i64 0, Value.bool false] t20 1 new h22 fun t23 h24 => 
            derefP n fun b25 o26 => 
            st h24 b25 (o26 + 1) (Value.slice t23.ptr t23.len t23.cap) fun h27 => 
            derefP n fun b28 o29 => 
            ldL h27 b28 (o29 + 1) fun t30 => 
            bindI (t30.len : Int) fun t31 => 
            bindI 0 fun t32 => 
            K t31 t32 h27)) h4))) h2

def m_stream_Net_Dial (n : Option Addr) (port : Int) (K : Int → Int → Heap → Prop) (h : Heap) : Prop := g_stream_Net_Dial m_stream_Net_arePorts m_stream_Net_Conns n port K h

/-- (*stream.Net).at -/
def g_stream_Net_at (n : Option Addr) (k : Int) (end_ : Int) (most : Int) (K : (Option Addr) → Int → Heap → Prop) (h : Heap) : Prop :=
  bindI 0 fun t => 
  bindB n.isNone fun t1 => 
  iteP t1 (
    bindI 1 fun t2 => 
    K none t2 h) (
    iteP (decide (k < 1)) (
      bindI 4 fun t3 => 
      K none t3 h) (
      derefP n fun b o => 
      ldL h b (o + 1) fun t4 => 
      bindB (decide (k > (t4.len : Int))) fun t5 => 
      iteP t5 (
        bindI 4 fun t6 => 
        K none t6 h) (
        iteP (decide (end_ < 0)) (
          bindI 2 fun t7 => 
          K none t7 h) (
          iteP (decide (end_ > 1)) (
            bindI 2 fun t8 => 
            K none t8 h) (
            bindB (decide (most < 0)) fun t9 => 
            iteP t9 (
              bindI 2 fun t10 => 
              K none t10 h) (
              derefP n fun b11 o12 => 
              ldL h b11 (o12 + 1) fun t13 => 
              idxA t13.ptr t13.len (IntKind.wrap .i64 (k - 1)) 8 fun b14 o15 => 
              ldB h b14 (o15 + 7) fun t16 => 
              bindB t16 fun t17 => 
              iteP t17 (
                bindI 51 fun t18 => 
                K none t18 h) (
                derefP n fun b19 o20 => 
                ldL h b19 (o20 + 1) fun t21 => 
                idxA t21.ptr t21.len (IntKind.wrap .i64 (k - 1)) 8 fun b22 o23 => 
                bindI 0 fun t24 => 
                K (some ⟨b22, o23, none⟩) t24 h)))))))

def m_stream_Net_at (n : Option Addr) (k : Int) (end_ : Int) (most : Int) (K : (Option Addr) → Int → Heap → Prop) (h : Heap) : Prop := g_stream_Net_at n k end_ most K h

/-- (*stream.Net).Write -/
def g_stream_Net_Write (f_stream_Net_at : (Option Addr) → Int → Int → Int → ((Option Addr) → Int → Heap → Prop) → Heap → Prop) (n : Option Addr) (k : Int) (end_ : Int) (b : Sl) (K : Int → Heap → Prop) (h : Heap) : Prop :=
  bindI 0 fun t => 
  f_stream_Net_at n k end_ 0 (fun t1 t2 h3 =>
    bindI t2 fun e => 
    iteP (e != 0) (
      bindI e fun t4 => 
      K t4 h3) (
      derefP t1 fun b5 o => 
      idxN 2 end_ fun j => 
      ldB h3 b5 (o + j * 3 + 2) fun t6 => 
      bindB t6 fun t7 => 
      iteP t7 (
        bindI 51 fun t8 => 
        K t8 h3) (
        ldL h3 b5 (o + j * 3) fun t9 => 
        bindB (decide ((IntKind.wrap .i64 ((t9.len : Int) + (b.len : Int))) > 65536)) fun t10 => 
        iteP t10 (
          bindI 3 fun t11 => 
          K t11 h3) (
          ldL h3 b5 (o + j * 3) fun t12 => 
          rdS b 1 h3 fun new => app 5 1 1 [Value.int .u8 0] t12 b.len new h3 fun t13 h14 => 
          st h14 b5 (o + j * 3) (Value.slice t13.ptr t13.len t13.cap) fun h15 => 
          bindI 0 fun t16 => 
          K t16 h15)))) h

def m_stream_Net_Write (n : Option Addr) (k : Int) (end_ : Int) (b : Sl) (K : Int → Heap → Prop) (h : Heap) : Prop := g_stream_Net_Write m_stream_Net_at n k end_ b K h

/-- slices.Clone[[]byte,byte] -/
def g_slices_Clone_byte_byte_ (s : Sl) (K : Sl → Heap → Prop) (h : Heap) : Prop :=
  iteP s.ptr.isNone (
    K ⟨none, 0, 0⟩ h) (
    newC h [] 5 fun b h1 => 
    rdS s 1 h1 fun new => app 5 1 1 [Value.int .u8 0] ⟨some ⟨b, 0, none⟩, 0, 0⟩ s.len new h1 fun t h2 => 
    K t h2)

def m_slices_Clone_byte_byte_ (s : Sl) (K : Sl → Heap → Prop) (h : Heap) : Prop := g_slices_Clone_byte_byte_ s K h

/-- (*stream.Net).Move -/
def g_stream_Net_Move (f_stream_Net_at : (Option Addr) → Int → Int → Int → ((Option Addr) → Int → Heap → Prop) → Heap → Prop) (f_slices_Clone_byte_byte_ : Sl → (Sl → Heap → Prop) → Heap → Prop) (n : Option Addr) (k : Int) (end_ : Int) (most : Int) (K : Int → Int → Heap → Prop) (h : Heap) : Prop :=
  bindI 0 fun t => 
  bindI 0 fun t1 => 
  f_stream_Net_at n k end_ most (fun t2 t3 h4 =>
    bindI t3 fun e => 
    iteP (e != 0) (
      bindI 0 fun t5 => 
      bindI e fun t6 => 
      K t5 t6 h4) (
      derefP t2 fun b o => 
      idxN 2 end_ fun j => 
      ldL h4 b (o + j * 3) fun t7 => 
      bindI (minV most (t7.len : Int)) fun m => 
      ldL h4 b (o + j * 3 + 1) fun t8 => 
      ldL h4 b (o + j * 3) fun t9 => 
      slc t9.ptr t9.cap 1 0 m t9.cap fun t10 => 
      rdS t10 1 h4 fun new => app 5 1 1 [Value.int .u8 0] t8 t10.len new h4 fun t11 h12 => 
      need (heldL h12 [(b, o + j * 3, Value.slice t9.ptr t9.len t9.cap)]) <|
      st h12 b (o + j * 3 + 1) (Value.slice t11.ptr t11.len t11.cap) fun h13 => 
      ldL h13 b (o + j * 3) fun t14 => 
      slc t14.ptr t14.cap 1 m t14.len t14.cap fun t15 => 
      f_slices_Clone_byte_byte_ t15 (fun t16 h17 =>
        st h17 b (o + j * 3) (Value.slice t16.ptr t16.len t16.cap) fun h18 => 
        bindI m fun t19 => 
        bindI 0 fun t20 => 
        K t19 t20 h18) h13)) h

def m_stream_Net_Move (n : Option Addr) (k : Int) (end_ : Int) (most : Int) (K : Int → Int → Heap → Prop) (h : Heap) : Prop := g_stream_Net_Move m_stream_Net_at m_slices_Clone_byte_byte_ n k end_ most K h

/-- (*stream.Net).Read -/
def g_stream_Net_Read (f_stream_Net_at : (Option Addr) → Int → Int → Int → ((Option Addr) → Int → Heap → Prop) → Heap → Prop) (f_slices_Clone_byte_byte_ : Sl → (Sl → Heap → Prop) → Heap → Prop) (n : Option Addr) (k : Int) (end_ : Int) (most : Int) (K : Sl → Bool → Int → Heap → Prop) (h : Heap) : Prop :=
  bindI 0 fun t => 
  f_stream_Net_at n k end_ most (fun t1 t2 h3 =>
    bindI t2 fun e => 
    iteP (e != 0) (
      bindI e fun t4 => 
      K ⟨none, 0, 0⟩ false t4 h3) (
      derefP t1 fun b o => 
      idxN 2 (IntKind.wrap .i64 ((1 : Int) - end_)) fun j => 
      ldL h3 b (o + j * 3 + 1) fun t5 => 
      bindI (minV most (t5.len : Int)) fun m => 
      ldL h3 b (o + j * 3 + 1) fun t6 => 
      slc t6.ptr t6.cap 1 0 m t6.cap fun t7 => 
      f_slices_Clone_byte_byte_ t7 (fun t8 h9 =>
        ldL h9 b (o + j * 3 + 1) fun t10 => 
        slc t10.ptr t10.cap 1 m t10.len t10.cap fun t11 => 
        f_slices_Clone_byte_byte_ t11 (fun t12 h13 =>
          st h13 b (o + j * 3 + 1) (Value.slice t12.ptr t12.len t12.cap) fun h14 => 
          ldB h14 b (o + j * 3 + 2) fun t15 => 
          iteP t15 (
            ldL h14 b (o + j * 3) fun t16 => 
            iteP ((t16.len : Int) == 0) (
              ldL h14 b (o + j * 3 + 1) fun t17 => 
              bindB ((t17.len : Int) == 0) fun t18 => 
              bindI 0 fun t19 => 
              K t8 t18 t19 h14) (
              bindI 0 fun t20 => 
              K t8 false t20 h14)) (
            bindI 0 fun t21 => 
            K t8 false t21 h14)) h9) h3)) h

def m_stream_Net_Read (n : Option Addr) (k : Int) (end_ : Int) (most : Int) (K : Sl → Bool → Int → Heap → Prop) (h : Heap) : Prop := g_stream_Net_Read m_stream_Net_at m_slices_Clone_byte_byte_ n k end_ most K h

/-- (*stream.Net).Break -/
def g_stream_Net_Break (f_stream_Net_at : (Option Addr) → Int → Int → Int → ((Option Addr) → Int → Heap → Prop) → Heap → Prop) (n : Option Addr) (conns : Sl) (K : Int → Heap → Prop) (h : Heap) : Prop :=
  bindI 0 fun t => 
  iteP n.isNone (
    bindI 1 fun t1 => 
    K t1 h) (
    newMap h fun b h2 => 
    loopM (σ := Bool × Int × Unit) (fun J3 s h4 =>
      (fun (down : Bool) (s18 : Int) =>
        iteP (decide (s18 < (conns.len : Int))) (
          idxA conns.ptr conns.len s18 1 fun b5 o => 
          ldI h4 b5 o .i64 fun t6 => 
          bindI t6 fun k => 
          f_stream_Net_at n k 0 0 (fun t7 t8 h9 =>
            bindI t8 fun e => 
            iteP (e == 4) (
              bindI e fun t10 => 
              K t10 h9) (
              iteP down (
                mapPut (.int .i64) h9 (some b) (Value.int .i64 k) (Value.bool true) fun h11 => 
                J3 (true, IntKind.wrap .i64 (s18 + 1), ()) h11) (
                iteP (e != 0) (
                  mapPut (.int .i64) h9 (some b) (Value.int .i64 k) (Value.bool true) fun h12 => 
                  J3 (true, IntKind.wrap .i64 (s18 + 1), ()) h12) (
                  mapGet (.int .i64) h9 (some b) (Value.int .i64 k) fun r => asB (r.getD (Value.bool false)) fun t13 => 
                  bindB t13 fun down14 => 
                  mapPut (.int .i64) h9 (some b) (Value.int .i64 k) (Value.bool true) fun h15 => 
                  J3 (down14, IntKind.wrap .i64 (s18 + 1), ()) h15)))) h4) (
          iteP down (
            bindI 51 fun t16 => 
            K t16 h4) (
            loopM (σ := Int × Unit) (fun J17 s19 h20 =>
              (fun (s47 : Int) =>
                iteP (decide (s47 < (conns.len : Int))) (
                  idxA conns.ptr conns.len s47 1 fun b21 o22 => 
                  ldI h20 b21 o22 .i64 fun t23 => 
                  bindI t23 fun k24 => 
                  derefP n fun b25 o26 => 
                  derefP n fun b27 o28 => 
                  ldL h20 b25 (o26 + 1) fun t29 => 
                  ldL h20 b27 (o28 + 1) fun t30 => 
                  idxA t30.ptr t30.len (IntKind.wrap .i64 (k24 - 1)) 8 fun b31 o32 => 
                  ldI h20 b31 (o32 + 6) .i64 fun t33 => 
                  idxA t29.ptr t29.len (IntKind.wrap .i64 (k24 - 1)) 8 fun b34 o35 => 
                  sts h20 b34 o35 [Value.slice none 0 0, Value.slice none 0 0, Value.bool false, Value.slice none 0 0, Value.slice none 0 0, Value.bool false, Value.int .i64 t33, Value.bool true] fun h36 => 
                  J17 (IntKind.wrap .i64 (s47 + 1), ()) h36) (
                  bindI 0 fun t37 => 
                  K t37 h20)) s19.1) (0, ()) h4))) s.1 s.2.1) (false, 0, ()) h2)

def m_stream_Net_Break (n : Option Addr) (conns : Sl) (K : Int → Heap → Prop) (h : Heap) : Prop := g_stream_Net_Break m_stream_Net_at n conns K h

/-- spillwaylaw22.live -/
def g_spillwaylaw22_live (f_stream_New : ((Option Addr) → Heap → Prop) → Heap → Prop) (f_stream_Net_Listen : (Option Addr) → Sl → (Int → Heap → Prop) → Heap → Prop) (f_stream_Net_Dial : (Option Addr) → Int → (Int → Int → Heap → Prop) → Heap → Prop) (f_stream_Net_Write : (Option Addr) → Int → Int → Sl → (Int → Heap → Prop) → Heap → Prop) (f_stream_Net_Move : (Option Addr) → Int → Int → Int → (Int → Int → Heap → Prop) → Heap → Prop) (f_stream_Net_Read : (Option Addr) → Int → Int → Int → (Sl → Bool → Int → Heap → Prop) → Heap → Prop) (f_stream_Net_Break : (Option Addr) → Sl → (Int → Heap → Prop) → Heap → Prop) (K : Bool → Heap → Prop) (h : Heap) : Prop :=
  f_stream_New (fun t h1 =>
    newC h1 [Value.int .i64 80] 3 fun b h2 => 
    f_stream_Net_Listen t ⟨some ⟨b, 0, none⟩, 1, 1⟩ (fun t3 h4 =>
      iteP (t3 != 0) (
        K false h4) (
        f_stream_Net_Dial t 80 (fun t5 t6 h7 =>
          bindI t5 fun c => 
          bindI t6 fun e => 
          f_stream_Net_Dial t 81 (fun t8 t9 h10 =>
            bindI t8 fun _ => 
            bindI t9 fun f => 
            newC h10 [Value.int .u8 97, Value.int .u8 98, Value.int .u8 99] 5 fun b11 h12 => 
            f_stream_Net_Write t 1 0 ⟨some ⟨b11, 0, none⟩, 3, 3⟩ (fun t13 h14 =>
              bindI t13 fun g => 
              f_stream_Net_Move t 1 0 2 (fun t15 t16 h17 =>
                bindI t15 fun k => 
                bindI t16 fun h18 => 
                f_stream_Net_Read t 1 1 9 (fun t19 t20 t21 h22 =>
                  bindB t20 fun over => 
                  bindI t21 fun i => 
                  newC h22 [Value.int .i64 1] 3 fun b23 h24 => 
                  f_stream_Net_Break t ⟨some ⟨b23, 0, none⟩, 1, 1⟩ (fun t25 h26 =>
                    bindI t25 fun j => 
                    f_stream_Net_Read t 1 1 9 (fun t27 t28 t29 h30 =>
                      bindB t28 fun _31 => 
                      bindI t29 fun l => 
                      iteP (e == 0) (
                        iteP (c == 1) (
                          iteP (f == 51) (
                            iteP (g == 0) (
                              iteP (h18 == 0) (
                                iteP (k == 2) (
                                  iteP (i == 0) (
                                    b2s t19 h30 fun t32 => 
                                    iteP (strEq t32 (ByteArray.mk #[97, 98])) (
                                      iteP (!over) (
                                        iteP (j == 0) (
                                          bindB (l == 51) fun t33 => 
                                          K t33 h30) (
                                          K false h30)) (
                                        K false h30)) (
                                      K false h30)) (
                                    K false h30)) (
                                  K false h30)) (
                                K false h30)) (
                              K false h30)) (
                            K false h30)) (
                          K false h30)) (
                        K false h30)) h26) h24) h17) h14) h12) h7) h4)) h2) h

def m_spillwaylaw22_live (K : Bool → Heap → Prop) (h : Heap) : Prop := g_spillwaylaw22_live m_stream_New m_stream_Net_Listen m_stream_Net_Dial m_stream_Net_Write m_stream_Net_Move m_stream_Net_Read m_stream_Net_Break  K h

/-- spillwaymem.Same -/
def g_spillwaymem_Same (a : Sl) (b : Sl) (K : Bool → Heap → Prop) (h : Heap) : Prop :=
  iteP ((a.len : Int) != (b.len : Int)) (
    K false h) (
    bindI 0 fun i => 
    loopM (σ := Int × Unit) (fun J2 s h3 =>
      (fun (i1 : Int) =>
        iteP (decide (i1 < (a.len : Int))) (
          idxA a.ptr a.len i1 1 fun b4 o => 
          ldI h3 b4 o .u8 fun t => 
          idxA b.ptr b.len i1 1 fun b5 o6 => 
          ldI h3 b5 o6 .u8 fun t7 => 
          iteP (t != t7) (
            K false h3) (
            bindI (IntKind.wrap .i64 (i1 + 1)) fun i8 => 
            J2 (i8, ()) h3)) (
          K true h3)) s.1) (i, ()) h)

def m_spillwaymem_Same (a : Sl) (b : Sl) (K : Bool → Heap → Prop) (h : Heap) : Prop := g_spillwaymem_Same a b K h

/-- (*stream.Net).Shut -/
def g_stream_Net_Shut (f_stream_Net_at : (Option Addr) → Int → Int → Int → ((Option Addr) → Int → Heap → Prop) → Heap → Prop) (n : Option Addr) (k : Int) (end_ : Int) (K : Int → Heap → Prop) (h : Heap) : Prop :=
  bindI 0 fun t => 
  f_stream_Net_at n k end_ 0 (fun t1 t2 h3 =>
    bindI t2 fun e => 
    bindB (e != 0) fun t4 => 
    iteP t4 (
      bindI e fun t5 => 
      K t5 h3) (
      derefP t1 fun b o => 
      idxN 2 end_ fun j => 
      ldB h3 b (o + j * 3 + 2) fun t6 => 
      bindB t6 fun t7 => 
      iteP t7 (
        bindI 51 fun t8 => 
        K t8 h3) (
        derefP t1 fun b9 o10 => 
        idxN 2 end_ fun j11 => 
        st h3 b9 (o10 + j11 * 3 + 2) (Value.bool true) fun h12 => 
        bindI 0 fun t13 => 
        K t13 h12))) h

def m_stream_Net_Shut (n : Option Addr) (k : Int) (end_ : Int) (K : Int → Heap → Prop) (h : Heap) : Prop := g_stream_Net_Shut m_stream_Net_at n k end_ K h

/-- spillwaylaw22.StreamOrder -/
def g_spillwaylaw22_StreamOrder (f_spillwaylaw22_live : (Bool → Heap → Prop) → Heap → Prop) (f_stream_New : ((Option Addr) → Heap → Prop) → Heap → Prop) (f_stream_Net_Listen : (Option Addr) → Sl → (Int → Heap → Prop) → Heap → Prop) (f_stream_Net_Dial : (Option Addr) → Int → (Int → Int → Heap → Prop) → Heap → Prop) (f_stream_Net_Write : (Option Addr) → Int → Int → Sl → (Int → Heap → Prop) → Heap → Prop) (f_stream_Net_Move : (Option Addr) → Int → Int → Int → (Int → Int → Heap → Prop) → Heap → Prop) (f_stream_Net_Read : (Option Addr) → Int → Int → Int → (Sl → Bool → Int → Heap → Prop) → Heap → Prop) (f_spillwaymem_Same : Sl → Sl → (Bool → Heap → Prop) → Heap → Prop) (f_stream_Net_Shut : (Option Addr) → Int → Int → (Int → Heap → Prop) → Heap → Prop) (l : Sl) (other : Sl) (K : Bool → Heap → Prop) (h : Heap) : Prop :=
  f_spillwaylaw22_live (fun t h1 =>
    iteP (!t) (
      K false h1) (
      f_stream_New (fun t2 h3 =>
        newC h3 [Value.int .i64 1] 3 fun b h4 => 
        f_stream_Net_Listen t2 ⟨some ⟨b, 0, none⟩, 1, 1⟩ (fun t5 h6 =>
          iteP (t5 != 0) (
            K false h6) (
            f_stream_Net_Dial t2 1 (fun t7 t8 h9 =>
              bindI t7 fun a => 
              bindI t8 fun e => 
              f_stream_Net_Dial t2 1 (fun t10 t11 h12 =>
                bindI t10 fun b13 => 
                bindI t11 fun f => 
                iteP (e != 0) (
                  K false h12) (
                  iteP (f != 0) (
                    K false h12) (
                    newC h12 [Value.slice none 0 0, Value.slice none 0 0] 31 fun b14 h15 => 
                    newC h15 [Value.slice none 0 0, Value.slice none 0 0] 31 fun b16 h17 => 
                    newC h17 [Value.int .i64 0, Value.int .i64 0] 32 fun b18 h19 => 
                    sts h19 b18 0 [Value.int .i64 0, Value.int .i64 0] fun h20 => 
                    bindI 0 fun i => 
                    loopM (σ := Int × Unit) (fun J22 s h23 =>
                      (fun (i21 : Int) =>
                        iteP (decide (i21 < (l.len : Int))) (
                          idxA l.ptr l.len i21 6 fun b24 o => 
                          ldI h23 b24 o .i64 fun t25 => ldI h23 b24 (o + 1) .i64 fun t26 => ldI h23 b24 (o + 2) .i64 fun t27 => ldI h23 b24 (o + 3) .i64 fun t28 => ldL h23 b24 (o + 4) fun t29 => ldL h23 b24 (o + 5) fun t30 => 
                          newC h23 [Value.int .i64 0, Value.int .i64 0, Value.int .i64 0, Value.int .i64 0, Value.slice none 0 0, Value.slice none 0 0] 35 fun b31 h32 => 
                          sts h32 b31 0 [Value.int .i64 t25, Value.int .i64 t26, Value.int .i64 t27, Value.int .i64 t28, Value.slice t29.ptr t29.len t29.cap, Value.slice t30.ptr t30.len t30.cap] fun h33 => 
                          ldI h33 b31 (0 + 2) .i64 fun t34 => 
                          need ((2 : Int) ≠ 0) <| 
                          bindI (IntKind.wrap .i64 (Int.tmod (IntKind.wrap .u64 t34) 2)) fun end_ => 
                          f_stream_Net_Write t2 b13 end_ other (fun t35 h36 =>
                            f_stream_Net_Move t2 b13 end_ 3 (fun t37 t38 h39 =>
                              cutP (σ := Unit) (fun s83 h84 =>
                                bindI 0 fun k85 => 
                                loopM (σ := Int × Unit) (fun J87 s88 h89 =>
                                  (fun (k86 : Int) =>
                                    iteP (decide (k86 < 2)) (
                                      idxN 2 k86 fun j90 => 
                                      ldL h89 b16 (0 + j90 * 1) fun t91 => 
                                      idxN 2 k86 fun j92 => 
                                      ldI h89 b18 (0 + j92 * 1) .i64 fun t93 => 
                                      iteP (decide ((t91.len : Int) > t93)) (
                                        K false h89) (
                                        idxN 2 k86 fun j94 => 
                                        ldL h89 b16 (0 + j94 * 1) fun t95 => 
                                        idxN 2 k86 fun j96 => 
                                        ldL h89 b14 (0 + j96 * 1) fun t97 => 
                                        idxN 2 k86 fun j98 => 
                                        ldL h89 b16 (0 + j98 * 1) fun t99 => 
                                        slc t97.ptr t97.cap 1 0 (t99.len : Int) t97.cap fun t100 => 
                                        qcall (ρ := Bool × Unit) (fun K h => f_spillwaymem_Same t95 t100 (fun q h => K (q, ()) h) h) h89 fun r => 
                                        iteP (!r.1) (
                                          K false h89) (
                                          bindI (IntKind.wrap .i64 (k86 + 1)) fun k102 => 
                                          J87 (k102, ()) h89))) (
                                      bindI (IntKind.wrap .i64 (i21 + 1)) fun i103 => 
                                      J22 (i103, ()) h89)) s88.1) (k85, ()) h84) (fun J40 =>
                                ldI h39 b31 0 .i64 fun t41 => 
                                bindB (t41 == 3) fun t42 => 
                                iteP t42 (
                                  ldL h39 b31 (0 + 5) fun t43 => 
                                  f_stream_Net_Write t2 a end_ t43 (fun t44 h45 =>
                                    iteP (t44 == 0) (
                                      idxN 2 end_ fun j => 
                                      ldL h45 b14 (0 + j * 1) fun t46 => 
                                      ldL h45 b31 (0 + 5) fun t47 => 
                                      rdS t47 1 h45 fun new => app 5 1 1 [Value.int .u8 0] t46 t47.len new h45 fun t48 h49 => 
                                      idxN 2 end_ fun j50 => 
                                      st h49 b14 (0 + j50 * 1) (Value.slice t48.ptr t48.len t48.cap) fun h51 => 
                                      J40 (()) h51) (
                                      J40 (()) h45)) h39) (
                                  bindB (t41 == 4) fun t52 => 
                                  iteP t52 (
                                    ldI h39 b31 (0 + 3) .i64 fun t53 => 
                                    f_stream_Net_Move t2 a end_ t53 (fun t54 t55 h56 =>
                                      bindI t54 fun k => 
                                      bindI t55 fun g => 
                                      cutP (σ := Unit) (fun s62 h63 =>
                                        iteP (g == 0) (
                                          ldI h63 b31 (0 + 3) .i64 fun t64 => 
                                          iteP (decide (k > t64)) (
                                            K false h63) (
                                            idxN 2 end_ fun j65 => 
                                            ldI h63 b18 (0 + j65 * 1) .i64 fun t66 => 
                                            idxN 2 end_ fun j67 => 
                                            ldL h63 b14 (0 + j67 * 1) fun t68 => 
                                            iteP (decide (t66 > (t68.len : Int))) (
                                              K false h63) (
                                              J40 (()) h63))) (
                                          J40 (()) h63)) (fun J57 =>
                                        iteP (g == 0) (
                                          idxN 2 end_ fun j58 => 
                                          ldI h56 b18 (0 + j58 * 1) .i64 fun t59 => 
                                          idxN 2 end_ fun j60 => 
                                          st h56 b18 (0 + j60 * 1) (Value.int .i64 (IntKind.wrap .i64 (t59 + k))) fun h61 => 
                                          J57 (()) h61) (
                                          J57 (()) h56))) h39) (
                                    bindB (t41 == 5) fun t69 => 
                                    iteP t69 (
                                      ldI h39 b31 (0 + 3) .i64 fun t70 => 
                                      f_stream_Net_Read t2 a end_ t70 (fun t71 t72 t73 h74 =>
                                        bindB t72 fun _ => 
                                        bindI t73 fun _75 => 
                                        idxN 2 (IntKind.wrap .i64 ((1 : Int) - end_)) fun j76 => 
                                        ldL h74 b16 (0 + j76 * 1) fun t77 => 
                                        rdS t71 1 h74 fun new80 => app 5 1 1 [Value.int .u8 0] t77 t71.len new80 h74 fun t78 h79 => 
                                        idxN 2 (IntKind.wrap .i64 ((1 : Int) - end_)) fun j81 => 
                                        st h79 b16 (0 + j81 * 1) (Value.slice t78.ptr t78.len t78.cap) fun h82 => 
                                        J40 (()) h82) h39) (
                                      J40 (()) h39))))) h36) h33) (
                          bindI 0 fun k104 => 
                          loopM (σ := Int × Unit) (fun J106 s107 h108 =>
                            (fun (k105 : Int) =>
                              iteP (decide (k105 < 2)) (
                                idxN 2 k105 fun j109 => 
                                ldL h108 b14 (0 + j109 * 1) fun t110 => 
                                idxN 2 k105 fun j111 => 
                                ldL h108 b16 (0 + j111 * 1) fun t112 => 
                                bindI (IntKind.wrap .i64 ((t110.len : Int) - (t112.len : Int))) fun rest => 
                                f_stream_Net_Shut t2 a k105 (fun t113 h114 =>
                                  iteP (t113 != 0) (
                                    K false h114) (
                                    cutP (σ := Unit) (fun s131 h132 =>
                                      f_stream_Net_Read t2 a (IntKind.wrap .i64 ((1 : Int) - k105)) (IntKind.wrap .i64 (rest + 1)) (fun t133 t134 t135 h136 =>
                                        bindB t134 fun over137 => 
                                        bindI t135 fun g138 => 
                                        idxN 2 k105 fun j139 => 
                                        ldL h136 b16 (0 + j139 * 1) fun t140 => 
                                        rdS t133 1 h136 fun new143 => app 5 1 1 [Value.int .u8 0] t140 t133.len new143 h136 fun t141 h142 => 
                                        idxN 2 k105 fun j144 => 
                                        st h142 b16 (0 + j144 * 1) (Value.slice t141.ptr t141.len t141.cap) fun h145 => 
                                        iteP (g138 != 0) (
                                          K false h145) (
                                          iteP (!over137) (
                                            K false h145) (
                                            idxN 2 k105 fun j146 => 
                                            ldL h145 b16 (0 + j146 * 1) fun t147 => 
                                            idxN 2 k105 fun j148 => 
                                            ldL h145 b14 (0 + j148 * 1) fun t149 => 
                                            qcall (ρ := Bool × Unit) (fun K h => f_spillwaymem_Same t147 t149 (fun q151 h => K (q151, ()) h) h) h145 fun r152 => 
                                            iteP (!r152.1) (
                                              K false h145) (
                                              bindI (IntKind.wrap .i64 (k105 + 1)) fun k153 => 
                                              J106 (k153, ()) h145)))) h132) (fun J115 =>
                                      iteP (decide (rest > 0)) (
                                        f_stream_Net_Move t2 a k105 rest (fun t116 t117 h118 =>
                                          f_stream_Net_Read t2 a (IntKind.wrap .i64 ((1 : Int) - k105)) (IntKind.wrap .i64 (rest - 1)) (fun t119 t120 t121 h122 =>
                                            bindB t120 fun over => 
                                            bindI t121 fun g123 => 
                                            iteP (g123 != 0) (
                                              K false h122) (
                                              iteP over (
                                                K false h122) (
                                                idxN 2 k105 fun j124 => 
                                                ldL h122 b16 (0 + j124 * 1) fun t125 => 
                                                rdS t119 1 h122 fun new128 => app 5 1 1 [Value.int .u8 0] t125 t119.len new128 h122 fun t126 h127 => 
                                                idxN 2 k105 fun j129 => 
                                                st h127 b16 (0 + j129 * 1) (Value.slice t126.ptr t126.len t126.cap) fun h130 => 
                                                J115 (()) h130))) h118) h114) (
                                        J115 (()) h114)))) h108) (
                                K true h108)) s107.1) (k104, ()) h23)) s.1) (i, ()) h20))) h9) h6)) h4) h1)) h

def m_spillwaylaw22_StreamOrder (l : Sl) (other : Sl) (K : Bool → Heap → Prop) (h : Heap) : Prop := g_spillwaylaw22_StreamOrder m_spillwaylaw22_live m_stream_New m_stream_Net_Listen m_stream_Net_Dial m_stream_Net_Write m_stream_Net_Move m_stream_Net_Read m_spillwaymem_Same m_stream_Net_Shut l other K h

/-- spillwayref22.New -/
def g_spillwayref22_New (K : (Option Addr) → Heap → Prop) (h : Heap) : Prop :=
  newC h [Value.slice none 0 0, Value.slice none 0 0] 74 fun b h1 => 
  K (some ⟨b, 0, none⟩) h1

def m_spillwayref22_New (K : (Option Addr) → Heap → Prop) (h : Heap) : Prop := g_spillwayref22_New  K h

/-- maps.Clone[stream.ports,int,bool] -/
def g_maps_Clone_stream_ports_int_bool_ (m : Option Nat) (K : (Option Nat) → Heap → Prop) (h : Heap) : Prop :=
  iteP m.isNone (
    K none h) (
    cloneM (Value.iface 57 (Value.map m)) h fun t h1 => 
    asT t 57 fun y => asM y fun t2 => 
    K t2 h1)

def m_maps_Clone_stream_ports_int_bool_ (m : Option Nat) (K : (Option Nat) → Heap → Prop) (h : Heap) : Prop := g_maps_Clone_stream_ports_int_bool_ m K h

/-- (*stream.Net).Fork -/
def g_stream_Net_Fork (f_maps_Clone_stream_ports_int_bool_ : (Option Nat) → ((Option Nat) → Heap → Prop) → Heap → Prop) (f_slices_Clone_byte_byte_ : Sl → (Sl → Heap → Prop) → Heap → Prop) (n : Option Addr) (K : (Option Addr) → Heap → Prop) (h : Heap) : Prop :=
  iteP n.isNone (
    K none h) (
    derefP n fun b o => 
    ldM h b o fun t => 
    f_maps_Clone_stream_ports_int_bool_ t (fun t1 h2 =>
      newC h2 [Value.map t1, Value.slice none 0 0] 60 fun b3 h4 => 
      derefP n fun b5 o6 => 
      ldL h4 b5 (o6 + 1) fun t7 => 
      loopM (σ := Int × Unit) (fun J8 s h9 =>
        (fun (s21 : Int) =>
          iteP (decide (s21 < (t7.len : Int))) (
            idxA t7.ptr t7.len s21 8 fun b10 o11 => 
            ldL h9 b10 o11 fun t12 => ldL h9 b10 (o11 + 1) fun t13 => ldB h9 b10 (o11 + 2) fun t14 => ldL h9 b10 (o11 + 3) fun t15 => ldL h9 b10 (o11 + 4) fun t16 => ldB h9 b10 (o11 + 5) fun t17 => ldI h9 b10 (o11 + 6) .i64 fun t18 => ldB h9 b10 (o11 + 7) fun t19 => 
            newC h9 [Value.slice none 0 0, Value.slice none 0 0, Value.bool false, Value.slice none 0 0, Value.slice none 0 0, Value.bool false, Value.int .i64 0, Value.bool false] 66 fun b20 h21 => 
            sts h21 b20 0 [Value.slice t12.ptr t12.len t12.cap, Value.slice t13.ptr t13.len t13.cap, Value.bool t14, Value.slice t15.ptr t15.len t15.cap, Value.slice t16.ptr t16.len t16.cap, Value.bool t17, Value.int .i64 t18, Value.bool t19] fun h22 => 
            loopM (σ := Int × Unit) (fun J23 s24 h25 =>
              (fun (s25 : Int) =>
                iteP (decide (s25 < 2)) (
                  bindI s25 fun i => 
                  idxN 2 i fun j => 
                  idxN 2 i fun j26 => 
                  ldL h25 b20 (0 + j * 3) fun t27 => 
                  ldL h25 b20 (0 + j26 * 3 + 1) fun t28 => 
                  f_slices_Clone_byte_byte_ t27 (fun t29 h30 =>
                    need (heldL h30 [(b20, 0 + j26 * 3 + 1, Value.slice t28.ptr t28.len t28.cap)]) <|
                    idxN 2 i fun j31 => 
                    f_slices_Clone_byte_byte_ t28 (fun t32 h33 =>
                      st h33 b20 (0 + j31 * 3) (Value.slice t29.ptr t29.len t29.cap) fun h34 => 
                      idxN 2 i fun j35 => 
                      st h34 b20 (0 + j35 * 3 + 1) (Value.slice t32.ptr t32.len t32.cap) fun h36 => 
                      J23 (IntKind.wrap .i64 (s25 + 1), ()) h36) h30) h25) (
                  ldL h25 b3 (0 + 1) fun t37 => 
                  ldL h25 b20 0 fun t38 => ldL h25 b20 (0 + 1) fun t39 => ldB h25 b20 (0 + 2) fun t40 => ldL h25 b20 (0 + 3) fun t41 => ldL h25 b20 (0 + 4) fun t42 => ldB h25 b20 (0 + 5) fun t43 => ldI h25 b20 (0 + 6) .i64 fun t44 => ldB h25 b20 (0 + 7) fun t45 => 
                  newC h25 [Value.slice t38.ptr t38.len t38.cap, Value.slice t39.ptr t39.len t39.cap, Value.bool t40, Value.slice t41.ptr t41.len t41.cap, Value.slice t42.ptr t42.len t42.cap, Value.bool t43, Value.int .i64 t44, Value.bool t45] 66 fun b46 h47 => 
                  need (heldL h47 [(b3, 0 + 1, Value.slice t37.ptr t37.len t37.cap)]) <|
                  rdS ⟨some ⟨b46, 0, none⟩, 1, 1⟩ 8 h47 fun new => app 66 8 128 [Value.slice none 0 0, Value.slice none 0 0, Value.bool false, Value.slice none 0 0, Value.slice none 0 0, Value.bool false, Value.int .i64 0, Value.bool false] t37 1 new h47 fun t48 h49 => 
                  st h49 b3 (0 + 1) (Value.slice t48.ptr t48.len t48.cap) fun h50 => 
                  J8 (IntKind.wrap .i64 (s21 + 1), ()) h50)) s24.1) (0, ()) h22) (
            K (some ⟨b3, 0, none⟩) h9)) s.1) (0, ()) h4) h)

def m_stream_Net_Fork (n : Option Addr) (K : (Option Addr) → Heap → Prop) (h : Heap) : Prop := g_stream_Net_Fork m_maps_Clone_stream_ports_int_bool_ m_slices_Clone_byte_byte_ n K h

/-- (*spillwayref22.Net).Fork -/
def g_spillwayref22_Net_Fork (n : Option Addr) (K : (Option Addr) → Heap → Prop) (h : Heap) : Prop :=
  iteP n.isNone (
    K none h) (
    derefP n fun b o => 
    derefP n fun b1 o2 => 
    ldL h b o fun t => 
    ldL h b1 (o2 + 1) fun t3 => 
    bothP (
      newC h [] 3 fun b4 h5 => 
      need (heldL h5 [(b1, o2 + 1, Value.slice t3.ptr t3.len t3.cap)]) <|
      need (heldL h5 [(b, o, Value.slice t.ptr t.len t.cap)]) <|
      bothP (
        rdS t 1 h5 fun new => app 3 1 8 [Value.int .i64 0] ⟨some ⟨b4, 0, none⟩, 0, 0⟩ t.len new h5 fun t6 h7 => 
        need (heldL h7 [(b1, o2 + 1, Value.slice t3.ptr t3.len t3.cap)]) <|
        newC h7 [] 88 fun b8 h9 => 
        need (heldL h9 [(b1, o2 + 1, Value.slice t3.ptr t3.len t3.cap)]) <|
        rdS t3 8 h9 fun new12 => app 88 8 128 [Value.int .i64 0, Value.bool false, Value.slice none 0 0, Value.slice none 0 0, Value.bool false, Value.slice none 0 0, Value.slice none 0 0, Value.bool false] ⟨some ⟨b8, 0, none⟩, 0, 0⟩ t3.len new12 h9 fun t10 h11 => 
        newC h11 [Value.slice t6.ptr t6.len t6.cap, Value.slice t10.ptr t10.len t10.cap] 74 fun b13 h14 => 
        K (some ⟨b13, 0, none⟩) h14) (
        newC h5 [] 88 fun b15 h16 => 
        need (heldL h16 [(b1, o2 + 1, Value.slice t3.ptr t3.len t3.cap)]) <|
        need (heldL h16 [(b, o, Value.slice t.ptr t.len t.cap)]) <|
        rdS t 1 h16 fun new19 => app 3 1 8 [Value.int .i64 0] ⟨some ⟨b4, 0, none⟩, 0, 0⟩ t.len new19 h16 fun t17 h18 => 
        need (heldL h18 [(b1, o2 + 1, Value.slice t3.ptr t3.len t3.cap)]) <|
        rdS t3 8 h18 fun new22 => app 88 8 128 [Value.int .i64 0, Value.bool false, Value.slice none 0 0, Value.slice none 0 0, Value.bool false, Value.slice none 0 0, Value.slice none 0 0, Value.bool false] ⟨some ⟨b15, 0, none⟩, 0, 0⟩ t3.len new22 h18 fun t20 h21 => 
        newC h21 [Value.slice t17.ptr t17.len t17.cap, Value.slice t20.ptr t20.len t20.cap] 74 fun b23 h24 => 
        K (some ⟨b23, 0, none⟩) h24)) (
      newC h [] 88 fun b25 h26 => 
      need (heldL h26 [(b1, o2 + 1, Value.slice t3.ptr t3.len t3.cap)]) <|
      need (heldL h26 [(b, o, Value.slice t.ptr t.len t.cap)]) <|
      newC h26 [] 3 fun b27 h28 => 
      need (heldL h28 [(b1, o2 + 1, Value.slice t3.ptr t3.len t3.cap)]) <|
      need (heldL h28 [(b, o, Value.slice t.ptr t.len t.cap)]) <|
      rdS t 1 h28 fun new31 => app 3 1 8 [Value.int .i64 0] ⟨some ⟨b27, 0, none⟩, 0, 0⟩ t.len new31 h28 fun t29 h30 => 
      need (heldL h30 [(b1, o2 + 1, Value.slice t3.ptr t3.len t3.cap)]) <|
      rdS t3 8 h30 fun new34 => app 88 8 128 [Value.int .i64 0, Value.bool false, Value.slice none 0 0, Value.slice none 0 0, Value.bool false, Value.slice none 0 0, Value.slice none 0 0, Value.bool false] ⟨some ⟨b25, 0, none⟩, 0, 0⟩ t3.len new34 h30 fun t32 h33 => 
      newC h33 [Value.slice t29.ptr t29.len t29.cap, Value.slice t32.ptr t32.len t32.cap] 74 fun b35 h36 => 
      K (some ⟨b35, 0, none⟩) h36))

def m_spillwayref22_Net_Fork (n : Option Addr) (K : (Option Addr) → Heap → Prop) (h : Heap) : Prop := g_spillwayref22_Net_Fork n K h

/-- spillwaymem.HandInts -/
def g_spillwaymem_HandInts (l : Sl) (K : Sl → Heap → Prop) (h : Heap) : Prop :=
  mkS 3 8 [Value.int .i64 0] (IntKind.wrap .i64 ((l.len : Int) + 9)) (IntKind.wrap .i64 ((l.len : Int) + 9)) h fun t h1 => 
  bindI 0 fun i => 
  loopM (σ := Int × Unit) (fun J3 s h4 =>
    (fun (i2 : Int) =>
      iteP (decide (i2 < (l.len : Int))) (
        idxA l.ptr l.len i2 1 fun b o => 
        ldI h4 b o .i64 fun t5 => 
        idxA t.ptr t.len i2 1 fun b6 o7 => 
        st h4 b6 o7 (Value.int .i64 t5) fun h8 => 
        bindI (IntKind.wrap .i64 (i2 + 1)) fun i9 => 
        J3 (i9, ()) h8) (
        bindI (l.len : Int) fun i10 => 
        loopM (σ := Int × Unit) (fun J12 s13 h14 =>
          (fun (i11 : Int) =>
            iteP (decide (i11 < (t.len : Int))) (
              idxA t.ptr t.len i11 1 fun b15 o16 => 
              st h14 b15 o16 (Value.int .i64 (IntKind.wrap .i64 ((IntKind.wrap .i64 ((-700 : Int) - i11)) + (l.len : Int)))) fun h17 => 
              bindI (IntKind.wrap .i64 (i11 + 1)) fun i18 => 
              J12 (i18, ()) h17) (
              slc t.ptr t.cap 1 0 (l.len : Int) t.cap fun t19 => 
              K t19 h14)) s13.1) (i10, ()) h4)) s.1) (i, ()) h1

def m_spillwaymem_HandInts (l : Sl) (K : Sl → Heap → Prop) (h : Heap) : Prop := g_spillwaymem_HandInts l K h

/-- spillwaymem.Hand -/
def g_spillwaymem_Hand (l : Sl) (K : Sl → Heap → Prop) (h : Heap) : Prop :=
  mkS 5 1 [Value.int .u8 0] (IntKind.wrap .i64 ((l.len : Int) + 9)) (IntKind.wrap .i64 ((l.len : Int) + 9)) h fun t h1 => 
  bindI 0 fun i => 
  loopM (σ := Int × Unit) (fun J3 s h4 =>
    (fun (i2 : Int) =>
      iteP (decide (i2 < (l.len : Int))) (
        idxA l.ptr l.len i2 1 fun b o => 
        ldI h4 b o .u8 fun t5 => 
        idxA t.ptr t.len i2 1 fun b6 o7 => 
        st h4 b6 o7 (Value.int .u8 t5) fun h8 => 
        bindI (IntKind.wrap .i64 (i2 + 1)) fun i9 => 
        J3 (i9, ()) h8) (
        bindI (l.len : Int) fun i10 => 
        loopM (σ := Int × Unit) (fun J12 s13 h14 =>
          (fun (i11 : Int) =>
            iteP (decide (i11 < (t.len : Int))) (
              idxA t.ptr t.len i11 1 fun b15 o16 => 
              st h14 b15 o16 (Value.int .u8 (IntKind.wrap .u8 (IntKind.wrap .i64 ((IntKind.wrap .i64 ((160 : Int) + i11)) - (l.len : Int))))) fun h17 => 
              bindI (IntKind.wrap .i64 (i11 + 1)) fun i18 => 
              J12 (i18, ()) h17) (
              slc t.ptr t.cap 1 0 (l.len : Int) t.cap fun t19 => 
              K t19 h14)) s13.1) (i10, ()) h4)) s.1) (i, ()) h1

def m_spillwaymem_Hand (l : Sl) (K : Sl → Heap → Prop) (h : Heap) : Prop := g_spillwaymem_Hand l K h

/-- spillwayref22.isPort -/
def g_spillwayref22_isPort (p : Int) (K : Bool → Heap → Prop) (h : Heap) : Prop :=
  iteP (decide (p ≥ 1)) (
    bindB (decide (p ≤ 65535)) fun t => 
    K t h) (
    K false h)

def m_spillwayref22_isPort (p : Int) (K : Bool → Heap → Prop) (h : Heap) : Prop := g_spillwayref22_isPort p K h

/-- (*spillwayref22.Net).ports -/
def g_spillwayref22_Net_ports (f_spillwayref22_isPort : Int → (Bool → Heap → Prop) → Heap → Prop) (n : Option Addr) (l : Sl) (K : Int → Heap → Prop) (h : Heap) : Prop :=
  bindI 0 fun t => 
  iteP n.isNone (
    bindI 1 fun t1 => 
    K t1 h) (
    bindI 0 fun i => 
    loopM (σ := Int × Unit) (fun J3 s h4 =>
      (fun (i2 : Int) =>
        iteP (decide (i2 < (l.len : Int))) (
          idxA l.ptr l.len i2 1 fun b o => 
          ldI h4 b o .i64 fun t5 => 
          f_spillwayref22_isPort t5 (fun t6 h7 =>
            iteP (!t6) (
              bindI 2 fun t8 => 
              K t8 h7) (
              bindI (IntKind.wrap .i64 (i2 + 1)) fun i9 => 
              J3 (i9, ()) h7)) h4) (
          bindI 0 fun t10 => 
          K t10 h4)) s.1) (i, ()) h)

def m_spillwayref22_Net_ports (n : Option Addr) (l : Sl) (K : Int → Heap → Prop) (h : Heap) : Prop := g_spillwayref22_Net_ports m_spillwayref22_isPort n l K h

/-- spillwayref22.place -/
def g_spillwayref22_place (l : Sl) (p : Int) (K : Int → Heap → Prop) (h : Heap) : Prop :=
  bindI 0 fun t => 
  bindI 0 fun i => 
  loopM (σ := Int × Unit) (fun J2 s h3 =>
    (fun (i1 : Int) =>
      iteP (decide (i1 < (l.len : Int))) (
        idxA l.ptr l.len i1 1 fun b o => 
        ldI h3 b o .i64 fun t4 => 
        iteP (t4 == p) (
          bindI i1 fun t5 => 
          K t5 h3) (
          bindI (IntKind.wrap .i64 (i1 + 1)) fun i6 => 
          J2 (i6, ()) h3)) (
        bindI (-1) fun t7 => 
        K t7 h3)) s.1) (i, ()) h

def m_spillwayref22_place (l : Sl) (p : Int) (K : Int → Heap → Prop) (h : Heap) : Prop := g_spillwayref22_place l p K h

/-- (*spillwayref22.Net).Listen -/
def g_spillwayref22_Net_Listen (f_spillwayref22_Net_ports : (Option Addr) → Sl → (Int → Heap → Prop) → Heap → Prop) (f_spillwayref22_place : Sl → Int → (Int → Heap → Prop) → Heap → Prop) (n : Option Addr) (l : Sl) (K : Int → Heap → Prop) (h : Heap) : Prop :=
  bindI 0 fun t => 
  f_spillwayref22_Net_ports n l (fun t1 h2 =>
    bindI t1 fun e => 
    bindI 0 fun i => 
    loopM (σ := Int × Unit) (fun J4 s h5 =>
      (fun (i3 : Int) =>
        iteP (decide (i3 < (l.len : Int))) (
          iteP (e == 0) (
            derefP n fun b o => 
            ldL h5 b o fun t6 => 
            idxA l.ptr l.len i3 1 fun b7 o8 => 
            ldI h5 b7 o8 .i64 fun t9 => 
            qcall (ρ := Int × Unit) (fun K h => f_spillwayref22_place t6 t9 (fun q h => K (q, ()) h) h) h5 fun r => 
            iteP (decide (r.1 < 0)) (
              derefP n fun b11 o12 => 
              idxA l.ptr l.len i3 1 fun b13 o14 => 
              ldL h5 b11 o12 fun t15 => 
              ldI h5 b13 o14 .i64 fun t16 => 
              newC h5 [Value.int .i64 t16] 3 fun b17 h18 => 
              need (heldL h18 [(b11, o12, Value.slice t15.ptr t15.len t15.cap)]) <|
              rdS ⟨some ⟨b17, 0, none⟩, 1, 1⟩ 1 h18 fun new => app 3 1 8 [Value.int .i64 0] t15 1 new h18 fun t19 h20 => 
              derefP n fun b21 o22 => 
              st h20 b21 o22 (Value.slice t19.ptr t19.len t19.cap) fun h23 => 
              bindI (IntKind.wrap .i64 (i3 + 1)) fun i24 => 
              J4 (i24, ()) h23) (
              bindI (IntKind.wrap .i64 (i3 + 1)) fun i25 => 
              J4 (i25, ()) h5)) (
            bindI e fun t26 => 
            K t26 h5)) (
          bindI e fun t27 => 
          K t27 h5)) s.1) (i, ()) h2) h

def m_spillwayref22_Net_Listen (n : Option Addr) (l : Sl) (K : Int → Heap → Prop) (h : Heap) : Prop := g_spillwayref22_Net_Listen m_spillwayref22_Net_ports m_spillwayref22_place n l K h

/-- (*stream.Net).Stop -/
def g_stream_Net_Stop (f_stream_Net_arePorts : (Option Addr) → Sl → (Int → Heap → Prop) → Heap → Prop) (n : Option Addr) (ports : Sl) (K : Int → Heap → Prop) (h : Heap) : Prop :=
  bindI 0 fun t => 
  f_stream_Net_arePorts n ports (fun t1 h2 =>
    bindI t1 fun e => 
    iteP (e != 0) (
      bindI e fun t3 => 
      K t3 h2) (
      loopM (σ := Int × Unit) (fun J4 s h5 =>
        (fun (s16 : Int) =>
          iteP (decide (s16 < (ports.len : Int))) (
            idxA ports.ptr ports.len s16 1 fun b o => 
            ldI h5 b o .i64 fun t6 => 
            bindI t6 fun p => 
            derefP n fun b7 o8 => 
            ldM h5 b7 o8 fun t9 => 
            mapDel (.int .i64) h5 t9 (Value.int .i64 p) fun h10 => 
            J4 (IntKind.wrap .i64 (s16 + 1), ()) h10) (
            bindI 0 fun t11 => 
            K t11 h5)) s.1) (0, ()) h2)) h

def m_stream_Net_Stop (n : Option Addr) (ports : Sl) (K : Int → Heap → Prop) (h : Heap) : Prop := g_stream_Net_Stop m_stream_Net_arePorts n ports K h

/-- (*spillwayref22.Net).Stop -/
def g_spillwayref22_Net_Stop (f_spillwayref22_Net_ports : (Option Addr) → Sl → (Int → Heap → Prop) → Heap → Prop) (f_spillwayref22_place : Sl → Int → (Int → Heap → Prop) → Heap → Prop) (n : Option Addr) (l : Sl) (K : Int → Heap → Prop) (h : Heap) : Prop :=
  bindI 0 fun t => 
  f_spillwayref22_Net_ports n l (fun t1 h2 =>
    bindI t1 fun e => 
    bindI 0 fun i => 
    loopM (σ := Int × Unit) (fun J4 s h5 =>
      (fun (i3 : Int) =>
        iteP (decide (i3 < (l.len : Int))) (
          iteP (e == 0) (
            derefP n fun b o => 
            ldL h5 b o fun t6 => 
            idxA l.ptr l.len i3 1 fun b7 o8 => 
            ldI h5 b7 o8 .i64 fun t9 => 
            qcall (ρ := Int × Unit) (fun K h => f_spillwayref22_place t6 t9 (fun q h => K (q, ()) h) h) h5 fun r => 
            bindI r.1 fun k => 
            iteP (decide (k ≥ 0)) (
              derefP n fun b11 o12 => 
              derefP n fun b13 o14 => 
              ldL h5 b11 o12 fun t15 => 
              slc t15.ptr t15.cap 1 0 k t15.cap fun t16 => 
              ldL h5 b13 o14 fun t17 => 
              slc t17.ptr t17.cap 1 (IntKind.wrap .i64 (k + 1)) t17.len t17.cap fun t18 => 
              newC h5 [] 3 fun b19 h20 => 
              need (heldL h20 [(b13, o14, Value.slice t17.ptr t17.len t17.cap)]) <|
              need (heldL h20 [(b11, o12, Value.slice t15.ptr t15.len t15.cap)]) <|
              rdS t16 1 h20 fun new => app 3 1 8 [Value.int .i64 0] ⟨some ⟨b19, 0, none⟩, 0, 0⟩ t16.len new h20 fun t21 h22 => 
              need (heldL h22 [(b13, o14, Value.slice t17.ptr t17.len t17.cap)]) <|
              need (heldL h22 [(b11, o12, Value.slice t15.ptr t15.len t15.cap)]) <|
              rdS t18 1 h22 fun new25 => app 3 1 8 [Value.int .i64 0] t21 t18.len new25 h22 fun t23 h24 => 
              need (heldL h24 [(b13, o14, Value.slice t17.ptr t17.len t17.cap)]) <|
              need (heldL h24 [(b11, o12, Value.slice t15.ptr t15.len t15.cap)]) <|
              derefP n fun b26 o27 => 
              st h24 b26 o27 (Value.slice t23.ptr t23.len t23.cap) fun h28 => 
              bindI (IntKind.wrap .i64 (i3 + 1)) fun i29 => 
              J4 (i29, ()) h28) (
              bindI (IntKind.wrap .i64 (i3 + 1)) fun i30 => 
              J4 (i30, ()) h5)) (
            bindI e fun t31 => 
            K t31 h5)) (
          bindI e fun t32 => 
          K t32 h5)) s.1) (i, ()) h2) h

def m_spillwayref22_Net_Stop (n : Option Addr) (l : Sl) (K : Int → Heap → Prop) (h : Heap) : Prop := g_spillwayref22_Net_Stop m_spillwayref22_Net_ports m_spillwayref22_place n l K h

/-- (spillwaylaw22.Deed).first -/
def g_spillwaylaw22_Deed_first (d : Int × Int × Int × Int × Sl × Sl × Unit) (K : Int → Heap → Prop) (h : Heap) : Prop :=
  newC h [Value.int .i64 d.1, Value.int .i64 d.2.1, Value.int .i64 d.2.2.1, Value.int .i64 d.2.2.2.1, Value.slice d.2.2.2.2.1.ptr d.2.2.2.2.1.len d.2.2.2.2.1.cap, Value.slice d.2.2.2.2.2.1.ptr d.2.2.2.2.2.1.len d.2.2.2.2.2.1.cap] 35 fun b h1 => 
  bindI 0 fun t => 
  ldL h1 b (0 + 4) fun t2 => 
  iteP ((t2.len : Int) == 0) (
    bindI 0 fun t3 => 
    K t3 h1) (
    ldL h1 b (0 + 4) fun t4 => 
    idxA t4.ptr t4.len 0 1 fun b5 o => 
    ldI h1 b5 o .i64 fun t6 => 
    bindI t6 fun t7 => 
    K t7 h1)

def m_spillwaylaw22_Deed_first (d : Int × Int × Int × Int × Sl × Sl × Unit) (K : Int → Heap → Prop) (h : Heap) : Prop := g_spillwaylaw22_Deed_first d K h

/-- (*spillwayref22.Net).Conns -/
def g_spillwayref22_Net_Conns (n : Option Addr) (K : Sl → Heap → Prop) (h : Heap) : Prop :=
  bindI 0 fun i => 
  loopM (σ := Sl × Int × Unit) (fun J2 s h3 =>
    (fun (out : Sl) (i1 : Int) =>
      iteP n.isSome (
        derefP n fun b o => 
        ldL h3 b (o + 1) fun t => 
        iteP (decide (i1 < (t.len : Int))) (
          derefP n fun b4 o5 => 
          ldL h3 b4 (o5 + 1) fun t6 => 
          idxA t6.ptr t6.len i1 8 fun b7 o8 => 
          ldB h3 b7 (o8 + 1) fun t9 => 
          iteP (!t9) (
            newC h3 [Value.int .i64 (IntKind.wrap .i64 (i1 + 1))] 3 fun b10 h11 => 
            rdS ⟨some ⟨b10, 0, none⟩, 1, 1⟩ 1 h11 fun new => app 3 1 8 [Value.int .i64 0] out 1 new h11 fun t12 h13 => 
            bindI (IntKind.wrap .i64 (i1 + 1)) fun i14 => 
            J2 (t12, i14, ()) h13) (
            bindI (IntKind.wrap .i64 (i1 + 1)) fun i15 => 
            J2 (out, i15, ()) h3)) (
          K out h3)) (
        K out h3)) s.1 s.2.1) (⟨none, 0, 0⟩, i, ()) h

def m_spillwayref22_Net_Conns (n : Option Addr) (K : Sl → Heap → Prop) (h : Heap) : Prop := g_spillwayref22_Net_Conns n K h

/-- (*spillwayref22.Net).Dial -/
def g_spillwayref22_Net_Dial (f_spillwayref22_Net_ports : (Option Addr) → Sl → (Int → Heap → Prop) → Heap → Prop) (f_spillwayref22_place : Sl → Int → (Int → Heap → Prop) → Heap → Prop) (f_spillwayref22_Net_Conns : (Option Addr) → (Sl → Heap → Prop) → Heap → Prop) (n : Option Addr) (port : Int) (K : Int → Int → Heap → Prop) (h : Heap) : Prop :=
  bindI 0 fun t => 
  bindI 0 fun t1 => 
  newC h [Value.int .i64 port] 3 fun b h2 => 
  f_spillwayref22_Net_ports n ⟨some ⟨b, 0, none⟩, 1, 1⟩ (fun t3 h4 =>
    bindI t3 fun e => 
    bindB (e != 0) fun t5 => 
    iteP t5 (
      bindI 0 fun t6 => 
      bindI e fun t7 => 
      K t6 t7 h4) (
      derefP n fun b8 o => 
      ldL h4 b8 o fun t9 => 
      f_spillwayref22_place t9 port (fun t10 h11 =>
        bindB (decide (t10 < 0)) fun t12 => 
        iteP t12 (
          bindI 0 fun t13 => 
          bindI 51 fun t14 => 
          K t13 t14 h11) (
          f_spillwayref22_Net_Conns n (fun t15 h16 =>
            bindB (decide ((t15.len : Int) ≥ 64)) fun t17 => 
            iteP t17 (
              bindI 0 fun t18 => 
              bindI 3 fun t19 => 
              K t18 t19 h16) (
              derefP n fun b20 o21 => 
              ldL h16 b20 (o21 + 1) fun t22 => 
              newC h16 [Value.int .i64 port, Value.bool false, Value.slice none 0 0, Value.slice none 0 0, Value.bool false, Value.slice none 0 0, Value.slice none 0 0, Value.bool false] 88 fun b23 h24 => 
              rdS ⟨some ⟨b23, 0, none⟩, 1, 1⟩ 8 h24 fun new => app 88 8 128 [Value.int .i64 0, Value.bool false, Value.slice none 0 0, Value.slice none 0 0, Value.bool false, Value.slice none 0 0, Value.slice none 0 0, Value.bool false] t22 1 new h24 fun t25 h26 => 
              derefP n fun b27 o28 => 
              st h26 b27 (o28 + 1) (Value.slice t25.ptr t25.len t25.cap) fun h29 => 
              derefP n fun b30 o31 => 
              ldL h29 b30 (o31 + 1) fun t32 => 
              bindI (t32.len : Int) fun t33 => 
              bindI 0 fun t34 => 
              K t33 t34 h29)) h11)) h4)) h2

def m_spillwayref22_Net_Dial (n : Option Addr) (port : Int) (K : Int → Int → Heap → Prop) (h : Heap) : Prop := g_spillwayref22_Net_Dial m_spillwayref22_Net_ports m_spillwayref22_place m_spillwayref22_Net_Conns n port K h

/-- (*spillwayref22.Net).wrong -/
def g_spillwayref22_Net_wrong (n : Option Addr) (c : Int) (end_ : Int) (most : Int) (K : Int → Heap → Prop) (h : Heap) : Prop :=
  bindI 0 fun t => 
  bindB n.isNone fun t1 => 
  iteP t1 (
    bindI 1 fun t2 => 
    K t2 h) (
    iteP (decide (c < 1)) (
      bindI 4 fun t3 => 
      K t3 h) (
      derefP n fun b o => 
      ldL h b (o + 1) fun t4 => 
      bindB (decide (c > (t4.len : Int))) fun t5 => 
      iteP t5 (
        bindI 4 fun t6 => 
        K t6 h) (
        iteP (decide (end_ < 0)) (
          bindI 2 fun t7 => 
          K t7 h) (
          iteP (decide (end_ > 1)) (
            bindI 2 fun t8 => 
            K t8 h) (
            bindB (decide (most < 0)) fun t9 => 
            iteP t9 (
              bindI 2 fun t10 => 
              K t10 h) (
              derefP n fun b11 o12 => 
              ldL h b11 (o12 + 1) fun t13 => 
              idxA t13.ptr t13.len (IntKind.wrap .i64 (c - 1)) 8 fun b14 o15 => 
              ldB h b14 (o15 + 1) fun t16 => 
              bindB t16 fun t17 => 
              iteP t17 (
                bindI 51 fun t18 => 
                K t18 h) (
                bindI 0 fun t19 => 
                K t19 h)))))))

def m_spillwayref22_Net_wrong (n : Option Addr) (c : Int) (end_ : Int) (most : Int) (K : Int → Heap → Prop) (h : Heap) : Prop := g_spillwayref22_Net_wrong n c end_ most K h

/-- (*spillwayref22.Net).Write -/
def g_spillwayref22_Net_Write (f_spillwayref22_Net_wrong : (Option Addr) → Int → Int → Int → (Int → Heap → Prop) → Heap → Prop) (n : Option Addr) (c : Int) (end_ : Int) (b : Sl) (K : Int → Heap → Prop) (h : Heap) : Prop :=
  bindI 0 fun t => 
  f_spillwayref22_Net_wrong n c end_ 0 (fun t1 h2 =>
    bindI t1 fun e => 
    iteP (e != 0) (
      bindI e fun t3 => 
      K t3 h2) (
      derefP n fun b4 o => 
      ldL h2 b4 (o + 1) fun t5 => 
      idxA t5.ptr t5.len (IntKind.wrap .i64 (c - 1)) 8 fun b6 o7 => 
      idxN 2 end_ fun j => 
      ldB h2 b6 (o7 + 2 + j * 3 + 2) fun t8 => 
      bindB t8 fun t9 => 
      iteP t9 (
        bindI 51 fun t10 => 
        K t10 h2) (
        ldL h2 b6 (o7 + 2 + j * 3) fun t11 => 
        bindB (decide ((IntKind.wrap .i64 ((t11.len : Int) + (b.len : Int))) > 65536)) fun t12 => 
        iteP t12 (
          bindI 3 fun t13 => 
          K t13 h2) (
          newC h2 [] 5 fun b14 h15 => 
          ldL h15 b6 (o7 + 2 + j * 3) fun t16 => 
          rdS t16 1 h15 fun new => app 5 1 1 [Value.int .u8 0] ⟨some ⟨b14, 0, none⟩, 0, 0⟩ t16.len new h15 fun t17 h18 => 
          rdS b 1 h18 fun new21 => app 5 1 1 [Value.int .u8 0] t17 b.len new21 h18 fun t19 h20 => 
          st h20 b6 (o7 + 2 + j * 3) (Value.slice t19.ptr t19.len t19.cap) fun h22 => 
          bindI 0 fun t23 => 
          K t23 h22)))) h

def m_spillwayref22_Net_Write (n : Option Addr) (c : Int) (end_ : Int) (b : Sl) (K : Int → Heap → Prop) (h : Heap) : Prop := g_spillwayref22_Net_Write m_spillwayref22_Net_wrong n c end_ b K h

/-- spillwayref22.least -/
def g_spillwayref22_least (a : Int) (b : Int) (K : Int → Heap → Prop) (h : Heap) : Prop :=
  bindI 0 fun t => 
  iteP (decide (a < b)) (
    bindI a fun t1 => 
    K t1 h) (
    bindI b fun t2 => 
    K t2 h)

def m_spillwayref22_least (a : Int) (b : Int) (K : Int → Heap → Prop) (h : Heap) : Prop := g_spillwayref22_least a b K h

/-- (*spillwayref22.Net).Move -/
def g_spillwayref22_Net_Move (f_spillwayref22_Net_wrong : (Option Addr) → Int → Int → Int → (Int → Heap → Prop) → Heap → Prop) (f_spillwayref22_least : Int → Int → (Int → Heap → Prop) → Heap → Prop) (n : Option Addr) (c : Int) (end_ : Int) (most : Int) (K : Int → Int → Heap → Prop) (h : Heap) : Prop :=
  bindI 0 fun t => 
  bindI 0 fun t1 => 
  f_spillwayref22_Net_wrong n c end_ most (fun t2 h3 =>
    bindI t2 fun e => 
    iteP (e != 0) (
      bindI 0 fun t4 => 
      bindI e fun t5 => 
      K t4 t5 h3) (
      derefP n fun b o => 
      ldL h3 b (o + 1) fun t6 => 
      idxA t6.ptr t6.len (IntKind.wrap .i64 (c - 1)) 8 fun b7 o8 => 
      idxN 2 end_ fun j => 
      ldL h3 b7 (o8 + 2 + j * 3) fun t9 => 
      f_spillwayref22_least most (t9.len : Int) (fun t10 h11 =>
        bindI t10 fun k => 
        ldL h11 b7 (o8 + 2 + j * 3 + 1) fun t12 => 
        ldL h11 b7 (o8 + 2 + j * 3) fun t13 => 
        slc t13.ptr t13.cap 1 0 k t13.cap fun t14 => 
        newC h11 [] 5 fun b15 h16 => 
        need (heldL h16 [(b7, o8 + 2 + j * 3, Value.slice t13.ptr t13.len t13.cap)]) <|
        need (heldL h16 [(b7, o8 + 2 + j * 3 + 1, Value.slice t12.ptr t12.len t12.cap)]) <|
        rdS t12 1 h16 fun new => app 5 1 1 [Value.int .u8 0] ⟨some ⟨b15, 0, none⟩, 0, 0⟩ t12.len new h16 fun t17 h18 => 
        need (heldL h18 [(b7, o8 + 2 + j * 3, Value.slice t13.ptr t13.len t13.cap)]) <|
        rdS t14 1 h18 fun new21 => app 5 1 1 [Value.int .u8 0] t17 t14.len new21 h18 fun t19 h20 => 
        need (heldL h20 [(b7, o8 + 2 + j * 3, Value.slice t13.ptr t13.len t13.cap)]) <|
        st h20 b7 (o8 + 2 + j * 3 + 1) (Value.slice t19.ptr t19.len t19.cap) fun h22 => 
        newC h22 [] 5 fun b23 h24 => 
        ldL h24 b7 (o8 + 2 + j * 3) fun t25 => 
        slc t25.ptr t25.cap 1 k t25.len t25.cap fun t26 => 
        rdS t26 1 h24 fun new29 => app 5 1 1 [Value.int .u8 0] ⟨some ⟨b23, 0, none⟩, 0, 0⟩ t26.len new29 h24 fun t27 h28 => 
        st h28 b7 (o8 + 2 + j * 3) (Value.slice t27.ptr t27.len t27.cap) fun h30 => 
        bindI k fun t31 => 
        bindI 0 fun t32 => 
        K t31 t32 h30) h3)) h

def m_spillwayref22_Net_Move (n : Option Addr) (c : Int) (end_ : Int) (most : Int) (K : Int → Int → Heap → Prop) (h : Heap) : Prop := g_spillwayref22_Net_Move m_spillwayref22_Net_wrong m_spillwayref22_least n c end_ most K h

/-- (*spillwayref22.Net).Read -/
def g_spillwayref22_Net_Read (f_spillwayref22_Net_wrong : (Option Addr) → Int → Int → Int → (Int → Heap → Prop) → Heap → Prop) (f_spillwayref22_least : Int → Int → (Int → Heap → Prop) → Heap → Prop) (n : Option Addr) (c : Int) (end_ : Int) (most : Int) (K : Sl → Bool → Int → Heap → Prop) (h : Heap) : Prop :=
  bindI 0 fun t => 
  f_spillwayref22_Net_wrong n c end_ most (fun t1 h2 =>
    bindI t1 fun e => 
    iteP (e != 0) (
      bindI e fun t3 => 
      K ⟨none, 0, 0⟩ false t3 h2) (
      derefP n fun b o => 
      ldL h2 b (o + 1) fun t4 => 
      idxA t4.ptr t4.len (IntKind.wrap .i64 (c - 1)) 8 fun b5 o6 => 
      idxN 2 (IntKind.wrap .i64 ((1 : Int) - end_)) fun j => 
      ldL h2 b5 (o6 + 2 + j * 3 + 1) fun t7 => 
      f_spillwayref22_least most (t7.len : Int) (fun t8 h9 =>
        bindI t8 fun k => 
        newC h9 [] 5 fun b10 h11 => 
        ldL h11 b5 (o6 + 2 + j * 3 + 1) fun t12 => 
        slc t12.ptr t12.cap 1 0 k t12.cap fun t13 => 
        rdS t13 1 h11 fun new => app 5 1 1 [Value.int .u8 0] ⟨some ⟨b10, 0, none⟩, 0, 0⟩ t13.len new h11 fun t14 h15 => 
        newC h15 [] 5 fun b16 h17 => 
        ldL h17 b5 (o6 + 2 + j * 3 + 1) fun t18 => 
        slc t18.ptr t18.cap 1 k t18.len t18.cap fun t19 => 
        rdS t19 1 h17 fun new22 => app 5 1 1 [Value.int .u8 0] ⟨some ⟨b16, 0, none⟩, 0, 0⟩ t19.len new22 h17 fun t20 h21 => 
        st h21 b5 (o6 + 2 + j * 3 + 1) (Value.slice t20.ptr t20.len t20.cap) fun h23 => 
        ldB h23 b5 (o6 + 2 + j * 3 + 2) fun t24 => 
        iteP t24 (
          ldL h23 b5 (o6 + 2 + j * 3) fun t25 => 
          ldL h23 b5 (o6 + 2 + j * 3 + 1) fun t26 => 
          bindB ((IntKind.wrap .i64 ((t25.len : Int) + (t26.len : Int))) == 0) fun t27 => 
          bindI 0 fun t28 => 
          K t14 t27 t28 h23) (
          bindI 0 fun t29 => 
          K t14 false t29 h23)) h2)) h

def m_spillwayref22_Net_Read (n : Option Addr) (c : Int) (end_ : Int) (most : Int) (K : Sl → Bool → Int → Heap → Prop) (h : Heap) : Prop := g_spillwayref22_Net_Read m_spillwayref22_Net_wrong m_spillwayref22_least n c end_ most K h

/-- (*spillwayref22.Net).Shut -/
def g_spillwayref22_Net_Shut (f_spillwayref22_Net_wrong : (Option Addr) → Int → Int → Int → (Int → Heap → Prop) → Heap → Prop) (n : Option Addr) (c : Int) (end_ : Int) (K : Int → Heap → Prop) (h : Heap) : Prop :=
  bindI 0 fun t => 
  f_spillwayref22_Net_wrong n c end_ 0 (fun t1 h2 =>
    bindI t1 fun e => 
    iteP (e != 0) (
      bindI e fun t3 => 
      K t3 h2) (
      derefP n fun b o => 
      ldL h2 b (o + 1) fun t4 => 
      idxA t4.ptr t4.len (IntKind.wrap .i64 (c - 1)) 8 fun b5 o6 => 
      idxN 2 end_ fun j => 
      ldB h2 b5 (o6 + 2 + j * 3 + 2) fun t7 => 
      iteP t7 (
        bindI 51 fun t8 => 
        K t8 h2) (
        st h2 b5 (o6 + 2 + j * 3 + 2) (Value.bool true) fun h9 => 
        bindI 0 fun t10 => 
        K t10 h9))) h

def m_spillwayref22_Net_Shut (n : Option Addr) (c : Int) (end_ : Int) (K : Int → Heap → Prop) (h : Heap) : Prop := g_spillwayref22_Net_Shut m_spillwayref22_Net_wrong n c end_ K h

/-- (spillwaylaw22.Deed).broken -/
def g_spillwaylaw22_Deed_broken (d : Int × Int × Int × Int × Sl × Sl × Unit) (K : Sl → Heap → Prop) (h : Heap) : Prop :=
  newC h [Value.int .i64 d.1, Value.int .i64 d.2.1, Value.int .i64 d.2.2.1, Value.int .i64 d.2.2.2.1, Value.slice d.2.2.2.2.1.ptr d.2.2.2.2.1.len d.2.2.2.2.1.cap, Value.slice d.2.2.2.2.2.1.ptr d.2.2.2.2.2.1.len d.2.2.2.2.2.1.cap] 35 fun b h1 => 
  ldI h1 b (0 + 1) .i64 fun t => 
  newC h1 [Value.int .i64 t] 3 fun b2 h3 => 
  ldL h3 b (0 + 4) fun t4 => 
  iteP (decide ((t4.len : Int) > 0)) (
    ldL h3 b (0 + 4) fun t5 => 
    idxA t5.ptr t5.len 0 1 fun b6 o => 
    ldI h3 b6 o .i64 fun t7 => 
    newC h3 [Value.int .i64 t7] 3 fun b8 h9 => 
    rdS ⟨some ⟨b8, 0, none⟩, 1, 1⟩ 1 h9 fun new => app 3 1 8 [Value.int .i64 0] ⟨some ⟨b2, 0, none⟩, 1, 1⟩ 1 new h9 fun t10 h11 => 
    K t10 h11) (
    K ⟨some ⟨b2, 0, none⟩, 1, 1⟩ h3)

def m_spillwaylaw22_Deed_broken (d : Int × Int × Int × Int × Sl × Sl × Unit) (K : Sl → Heap → Prop) (h : Heap) : Prop := g_spillwaylaw22_Deed_broken d K h

/-- (*spillwayref22.Net).Break -/
def g_spillwayref22_Net_Break (f_spillwayref22_place : Sl → Int → (Int → Heap → Prop) → Heap → Prop) (n : Option Addr) (l : Sl) (K : Int → Heap → Prop) (h : Heap) : Prop :=
  bindI 0 fun t => 
  iteP n.isNone (
    bindI 1 fun t1 => 
    K t1 h) (
    bindI 0 fun i => 
    loopM (σ := Int × Unit) (fun J3 s h4 =>
      (fun (i2 : Int) =>
        iteP (decide (i2 < (l.len : Int))) (
          idxA l.ptr l.len i2 1 fun b o => 
          ldI h4 b o .i64 fun t5 => 
          iteP (decide (t5 < 1)) (
            bindI 4 fun t6 => 
            K t6 h4) (
            idxA l.ptr l.len i2 1 fun b7 o8 => 
            ldI h4 b7 o8 .i64 fun t9 => 
            derefP n fun b10 o11 => 
            ldL h4 b10 (o11 + 1) fun t12 => 
            iteP (decide (t9 > (t12.len : Int))) (
              bindI 4 fun t13 => 
              K t13 h4) (
              bindI (IntKind.wrap .i64 (i2 + 1)) fun i14 => 
              J3 (i14, ()) h4))) (
          bindI 0 fun i15 => 
          loopM (σ := Int × Unit) (fun J17 s18 h19 =>
            (fun (i16 : Int) =>
              iteP (decide (i16 < (l.len : Int))) (
                derefP n fun b20 o21 => 
                ldL h19 b20 (o21 + 1) fun t22 => 
                idxA l.ptr l.len i16 1 fun b23 o24 => 
                ldI h19 b23 o24 .i64 fun t25 => 
                idxA t22.ptr t22.len (IntKind.wrap .i64 (t25 - 1)) 8 fun b26 o27 => 
                ldB h19 b26 (o27 + 1) fun t28 => 
                iteP t28 (
                  bindI 51 fun t29 => 
                  K t29 h19) (
                  slc l.ptr l.cap 1 0 i16 l.cap fun t30 => 
                  idxA l.ptr l.len i16 1 fun b31 o32 => 
                  ldI h19 b31 o32 .i64 fun t33 => 
                  qcall (ρ := Int × Unit) (fun K h => f_spillwayref22_place t30 t33 (fun q h => K (q, ()) h) h) h19 fun r => 
                  iteP (decide (r.1 ≥ 0)) (
                    bindI 51 fun t35 => 
                    K t35 h19) (
                    bindI (IntKind.wrap .i64 (i16 + 1)) fun i36 => 
                    J17 (i36, ()) h19))) (
                bindI 0 fun i37 => 
                loopM (σ := Int × Unit) (fun J39 s40 h41 =>
                  (fun (i38 : Int) =>
                    iteP (decide (i38 < (l.len : Int))) (
                      derefP n fun b42 o43 => 
                      ldL h41 b42 (o43 + 1) fun t44 => 
                      idxA l.ptr l.len i38 1 fun b45 o46 => 
                      ldI h41 b45 o46 .i64 fun t47 => 
                      idxA t44.ptr t44.len (IntKind.wrap .i64 (t47 - 1)) 8 fun b48 o49 => 
                      st h41 b48 (o49 + 1) (Value.bool true) fun h50 => 
                      sts h50 b48 (o49 + 2) [Value.slice none 0 0, Value.slice none 0 0, Value.bool false, Value.slice none 0 0, Value.slice none 0 0, Value.bool false] fun h51 => 
                      bindI (IntKind.wrap .i64 (i38 + 1)) fun i52 => 
                      J39 (i52, ()) h51) (
                      bindI 0 fun t53 => 
                      K t53 h41)) s40.1) (i37, ()) h19)) s18.1) (i15, ()) h4)) s.1) (i, ()) h)

def m_spillwayref22_Net_Break (n : Option Addr) (l : Sl) (K : Int → Heap → Prop) (h : Heap) : Prop := g_spillwayref22_Net_Break m_spillwayref22_place n l K h

/-- spillwaymem.SameInts -/
def g_spillwaymem_SameInts (a : Sl) (b : Sl) (K : Bool → Heap → Prop) (h : Heap) : Prop :=
  iteP ((a.len : Int) != (b.len : Int)) (
    K false h) (
    bindI 0 fun i => 
    loopM (σ := Int × Unit) (fun J2 s h3 =>
      (fun (i1 : Int) =>
        iteP (decide (i1 < (a.len : Int))) (
          idxA a.ptr a.len i1 1 fun b4 o => 
          ldI h3 b4 o .i64 fun t => 
          idxA b.ptr b.len i1 1 fun b5 o6 => 
          ldI h3 b5 o6 .i64 fun t7 => 
          iteP (t != t7) (
            K false h3) (
            bindI (IntKind.wrap .i64 (i1 + 1)) fun i8 => 
            J2 (i8, ()) h3)) (
          K true h3)) s.1) (i, ()) h)

def m_spillwaymem_SameInts (a : Sl) (b : Sl) (K : Bool → Heap → Prop) (h : Heap) : Prop := g_spillwaymem_SameInts a b K h

/-- spillwaymem.KeptInts -/
def g_spillwaymem_KeptInts (f_spillwaymem_SameInts : Sl → Sl → (Bool → Heap → Prop) → Heap → Prop) (in_ : Sl) (l : Sl) (K : Bool → Heap → Prop) (h : Heap) : Prop :=
  f_spillwaymem_SameInts in_ l (fun t h1 =>
    iteP (!t) (
      K false h1) (
      slc in_.ptr in_.cap 1 0 (IntKind.wrap .i64 ((l.len : Int) + 9)) in_.cap fun t2 => 
      bindI (l.len : Int) fun i => 
      loopM (σ := Int × Unit) (fun J4 s h5 =>
        (fun (i3 : Int) =>
          iteP (decide (i3 < (t2.len : Int))) (
            idxA t2.ptr t2.len i3 1 fun b o => 
            ldI h5 b o .i64 fun t6 => 
            iteP (t6 != (IntKind.wrap .i64 ((IntKind.wrap .i64 ((-700 : Int) - i3)) + (l.len : Int)))) (
              K false h5) (
              bindI (IntKind.wrap .i64 (i3 + 1)) fun i7 => 
              J4 (i7, ()) h5)) (
            K true h5)) s.1) (i, ()) h1)) h

def m_spillwaymem_KeptInts (in_ : Sl) (l : Sl) (K : Bool → Heap → Prop) (h : Heap) : Prop := g_spillwaymem_KeptInts m_spillwaymem_SameInts in_ l K h

/-- spillwaymem.Kept -/
def g_spillwaymem_Kept (f_spillwaymem_Same : Sl → Sl → (Bool → Heap → Prop) → Heap → Prop) (in_ : Sl) (l : Sl) (K : Bool → Heap → Prop) (h : Heap) : Prop :=
  f_spillwaymem_Same in_ l (fun t h1 =>
    iteP (!t) (
      K false h1) (
      slc in_.ptr in_.cap 1 0 (IntKind.wrap .i64 ((l.len : Int) + 9)) in_.cap fun t2 => 
      bindI (l.len : Int) fun i => 
      loopM (σ := Int × Unit) (fun J4 s h5 =>
        (fun (i3 : Int) =>
          iteP (decide (i3 < (t2.len : Int))) (
            idxA t2.ptr t2.len i3 1 fun b o => 
            ldI h5 b o .u8 fun t6 => 
            iteP (t6 != (IntKind.wrap .u8 (IntKind.wrap .i64 ((IntKind.wrap .i64 ((160 : Int) + i3)) - (l.len : Int))))) (
              K false h5) (
              bindI (IntKind.wrap .i64 (i3 + 1)) fun i7 => 
              J4 (i7, ()) h5)) (
            K true h5)) s.1) (i, ()) h1)) h

def m_spillwaymem_Kept (in_ : Sl) (l : Sl) (K : Bool → Heap → Prop) (h : Heap) : Prop := g_spillwaymem_Kept m_spillwaymem_Same in_ l K h

/-- (*stream.Net).Look -/
def g_stream_Net_Look (f_stream_Net_at : (Option Addr) → Int → Int → Int → ((Option Addr) → Int → Heap → Prop) → Heap → Prop) (n : Option Addr) (k : Int) (end_ : Int) (K : Int → Int → Int → Heap → Prop) (h : Heap) : Prop :=
  bindI 0 fun way => 
  bindI 0 fun come => 
  bindI 0 fun e => 
  f_stream_Net_at n k end_ 0 (fun t t1 h2 =>
    bindI t1 fun e3 => 
    iteP (e3 != 0) (
      bindI 0 fun way4 => 
      bindI 0 fun come5 => 
      bindI e3 fun e6 => 
      K way4 come5 e6 h2) (
      derefP t fun b o => 
      idxN 2 end_ fun j => 
      ldL h2 b (o + j * 3) fun t7 => 
      derefP t fun b8 o9 => 
      idxN 2 (IntKind.wrap .i64 ((1 : Int) - end_)) fun j10 => 
      ldL h2 b8 (o9 + j10 * 3 + 1) fun t11 => 
      bindI (t7.len : Int) fun way12 => 
      bindI (t11.len : Int) fun come13 => 
      bindI 0 fun e14 => 
      K way12 come13 e14 h2)) h

def m_stream_Net_Look (n : Option Addr) (k : Int) (end_ : Int) (K : Int → Int → Int → Heap → Prop) (h : Heap) : Prop := g_stream_Net_Look m_stream_Net_at n k end_ K h

/-- (*spillwayref22.Net).Look -/
def g_spillwayref22_Net_Look (f_spillwayref22_Net_wrong : (Option Addr) → Int → Int → Int → (Int → Heap → Prop) → Heap → Prop) (n : Option Addr) (c : Int) (end_ : Int) (K : Int → Int → Int → Heap → Prop) (h : Heap) : Prop :=
  bindI 0 fun t => 
  bindI 0 fun t1 => 
  bindI 0 fun t2 => 
  f_spillwayref22_Net_wrong n c end_ 0 (fun t3 h4 =>
    bindI t3 fun e => 
    iteP (e != 0) (
      bindI 0 fun t5 => 
      bindI 0 fun t6 => 
      bindI e fun t7 => 
      K t5 t6 t7 h4) (
      derefP n fun b o => 
      ldL h4 b (o + 1) fun t8 => 
      idxA t8.ptr t8.len (IntKind.wrap .i64 (c - 1)) 8 fun b9 o10 => 
      ldI h4 b9 o10 .i64 fun t11 => ldB h4 b9 (o10 + 1) fun t12 => ldL h4 b9 (o10 + 2) fun t13 => ldL h4 b9 (o10 + 3) fun t14 => ldB h4 b9 (o10 + 4) fun t15 => ldL h4 b9 (o10 + 5) fun t16 => ldL h4 b9 (o10 + 6) fun t17 => ldB h4 b9 (o10 + 7) fun t18 => 
      newC h4 [Value.int .i64 0, Value.bool false, Value.slice none 0 0, Value.slice none 0 0, Value.bool false, Value.slice none 0 0, Value.slice none 0 0, Value.bool false] 88 fun b19 h20 => 
      sts h20 b19 0 [Value.int .i64 t11, Value.bool t12, Value.slice t13.ptr t13.len t13.cap, Value.slice t14.ptr t14.len t14.cap, Value.bool t15, Value.slice t16.ptr t16.len t16.cap, Value.slice t17.ptr t17.len t17.cap, Value.bool t18] fun h21 => 
      idxN 2 end_ fun j => 
      ldL h21 b19 (0 + 2 + j * 3) fun t22 => 
      idxN 2 (IntKind.wrap .i64 ((1 : Int) - end_)) fun j23 => 
      ldL h21 b19 (0 + 2 + j23 * 3 + 1) fun t24 => 
      bindI (t22.len : Int) fun t25 => 
      bindI (t24.len : Int) fun t26 => 
      bindI 0 fun t27 => 
      K t25 t26 t27 h21)) h

def m_spillwayref22_Net_Look (n : Option Addr) (c : Int) (end_ : Int) (K : Int → Int → Int → Heap → Prop) (h : Heap) : Prop := g_spillwayref22_Net_Look m_spillwayref22_Net_wrong n c end_ K h

/-- (*stream.Net).Port -/
def g_stream_Net_Port (n : Option Addr) (k : Int) (K : Int → Heap → Prop) (h : Heap) : Prop :=
  bindI 0 fun t => 
  iteP n.isNone (
    bindI 0 fun t1 => 
    K t1 h) (
    iteP (decide (k < 1)) (
      bindI 0 fun t2 => 
      K t2 h) (
      derefP n fun b o => 
      ldL h b (o + 1) fun t3 => 
      iteP (decide (k > (t3.len : Int))) (
        bindI 0 fun t4 => 
        K t4 h) (
        derefP n fun b5 o6 => 
        ldL h b5 (o6 + 1) fun t7 => 
        idxA t7.ptr t7.len (IntKind.wrap .i64 (k - 1)) 8 fun b8 o9 => 
        ldI h b8 (o9 + 6) .i64 fun t10 => 
        bindI t10 fun t11 => 
        K t11 h)))

def m_stream_Net_Port (n : Option Addr) (k : Int) (K : Int → Heap → Prop) (h : Heap) : Prop := g_stream_Net_Port n k K h

/-- (*spillwayref22.Net).Port -/
def g_spillwayref22_Net_Port (n : Option Addr) (c : Int) (K : Int → Heap → Prop) (h : Heap) : Prop :=
  bindI 0 fun t => 
  iteP n.isNone (
    bindI 0 fun t1 => 
    K t1 h) (
    iteP (decide (c < 1)) (
      bindI 0 fun t2 => 
      K t2 h) (
      derefP n fun b o => 
      ldL h b (o + 1) fun t3 => 
      iteP (decide (c > (t3.len : Int))) (
        bindI 0 fun t4 => 
        K t4 h) (
        derefP n fun b5 o6 => 
        ldL h b5 (o6 + 1) fun t7 => 
        idxA t7.ptr t7.len (IntKind.wrap .i64 (c - 1)) 8 fun b8 o9 => 
        ldI h b8 o9 .i64 fun t10 => 
        bindI t10 fun t11 => 
        K t11 h)))

def m_spillwayref22_Net_Port (n : Option Addr) (c : Int) (K : Int → Heap → Prop) (h : Heap) : Prop := g_spillwayref22_Net_Port n c K h

/-- (spillwaylaw22.both).alike -/
def g_spillwaylaw22_both_alike (f_spillwayref22_Net_Conns : (Option Addr) → (Sl → Heap → Prop) → Heap → Prop) (f_stream_Net_Conns : (Option Addr) → (Sl → Heap → Prop) → Heap → Prop) (f_spillwaymem_SameInts : Sl → Sl → (Bool → Heap → Prop) → Heap → Prop) (f_stream_Net_Look : (Option Addr) → Int → Int → (Int → Int → Int → Heap → Prop) → Heap → Prop) (f_spillwayref22_Net_Look : (Option Addr) → Int → Int → (Int → Int → Int → Heap → Prop) → Heap → Prop) (f_stream_Net_Port : (Option Addr) → Int → (Int → Heap → Prop) → Heap → Prop) (f_spillwayref22_Net_Port : (Option Addr) → Int → (Int → Heap → Prop) → Heap → Prop) (b : Option Addr × Option Addr × Unit) (K : Bool → Heap → Prop) (h : Heap) : Prop :=
  newC h [Value.pointer b.1, Value.pointer b.2.1] 47 fun b1 h2 => 
  ldP h2 b1 (0 + 1) fun t => 
  f_spillwayref22_Net_Conns t (fun t3 h4 =>
    ldP h4 b1 0 fun t5 => 
    f_stream_Net_Conns t5 (fun t6 h7 =>
      f_spillwaymem_SameInts t6 t3 (fun t8 h9 =>
        iteP (!t8) (
          K false h9) (
          bindI (-1) fun i => 
          loopM (σ := Int × Unit) (fun J11 s h12 =>
            (fun (i10 : Int) =>
              iteP (decide (i10 ≤ (IntKind.wrap .i64 ((t3.len : Int) + 1)))) (
                bindI 0 fun end_ => 
                loopM (σ := Int × Unit) (fun J14 s15 h16 =>
                  (fun (end_13 : Int) =>
                    iteP (decide (end_13 < 2)) (
                      ldP h16 b1 0 fun t17 => 
                      f_stream_Net_Look t17 i10 end_13 (fun t18 t19 t20 h21 =>
                        bindI t18 fun x => 
                        bindI t19 fun y => 
                        bindI t20 fun e => 
                        ldP h21 b1 (0 + 1) fun t22 => 
                        f_spillwayref22_Net_Look t22 i10 end_13 (fun t23 t24 t25 h26 =>
                          bindI t23 fun u => 
                          bindI t24 fun v => 
                          bindI t25 fun f => 
                          iteP (x != u) (
                            K false h26) (
                            iteP (y != v) (
                              K false h26) (
                              iteP (e != f) (
                                K false h26) (
                                ldP h26 b1 0 fun t27 => 
                                qcall (ρ := Int × Unit) (fun K h => f_stream_Net_Port t27 i10 (fun q h => K (q, ()) h) h) h26 fun r => 
                                ldP h26 b1 (0 + 1) fun t29 => 
                                qcall (ρ := Int × Unit) (fun K h => f_spillwayref22_Net_Port t29 i10 (fun q31 h => K (q31, ()) h) h) h26 fun r32 => 
                                iteP (r.1 != r32.1) (
                                  K false h26) (
                                  bindI (IntKind.wrap .i64 (end_13 + 1)) fun end_33 => 
                                  J14 (end_33, ()) h26))))) h21) h16) (
                      bindI (IntKind.wrap .i64 (i10 + 1)) fun i34 => 
                      J11 (i34, ()) h16)) s15.1) (end_, ()) h12) (
                K true h12)) s.1) (i, ()) h9)) h7) h4) h2

def m_spillwaylaw22_both_alike (b : Option Addr × Option Addr × Unit) (K : Bool → Heap → Prop) (h : Heap) : Prop := g_spillwaylaw22_both_alike m_spillwayref22_Net_Conns m_stream_Net_Conns m_spillwaymem_SameInts m_stream_Net_Look m_spillwayref22_Net_Look m_stream_Net_Port m_spillwayref22_Net_Port b K h

/-- (spillwaylaw22.both).do -/
def g_spillwaylaw22_both_do (f_spillwaymem_HandInts : Sl → (Sl → Heap → Prop) → Heap → Prop) (f_spillwaymem_Hand : Sl → (Sl → Heap → Prop) → Heap → Prop) (f_stream_Net_Listen : (Option Addr) → Sl → (Int → Heap → Prop) → Heap → Prop) (f_spillwayref22_Net_Listen : (Option Addr) → Sl → (Int → Heap → Prop) → Heap → Prop) (f_stream_Net_Stop : (Option Addr) → Sl → (Int → Heap → Prop) → Heap → Prop) (f_spillwayref22_Net_Stop : (Option Addr) → Sl → (Int → Heap → Prop) → Heap → Prop) (f_spillwaylaw22_Deed_first : (Int × Int × Int × Int × Sl × Sl × Unit) → (Int → Heap → Prop) → Heap → Prop) (f_stream_Net_Dial : (Option Addr) → Int → (Int → Int → Heap → Prop) → Heap → Prop) (f_spillwayref22_Net_Dial : (Option Addr) → Int → (Int → Int → Heap → Prop) → Heap → Prop) (f_stream_Net_Write : (Option Addr) → Int → Int → Sl → (Int → Heap → Prop) → Heap → Prop) (f_spillwayref22_Net_Write : (Option Addr) → Int → Int → Sl → (Int → Heap → Prop) → Heap → Prop) (f_stream_Net_Move : (Option Addr) → Int → Int → Int → (Int → Int → Heap → Prop) → Heap → Prop) (f_spillwayref22_Net_Move : (Option Addr) → Int → Int → Int → (Int → Int → Heap → Prop) → Heap → Prop) (f_stream_Net_Read : (Option Addr) → Int → Int → Int → (Sl → Bool → Int → Heap → Prop) → Heap → Prop) (f_spillwayref22_Net_Read : (Option Addr) → Int → Int → Int → (Sl → Bool → Int → Heap → Prop) → Heap → Prop) (f_spillwaymem_Same : Sl → Sl → (Bool → Heap → Prop) → Heap → Prop) (f_stream_Net_Shut : (Option Addr) → Int → Int → (Int → Heap → Prop) → Heap → Prop) (f_spillwayref22_Net_Shut : (Option Addr) → Int → Int → (Int → Heap → Prop) → Heap → Prop) (f_spillwaylaw22_Deed_broken : (Int × Int × Int × Int × Sl × Sl × Unit) → (Sl → Heap → Prop) → Heap → Prop) (f_stream_Net_Break : (Option Addr) → Sl → (Int → Heap → Prop) → Heap → Prop) (f_spillwayref22_Net_Break : (Option Addr) → Sl → (Int → Heap → Prop) → Heap → Prop) (f_spillwaymem_KeptInts : Sl → Sl → (Bool → Heap → Prop) → Heap → Prop) (f_spillwaymem_Kept : Sl → Sl → (Bool → Heap → Prop) → Heap → Prop) (f_spillwaylaw22_both_alike : (Option Addr × Option Addr × Unit) → (Bool → Heap → Prop) → Heap → Prop) (b : Option Addr × Option Addr × Unit) (d : Int × Int × Int × Int × Sl × Sl × Unit) (K : Bool → Heap → Prop) (h : Heap) : Prop :=
  newC h [Value.pointer b.1, Value.pointer b.2.1] 47 fun b1 h2 => 
  newC h2 [Value.int .i64 d.1, Value.int .i64 d.2.1, Value.int .i64 d.2.2.1, Value.int .i64 d.2.2.2.1, Value.slice d.2.2.2.2.1.ptr d.2.2.2.2.1.len d.2.2.2.2.1.cap, Value.slice d.2.2.2.2.2.1.ptr d.2.2.2.2.2.1.len d.2.2.2.2.2.1.cap] 35 fun b3 h4 => 
  ldL h4 b3 (0 + 4) fun t => 
  f_spillwaymem_HandInts t (fun t5 h6 =>
    ldL h6 b3 (0 + 5) fun t7 => 
    f_spillwaymem_Hand t7 (fun t8 h9 =>
      cutP (σ := Unit) (fun s148 h149 =>
        ldL h149 b3 (0 + 4) fun t150 => 
        f_spillwaymem_KeptInts t5 t150 (fun t151 h152 =>
          iteP (!t151) (
            K false h152) (
            ldL h152 b3 (0 + 5) fun t153 => 
            f_spillwaymem_Kept t8 t153 (fun t154 h155 =>
              iteP (!t154) (
                K false h155) (
                bindI 0 fun i156 => 
                loopM (σ := Int × Unit) (fun J158 s159 h160 =>
                  (fun (i157 : Int) =>
                    iteP (decide (i157 < (t8.len : Int))) (
                      idxA t8.ptr t8.len i157 1 fun b161 o162 => 
                      ldI h160 b161 o162 .u8 fun t163 => 
                      idxA t8.ptr t8.len i157 1 fun b164 o165 => 
                      st h160 b164 o165 (Value.int .u8 (xorV .u8 t163 255)) fun h166 => 
                      bindI (IntKind.wrap .i64 (i157 + 1)) fun i167 => 
                      J158 (i167, ()) h166) (
                      ldP h160 b1 0 fun t168 => ldP h160 b1 (0 + 1) fun t169 => 
                      f_spillwaylaw22_both_alike (t168, t169, ()) (fun t170 h171 =>
                        bindB t170 fun t172 => 
                        K t172 h171) h160)) s159.1) (i156, ()) h155)) h152)) h149) (fun J10 =>
        ldI h9 b3 0 .i64 fun t11 => 
        bindB (t11 == 0) fun t12 => 
        iteP t12 (
          ldP h9 b1 0 fun t13 => 
          ldP h9 b1 (0 + 1) fun t14 => 
          ldL h9 b3 (0 + 4) fun t15 => 
          f_stream_Net_Listen t13 t5 (fun t16 h17 =>
            need (heldL h17 [(b3, 0 + 4, Value.slice t15.ptr t15.len t15.cap)]) <|
            need (heldL h17 [(b1, 0 + 1, Value.pointer t14)]) <|
            f_spillwayref22_Net_Listen t14 t15 (fun t18 h19 =>
              iteP (t16 != t18) (
                K false h19) (
                J10 (()) h19)) h17) h9) (
          bindB (t11 == 1) fun t20 => 
          iteP t20 (
            ldP h9 b1 0 fun t21 => 
            ldP h9 b1 (0 + 1) fun t22 => 
            ldL h9 b3 (0 + 4) fun t23 => 
            f_stream_Net_Stop t21 t5 (fun t24 h25 =>
              need (heldL h25 [(b3, 0 + 4, Value.slice t23.ptr t23.len t23.cap)]) <|
              need (heldL h25 [(b1, 0 + 1, Value.pointer t22)]) <|
              f_spillwayref22_Net_Stop t22 t23 (fun t26 h27 =>
                iteP (t24 != t26) (
                  K false h27) (
                  J10 (()) h27)) h25) h9) (
            bindB (t11 == 2) fun t28 => 
            iteP t28 (
              ldP h9 b1 0 fun t29 => 
              ldI h9 b3 0 .i64 fun t30 => ldI h9 b3 (0 + 1) .i64 fun t31 => ldI h9 b3 (0 + 2) .i64 fun t32 => ldI h9 b3 (0 + 3) .i64 fun t33 => ldL h9 b3 (0 + 4) fun t34 => ldL h9 b3 (0 + 5) fun t35 => 
              f_spillwaylaw22_Deed_first (t30, t31, t32, t33, t34, t35, ()) (fun t36 h37 =>
                need (heldL h37 [(b1, 0, Value.pointer t29)]) <|
                f_stream_Net_Dial t29 t36 (fun t38 t39 h40 =>
                  bindI t38 fun x => 
                  bindI t39 fun e => 
                  ldP h40 b1 (0 + 1) fun t41 => 
                  ldI h40 b3 0 .i64 fun t42 => ldI h40 b3 (0 + 1) .i64 fun t43 => ldI h40 b3 (0 + 2) .i64 fun t44 => ldI h40 b3 (0 + 3) .i64 fun t45 => ldL h40 b3 (0 + 4) fun t46 => ldL h40 b3 (0 + 5) fun t47 => 
                  f_spillwaylaw22_Deed_first (t42, t43, t44, t45, t46, t47, ()) (fun t48 h49 =>
                    need (heldL h49 [(b1, 0 + 1, Value.pointer t41)]) <|
                    f_spillwayref22_Net_Dial t41 t48 (fun t50 t51 h52 =>
                      bindI t50 fun y => 
                      bindI t51 fun f => 
                      iteP (x != y) (
                        K false h52) (
                        iteP (e != f) (
                          K false h52) (
                          J10 (()) h52))) h49) h40) h37) h9) (
              bindB (t11 == 3) fun t53 => 
              iteP t53 (
                ldP h9 b1 0 fun t54 => 
                ldI h9 b3 (0 + 1) .i64 fun t55 => 
                ldI h9 b3 (0 + 2) .i64 fun t56 => 
                ldP h9 b1 (0 + 1) fun t57 => 
                ldI h9 b3 (0 + 1) .i64 fun t58 => 
                ldI h9 b3 (0 + 2) .i64 fun t59 => 
                ldL h9 b3 (0 + 5) fun t60 => 
                f_stream_Net_Write t54 t55 t56 t8 (fun t61 h62 =>
                  need (heldL h62 [(b3, 0 + 5, Value.slice t60.ptr t60.len t60.cap)]) <|
                  need (heldL h62 [(b3, 0 + 2, Value.int .i64 t59)]) <|
                  need (heldL h62 [(b3, 0 + 1, Value.int .i64 t58)]) <|
                  need (heldL h62 [(b1, 0 + 1, Value.pointer t57)]) <|
                  f_spillwayref22_Net_Write t57 t58 t59 t60 (fun t63 h64 =>
                    iteP (t61 != t63) (
                      K false h64) (
                      J10 (()) h64)) h62) h9) (
                bindB (t11 == 4) fun t65 => 
                iteP t65 (
                  ldP h9 b1 0 fun t66 => 
                  ldI h9 b3 (0 + 1) .i64 fun t67 => 
                  ldI h9 b3 (0 + 2) .i64 fun t68 => 
                  ldI h9 b3 (0 + 3) .i64 fun t69 => 
                  f_stream_Net_Move t66 t67 t68 t69 (fun t70 t71 h72 =>
                    bindI t70 fun x73 => 
                    bindI t71 fun e74 => 
                    ldP h72 b1 (0 + 1) fun t75 => 
                    ldI h72 b3 (0 + 1) .i64 fun t76 => 
                    ldI h72 b3 (0 + 2) .i64 fun t77 => 
                    ldI h72 b3 (0 + 3) .i64 fun t78 => 
                    f_spillwayref22_Net_Move t75 t76 t77 t78 (fun t79 t80 h81 =>
                      bindI t79 fun y82 => 
                      bindI t80 fun f83 => 
                      iteP (x73 != y82) (
                        K false h81) (
                        iteP (e74 != f83) (
                          K false h81) (
                          J10 (()) h81))) h72) h9) (
                  bindB (t11 == 5) fun t84 => 
                  iteP t84 (
                    ldP h9 b1 0 fun t85 => 
                    ldI h9 b3 (0 + 1) .i64 fun t86 => 
                    ldI h9 b3 (0 + 2) .i64 fun t87 => 
                    ldI h9 b3 (0 + 3) .i64 fun t88 => 
                    f_stream_Net_Read t85 t86 t87 t88 (fun t89 t90 t91 h92 =>
                      bindB t90 fun over => 
                      bindI t91 fun e93 => 
                      ldP h92 b1 (0 + 1) fun t94 => 
                      ldI h92 b3 (0 + 1) .i64 fun t95 => 
                      ldI h92 b3 (0 + 2) .i64 fun t96 => 
                      ldI h92 b3 (0 + 3) .i64 fun t97 => 
                      f_spillwayref22_Net_Read t94 t95 t96 t97 (fun t98 t99 t100 h101 =>
                        bindB t99 fun done => 
                        bindI t100 fun f102 => 
                        f_spillwaymem_Same t89 t98 (fun t103 h104 =>
                          iteP (!t103) (
                            K false h104) (
                            iteP (over != done) (
                              K false h104) (
                              iteP (e93 != f102) (
                                K false h104) (
                                bindI 0 fun i => 
                                loopM (σ := Int × Unit) (fun J106 s h107 =>
                                  (fun (i105 : Int) =>
                                    iteP (decide (i105 < (t89.len : Int))) (
                                      idxA t89.ptr t89.len i105 1 fun b108 o => 
                                      ldI h107 b108 o .u8 fun t109 => 
                                      idxA t89.ptr t89.len i105 1 fun b110 o111 => 
                                      st h107 b110 o111 (Value.int .u8 (xorV .u8 t109 255)) fun h112 => 
                                      bindI (IntKind.wrap .i64 (i105 + 1)) fun i113 => 
                                      J106 (i113, ()) h112) (
                                      J10 (()) h107)) s.1) (i, ()) h104)))) h101) h92) h9) (
                    bindB (t11 == 6) fun t114 => 
                    iteP t114 (
                      ldP h9 b1 0 fun t115 => 
                      ldI h9 b3 (0 + 1) .i64 fun t116 => 
                      ldI h9 b3 (0 + 2) .i64 fun t117 => 
                      ldP h9 b1 (0 + 1) fun t118 => 
                      ldI h9 b3 (0 + 1) .i64 fun t119 => 
                      ldI h9 b3 (0 + 2) .i64 fun t120 => 
                      f_stream_Net_Shut t115 t116 t117 (fun t121 h122 =>
                        need (heldL h122 [(b3, 0 + 2, Value.int .i64 t120)]) <|
                        need (heldL h122 [(b3, 0 + 1, Value.int .i64 t119)]) <|
                        need (heldL h122 [(b1, 0 + 1, Value.pointer t118)]) <|
                        f_spillwayref22_Net_Shut t118 t119 t120 (fun t123 h124 =>
                          iteP (t121 != t123) (
                            K false h124) (
                            J10 (()) h124)) h122) h9) (
                      bindB (t11 == 7) fun t125 => 
                      iteP t125 (
                        ldP h9 b1 0 fun t126 => 
                        ldI h9 b3 0 .i64 fun t127 => ldI h9 b3 (0 + 1) .i64 fun t128 => ldI h9 b3 (0 + 2) .i64 fun t129 => ldI h9 b3 (0 + 3) .i64 fun t130 => ldL h9 b3 (0 + 4) fun t131 => ldL h9 b3 (0 + 5) fun t132 => 
                        ldP h9 b1 (0 + 1) fun t133 => 
                        ldI h9 b3 0 .i64 fun t134 => ldI h9 b3 (0 + 1) .i64 fun t135 => ldI h9 b3 (0 + 2) .i64 fun t136 => ldI h9 b3 (0 + 3) .i64 fun t137 => ldL h9 b3 (0 + 4) fun t138 => ldL h9 b3 (0 + 5) fun t139 => 
                        f_spillwaylaw22_Deed_broken (t127, t128, t129, t130, t131, t132, ()) (fun t140 h141 =>
                          need (heldL h141 [(b3, 0, Value.int .i64 t134), (b3, 0 + 1, Value.int .i64 t135), (b3, 0 + 2, Value.int .i64 t136), (b3, 0 + 3, Value.int .i64 t137), (b3, 0 + 4, Value.slice t138.ptr t138.len t138.cap), (b3, 0 + 5, Value.slice t139.ptr t139.len t139.cap)]) <|
                          need (heldL h141 [(b1, 0 + 1, Value.pointer t133)]) <|
                          need (heldL h141 [(b1, 0, Value.pointer t126)]) <|
                          f_stream_Net_Break t126 t140 (fun t142 h143 =>
                            need (heldL h143 [(b3, 0, Value.int .i64 t134), (b3, 0 + 1, Value.int .i64 t135), (b3, 0 + 2, Value.int .i64 t136), (b3, 0 + 3, Value.int .i64 t137), (b3, 0 + 4, Value.slice t138.ptr t138.len t138.cap), (b3, 0 + 5, Value.slice t139.ptr t139.len t139.cap)]) <|
                            need (heldL h143 [(b1, 0 + 1, Value.pointer t133)]) <|
                            f_spillwaylaw22_Deed_broken (t134, t135, t136, t137, t138, t139, ()) (fun t144 h145 =>
                              need (heldL h145 [(b1, 0 + 1, Value.pointer t133)]) <|
                              f_spillwayref22_Net_Break t133 t144 (fun t146 h147 =>
                                iteP (t142 != t146) (
                                  K false h147) (
                                  J10 (()) h147)) h145) h143) h141) h9) (
                        J10 (()) h9)))))))))) h6) h4

def m_spillwaylaw22_both_do (b : Option Addr × Option Addr × Unit) (d : Int × Int × Int × Int × Sl × Sl × Unit) (K : Bool → Heap → Prop) (h : Heap) : Prop := g_spillwaylaw22_both_do m_spillwaymem_HandInts m_spillwaymem_Hand m_stream_Net_Listen m_spillwayref22_Net_Listen m_stream_Net_Stop m_spillwayref22_Net_Stop m_spillwaylaw22_Deed_first m_stream_Net_Dial m_spillwayref22_Net_Dial m_stream_Net_Write m_spillwayref22_Net_Write m_stream_Net_Move m_spillwayref22_Net_Move m_stream_Net_Read m_spillwayref22_Net_Read m_spillwaymem_Same m_stream_Net_Shut m_spillwayref22_Net_Shut m_spillwaylaw22_Deed_broken m_stream_Net_Break m_spillwayref22_Net_Break m_spillwaymem_KeptInts m_spillwaymem_Kept m_spillwaylaw22_both_alike b d K h

/-- spillwaylaw22.StreamRuns -/
def g_spillwaylaw22_StreamRuns (f_spillwaylaw22_live : (Bool → Heap → Prop) → Heap → Prop) (f_stream_New : ((Option Addr) → Heap → Prop) → Heap → Prop) (f_spillwayref22_New : ((Option Addr) → Heap → Prop) → Heap → Prop) (f_stream_Net_Fork : (Option Addr) → ((Option Addr) → Heap → Prop) → Heap → Prop) (f_spillwayref22_Net_Fork : (Option Addr) → ((Option Addr) → Heap → Prop) → Heap → Prop) (f_spillwaylaw22_both_do : (Option Addr × Option Addr × Unit) → (Int × Int × Int × Int × Sl × Sl × Unit) → (Bool → Heap → Prop) → Heap → Prop) (f_spillwaylaw22_both_alike : (Option Addr × Option Addr × Unit) → (Bool → Heap → Prop) → Heap → Prop) (l : Sl) (K : Bool → Heap → Prop) (h : Heap) : Prop :=
  f_spillwaylaw22_live (fun t h1 =>
    iteP (!t) (
      K false h1) (
      f_stream_New (fun t2 h3 =>
        f_spillwayref22_New (fun t4 h5 =>
          newC h5 [Value.pointer none, Value.pointer none] 47 fun b h6 => 
          sts h6 b 0 [Value.pointer t2, Value.pointer t4] fun h7 => 
          bindI 0 fun i => 
          loopM (σ := Sl × Int × Unit) (fun J9 s h10 =>
            (fun (old : Sl) (i8 : Int) =>
              iteP (decide (i8 < (l.len : Int))) (
                cutP (σ := Sl × Unit) (fun s28 h29 =>
                  (fun (old27 : Sl) =>
                    idxA l.ptr l.len i8 6 fun b30 o31 => 
                    ldP h29 b 0 fun t32 => ldP h29 b (0 + 1) fun t33 => 
                    ldI h29 b30 o31 .i64 fun t34 => ldI h29 b30 (o31 + 1) .i64 fun t35 => ldI h29 b30 (o31 + 2) .i64 fun t36 => ldI h29 b30 (o31 + 3) .i64 fun t37 => ldL h29 b30 (o31 + 4) fun t38 => ldL h29 b30 (o31 + 5) fun t39 => 
                    f_spillwaylaw22_both_do (t32, t33, ()) (t34, t35, t36, t37, t38, t39, ()) (fun t40 h41 =>
                      iteP (!t40) (
                        K false h41) (
                        bindI (IntKind.wrap .i64 (i8 + 1)) fun i42 => 
                        J9 (old27, i42, ()) h41)) h29) s28.1) (fun J11 =>
                  idxA l.ptr l.len i8 6 fun b12 o => 
                  ldI h10 b12 o .i64 fun t13 => 
                  iteP (t13 == 8) (
                    iteP (decide ((old.len : Int) < 4)) (
                      ldP h10 b 0 fun t14 => ldP h10 b (0 + 1) fun t15 => 
                      newC h10 [Value.pointer t14, Value.pointer t15] 47 fun b16 h17 => 
                      rdS ⟨some ⟨b16, 0, none⟩, 1, 1⟩ 2 h17 fun new => app 47 2 16 [Value.pointer none, Value.pointer none] old 1 new h17 fun t18 h19 => 
                      ldP h19 b 0 fun t20 => 
                      ldP h19 b (0 + 1) fun t21 => 
                      f_stream_Net_Fork t20 (fun t22 h23 =>
                        need (heldL h23 [(b, 0 + 1, Value.pointer t21)]) <|
                        f_spillwayref22_Net_Fork t21 (fun t24 h25 =>
                          sts h25 b 0 [Value.pointer t22, Value.pointer t24] fun h26 => 
                          J11 (t18, ()) h26) h23) h19) (
                      J11 (old, ()) h10)) (
                    J11 (old, ()) h10))) (
                bindI 0 fun i43 => 
                loopM (σ := Int × Unit) (fun J45 s46 h47 =>
                  (fun (i44 : Int) =>
                    iteP (decide (i44 < (old.len : Int))) (
                      idxA old.ptr old.len i44 2 fun b48 o49 => 
                      ldP h47 b48 o49 fun t50 => ldP h47 b48 (o49 + 1) fun t51 => 
                      f_spillwaylaw22_both_alike (t50, t51, ()) (fun t52 h53 =>
                        iteP (!t52) (
                          K false h53) (
                          bindI (IntKind.wrap .i64 (i44 + 1)) fun i54 => 
                          J45 (i54, ()) h53)) h47) (
                      K true h47)) s46.1) (i43, ()) h10)) s.1 s.2.1) (⟨none, 0, 0⟩, i, ()) h7) h3) h1)) h

def m_spillwaylaw22_StreamRuns (l : Sl) (K : Bool → Heap → Prop) (h : Heap) : Prop := g_spillwaylaw22_StreamRuns m_spillwaylaw22_live m_stream_New m_spillwayref22_New m_stream_Net_Fork m_spillwayref22_Net_Fork m_spillwaylaw22_both_do m_spillwaylaw22_both_alike l K h

/-- spillwaylaw22.StreamNone -/
def g_spillwaylaw22_StreamNone (f_stream_Net_Dial : (Option Addr) → Int → (Int → Int → Heap → Prop) → Heap → Prop) (f_stream_Net_Move : (Option Addr) → Int → Int → Int → (Int → Int → Heap → Prop) → Heap → Prop) (f_stream_Net_Read : (Option Addr) → Int → Int → Int → (Sl → Bool → Int → Heap → Prop) → Heap → Prop) (f_stream_Net_Look : (Option Addr) → Int → Int → (Int → Int → Int → Heap → Prop) → Heap → Prop) (f_spillwaylaw22_live : (Bool → Heap → Prop) → Heap → Prop) (f_stream_Net_Listen : (Option Addr) → Sl → (Int → Heap → Prop) → Heap → Prop) (f_stream_Net_Stop : (Option Addr) → Sl → (Int → Heap → Prop) → Heap → Prop) (f_stream_Net_Write : (Option Addr) → Int → Int → Sl → (Int → Heap → Prop) → Heap → Prop) (f_stream_Net_Shut : (Option Addr) → Int → Int → (Int → Heap → Prop) → Heap → Prop) (f_stream_Net_Break : (Option Addr) → Sl → (Int → Heap → Prop) → Heap → Prop) (f_stream_Net_Port : (Option Addr) → Int → (Int → Heap → Prop) → Heap → Prop) (f_stream_Net_Conns : (Option Addr) → (Sl → Heap → Prop) → Heap → Prop) (f_stream_Net_Fork : (Option Addr) → ((Option Addr) → Heap → Prop) → Heap → Prop) (c : Int) (end_ : Int) (k : Int) (K : Bool → Heap → Prop) (h : Heap) : Prop :=
  f_stream_Net_Dial none k (fun t t1 h2 =>
    bindI t fun _ => 
    bindI t1 fun a => 
    f_stream_Net_Move none c end_ k (fun t3 t4 h5 =>
      bindI t3 fun _6 => 
      bindI t4 fun b => 
      f_stream_Net_Read none c end_ k (fun t7 t8 t9 h10 =>
        bindB t8 fun _11 => 
        bindI t9 fun d => 
        f_stream_Net_Look none c end_ (fun t12 t13 t14 h15 =>
          bindI t12 fun _16 => 
          bindI t13 fun _17 => 
          bindI t14 fun e => 
          f_spillwaylaw22_live (fun t18 h19 =>
            iteP t18 (
              newC h19 [Value.int .i64 k] 3 fun b20 h21 => 
              f_stream_Net_Listen none ⟨some ⟨b20, 0, none⟩, 1, 1⟩ (fun t22 h23 =>
                iteP (t22 == 1) (
                  newC h23 [Value.int .i64 k] 3 fun b24 h25 => 
                  f_stream_Net_Stop none ⟨some ⟨b24, 0, none⟩, 1, 1⟩ (fun t26 h27 =>
                    iteP (t26 == 1) (
                      iteP (a == 1) (
                        newC h27 [Value.int .u8 1] 5 fun b28 h29 => 
                        f_stream_Net_Write none c end_ ⟨some ⟨b28, 0, none⟩, 1, 1⟩ (fun t30 h31 =>
                          iteP (t30 == 1) (
                            iteP (b == 1) (
                              iteP (d == 1) (
                                f_stream_Net_Shut none c end_ (fun t32 h33 =>
                                  iteP (t32 == 1) (
                                    newC h33 [Value.int .i64 c] 3 fun b34 h35 => 
                                    f_stream_Net_Break none ⟨some ⟨b34, 0, none⟩, 1, 1⟩ (fun t36 h37 =>
                                      iteP (t36 == 1) (
                                        iteP (e == 1) (
                                          f_stream_Net_Port none c (fun t38 h39 =>
                                            iteP (t38 == 0) (
                                              f_stream_Net_Conns none (fun t40 h41 =>
                                                iteP ((t40.len : Int) == 0) (
                                                  f_stream_Net_Fork none (fun t42 h43 =>
                                                    bindB t42.isNone fun t44 => 
                                                    K t44 h43) h41) (
                                                  K false h41)) h39) (
                                              K false h39)) h37) (
                                          K false h37)) (
                                        K false h37)) h35) (
                                    K false h33)) h31) (
                                K false h31)) (
                              K false h31)) (
                            K false h31)) h29) (
                        K false h27)) (
                      K false h27)) h25) (
                  K false h23)) h21) (
              K false h19)) h15) h10) h5) h2) h

def m_spillwaylaw22_StreamNone (c : Int) (end_ : Int) (k : Int) (K : Bool → Heap → Prop) (h : Heap) : Prop := g_spillwaylaw22_StreamNone m_stream_Net_Dial m_stream_Net_Move m_stream_Net_Read m_stream_Net_Look m_spillwaylaw22_live m_stream_Net_Listen m_stream_Net_Stop m_stream_Net_Write m_stream_Net_Shut m_stream_Net_Break m_stream_Net_Port m_stream_Net_Conns m_stream_Net_Fork c end_ k K h

end Go.Proofs.Ytgkgheaanfgecaa
