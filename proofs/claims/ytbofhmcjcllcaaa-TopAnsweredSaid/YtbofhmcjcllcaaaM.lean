/- The models of the functions. Written by a program out of the translated functions. -/
import Derived.Test.YtbofhmcjcllcaaaFwA
import GoSem.Machine.Frame
import GoSem.Op.String
import Derived.Test.YtbofhmcjcllcaaaExM
namespace Go.Proofs.Ytbofhmcjcllcaaa
open Go Go.Fw

/-- stream.New -/
def g_stream_New (K : (Option Addr) → Heap → Prop) (h : Heap) : Prop :=
  newMap h fun b h1 => 
  newC h1 [Value.map (some b), Value.slice none 0 0] 67 fun b2 h3 => 
  K (some ⟨b2, 0, none⟩) h3

def m_stream_New (K : (Option Addr) → Heap → Prop) (h : Heap) : Prop := g_stream_New  K h

/-- (*stream.Net).arePorts$1 -/
def g_stream_Net_arePorts_1 (p : Int) (K : Bool → Heap → Prop) (h : Heap) : Prop :=
  iteP (decide (p < 1)) (
    K true h) (
    bindB (decide (p > 65535)) fun t => 
    K t h)

def m_stream_Net_arePorts_1 (p : Int) (K : Bool → Heap → Prop) (h : Heap) : Prop := g_stream_Net_arePorts_1 p K h

/-- slices.IndexFunc[[]int,int] -/
def g_slices_IndexFunc_int_int___stream_Net_arePorts_1 (f_stream_Net_arePorts_1 : Int → (Bool → Heap → Prop) → Heap → Prop) (s : Sl) (K : Int → Heap → Prop) (h : Heap) : Prop :=
  bindI 0 fun t => 
  loopM (σ := Int × Unit) (fun J1 s2 h3 =>
    (fun (s8 : Int) =>
      iteP (decide (s8 < (s.len : Int))) (
        bindI s8 fun i => 
        idxA s.ptr s.len i 1 fun b o => 
        ldI h3 b o .i64 fun t4 => 
        f_stream_Net_arePorts_1 t4 (fun t5 h6 =>
          iteP t5 (
            bindI i fun t7 => 
            K t7 h6) (
            J1 (IntKind.wrap .i64 (s8 + 1), ()) h6)) h3) (
        bindI (-1) fun t8 => 
        K t8 h3)) s2.1) (0, ()) h

def m_slices_IndexFunc_int_int___stream_Net_arePorts_1 (s : Sl) (K : Int → Heap → Prop) (h : Heap) : Prop := g_slices_IndexFunc_int_int___stream_Net_arePorts_1 m_stream_Net_arePorts_1 s K h

/-- slices.ContainsFunc[[]int,int] -/
def g_slices_ContainsFunc_int_int___stream_Net_arePorts_1 (f_slices_IndexFunc_int_int___stream_Net_arePorts_1 : Sl → (Int → Heap → Prop) → Heap → Prop) (s : Sl) (K : Bool → Heap → Prop) (h : Heap) : Prop :=
  f_slices_IndexFunc_int_int___stream_Net_arePorts_1 s (fun t h1 =>
    bindB (decide (t ≥ 0)) fun t2 => 
    K t2 h1) h

def m_slices_ContainsFunc_int_int___stream_Net_arePorts_1 (s : Sl) (K : Bool → Heap → Prop) (h : Heap) : Prop := g_slices_ContainsFunc_int_int___stream_Net_arePorts_1 m_slices_IndexFunc_int_int___stream_Net_arePorts_1 s K h

/-- (*stream.Net).arePorts -/
def g_stream_Net_arePorts (f_slices_ContainsFunc_int_int___stream_Net_arePorts_1 : Sl → (Bool → Heap → Prop) → Heap → Prop) (n : Option Addr) (l : Sl) (K : Int → Heap → Prop) (h : Heap) : Prop :=
  bindI 0 fun t => 
  bindB n.isNone fun t1 => 
  iteP t1 (
    bindI 1 fun t2 => 
    K t2 h) (
    f_slices_ContainsFunc_int_int___stream_Net_arePorts_1 l (fun t3 h4 =>
      bindB t3 fun t5 => 
      iteP t5 (
        bindI 2 fun t6 => 
        K t6 h4) (
        bindI 0 fun t7 => 
        K t7 h4)) h)

def m_stream_Net_arePorts (n : Option Addr) (l : Sl) (K : Int → Heap → Prop) (h : Heap) : Prop := g_stream_Net_arePorts m_slices_ContainsFunc_int_int___stream_Net_arePorts_1 n l K h

/-- (*stream.Net).Listen -/
def g_stream_Net_Listen (f_stream_Net_arePorts : (Option Addr) → Sl → (Int → Heap → Prop) → Heap → Prop) (n : Option Addr) (ports : Sl) (K : Int → Heap → Prop) (h : Heap) : Prop :=
  bindI 0 fun t => 
  f_stream_Net_arePorts n ports (fun t1 h2 =>
    bindI t1 fun e => 
    iteP (e != 0) (
      bindI e fun t3 => 
      K t3 h2) (
      loopM (σ := Int × Unit) (fun J4 s h5 =>
        (fun (s16 : Int) =>
          iteP (decide (s16 < (ports.len : Int))) (
            idxA ports.ptr ports.len s16 1 fun b o => 
            ldI h5 b o .i64 fun t6 => 
            bindI t6 fun p => 
            derefP n fun b7 o8 => 
            ldM h5 b7 o8 fun t9 => 
            mapPut (.int .i64) h5 t9 (Value.int .i64 p) (Value.bool true) fun h10 => 
            J4 (IntKind.wrap .i64 (s16 + 1), ()) h10) (
            bindI 0 fun t11 => 
            K t11 h5)) s.1) (0, ()) h2)) h

def m_stream_Net_Listen (n : Option Addr) (ports : Sl) (K : Int → Heap → Prop) (h : Heap) : Prop := g_stream_Net_Listen m_stream_Net_arePorts n ports K h

/-- (*stream.Net).Conns -/
def g_stream_Net_Conns (n : Option Addr) (K : Sl → Heap → Prop) (h : Heap) : Prop :=
  iteP n.isNone (
    K ⟨none, 0, 0⟩ h) (
    derefP n fun b o => 
    ldL h b (o + 1) fun t => 
    loopM (σ := Sl × Int × Unit) (fun J1 s h2 =>
      (fun (l : Sl) (s13 : Int) =>
        iteP (decide (s13 < (t.len : Int))) (
          idxA t.ptr t.len s13 8 fun b3 o4 => 
          ldL h2 b3 o4 fun t5 => ldL h2 b3 (o4 + 1) fun t6 => ldB h2 b3 (o4 + 2) fun t7 => ldL h2 b3 (o4 + 3) fun t8 => ldL h2 b3 (o4 + 4) fun t9 => ldB h2 b3 (o4 + 5) fun t10 => ldI h2 b3 (o4 + 6) .i64 fun t11 => ldB h2 b3 (o4 + 7) fun t12 => 
          newC h2 [Value.slice none 0 0, Value.slice none 0 0, Value.bool false, Value.slice none 0 0, Value.slice none 0 0, Value.bool false, Value.int .i64 0, Value.bool false] 73 fun b13 h14 => 
          bindI s13 fun i => 
          sts h14 b13 0 [Value.slice t5.ptr t5.len t5.cap, Value.slice t6.ptr t6.len t6.cap, Value.bool t7, Value.slice t8.ptr t8.len t8.cap, Value.slice t9.ptr t9.len t9.cap, Value.bool t10, Value.int .i64 t11, Value.bool t12] fun h15 => 
          ldB h15 b13 (0 + 7) fun t16 => 
          iteP (!t16) (
            newC h15 [Value.int .i64 (IntKind.wrap .i64 (i + 1))] 3 fun b17 h18 => 
            rdS ⟨some ⟨b17, 0, none⟩, 1, 1⟩ 1 h18 fun new => app 3 1 8 [Value.int .i64 0] l 1 new h18 fun t19 h20 => 
            J1 (t19, IntKind.wrap .i64 (s13 + 1), ()) h20) (
            J1 (l, IntKind.wrap .i64 (s13 + 1), ()) h15)) (
          K l h2)) s.1 s.2.1) (⟨none, 0, 0⟩, 0, ()) h)

def m_stream_Net_Conns (n : Option Addr) (K : Sl → Heap → Prop) (h : Heap) : Prop := g_stream_Net_Conns n K h

/-- (*stream.Net).Dial -/
def g_stream_Net_Dial (f_stream_Net_arePorts : (Option Addr) → Sl → (Int → Heap → Prop) → Heap → Prop) (f_stream_Net_Conns : (Option Addr) → (Sl → Heap → Prop) → Heap → Prop) (n : Option Addr) (port : Int) (K : Int → Int → Heap → Prop) (h : Heap) : Prop :=
  bindI 0 fun t => 
  bindI 0 fun t1 => 
  newC h [Value.int .i64 port] 3 fun b h2 => 
  f_stream_Net_arePorts n ⟨some ⟨b, 0, none⟩, 1, 1⟩ (fun t3 h4 =>
    bindI t3 fun e => 
    iteP (e != 0) (
      bindI 0 fun t5 => 
      bindI e fun t6 => 
      K t5 t6 h4) (
      derefP n fun b7 o => 
      ldM h4 b7 o fun t8 => 
      mapGet (.int .i64) h4 t8 (Value.int .i64 port) fun r => asB (r.getD (Value.bool false)) fun t9 => 
      bindB (!t9) fun t10 => 
      iteP t10 (
        bindI 0 fun t11 => 
        bindI 51 fun t12 => 
        K t11 t12 h4) (
        f_stream_Net_Conns n (fun t13 h14 =>
          bindB (decide ((t13.len : Int) ≥ 64)) fun t15 => 
          iteP t15 (
            bindI 0 fun t16 => 
            bindI 3 fun t17 => 
            K t16 t17 h14) (
            derefP n fun b18 o19 => 
            ldL h14 b18 (o19 + 1) fun t20 => 
            newC h14 [Value.slice none 0 0, Value.slice none 0 0, Value.bool false, Value.slice none 0 0, Value.slice none 0 0, Value.bool false, Value.int .i64 port, Value.bool false] 73 fun b21 h22 => 
            rdS ⟨some ⟨b21, 0, none⟩, 1, 1⟩ 8 h22 fun new => app 73 8 128 [Value.slice none 0 0, Value.slice none 0 0, Value.bool false, Value.slice none 0 0, Value.slice none 0 0, Value.bool false, Value.int .i64 0, Value.bool false] t20 1 new h22 fun t23 h24 => 
            derefP n fun b25 o26 => 
            st h24 b25 (o26 + 1) (Value.slice t23.ptr t23.len t23.cap) fun h27 => 
            derefP n fun b28 o29 => 
            ldL h27 b28 (o29 + 1) fun t30 => 
            bindI (t30.len : Int) fun t31 => 
            bindI 0 fun t32 => 
            K t31 t32 h27)) h4))) h2

def m_stream_Net_Dial (n : Option Addr) (port : Int) (K : Int → Int → Heap → Prop) (h : Heap) : Prop := g_stream_Net_Dial m_stream_Net_arePorts m_stream_Net_Conns n port K h

/-- proto.from -/
def g_proto_from (n : Int) (lo : Int) (hi : Int) (K : Bool → Heap → Prop) (h : Heap) : Prop :=
  iteP (decide (n ≥ lo)) (
    bindB (decide (n ≤ hi)) fun t => 
    K t h) (
    K false h)

def m_proto_from (n : Int) (lo : Int) (hi : Int) (K : Bool → Heap → Prop) (h : Heap) : Prop := g_proto_from n lo hi K h

/-- proto.isName -/
def g_proto_isName (f_proto_from : Int → Int → Int → (Bool → Heap → Prop) → Heap → Prop) (s : ByteArray) (K : Bool → Heap → Prop) (h : Heap) : Prop :=
  loopM (σ := Int × Unit) (fun J1 s2 h3 =>
    (fun (s6 : Int) =>
      iteP (decide (s6 < (s.size : Int))) (
        bindI s6 fun i => 
        idxS s i fun t => 
        f_proto_from (IntKind.wrap .i64 t) 33 126 (fun t4 h5 =>
          iteP (!t4) (
            K false h5) (
            J1 (IntKind.wrap .i64 (s6 + 1), ()) h5)) h3) (
        f_proto_from (s.size : Int) 1 64 (fun t6 h7 =>
          bindB t6 fun t8 => 
          K t8 h7) h3)) s2.1) (0, ()) h

def m_proto_isName (s : ByteArray) (K : Bool → Heap → Prop) (h : Heap) : Prop := g_proto_isName m_proto_from s K h

/-- proto.Right -/
def g_proto_Right (f_proto_from : Int → Int → Int → (Bool → Heap → Prop) → Heap → Prop) (f_proto_isName : ByteArray → (Bool → Heap → Prop) → Heap → Prop) (r : Int × Int × Int × Int × ByteArray × Int × Unit) (K : Bool → Heap → Prop) (h : Heap) : Prop :=
  newC h [Value.int .i64 r.1, Value.int .u8 r.2.1, Value.int .i64 r.2.2.1, Value.int .i64 r.2.2.2.1, Value.string r.2.2.2.2.1, Value.int .i64 r.2.2.2.2.2.1] 40 fun b h1 => 
  cutP (σ := Bool × Unit) (fun s h10 =>
    (fun (asks9 : Bool) =>
      cutP (σ := Bool × Unit) (fun s15 h16 =>
        (fun (bare14 : Bool) =>
          ldI h16 b 0 .i64 fun t17 => 
          f_proto_from t17 0 2147483647 (fun t18 h19 =>
            iteP (!t18) (
              K false h19) (
              ldI h19 b (0 + 1) .u8 fun t20 => 
              cutP (σ := Bool × Unit) (fun s24 h25 =>
                (fun (s32 : Bool) =>
                  iteP s32 (
                    iteP asks9 (
                      ldS h25 b (0 + 4) fun t26 => 
                      bindB (strEq t26 (ByteArray.mk #[])) fun t27 => 
                      K t27 h25) (
                      K false h25)) (
                    bindB (t20 == 2) fun t28 => 
                    iteP t28 (
                      iteP asks9 (
                        ldS h25 b (0 + 4) fun t29 => 
                        bindB (decide ((t29.size : Int) ≤ 64)) fun t30 => 
                        K t30 h25) (
                        K false h25)) (
                      bindB (t20 == 4) fun t31 => 
                      iteP t31 (
                        iteP bare14 (
                          ldI h25 b (0 + 5) .i64 fun t32 => 
                          f_proto_from t32 1 2147483647 (fun t33 h34 =>
                            iteP t33 (
                              ldS h34 b (0 + 4) fun t35 => 
                              bindB (strEq t35 (ByteArray.mk #[])) fun t36 => 
                              K t36 h34) (
                              K false h34)) h25) (
                          K false h25)) (
                        bindB (t20 == 5) fun t37 => 
                        iteP t37 (
                          iteP bare14 (
                            ldI h25 b (0 + 5) .i64 fun t38 => 
                            iteP (t38 == 0) (
                              ldS h25 b (0 + 4) fun t39 => 
                              f_proto_isName t39 (fun t40 h41 =>
                                bindB t40 fun t42 => 
                                K t42 h41) h25) (
                              K false h25)) (
                            K false h25)) (
                          K false h25))))) s24.1) (fun J21 =>
                bindB (t20 == 1) fun t22 => 
                iteP t22 (
                  J21 (t22, ()) h19) (
                  bindB (t20 == 3) fun t23 => 
                  J21 (t23, ()) h19)))) h16) s15.1) (fun J11 =>
        ldI h10 b (0 + 2) .i64 fun t12 => 
        iteP (t12 == 0) (
          ldI h10 b (0 + 3) .i64 fun t13 => 
          bindB (t13 == 0) fun bare => 
          J11 (bare, ()) h10) (
          J11 (false, ()) h10))) s.1) (fun J2 =>
    ldI h1 b (0 + 2) .i64 fun t => 
    f_proto_from t 1 1099511627776 (fun t3 h4 =>
      iteP t3 (
        ldI h4 b (0 + 3) .i64 fun t5 => 
        f_proto_from t5 1 1099511627776 (fun t6 h7 =>
          iteP t6 (
            ldI h7 b (0 + 5) .i64 fun t8 => 
            bindB (t8 == 0) fun asks => 
            J2 (asks, ()) h7) (
            J2 (false, ()) h7)) h4) (
        J2 (false, ()) h4)) h1)

def m_proto_Right (r : Int × Int × Int × Int × ByteArray × Int × Unit) (K : Bool → Heap → Prop) (h : Heap) : Prop := g_proto_Right m_proto_from m_proto_isName r K h

/-- frame.New -/
def g_frame_New (K : (Option Addr) → Heap → Prop) (h : Heap) : Prop :=
  newC h [Value.slice none 0 0, Value.bool false] 108 fun b h1 => 
  K (some ⟨b, 0, none⟩) h1

def m_frame_New (K : (Option Addr) → Heap → Prop) (h : Heap) : Prop := g_frame_New  K h

/-- client.New -/
def g_client_New (f_proto_Right : (Int × Int × Int × Int × ByteArray × Int × Unit) → (Bool → Heap → Prop) → Heap → Prop) (f_frame_New : ((Option Addr) → Heap → Prop) → Heap → Prop) (s : Int × Int × Int × Unit) (namespace_ : ByteArray) (K : (Option Addr) → Int → Heap → Prop) (h : Heap) : Prop :=
  newC h [Value.int .i64 s.1, Value.int .i64 s.2.1, Value.int .i64 s.2.2.1] 34 fun b h1 => 
  bindI 0 fun t => 
  ldI h1 b 0 .i64 fun t2 => 
  iteP (decide (t2 < 1)) (
    bindI 2 fun t3 => 
    K none t3 h1) (
    ldI h1 b 0 .i64 fun t4 => 
    iteP (decide (t4 > 60000000)) (
      bindI 2 fun t5 => 
      K none t5 h1) (
      ldI h1 b (0 + 1) .i64 fun t6 => 
      iteP (decide (t6 < 1)) (
        bindI 2 fun t7 => 
        K none t7 h1) (
        ldI h1 b (0 + 2) .i64 fun t8 => 
        ldI h1 b (0 + 1) .i64 fun t9 => 
        iteP (decide (t8 < t9)) (
          bindI 2 fun t10 => 
          K none t10 h1) (
          ldI h1 b (0 + 2) .i64 fun t11 => 
          bindB (decide (t11 > 3600000000)) fun t12 => 
          iteP t12 (
            bindI 2 fun t13 => 
            K none t13 h1) (
            f_proto_Right (0, 5, 0, 0, namespace_, 0, ()) (fun t14 h15 =>
              bindB (!t14) fun t16 => 
              iteP t16 (
                bindI 10 fun t17 => 
                K none t17 h15) (
                ldI h15 b 0 .i64 fun t18 => ldI h15 b (0 + 1) .i64 fun t19 => ldI h15 b (0 + 2) .i64 fun t20 => 
                ldI h15 b (0 + 1) .i64 fun t21 => 
                bothP (
                  f_frame_New (fun t22 h23 =>
                    need (heldL h23 [(b, 0 + 1, Value.int .i64 t21)]) <|
                    need (heldL h23 [(b, 0, Value.int .i64 t18), (b, 0 + 1, Value.int .i64 t19), (b, 0 + 2, Value.int .i64 t20)]) <|
                    newMap h23 fun b24 h25 => 
                    need (heldL h25 [(b, 0 + 1, Value.int .i64 t21)]) <|
                    need (heldL h25 [(b, 0, Value.int .i64 t18), (b, 0 + 1, Value.int .i64 t19), (b, 0 + 2, Value.int .i64 t20)]) <|
                    newC h25 [Value.pointer t22, Value.int .i64 t18, Value.int .i64 t19, Value.int .i64 t20, Value.string namespace_, Value.bool false, Value.int .i64 0, Value.int .i64 1, Value.map (some b24), Value.slice none 0 0, Value.slice none 0 0, Value.int .i64 0, Value.int .i64 t21] 79 fun b26 h27 => 
                    need (heldL h27 [(b, 0 + 1, Value.int .i64 t21)]) <|
                    need (heldL h27 [(b, 0, Value.int .i64 t18), (b, 0 + 1, Value.int .i64 t19), (b, 0 + 2, Value.int .i64 t20)]) <|
                    bindI 0 fun t28 => 
                    K (some ⟨b26, 0, none⟩) t28 h27) h15) (
                  newMap h15 fun b29 h30 => 
                  need (heldL h30 [(b, 0 + 1, Value.int .i64 t21)]) <|
                  need (heldL h30 [(b, 0, Value.int .i64 t18), (b, 0 + 1, Value.int .i64 t19), (b, 0 + 2, Value.int .i64 t20)]) <|
                  f_frame_New (fun t31 h32 =>
                    need (heldL h32 [(b, 0 + 1, Value.int .i64 t21)]) <|
                    need (heldL h32 [(b, 0, Value.int .i64 t18), (b, 0 + 1, Value.int .i64 t19), (b, 0 + 2, Value.int .i64 t20)]) <|
                    newC h32 [Value.pointer t31, Value.int .i64 t18, Value.int .i64 t19, Value.int .i64 t20, Value.string namespace_, Value.bool false, Value.int .i64 0, Value.int .i64 1, Value.map (some b29), Value.slice none 0 0, Value.slice none 0 0, Value.int .i64 0, Value.int .i64 t21] 79 fun b33 h34 => 
                    need (heldL h34 [(b, 0 + 1, Value.int .i64 t21)]) <|
                    need (heldL h34 [(b, 0, Value.int .i64 t18), (b, 0 + 1, Value.int .i64 t19), (b, 0 + 2, Value.int .i64 t20)]) <|
                    bindI 0 fun t35 => 
                    K (some ⟨b33, 0, none⟩) t35 h34) h30))) h1)))))

def m_client_New (s : Int × Int × Int × Unit) (namespace_ : ByteArray) (K : (Option Addr) → Int → Heap → Prop) (h : Heap) : Prop := g_client_New m_proto_Right m_frame_New s namespace_ K h

/-- (*client.Client).Waiting -/
def g_client_Client_Waiting (f_maps_Keys_map_int_int_int_int_ : (Option Nat) → (Value → Heap → Prop) → Heap → Prop) (f_slices_Sorted_int_ : Value → (Sl → Heap → Prop) → Heap → Prop) (c : Option Addr) (K : Sl → Heap → Prop) (h : Heap) : Prop :=
  iteP c.isNone (
    K ⟨none, 0, 0⟩ h) (
    derefP c fun b o => 
    ldM h b (o + 8) fun t => 
    f_maps_Keys_map_int_int_int_int_ t (fun t1 h2 =>
      f_slices_Sorted_int_ t1 (fun t3 h4 =>
        K t3 h4) h2) h)

def m_client_Client_Waiting (c : Option Addr) (K : Sl → Heap → Prop) (h : Heap) : Prop := g_client_Client_Waiting m_maps_Keys_map_int_int_int_int_ m_slices_Sorted_int_ c K h

/-- (*client.Client).fall -/
def g_client_Client_fall (c : Option Addr) (id : Int) (K : Heap → Prop) (h : Heap) : Prop :=
  derefP c fun b o => 
  ldM h b (o + 8) fun t => 
  mapDel (.int .i64) h t (Value.int .i64 id) fun h1 => 
  derefP c fun b2 o3 => 
  ldL h1 b2 (o3 + 10) fun t4 => 
  newC h1 [Value.int .i64 id, Value.int .i64 0, Value.int .u8 0, Value.int .i64 0, Value.int .i64 0, Value.int .i64 0, Value.bool true] 60 fun b5 h6 => 
  rdS ⟨some ⟨b5, 0, none⟩, 1, 1⟩ 7 h6 fun new => app 60 7 56 [Value.int .i64 0, Value.int .i64 0, Value.int .u8 0, Value.int .i64 0, Value.int .i64 0, Value.int .i64 0, Value.bool false] t4 1 new h6 fun t7 h8 => 
  derefP c fun b9 o10 => 
  st h8 b9 (o10 + 10) (Value.slice t7.ptr t7.len t7.cap) fun h11 => 
  K h11

def m_client_Client_fall (c : Option Addr) (id : Int) (K : Heap → Prop) (h : Heap) : Prop := g_client_Client_fall c id K h

/-- (*proto.writer).numbers -/
def g_proto_writer_numbers (w : Option Addr) (l : Sl) (K : Heap → Prop) (h : Heap) : Prop :=
  loopM (σ := Int × Unit) (fun J1 s h2 =>
    (fun (s9 : Int) =>
      iteP (decide (s9 < (l.len : Int))) (
        idxA l.ptr l.len s9 1 fun b o => 
        ldI h2 b o .i64 fun t => 
        bindI t fun n => 
        bindI 56 fun shift => 
        loopM (σ := Int × Unit) (fun J4 s5 h6 =>
          (fun (shift3 : Int) =>
            iteP (decide (shift3 ≥ 0)) (
              derefP w fun b7 o8 => 
              need (0 ≤ shift3) <| 
              ldL h6 b7 o8 fun t9 => 
              newC h6 [Value.int .u8 (IntKind.wrap .u8 (shrV .i64 n shift3))] 5 fun b10 h11 => 
              need (heldL h11 [(b7, o8, Value.slice t9.ptr t9.len t9.cap)]) <|
              rdS ⟨some ⟨b10, 0, none⟩, 1, 1⟩ 1 h11 fun new => app 5 1 1 [Value.int .u8 0] t9 1 new h11 fun t12 h13 => 
              derefP w fun b14 o15 => 
              st h13 b14 o15 (Value.slice t12.ptr t12.len t12.cap) fun h16 => 
              bindI (IntKind.wrap .i64 (shift3 - 8)) fun shift17 => 
              J4 (shift17, ()) h16) (
              J1 (IntKind.wrap .i64 (s9 + 1), ()) h6)) s5.1) (shift, ()) h2) (
        K h2)) s.1) (0, ()) h

def m_proto_writer_numbers (w : Option Addr) (l : Sl) (K : Heap → Prop) (h : Heap) : Prop := g_proto_writer_numbers w l K h

/-- proto.Request -/
def g_proto_Request (f_proto_Right : (Int × Int × Int × Int × ByteArray × Int × Unit) → (Bool → Heap → Prop) → Heap → Prop) (f_proto_writer_numbers : (Option Addr) → Sl → (Heap → Prop) → Heap → Prop) (r : Int × Int × Int × Int × ByteArray × Int × Unit) (K : Sl → Int → Heap → Prop) (h : Heap) : Prop :=
  newC h [Value.int .i64 r.1, Value.int .u8 r.2.1, Value.int .i64 r.2.2.1, Value.int .i64 r.2.2.2.1, Value.string r.2.2.2.2.1, Value.int .i64 r.2.2.2.2.2.1] 40 fun b h1 => 
  bindI 0 fun t => 
  ldI h1 b 0 .i64 fun t2 => ldI h1 b (0 + 1) .u8 fun t3 => ldI h1 b (0 + 2) .i64 fun t4 => ldI h1 b (0 + 3) .i64 fun t5 => ldS h1 b (0 + 4) fun t6 => ldI h1 b (0 + 5) .i64 fun t7 => 
  f_proto_Right (t2, t3, t4, t5, t6, t7, ()) (fun t8 h9 =>
    iteP (!t8) (
      bindI 6 fun t10 => 
      K ⟨none, 0, 0⟩ t10 h9) (
      ldI h9 b (0 + 1) .u8 fun t11 => 
      newC h9 [Value.int .u8 t11] 5 fun b12 h13 => 
      newC h13 [Value.slice none 0 0] 85 fun b14 h15 => 
      sts h15 b14 0 [Value.slice (some ⟨b12, 0, none⟩) 1 1] fun h16 => 
      ldI h16 b 0 .i64 fun t17 => 
      ldI h16 b (0 + 2) .i64 fun t18 => 
      ldI h16 b (0 + 3) .i64 fun t19 => 
      ldI h16 b (0 + 5) .i64 fun t20 => 
      newC h16 [Value.int .i64 t17, Value.int .i64 t18, Value.int .i64 t19, Value.int .i64 t20] 3 fun b21 h22 => 
      f_proto_writer_numbers (some ⟨b14, 0, none⟩) ⟨some ⟨b21, 0, none⟩, 4, 4⟩ (fun h23 =>
        ldL h23 b14 0 fun t24 => 
        ldS h23 b (0 + 4) fun t25 => 
        ldS h23 b (0 + 4) fun t26 => 
        newC h23 [Value.int .u8 (IntKind.wrap .u8 (t25.size : Int))] 5 fun b27 h28 => 
        need (heldL h28 [(b, 0 + 4, Value.string t26)]) <|
        need (heldL h28 [(b, 0 + 4, Value.string t25)]) <|
        need (heldL h28 [(b14, 0, Value.slice t24.ptr t24.len t24.cap)]) <|
        rdS ⟨some ⟨b27, 0, none⟩, 1, 1⟩ 1 h28 fun new => app 5 1 1 [Value.int .u8 0] t24 1 new h28 fun t29 h30 => 
        need (heldL h30 [(b, 0 + 4, Value.string t26)]) <|
        need (heldL h30 [(b, 0 + 4, Value.string t25)]) <|
        app 5 1 1 [Value.int .u8 0] t29 t26.size (byteVals t26) h30 fun t31 h32 => 
        need (heldL h32 [(b, 0 + 4, Value.string t25)]) <|
        bindI 0 fun t33 => 
        K t31 t33 h32) h22)) h1

def m_proto_Request (r : Int × Int × Int × Int × ByteArray × Int × Unit) (K : Sl → Int → Heap → Prop) (h : Heap) : Prop := g_proto_Request m_proto_Right m_proto_writer_numbers r K h

/-- frame.Frame -/
def g_frame_Frame (payload : Sl) (K : Sl → Int → Heap → Prop) (h : Heap) : Prop :=
  bindI 0 fun t => 
  bindI (payload.len : Int) fun n => 
  bindB (decide (n > 4096)) fun t1 => 
  iteP t1 (
    bindI 5 fun t2 => 
    K ⟨none, 0, 0⟩ t2 h) (
    bindB (n == 0) fun t3 => 
    iteP t3 (
      bindI 6 fun t4 => 
      K ⟨none, 0, 0⟩ t4 h) (
      need (0 ≤ (24 : Int)) <| 
      need (0 ≤ (16 : Int)) <| 
      need (0 ≤ (8 : Int)) <| 
      newC h [Value.int .u8 (IntKind.wrap .u8 (shrV .i64 n 24)), Value.int .u8 (IntKind.wrap .u8 (shrV .i64 n 16)), Value.int .u8 (IntKind.wrap .u8 (shrV .i64 n 8)), Value.int .u8 (IntKind.wrap .u8 n)] 5 fun b h5 => 
      rdS payload 1 h5 fun new => app 5 1 1 [Value.int .u8 0] ⟨some ⟨b, 0, none⟩, 4, 4⟩ payload.len new h5 fun t6 h7 => 
      bindI 0 fun t8 => 
      K t6 t8 h7))

def m_frame_Frame (payload : Sl) (K : Sl → Int → Heap → Prop) (h : Heap) : Prop := g_frame_Frame payload K h

/-- frame.Frames -/
def g_frame_Frames (f_frame_Frame : Sl → (Sl → Int → Heap → Prop) → Heap → Prop) (l : Sl) (K : Sl → Int → Heap → Prop) (h : Heap) : Prop :=
  bindI 0 fun t => 
  loopM (σ := Sl × Int × Unit) (fun J1 s h2 =>
    (fun (out : Sl) (s11 : Int) =>
      iteP (decide (s11 < (l.len : Int))) (
        idxA l.ptr l.len s11 1 fun b o => 
        ldL h2 b o fun t3 => 
        f_frame_Frame t3 (fun t4 t5 h6 =>
          bindI t5 fun e => 
          iteP (e != 0) (
            bindI e fun t7 => 
            K ⟨none, 0, 0⟩ t7 h6) (
            rdS t4 1 h6 fun new => app 5 1 1 [Value.int .u8 0] out t4.len new h6 fun t8 h9 => 
            J1 (t8, IntKind.wrap .i64 (s11 + 1), ()) h9)) h2) (
        bindI 0 fun t10 => 
        K out t10 h2)) s.1 s.2.1) (⟨none, 0, 0⟩, 0, ()) h

def m_frame_Frames (l : Sl) (K : Sl → Int → Heap → Prop) (h : Heap) : Prop := g_frame_Frames m_frame_Frame l K h

/-- proto.All -/
def g_proto_All (f_proto_Request : (Int × Int × Int × Int × ByteArray × Int × Unit) → (Sl → Int → Heap → Prop) → Heap → Prop) (f_frame_Frames : Sl → (Sl → Int → Heap → Prop) → Heap → Prop) (l : Sl) (K : Sl → Int → Heap → Prop) (h : Heap) : Prop :=
  bindI 0 fun t => 
  loopM (σ := Sl × Int × Unit) (fun J1 s h2 =>
    (fun (payloads : Sl) (s11 : Int) =>
      iteP (decide (s11 < (l.len : Int))) (
        idxA l.ptr l.len s11 6 fun b o => 
        ldI h2 b o .i64 fun t3 => ldI h2 b (o + 1) .u8 fun t4 => ldI h2 b (o + 2) .i64 fun t5 => ldI h2 b (o + 3) .i64 fun t6 => ldS h2 b (o + 4) fun t7 => ldI h2 b (o + 5) .i64 fun t8 => 
        newC h2 [Value.int .i64 0, Value.int .u8 0, Value.int .i64 0, Value.int .i64 0, Value.string (ByteArray.mk #[]), Value.int .i64 0] 40 fun b9 h10 => 
        sts h10 b9 0 [Value.int .i64 t3, Value.int .u8 t4, Value.int .i64 t5, Value.int .i64 t6, Value.string t7, Value.int .i64 t8] fun h11 => 
        ldI h11 b9 0 .i64 fun t12 => ldI h11 b9 (0 + 1) .u8 fun t13 => ldI h11 b9 (0 + 2) .i64 fun t14 => ldI h11 b9 (0 + 3) .i64 fun t15 => ldS h11 b9 (0 + 4) fun t16 => ldI h11 b9 (0 + 5) .i64 fun t17 => 
        f_proto_Request (t12, t13, t14, t15, t16, t17, ()) (fun t18 t19 h20 =>
          bindI t19 fun err => 
          iteP (err != 0) (
            bindI err fun t21 => 
            K ⟨none, 0, 0⟩ t21 h20) (
            newC h20 [Value.slice t18.ptr t18.len t18.cap] 44 fun b22 h23 => 
            rdS ⟨some ⟨b22, 0, none⟩, 1, 1⟩ 1 h23 fun new => app 44 1 24 [Value.slice none 0 0] payloads 1 new h23 fun t24 h25 => 
            J1 (t24, IntKind.wrap .i64 (s11 + 1), ()) h25)) h11) (
        f_frame_Frames payloads (fun t26 t27 h28 =>
          bindI t27 fun t29 => 
          K t26 t29 h28) h2)) s.1 s.2.1) (⟨none, 0, 0⟩, 0, ()) h

def m_proto_All (l : Sl) (K : Sl → Int → Heap → Prop) (h : Heap) : Prop := g_proto_All m_proto_Request m_frame_Frames l K h

/-- (*client.Client).queue -/
def g_client_Client_queue (f_proto_All : Sl → (Sl → Int → Heap → Prop) → Heap → Prop) (c : Option Addr) (r : Int × Int × Int × Int × ByteArray × Int × Unit) (K : Heap → Prop) (h : Heap) : Prop :=
  newC h [Value.int .i64 r.1, Value.int .u8 r.2.1, Value.int .i64 r.2.2.1, Value.int .i64 r.2.2.2.1, Value.string r.2.2.2.2.1, Value.int .i64 r.2.2.2.2.2.1] 40 fun b h1 => 
  ldI h1 b 0 .i64 fun t => ldI h1 b (0 + 1) .u8 fun t2 => ldI h1 b (0 + 2) .i64 fun t3 => ldI h1 b (0 + 3) .i64 fun t4 => ldS h1 b (0 + 4) fun t5 => ldI h1 b (0 + 5) .i64 fun t6 => 
  newC h1 [Value.int .i64 t, Value.int .u8 t2, Value.int .i64 t3, Value.int .i64 t4, Value.string t5, Value.int .i64 t6] 40 fun b7 h8 => 
  f_proto_All ⟨some ⟨b7, 0, none⟩, 1, 1⟩ (fun t9 t10 h11 =>
    bindI t10 fun _ => 
    derefP c fun b12 o => 
    ldL h11 b12 (o + 9) fun t13 => 
    rdS t9 1 h11 fun new => app 5 1 1 [Value.int .u8 0] t13 t9.len new h11 fun t14 h15 => 
    derefP c fun b16 o17 => 
    st h15 b16 (o17 + 9) (Value.slice t14.ptr t14.len t14.cap) fun h18 => 
    K h18) h8

def m_client_Client_queue (c : Option Addr) (r : Int × Int × Int × Int × ByteArray × Int × Unit) (K : Heap → Prop) (h : Heap) : Prop := g_client_Client_queue m_proto_All c r K h

/-- (*client.Client).Up$1 -/
def g_client_Client_Up_1 (f_client_Client_queue : (Option Addr) → (Int × Int × Int × Int × ByteArray × Int × Unit) → (Heap → Prop) → Heap → Prop) (a0 : Option Addr) (K : Int → Heap → Prop) (h : Heap) : Prop :=
  bindI 0 fun t => 
  derefP a0 fun b o => ldP h b o fun t1 => 
  derefP t1 fun b2 o3 => 
  ldB h b2 (o3 + 5) fun t4 => 
  iteP t4 (
    bindI 52 fun t5 => 
    K t5 h) (
    derefP a0 fun b6 o7 => ldP h b6 o7 fun t8 => 
    derefP a0 fun b9 o10 => ldP h b9 o10 fun t11 => 
    derefP a0 fun b12 o13 => ldP h b12 o13 fun t14 => 
    derefP t14 fun b15 o16 => 
    ldI h b15 (o16 + 1 + 1) .i64 fun t17 => 
    derefP t8 fun b18 o19 => 
    st h b18 (o19 + 5) (Value.bool true) fun h20 => 
    need (heldL h20 [(b12, o13, Value.pointer t14)]) <|
    need (heldL h20 [(b9, o10, Value.pointer t11)]) <|
    derefP t11 fun b21 o22 => 
    st h20 b21 (o22 + 12) (Value.int .i64 t17) fun h23 => 
    derefP a0 fun b24 o25 => ldP h23 b24 o25 fun t26 => 
    derefP a0 fun b27 o28 => ldP h23 b27 o28 fun t29 => 
    derefP t29 fun b30 o31 => 
    ldS h23 b30 (o31 + 4) fun t32 => 
    f_client_Client_queue t26 (0, 5, 0, 0, t32, 0, ()) (fun h33 =>
      need (heldL h33 [(b30, o31 + 4, Value.string t32)]) <|
      need (heldL h33 [(b27, o28, Value.pointer t29)]) <|
      bindI 0 fun t34 => 
      K t34 h33) h23)

def m_client_Client_Up_1 (a0 : Option Addr) (K : Int → Heap → Prop) (h : Heap) : Prop := g_client_Client_Up_1 m_client_Client_queue a0 K h

/-- (*client.Client).at -/
def g_client_Client_at__client_Client_Up_1 (f_client_Client_Waiting : (Option Addr) → (Sl → Heap → Prop) → Heap → Prop) (f_client_Client_fall : (Option Addr) → Int → (Heap → Prop) → Heap → Prop) (f_client_Client_Up_1 : (Option Addr) → (Int → Heap → Prop) → Heap → Prop) (c : Option Addr) (at_ : Int) (then_ : Option Addr × Unit) (K : Int → Heap → Prop) (h : Heap) : Prop :=
  bindI 0 fun t => 
  bindB c.isNone fun t1 => 
  iteP t1 (
    bindI 1 fun t2 => 
    K t2 h) (
    iteP (decide (at_ < 0)) (
      bindI 2 fun t3 => 
      K t3 h) (
      bindB (decide (at_ > 1152921504606846976)) fun t4 => 
      iteP t4 (
        bindI 2 fun t5 => 
        K t5 h) (
        derefP c fun b o => 
        ldI h b (o + 6) .i64 fun t6 => 
        bindB (decide (at_ < t6)) fun t7 => 
        iteP t7 (
          bindI 7 fun t8 => 
          K t8 h) (
          derefP c fun b9 o10 => 
          st h b9 (o10 + 6) (Value.int .i64 at_) fun h11 => 
          f_client_Client_Waiting c (fun t12 h13 =>
            loopM (σ := Int × Unit) (fun J14 s h15 =>
              (fun (s33 : Int) =>
                iteP (decide (s33 < (t12.len : Int))) (
                  idxA t12.ptr t12.len s33 1 fun b16 o17 => 
                  ldI h15 b16 o17 .i64 fun t18 => 
                  bindI t18 fun id => 
                  derefP c fun b19 o20 => 
                  derefP c fun b21 o22 => 
                  ldM h15 b19 (o20 + 8) fun t23 => 
                  ldI h15 b21 (o22 + 1) .i64 fun t24 => 
                  mapGet (.int .i64) h15 t23 (Value.int .i64 id) fun r => asI (r.getD (Value.int .i64 0)) .i64 fun t25 => 
                  need (heldL h15 [(b21, o22 + 1, Value.int .i64 t24)]) <|
                  iteP (decide ((IntKind.wrap .i64 (at_ - t25)) ≥ t24)) (
                    f_client_Client_fall c id (fun h26 =>
                      J14 (IntKind.wrap .i64 (s33 + 1), ()) h26) h15) (
                    J14 (IntKind.wrap .i64 (s33 + 1), ()) h15)) (
                  f_client_Client_Up_1 then_.1 (fun t27 h28 =>
                    bindI t27 fun t29 => 
                    K t29 h28) h15)) s.1) (0, ()) h13) h11))))

def m_client_Client_at__client_Client_Up_1 (c : Option Addr) (at_ : Int) (then_ : Option Addr × Unit) (K : Int → Heap → Prop) (h : Heap) : Prop := g_client_Client_at__client_Client_Up_1 m_client_Client_Waiting m_client_Client_fall m_client_Client_Up_1 c at_ then_ K h

/-- (*client.Client).Up -/
def g_client_Client_Up (f_client_Client_at__client_Client_Up_1 : (Option Addr) → Int → (Option Addr × Unit) → (Int → Heap → Prop) → Heap → Prop) (c : Option Addr) (at_ : Int) (K : Int → Heap → Prop) (h : Heap) : Prop :=
  newC h [Value.pointer c] 30 fun b h1 => 
  bindI 0 fun t => 
  ldP h1 b 0 fun t2 => 
  f_client_Client_at__client_Client_Up_1 t2 at_ (some ⟨b, 0, none⟩, ()) (fun t3 h4 =>
    bindI t3 fun t5 => 
    K t5 h4) h1

def m_client_Client_Up (c : Option Addr) (at_ : Int) (K : Int → Heap → Prop) (h : Heap) : Prop := g_client_Client_Up m_client_Client_at__client_Client_Up_1 c at_ K h

/-- (*client.Client).Ask$1 -/
def g_client_Client_Ask_1 (f_proto_Right : (Int × Int × Int × Int × ByteArray × Int × Unit) → (Bool → Heap → Prop) → Heap → Prop) (f_client_Client_queue : (Option Addr) → (Int × Int × Int × Int × ByteArray × Int × Unit) → (Heap → Prop) → Heap → Prop) (a0 : Option Addr) (a1 : Option Addr) (a2 : Option Addr) (a3 : Option Addr) (a4 : Option Addr) (K : Int → Heap → Prop) (h : Heap) : Prop :=
  bindI 0 fun t => 
  derefP a0 fun b o => 
  st h b o (Value.int .i64 0) fun h1 => 
  derefP a0 fun b2 o3 => ldI h1 b2 o3 .i64 fun t4 => ldI h1 b2 (o3 + 1) .u8 fun t5 => ldI h1 b2 (o3 + 2) .i64 fun t6 => ldI h1 b2 (o3 + 3) .i64 fun t7 => ldS h1 b2 (o3 + 4) fun t8 => ldI h1 b2 (o3 + 5) .i64 fun t9 => 
  f_proto_Right (t4, t5, t6, t7, t8, t9, ()) (fun t10 h11 =>
    iteP (!t10) (
      bindI 6 fun t12 => 
      K t12 h11) (
      derefP a0 fun b13 o14 => 
      ldI h11 b13 (o14 + 1) .u8 fun t15 => 
      bindB (t15 == 5) fun t16 => 
      iteP t16 (
        bindI 6 fun t17 => 
        K t17 h11) (
        derefP a1 fun b18 o19 => ldP h11 b18 o19 fun t20 => 
        derefP t20 fun b21 o22 => 
        ldB h11 b21 (o22 + 5) fun t23 => 
        iteP (!t23) (
          derefP a2 fun b24 o25 => st h11 b24 o25 (Value.bool true) fun h26 => 
          bindI 0 fun t27 => 
          K t27 h26) (
          derefP a1 fun b28 o29 => ldP h11 b28 o29 fun t30 => 
          derefP t30 fun b31 o32 => 
          ldM h11 b31 (o32 + 8) fun t33 => 
          lenM h11 t33 fun t34 => 
          bindB (decide (t34 ≥ 256)) fun t35 => 
          iteP t35 (
            derefP a2 fun b36 o37 => st h11 b36 o37 (Value.bool true) fun h38 => 
            bindI 0 fun t39 => 
            K t39 h38) (
            derefP a1 fun b40 o41 => ldP h11 b40 o41 fun t42 => 
            derefP t42 fun b43 o44 => 
            ldI h11 b43 (o44 + 7) .i64 fun t45 => 
            derefP a1 fun b46 o47 => ldP h11 b46 o47 fun t48 => 
            derefP t48 fun b49 o50 => 
            ldI h11 b49 (o50 + 7) .i64 fun t51 => 
            derefP a3 fun b52 o53 => st h11 b52 o53 (Value.int .i64 t45) fun h54 => 
            need (heldL h54 [(b49, o50 + 7, Value.int .i64 t51)]) <|
            need (heldL h54 [(b46, o47, Value.pointer t48)]) <|
            derefP a0 fun b55 o56 => 
            st h54 b55 o56 (Value.int .i64 t51) fun h57 => 
            derefP a1 fun b58 o59 => ldP h57 b58 o59 fun t60 => 
            derefP t60 fun b61 o62 => 
            ldI h57 b61 (o62 + 7) .i64 fun t63 => 
            derefP t60 fun b64 o65 => 
            st h57 b64 (o65 + 7) (Value.int .i64 (IntKind.wrap .i64 (t63 + 1))) fun h66 => 
            derefP a1 fun b67 o68 => ldP h66 b67 o68 fun t69 => 
            derefP t69 fun b70 o71 => 
            ldM h66 b70 (o71 + 8) fun t72 => 
            derefP a3 fun b73 o74 => ldI h66 b73 o74 .i64 fun t75 => 
            derefP a4 fun b76 o77 => ldI h66 b76 o77 .i64 fun t78 => 
            mapPut (.int .i64) h66 t72 (Value.int .i64 t75) (Value.int .i64 t78) fun h79 => 
            derefP a1 fun b80 o81 => ldP h79 b80 o81 fun t82 => 
            derefP a0 fun b83 o84 => ldI h79 b83 o84 .i64 fun t85 => ldI h79 b83 (o84 + 1) .u8 fun t86 => ldI h79 b83 (o84 + 2) .i64 fun t87 => ldI h79 b83 (o84 + 3) .i64 fun t88 => ldS h79 b83 (o84 + 4) fun t89 => ldI h79 b83 (o84 + 5) .i64 fun t90 => 
            f_client_Client_queue t82 (t85, t86, t87, t88, t89, t90, ()) (fun h91 =>
              bindI 0 fun t92 => 
              K t92 h91) h79))))) h1

def m_client_Client_Ask_1 (a0 : Option Addr) (a1 : Option Addr) (a2 : Option Addr) (a3 : Option Addr) (a4 : Option Addr) (K : Int → Heap → Prop) (h : Heap) : Prop := g_client_Client_Ask_1 m_proto_Right m_client_Client_queue a0 a1 a2 a3 a4 K h

/-- (*client.Client).at -/
def g_client_Client_at__client_Client_Ask_1 (f_client_Client_Waiting : (Option Addr) → (Sl → Heap → Prop) → Heap → Prop) (f_client_Client_fall : (Option Addr) → Int → (Heap → Prop) → Heap → Prop) (f_client_Client_Ask_1 : (Option Addr) → (Option Addr) → (Option Addr) → (Option Addr) → (Option Addr) → (Int → Heap → Prop) → Heap → Prop) (c : Option Addr) (at_ : Int) (then_ : Option Addr × Option Addr × Option Addr × Option Addr × Option Addr × Unit) (K : Int → Heap → Prop) (h : Heap) : Prop :=
  bindI 0 fun t => 
  bindB c.isNone fun t1 => 
  iteP t1 (
    bindI 1 fun t2 => 
    K t2 h) (
    iteP (decide (at_ < 0)) (
      bindI 2 fun t3 => 
      K t3 h) (
      bindB (decide (at_ > 1152921504606846976)) fun t4 => 
      iteP t4 (
        bindI 2 fun t5 => 
        K t5 h) (
        derefP c fun b o => 
        ldI h b (o + 6) .i64 fun t6 => 
        bindB (decide (at_ < t6)) fun t7 => 
        iteP t7 (
          bindI 7 fun t8 => 
          K t8 h) (
          derefP c fun b9 o10 => 
          st h b9 (o10 + 6) (Value.int .i64 at_) fun h11 => 
          f_client_Client_Waiting c (fun t12 h13 =>
            loopM (σ := Int × Unit) (fun J14 s h15 =>
              (fun (s33 : Int) =>
                iteP (decide (s33 < (t12.len : Int))) (
                  idxA t12.ptr t12.len s33 1 fun b16 o17 => 
                  ldI h15 b16 o17 .i64 fun t18 => 
                  bindI t18 fun id => 
                  derefP c fun b19 o20 => 
                  derefP c fun b21 o22 => 
                  ldM h15 b19 (o20 + 8) fun t23 => 
                  ldI h15 b21 (o22 + 1) .i64 fun t24 => 
                  mapGet (.int .i64) h15 t23 (Value.int .i64 id) fun r => asI (r.getD (Value.int .i64 0)) .i64 fun t25 => 
                  need (heldL h15 [(b21, o22 + 1, Value.int .i64 t24)]) <|
                  iteP (decide ((IntKind.wrap .i64 (at_ - t25)) ≥ t24)) (
                    f_client_Client_fall c id (fun h26 =>
                      J14 (IntKind.wrap .i64 (s33 + 1), ()) h26) h15) (
                    J14 (IntKind.wrap .i64 (s33 + 1), ()) h15)) (
                  f_client_Client_Ask_1 then_.1 then_.2.1 then_.2.2.1 then_.2.2.2.1 then_.2.2.2.2.1 (fun t27 h28 =>
                    bindI t27 fun t29 => 
                    K t29 h28) h15)) s.1) (0, ()) h13) h11))))

def m_client_Client_at__client_Client_Ask_1 (c : Option Addr) (at_ : Int) (then_ : Option Addr × Option Addr × Option Addr × Option Addr × Option Addr × Unit) (K : Int → Heap → Prop) (h : Heap) : Prop := g_client_Client_at__client_Client_Ask_1 m_client_Client_Waiting m_client_Client_fall m_client_Client_Ask_1 c at_ then_ K h

/-- (*client.Client).Ask -/
def g_client_Client_Ask (f_client_Client_at__client_Client_Ask_1 : (Option Addr) → Int → (Option Addr × Option Addr × Option Addr × Option Addr × Option Addr × Unit) → (Int → Heap → Prop) → Heap → Prop) (c : Option Addr) (at_ : Int) (r : Int × Int × Int × Int × ByteArray × Int × Unit) (K : Int → Bool → Int → Heap → Prop) (h : Heap) : Prop :=
  newC h [Value.pointer c] 30 fun b h1 => 
  newC h1 [Value.int .i64 at_] 3 fun b2 h3 => 
  newC h3 [Value.int .i64 r.1, Value.int .u8 r.2.1, Value.int .i64 r.2.2.1, Value.int .i64 r.2.2.2.1, Value.string r.2.2.2.2.1, Value.int .i64 r.2.2.2.2.2.1] 40 fun b4 h5 => 
  newC h5 [Value.int .i64 0] 3 fun b6 h7 => 
  newC h7 [Value.bool false] 4 fun b8 h9 => 
  bindI 0 fun e => 
  ldP h9 b 0 fun t => 
  ldI h9 b2 0 .i64 fun t10 => 
  f_client_Client_at__client_Client_Ask_1 t t10 (some ⟨b4, 0, none⟩, some ⟨b, 0, none⟩, some ⟨b8, 0, none⟩, some ⟨b6, 0, none⟩, some ⟨b2, 0, none⟩, ()) (fun t11 h12 =>
    bindI t11 fun e13 => 
    ldI h12 b6 0 .i64 fun t14 => 
    ldB h12 b8 0 fun t15 => 
    st h12 b6 0 (Value.int .i64 t14) fun h16 => 
    need (heldL h16 [(b8, 0, Value.bool t15)]) <|
    st h16 b8 0 (Value.bool t15) fun h17 => 
    bindI e13 fun e18 => 
    ldI h17 b6 0 .i64 fun t19 => ldB h17 b8 0 fun t20 => K t19 t20 e18 h17) h9

def m_client_Client_Ask (c : Option Addr) (at_ : Int) (r : Int × Int × Int × Int × ByteArray × Int × Unit) (K : Int → Bool → Int → Heap → Prop) (h : Heap) : Prop := g_client_Client_Ask m_client_Client_at__client_Client_Ask_1 c at_ r K h

/-- proto.RightAnswer -/
def g_proto_RightAnswer (f_proto_from : Int → Int → Int → (Bool → Heap → Prop) → Heap → Prop) (a : Int × Int × Int × Int × Int × Unit) (K : Bool → Heap → Prop) (h : Heap) : Prop :=
  newC h [Value.int .i64 a.1, Value.int .u8 a.2.1, Value.int .i64 a.2.2.1, Value.int .i64 a.2.2.2.1, Value.int .i64 a.2.2.2.2.1] 43 fun b h1 => 
  ldI h1 b 0 .i64 fun t => 
  f_proto_from t 0 2147483647 (fun t2 h3 =>
    iteP t2 (
      ldI h3 b (0 + 1) .u8 fun t4 => 
      iteP (decide (t4 ≥ 1)) (
        ldI h3 b (0 + 1) .u8 fun t5 => 
        iteP (decide (t5 ≤ 8)) (
          ldI h3 b (0 + 2) .i64 fun t6 => 
          f_proto_from t6 0 1099511627776 (fun t7 h8 =>
            iteP t7 (
              ldI h8 b (0 + 3) .i64 fun t9 => 
              f_proto_from t9 0 1099511627776 (fun t10 h11 =>
                iteP t10 (
                  ldI h11 b (0 + 4) .i64 fun t12 => 
                  f_proto_from t12 0 2147483647 (fun t13 h14 =>
                    bindB t13 fun t15 => 
                    K t15 h14) h11) (
                  K false h11)) h8) (
              K false h8)) h3) (
          K false h3)) (
        K false h3)) (
      K false h3)) h1

def m_proto_RightAnswer (a : Int × Int × Int × Int × Int × Unit) (K : Bool → Heap → Prop) (h : Heap) : Prop := g_proto_RightAnswer m_proto_from a K h

/-- proto.Answer -/
def g_proto_Answer (f_proto_RightAnswer : (Int × Int × Int × Int × Int × Unit) → (Bool → Heap → Prop) → Heap → Prop) (f_proto_writer_numbers : (Option Addr) → Sl → (Heap → Prop) → Heap → Prop) (a : Int × Int × Int × Int × Int × Unit) (K : Sl → Int → Heap → Prop) (h : Heap) : Prop :=
  newC h [Value.int .i64 a.1, Value.int .u8 a.2.1, Value.int .i64 a.2.2.1, Value.int .i64 a.2.2.2.1, Value.int .i64 a.2.2.2.2.1] 43 fun b h1 => 
  bindI 0 fun t => 
  ldI h1 b 0 .i64 fun t2 => ldI h1 b (0 + 1) .u8 fun t3 => ldI h1 b (0 + 2) .i64 fun t4 => ldI h1 b (0 + 3) .i64 fun t5 => ldI h1 b (0 + 4) .i64 fun t6 => 
  f_proto_RightAnswer (t2, t3, t4, t5, t6, ()) (fun t7 h8 =>
    iteP (!t7) (
      bindI 6 fun t9 => 
      K ⟨none, 0, 0⟩ t9 h8) (
      ldI h8 b (0 + 1) .u8 fun t10 => 
      newC h8 [Value.int .u8 t10] 5 fun b11 h12 => 
      newC h12 [Value.slice none 0 0] 85 fun b13 h14 => 
      sts h14 b13 0 [Value.slice (some ⟨b11, 0, none⟩) 1 1] fun h15 => 
      ldI h15 b 0 .i64 fun t16 => 
      ldI h15 b (0 + 2) .i64 fun t17 => 
      ldI h15 b (0 + 3) .i64 fun t18 => 
      ldI h15 b (0 + 4) .i64 fun t19 => 
      newC h15 [Value.int .i64 t16, Value.int .i64 t17, Value.int .i64 t18, Value.int .i64 t19] 3 fun b20 h21 => 
      f_proto_writer_numbers (some ⟨b13, 0, none⟩) ⟨some ⟨b20, 0, none⟩, 4, 4⟩ (fun h22 =>
        ldL h22 b13 0 fun t23 => 
        bindI 0 fun t24 => 
        K t23 t24 h22) h21)) h1

def m_proto_Answer (a : Int × Int × Int × Int × Int × Unit) (K : Sl → Int → Heap → Prop) (h : Heap) : Prop := g_proto_Answer m_proto_RightAnswer m_proto_writer_numbers a K h

/-- (*stream.Net).at -/
def g_stream_Net_at (n : Option Addr) (k : Int) (end_ : Int) (most : Int) (K : (Option Addr) → Int → Heap → Prop) (h : Heap) : Prop :=
  bindI 0 fun t => 
  bindB n.isNone fun t1 => 
  iteP t1 (
    bindI 1 fun t2 => 
    K none t2 h) (
    iteP (decide (k < 1)) (
      bindI 4 fun t3 => 
      K none t3 h) (
      derefP n fun b o => 
      ldL h b (o + 1) fun t4 => 
      bindB (decide (k > (t4.len : Int))) fun t5 => 
      iteP t5 (
        bindI 4 fun t6 => 
        K none t6 h) (
        iteP (decide (end_ < 0)) (
          bindI 2 fun t7 => 
          K none t7 h) (
          iteP (decide (end_ > 1)) (
            bindI 2 fun t8 => 
            K none t8 h) (
            bindB (decide (most < 0)) fun t9 => 
            iteP t9 (
              bindI 2 fun t10 => 
              K none t10 h) (
              derefP n fun b11 o12 => 
              ldL h b11 (o12 + 1) fun t13 => 
              idxA t13.ptr t13.len (IntKind.wrap .i64 (k - 1)) 8 fun b14 o15 => 
              ldB h b14 (o15 + 7) fun t16 => 
              bindB t16 fun t17 => 
              iteP t17 (
                bindI 51 fun t18 => 
                K none t18 h) (
                derefP n fun b19 o20 => 
                ldL h b19 (o20 + 1) fun t21 => 
                idxA t21.ptr t21.len (IntKind.wrap .i64 (k - 1)) 8 fun b22 o23 => 
                bindI 0 fun t24 => 
                K (some ⟨b22, o23, none⟩) t24 h)))))))

def m_stream_Net_at (n : Option Addr) (k : Int) (end_ : Int) (most : Int) (K : (Option Addr) → Int → Heap → Prop) (h : Heap) : Prop := g_stream_Net_at n k end_ most K h

/-- (*stream.Net).Write -/
def g_stream_Net_Write (f_stream_Net_at : (Option Addr) → Int → Int → Int → ((Option Addr) → Int → Heap → Prop) → Heap → Prop) (n : Option Addr) (k : Int) (end_ : Int) (b : Sl) (K : Int → Heap → Prop) (h : Heap) : Prop :=
  bindI 0 fun t => 
  f_stream_Net_at n k end_ 0 (fun t1 t2 h3 =>
    bindI t2 fun e => 
    iteP (e != 0) (
      bindI e fun t4 => 
      K t4 h3) (
      derefP t1 fun b5 o => 
      idxN 2 end_ fun j => 
      ldB h3 b5 (o + j * 3 + 2) fun t6 => 
      bindB t6 fun t7 => 
      iteP t7 (
        bindI 51 fun t8 => 
        K t8 h3) (
        ldL h3 b5 (o + j * 3) fun t9 => 
        bindB (decide ((IntKind.wrap .i64 ((t9.len : Int) + (b.len : Int))) > 65536)) fun t10 => 
        iteP t10 (
          bindI 3 fun t11 => 
          K t11 h3) (
          ldL h3 b5 (o + j * 3) fun t12 => 
          rdS b 1 h3 fun new => app 5 1 1 [Value.int .u8 0] t12 b.len new h3 fun t13 h14 => 
          st h14 b5 (o + j * 3) (Value.slice t13.ptr t13.len t13.cap) fun h15 => 
          bindI 0 fun t16 => 
          K t16 h15)))) h

def m_stream_Net_Write (n : Option Addr) (k : Int) (end_ : Int) (b : Sl) (K : Int → Heap → Prop) (h : Heap) : Prop := g_stream_Net_Write m_stream_Net_at n k end_ b K h

/-- spillwaytop.which -/
def g_spillwaytop_which (n : Int) (all : Int) (K : Int → Heap → Prop) (h : Heap) : Prop :=
  bindI 0 fun t => 
  need (all ≠ 0) <| 
  bindI (Int.tmod n all) fun n1 => 
  iteP (decide (n1 < 0)) (
    bindI (IntKind.wrap .i64 (n1 + all)) fun n2 => 
    bindI n2 fun t3 => 
    K t3 h) (
    bindI n1 fun t4 => 
    K t4 h)

def m_spillwaytop_which (n : Int) (all : Int) (K : Int → Heap → Prop) (h : Heap) : Prop := g_spillwaytop_which n all K h

/-- slices.Clone[[]byte,byte] -/
def g_slices_Clone_byte_byte_ (s : Sl) (K : Sl → Heap → Prop) (h : Heap) : Prop :=
  iteP s.ptr.isNone (
    K ⟨none, 0, 0⟩ h) (
    newC h [] 5 fun b h1 => 
    rdS s 1 h1 fun new => app 5 1 1 [Value.int .u8 0] ⟨some ⟨b, 0, none⟩, 0, 0⟩ s.len new h1 fun t h2 => 
    K t h2)

def m_slices_Clone_byte_byte_ (s : Sl) (K : Sl → Heap → Prop) (h : Heap) : Prop := g_slices_Clone_byte_byte_ s K h

/-- (*stream.Net).Move -/
def g_stream_Net_Move (f_stream_Net_at : (Option Addr) → Int → Int → Int → ((Option Addr) → Int → Heap → Prop) → Heap → Prop) (f_slices_Clone_byte_byte_ : Sl → (Sl → Heap → Prop) → Heap → Prop) (n : Option Addr) (k : Int) (end_ : Int) (most : Int) (K : Int → Int → Heap → Prop) (h : Heap) : Prop :=
  bindI 0 fun t => 
  bindI 0 fun t1 => 
  f_stream_Net_at n k end_ most (fun t2 t3 h4 =>
    bindI t3 fun e => 
    iteP (e != 0) (
      bindI 0 fun t5 => 
      bindI e fun t6 => 
      K t5 t6 h4) (
      derefP t2 fun b o => 
      idxN 2 end_ fun j => 
      ldL h4 b (o + j * 3) fun t7 => 
      bindI (minV most (t7.len : Int)) fun m => 
      ldL h4 b (o + j * 3 + 1) fun t8 => 
      ldL h4 b (o + j * 3) fun t9 => 
      slc t9.ptr t9.cap 1 0 m t9.cap fun t10 => 
      rdS t10 1 h4 fun new => app 5 1 1 [Value.int .u8 0] t8 t10.len new h4 fun t11 h12 => 
      need (heldL h12 [(b, o + j * 3, Value.slice t9.ptr t9.len t9.cap)]) <|
      st h12 b (o + j * 3 + 1) (Value.slice t11.ptr t11.len t11.cap) fun h13 => 
      ldL h13 b (o + j * 3) fun t14 => 
      slc t14.ptr t14.cap 1 m t14.len t14.cap fun t15 => 
      f_slices_Clone_byte_byte_ t15 (fun t16 h17 =>
        st h17 b (o + j * 3) (Value.slice t16.ptr t16.len t16.cap) fun h18 => 
        bindI m fun t19 => 
        bindI 0 fun t20 => 
        K t19 t20 h18) h13)) h

def m_stream_Net_Move (n : Option Addr) (k : Int) (end_ : Int) (most : Int) (K : Int → Int → Heap → Prop) (h : Heap) : Prop := g_stream_Net_Move m_stream_Net_at m_slices_Clone_byte_byte_ n k end_ most K h

/-- (*stream.Net).Read -/
def g_stream_Net_Read (f_stream_Net_at : (Option Addr) → Int → Int → Int → ((Option Addr) → Int → Heap → Prop) → Heap → Prop) (f_slices_Clone_byte_byte_ : Sl → (Sl → Heap → Prop) → Heap → Prop) (n : Option Addr) (k : Int) (end_ : Int) (most : Int) (K : Sl → Bool → Int → Heap → Prop) (h : Heap) : Prop :=
  bindI 0 fun t => 
  f_stream_Net_at n k end_ most (fun t1 t2 h3 =>
    bindI t2 fun e => 
    iteP (e != 0) (
      bindI e fun t4 => 
      K ⟨none, 0, 0⟩ false t4 h3) (
      derefP t1 fun b o => 
      idxN 2 (IntKind.wrap .i64 ((1 : Int) - end_)) fun j => 
      ldL h3 b (o + j * 3 + 1) fun t5 => 
      bindI (minV most (t5.len : Int)) fun m => 
      ldL h3 b (o + j * 3 + 1) fun t6 => 
      slc t6.ptr t6.cap 1 0 m t6.cap fun t7 => 
      f_slices_Clone_byte_byte_ t7 (fun t8 h9 =>
        ldL h9 b (o + j * 3 + 1) fun t10 => 
        slc t10.ptr t10.cap 1 m t10.len t10.cap fun t11 => 
        f_slices_Clone_byte_byte_ t11 (fun t12 h13 =>
          st h13 b (o + j * 3 + 1) (Value.slice t12.ptr t12.len t12.cap) fun h14 => 
          ldB h14 b (o + j * 3 + 2) fun t15 => 
          iteP t15 (
            ldL h14 b (o + j * 3) fun t16 => 
            iteP ((t16.len : Int) == 0) (
              ldL h14 b (o + j * 3 + 1) fun t17 => 
              bindB ((t17.len : Int) == 0) fun t18 => 
              bindI 0 fun t19 => 
              K t8 t18 t19 h14) (
              bindI 0 fun t20 => 
              K t8 false t20 h14)) (
            bindI 0 fun t21 => 
            K t8 false t21 h14)) h9) h3)) h

def m_stream_Net_Read (n : Option Addr) (k : Int) (end_ : Int) (most : Int) (K : Sl → Bool → Int → Heap → Prop) (h : Heap) : Prop := g_stream_Net_Read m_stream_Net_at m_slices_Clone_byte_byte_ n k end_ most K h

/-- bytes.Clone -/
def g_bytes_Clone (b : Sl) (K : Sl → Heap → Prop) (h : Heap) : Prop :=
  iteP b.ptr.isNone (
    K ⟨none, 0, 0⟩ h) (
    newC h [] 5 fun b1 h2 => 
    rdS b 1 h2 fun new => app 5 1 1 [Value.int .u8 0] ⟨some ⟨b1, 0, none⟩, 0, 0⟩ b.len new h2 fun t h3 => 
    K t h3)

def m_bytes_Clone (b : Sl) (K : Sl → Heap → Prop) (h : Heap) : Prop := g_bytes_Clone b K h

/-- frame.length -/
def g_frame_length (b : Sl) (K : Int → Bool → Heap → Prop) (h : Heap) : Prop :=
  bindI 0 fun t => 
  bindI 0 fun n => 
  slc b.ptr b.cap 1 0 (minV 4 (b.len : Int)) b.cap fun t1 => 
  loopM (σ := Int × Int × Unit) (fun J3 s h4 =>
    (fun (n2 : Int) (s13 : Int) =>
      iteP (decide (s13 < (t1.len : Int))) (
        idxA t1.ptr t1.len s13 1 fun b5 o => 
        ldI h4 b5 o .u8 fun t6 => 
        bindI t6 fun c => 
        need (0 ≤ (8 : Int)) <| 
        bindI (orV .i64 (shlV .i64 n2 8) (IntKind.wrap .i64 c)) fun n7 => 
        J3 (n7, IntKind.wrap .i64 (s13 + 1), ()) h4) (
        cutP (σ := Unit) (fun s27 h28 =>
          iteP (decide (n2 ≥ 1)) (
            bindI n2 fun t29 => 
            bindB (decide (n2 ≤ 4096)) fun t30 => 
            K t29 t30 h28) (
            bindI n2 fun t31 => 
            K t31 false h28)) (fun J8 =>
          bindB ((b.len : Int) == 0) fun t9 => 
          iteP t9 (
            iteP t9 (
              bindI n2 fun t10 => 
              bindB (n2 == 0) fun t11 => 
              K t10 t11 h4) (
              bindB ((b.len : Int) == 3) fun t12 => 
              iteP t12 (
                bindI n2 fun t13 => 
                bindB (decide (n2 ≤ 16)) fun t14 => 
                K t13 t14 h4) (
                J8 (()) h4))) (
            bindB ((b.len : Int) == 1) fun t15 => 
            iteP t15 (
              iteP t15 (
                bindI n2 fun t16 => 
                bindB (n2 == 0) fun t17 => 
                K t16 t17 h4) (
                bindB ((b.len : Int) == 3) fun t18 => 
                iteP t18 (
                  bindI n2 fun t19 => 
                  bindB (decide (n2 ≤ 16)) fun t20 => 
                  K t19 t20 h4) (
                  J8 (()) h4))) (
              bindB ((b.len : Int) == 2) fun t21 => 
              iteP t21 (
                bindI n2 fun t22 => 
                bindB (n2 == 0) fun t23 => 
                K t22 t23 h4) (
                bindB ((b.len : Int) == 3) fun t24 => 
                iteP t24 (
                  bindI n2 fun t25 => 
                  bindB (decide (n2 ≤ 16)) fun t26 => 
                  K t25 t26 h4) (
                  J8 (()) h4))))))) s.1 s.2.1) (n, 0, ()) h

def m_frame_length (b : Sl) (K : Int → Bool → Heap → Prop) (h : Heap) : Prop := g_frame_length b K h

/-- (*frame.Reader).Put -/
def g_frame_Reader_Put (f_bytes_Clone : Sl → (Sl → Heap → Prop) → Heap → Prop) (f_frame_length : Sl → (Int → Bool → Heap → Prop) → Heap → Prop) (r : Option Addr) (b : Sl) (K : Sl → Int → Heap → Prop) (h : Heap) : Prop :=
  bindI 0 fun t => 
  bindB r.isNone fun t1 => 
  iteP t1 (
    bindI 1 fun t2 => 
    K ⟨none, 0, 0⟩ t2 h) (
    derefP r fun b3 o => 
    ldB h b3 (o + 1) fun t4 => 
    bindB t4 fun t5 => 
    iteP t5 (
      bindI 50 fun t6 => 
      K ⟨none, 0, 0⟩ t6 h) (
      derefP r fun b7 o8 => 
      ldL h b7 o8 fun t9 => 
      f_bytes_Clone t9 (fun t10 h11 =>
        rdS b 1 h11 fun new => app 5 1 1 [Value.int .u8 0] t10 b.len new h11 fun t12 h13 => 
        cutP (σ := Sl × Sl × Unit) (fun s38 h39 =>
          (fun (all36 : Sl) (out37 : Sl) =>
            derefP r fun b40 o41 => 
            st h39 b40 o41 (Value.slice all36.ptr all36.len all36.cap) fun h42 => 
            bindI 0 fun t43 => 
            K out37 t43 h42) s38.1 s38.2.1) (fun J14 =>
          loopM (σ := Sl × Sl × Unit) (fun J15 s h16 =>
            (fun (all : Sl) (out : Sl) =>
              iteP (decide ((all.len : Int) ≥ 4)) (
                f_frame_length all (fun t17 t18 h19 =>
                  bindI t17 fun n => 
                  bindB t18 fun ok => 
                  iteP (!ok) (
                    derefP r fun b20 o21 => 
                    st h19 b20 o21 (Value.slice none 0 0) fun h22 => 
                    derefP r fun b23 o24 => 
                    st h22 b23 (o24 + 1) (Value.bool true) fun h25 => 
                    bindI 50 fun t26 => 
                    K out t26 h25) (
                    iteP (decide ((IntKind.wrap .i64 ((all.len : Int) - 4)) < n)) (
                      J14 (all, out, ()) h19) (
                      slc all.ptr all.cap 1 4 (IntKind.wrap .i64 ((4 : Int) + n)) all.cap fun t27 => 
                      f_bytes_Clone t27 (fun t28 h29 =>
                        newC h29 [Value.slice t28.ptr t28.len t28.cap] 44 fun b30 h31 => 
                        rdS ⟨some ⟨b30, 0, none⟩, 1, 1⟩ 1 h31 fun new34 => app 44 1 24 [Value.slice none 0 0] out 1 new34 h31 fun t32 h33 => 
                        slc all.ptr all.cap 1 (IntKind.wrap .i64 ((4 : Int) + n)) all.len all.cap fun t35 => 
                        J15 (t35, t32, ()) h33) h19))) h16) (
                J14 (all, out, ()) h16)) s.1 s.2.1) (t12, ⟨none, 0, 0⟩, ()) h13)) h))

def m_frame_Reader_Put (r : Option Addr) (b : Sl) (K : Sl → Int → Heap → Prop) (h : Heap) : Prop := g_frame_Reader_Put m_bytes_Clone m_frame_length r b K h

/-- (*proto.reader).take -/
def g_proto_reader_take (r : Option Addr) (n : Int) (K : Sl → Heap → Prop) (h : Heap) : Prop :=
  cutP (σ := Unit) (fun s h20 =>
    derefP r fun b21 o22 => 
    ldI h20 b21 (o22 + 1) .i64 fun t23 => 
    derefP r fun b24 o25 => 
    st h20 b24 (o25 + 1) (Value.int .i64 (IntKind.wrap .i64 (t23 + n))) fun h26 => 
    derefP r fun b27 o28 => 
    ldL h26 b27 o28 fun t29 => 
    derefP r fun b30 o31 => 
    ldI h26 b30 (o31 + 1) .i64 fun t32 => 
    derefP r fun b33 o34 => 
    ldI h26 b33 (o34 + 1) .i64 fun t35 => 
    slc t29.ptr t29.cap 1 (IntKind.wrap .i64 (t32 - n)) t35 t29.cap fun t36 => 
    K t36 h26) (fun J1 =>
    derefP r fun b o => 
    ldB h b (o + 2) fun t => 
    iteP t (
      derefP r fun b2 o3 => 
      st h b2 (o3 + 2) (Value.bool true) fun h4 => 
      derefP r fun b5 o6 => 
      ldB h4 b5 (o6 + 2) fun t7 => 
      iteP t7 (
        K ⟨none, 0, 0⟩ h4) (
        J1 (()) h4)) (
      derefP r fun b8 o9 => 
      derefP r fun b10 o11 => 
      ldL h b8 o9 fun t12 => 
      ldI h b10 (o11 + 1) .i64 fun t13 => 
      derefP r fun b14 o15 => 
      st h b14 (o15 + 2) (Value.bool (decide ((IntKind.wrap .i64 ((t12.len : Int) - t13)) < n))) fun h16 => 
      derefP r fun b17 o18 => 
      ldB h16 b17 (o18 + 2) fun t19 => 
      iteP t19 (
        K ⟨none, 0, 0⟩ h16) (
        J1 (()) h16)))

def m_proto_reader_take (r : Option Addr) (n : Int) (K : Sl → Heap → Prop) (h : Heap) : Prop := g_proto_reader_take r n K h

/-- (*proto.reader).number -/
def g_proto_reader_number (f_proto_reader_take : (Option Addr) → Int → (Sl → Heap → Prop) → Heap → Prop) (r : Option Addr) (bytes : Int) (K : Int → Heap → Prop) (h : Heap) : Prop :=
  bindI 0 fun t => 
  bindI 0 fun n => 
  f_proto_reader_take r bytes (fun t1 h2 =>
    loopM (σ := Int × Int × Unit) (fun J4 s h5 =>
      (fun (n3 : Int) (s12 : Int) =>
        iteP (decide (s12 < (t1.len : Int))) (
          idxA t1.ptr t1.len s12 1 fun b o => 
          ldI h5 b o .u8 fun t6 => 
          bindI t6 fun c => 
          need (0 ≤ (8 : Int)) <| 
          bindI (orV .u64 (shlV .u64 n3 8) (IntKind.wrap .u64 c)) fun n7 => 
          J4 (n7, IntKind.wrap .i64 (s12 + 1), ()) h5) (
          bindI (IntKind.wrap .i64 n3) fun t8 => 
          K t8 h5)) s.1 s.2.1) (n, 0, ()) h2) h

def m_proto_reader_number (r : Option Addr) (bytes : Int) (K : Int → Heap → Prop) (h : Heap) : Prop := g_proto_reader_number m_proto_reader_take r bytes K h

/-- (*proto.reader).ended -/
def g_proto_reader_ended (r : Option Addr) (right : Bool) (K : Int → Int → Heap → Prop) (h : Heap) : Prop :=
  bindI 0 fun t => 
  bindI 0 fun t1 => 
  derefP r fun b o => 
  ldB h b (o + 2) fun t2 => 
  bindB t2 fun t3 => 
  iteP t3 (
    derefP r fun b4 o5 => 
    ldL h b4 o5 fun t6 => 
    bindI 6 fun t7 => 
    bindI (t6.len : Int) fun t8 => 
    K t7 t8 h) (
    derefP r fun b9 o10 => 
    ldI h b9 (o10 + 1) .i64 fun t11 => 
    derefP r fun b12 o13 => 
    ldL h b12 o13 fun t14 => 
    bindB (decide (t11 < (t14.len : Int))) fun t15 => 
    iteP t15 (
      derefP r fun b16 o17 => 
      ldI h b16 (o17 + 1) .i64 fun t18 => 
      bindI 6 fun t19 => 
      bindI t18 fun t20 => 
      K t19 t20 h) (
      bindB (!right) fun t21 => 
      iteP t21 (
        bindI 6 fun t22 => 
        bindI 0 fun t23 => 
        K t22 t23 h) (
        bindI 0 fun t24 => 
        bindI 0 fun t25 => 
        K t24 t25 h)))

def m_proto_reader_ended (r : Option Addr) (right : Bool) (K : Int → Int → Heap → Prop) (h : Heap) : Prop := g_proto_reader_ended r right K h

/-- proto.ReadAnswer -/
def g_proto_ReadAnswer (f_proto_reader_number : (Option Addr) → Int → (Int → Heap → Prop) → Heap → Prop) (f_proto_RightAnswer : (Int × Int × Int × Int × Int × Unit) → (Bool → Heap → Prop) → Heap → Prop) (f_proto_reader_ended : (Option Addr) → Bool → (Int → Int → Heap → Prop) → Heap → Prop) (b : Sl) (K : (Int × Int × Int × Int × Int × Unit) → Int → Int → Heap → Prop) (h : Heap) : Prop :=
  newC h [Value.int .i64 0, Value.int .u8 0, Value.int .i64 0, Value.int .i64 0, Value.int .i64 0] 43 fun b1 h2 => 
  bindI 0 fun t => 
  bindI 0 fun t3 => 
  newC h2 [Value.slice b.ptr b.len b.cap, Value.int .i64 0, Value.bool false] 117 fun b4 h5 => 
  f_proto_reader_number (some ⟨b4, 0, none⟩) 1 (fun t6 h7 =>
    f_proto_reader_number (some ⟨b4, 0, none⟩) 8 (fun t8 h9 =>
      f_proto_reader_number (some ⟨b4, 0, none⟩) 8 (fun t10 h11 =>
        f_proto_reader_number (some ⟨b4, 0, none⟩) 8 (fun t12 h13 =>
          f_proto_reader_number (some ⟨b4, 0, none⟩) 8 (fun t14 h15 =>
            newC h15 [Value.int .i64 0, Value.int .u8 0, Value.int .i64 0, Value.int .i64 0, Value.int .i64 0] 43 fun b16 h17 => 
            sts h17 b16 0 [Value.int .i64 t8, Value.int .u8 (IntKind.wrap .u8 t6), Value.int .i64 t10, Value.int .i64 t12, Value.int .i64 t14] fun h18 => 
            ldI h18 b16 0 .i64 fun t19 => ldI h18 b16 (0 + 1) .u8 fun t20 => ldI h18 b16 (0 + 2) .i64 fun t21 => ldI h18 b16 (0 + 3) .i64 fun t22 => ldI h18 b16 (0 + 4) .i64 fun t23 => 
            f_proto_RightAnswer (t19, t20, t21, t22, t23, ()) (fun t24 h25 =>
              f_proto_reader_ended (some ⟨b4, 0, none⟩) t24 (fun t26 t27 h28 =>
                bindI t26 fun err => 
                bindI t27 fun at_ => 
                iteP (err != 0) (
                  sts h28 b1 0 [Value.int .i64 0, Value.int .u8 0, Value.int .i64 0, Value.int .i64 0, Value.int .i64 0] fun h29 => 
                  bindI err fun t30 => 
                  bindI at_ fun t31 => 
                  ldI h29 b1 0 .i64 fun t32 => ldI h29 b1 (0 + 1) .u8 fun t33 => ldI h29 b1 (0 + 2) .i64 fun t34 => ldI h29 b1 (0 + 3) .i64 fun t35 => ldI h29 b1 (0 + 4) .i64 fun t36 => K (t32, t33, t34, t35, t36, ()) t30 t31 h29) (
                  ldI h28 b16 0 .i64 fun t37 => ldI h28 b16 (0 + 1) .u8 fun t38 => ldI h28 b16 (0 + 2) .i64 fun t39 => ldI h28 b16 (0 + 3) .i64 fun t40 => ldI h28 b16 (0 + 4) .i64 fun t41 => 
                  sts h28 b1 0 [Value.int .i64 t37, Value.int .u8 t38, Value.int .i64 t39, Value.int .i64 t40, Value.int .i64 t41] fun h42 => 
                  bindI 0 fun t43 => 
                  bindI 0 fun t44 => 
                  ldI h42 b1 0 .i64 fun t45 => ldI h42 b1 (0 + 1) .u8 fun t46 => ldI h42 b1 (0 + 2) .i64 fun t47 => ldI h42 b1 (0 + 3) .i64 fun t48 => ldI h42 b1 (0 + 4) .i64 fun t49 => K (t45, t46, t47, t48, t49, ()) t43 t44 h42)) h25) h18) h13) h11) h9) h7) h5

def m_proto_ReadAnswer (b : Sl) (K : (Int × Int × Int × Int × Int × Unit) → Int → Int → Heap → Prop) (h : Heap) : Prop := g_proto_ReadAnswer m_proto_reader_number m_proto_RightAnswer m_proto_reader_ended b K h

/-- (*client.Client).answered -/
def g_client_Client_answered (c : Option Addr) (a : Int × Int × Int × Int × Int × Unit) (K : Heap → Prop) (h : Heap) : Prop :=
  newC h [Value.int .i64 a.1, Value.int .u8 a.2.1, Value.int .i64 a.2.2.1, Value.int .i64 a.2.2.2.1, Value.int .i64 a.2.2.2.2.1] 43 fun b h1 => 
  derefP c fun b2 o => 
  ldM h1 b2 (o + 8) fun t => 
  ldI h1 b 0 .i64 fun t3 => 
  mapGet (.int .i64) h1 t (Value.int .i64 t3) fun r => asI (r.getD (Value.int .i64 0)) .i64 fun t4 => 
  bindI t4 fun _ => 
  bindB r.isSome fun waits => 
  iteP waits (
    derefP c fun b5 o6 => 
    ldM h1 b5 (o6 + 8) fun t7 => 
    ldI h1 b 0 .i64 fun t8 => 
    mapDel (.int .i64) h1 t7 (Value.int .i64 t8) fun h9 => 
    derefP c fun b10 o11 => 
    ldL h9 b10 (o11 + 10) fun t12 => 
    ldI h9 b 0 .i64 fun t13 => 
    ldI h9 b 0 .i64 fun t14 => ldI h9 b (0 + 1) .u8 fun t15 => ldI h9 b (0 + 2) .i64 fun t16 => ldI h9 b (0 + 3) .i64 fun t17 => ldI h9 b (0 + 4) .i64 fun t18 => 
    newC h9 [Value.int .i64 t13, Value.int .i64 t14, Value.int .u8 t15, Value.int .i64 t16, Value.int .i64 t17, Value.int .i64 t18, Value.bool false] 60 fun b19 h20 => 
    need (heldL h20 [(b, 0, Value.int .i64 t14), (b, 0 + 1, Value.int .u8 t15), (b, 0 + 2, Value.int .i64 t16), (b, 0 + 3, Value.int .i64 t17), (b, 0 + 4, Value.int .i64 t18)]) <|
    need (heldL h20 [(b, 0, Value.int .i64 t13)]) <|
    need (heldL h20 [(b10, o11 + 10, Value.slice t12.ptr t12.len t12.cap)]) <|
    rdS ⟨some ⟨b19, 0, none⟩, 1, 1⟩ 7 h20 fun new => app 60 7 56 [Value.int .i64 0, Value.int .i64 0, Value.int .u8 0, Value.int .i64 0, Value.int .i64 0, Value.int .i64 0, Value.bool false] t12 1 new h20 fun t21 h22 => 
    need (heldL h22 [(b, 0, Value.int .i64 t14), (b, 0 + 1, Value.int .u8 t15), (b, 0 + 2, Value.int .i64 t16), (b, 0 + 3, Value.int .i64 t17), (b, 0 + 4, Value.int .i64 t18)]) <|
    need (heldL h22 [(b, 0, Value.int .i64 t13)]) <|
    derefP c fun b23 o24 => 
    st h22 b23 (o24 + 10) (Value.slice t21.ptr t21.len t21.cap) fun h25 => 
    K h25) (
    K h1)

def m_client_Client_answered (c : Option Addr) (a : Int × Int × Int × Int × Int × Unit) (K : Heap → Prop) (h : Heap) : Prop := g_client_Client_answered c a K h

/-- (*frame.Reader).Reset -/
def g_frame_Reader_Reset (r : Option Addr) (K : Heap → Prop) (h : Heap) : Prop :=
  iteP r.isSome (
    derefP r fun b o => 
    st h b o (Value.slice none 0 0) fun h1 => 
    derefP r fun b2 o3 => 
    st h1 b2 (o3 + 1) (Value.bool false) fun h4 => 
    K h4) (
    K h)

def m_frame_Reader_Reset (r : Option Addr) (K : Heap → Prop) (h : Heap) : Prop := g_frame_Reader_Reset r K h

/-- (*client.Client).failed -/
def g_client_Client_failed (c : Option Addr) (K : Heap → Prop) (h : Heap) : Prop :=
  derefP c fun b o => 
  derefP c fun b1 o2 => 
  ldI h b (o + 6) .i64 fun t => 
  ldI h b1 (o2 + 12) .i64 fun t3 => 
  derefP c fun b4 o5 => 
  st h b4 (o5 + 11) (Value.int .i64 (IntKind.wrap .i64 (t + t3))) fun h6 => 
  derefP c fun b7 o8 => 
  derefP c fun b9 o10 => 
  ldI h6 b7 (o8 + 12) .i64 fun t11 => 
  ldI h6 b9 (o10 + 1 + 2) .i64 fun t12 => 
  derefP c fun b13 o14 => 
  st h6 b13 (o14 + 12) (Value.int .i64 (minV (IntKind.wrap .i64 ((2 : Int) * t11)) t12)) fun h15 => 
  K h15

def m_client_Client_failed (c : Option Addr) (K : Heap → Prop) (h : Heap) : Prop := g_client_Client_failed c K h

/-- (*client.Client).down -/
def g_client_Client_down (f_client_Client_Waiting : (Option Addr) → (Sl → Heap → Prop) → Heap → Prop) (f_client_Client_fall : (Option Addr) → Int → (Heap → Prop) → Heap → Prop) (f_frame_Reader_Reset : (Option Addr) → (Heap → Prop) → Heap → Prop) (f_client_Client_failed : (Option Addr) → (Heap → Prop) → Heap → Prop) (c : Option Addr) (K : Heap → Prop) (h : Heap) : Prop :=
  derefP c fun b o => 
  st h b (o + 5) (Value.bool false) fun h1 => 
  f_client_Client_Waiting c (fun t h2 =>
    loopM (σ := Int × Unit) (fun J3 s h4 =>
      (fun (s10 : Int) =>
        iteP (decide (s10 < (t.len : Int))) (
          idxA t.ptr t.len s10 1 fun b5 o6 => 
          ldI h4 b5 o6 .i64 fun t7 => 
          bindI t7 fun id => 
          f_client_Client_fall c id (fun h8 =>
            J3 (IntKind.wrap .i64 (s10 + 1), ()) h8) h4) (
          derefP c fun b9 o10 => 
          st h4 b9 (o10 + 9) (Value.slice none 0 0) fun h11 => 
          derefP c fun b12 o13 => 
          ldP h11 b12 o13 fun t14 => 
          f_frame_Reader_Reset t14 (fun h15 =>
            f_client_Client_failed c (fun h16 =>
              K h16) h15) h11)) s.1) (0, ()) h2) h1

def m_client_Client_down (c : Option Addr) (K : Heap → Prop) (h : Heap) : Prop := g_client_Client_down m_client_Client_Waiting m_client_Client_fall m_frame_Reader_Reset m_client_Client_failed c K h

/-- (*client.Client).Bytes$1 -/
def g_client_Client_Bytes_1 (f_frame_Reader_Put : (Option Addr) → Sl → (Sl → Int → Heap → Prop) → Heap → Prop) (f_proto_ReadAnswer : Sl → ((Int × Int × Int × Int × Int × Unit) → Int → Int → Heap → Prop) → Heap → Prop) (f_client_Client_answered : (Option Addr) → (Int × Int × Int × Int × Int × Unit) → (Heap → Prop) → Heap → Prop) (f_client_Client_down : (Option Addr) → (Heap → Prop) → Heap → Prop) (a0 : Option Addr) (a1 : Option Addr) (K : Int → Heap → Prop) (h : Heap) : Prop :=
  bindI 0 fun t => 
  derefP a0 fun b o => ldP h b o fun t1 => 
  derefP t1 fun b2 o3 => 
  ldB h b2 (o3 + 5) fun t4 => 
  iteP (!t4) (
    bindI 51 fun t5 => 
    K t5 h) (
    derefP a0 fun b6 o7 => ldP h b6 o7 fun t8 => 
    derefP t8 fun b9 o10 => 
    ldP h b9 o10 fun t11 => 
    derefP a1 fun b12 o13 => ldL h b12 o13 fun t14 => 
    f_frame_Reader_Put t11 t14 (fun t15 t16 h17 =>
      need (heldL h17 [(b6, o7, Value.pointer t8)]) <|
      bindI t16 fun err => 
      cutP (σ := Int × Unit) (fun s43 h44 =>
        (fun (err42 : Int) =>
          iteP (err42 != 0) (
            derefP a0 fun b45 o46 => ldP h44 b45 o46 fun t47 => 
            f_client_Client_down t47 (fun h48 =>
              bindI err42 fun t49 => 
              K t49 h48) h44) (
            bindI err42 fun t50 => 
            K t50 h44)) s43.1) (fun J18 =>
        loopM (σ := Int × Int × Unit) (fun J20 s h21 =>
          (fun (err19 : Int) (s26 : Int) =>
            iteP (decide (s26 < (t15.len : Int))) (
              idxA t15.ptr t15.len s26 1 fun b22 o23 => 
              ldL h21 b22 o23 fun t24 => 
              f_proto_ReadAnswer t24 (fun t25 t26 t27 h28 =>
                newC h28 [Value.int .i64 0, Value.int .u8 0, Value.int .i64 0, Value.int .i64 0, Value.int .i64 0] 43 fun b29 h30 => 
                sts h30 b29 0 [Value.int .i64 t25.1, Value.int .u8 t25.2.1, Value.int .i64 t25.2.2.1, Value.int .i64 t25.2.2.2.1, Value.int .i64 t25.2.2.2.2.1] fun h31 => 
                bindI t26 fun wrong => 
                bindI t27 fun _ => 
                iteP (wrong != 0) (
                  bindI 50 fun err32 => 
                  J18 (err32, ()) h31) (
                  derefP a0 fun b33 o34 => ldP h31 b33 o34 fun t35 => 
                  ldI h31 b29 0 .i64 fun t36 => ldI h31 b29 (0 + 1) .u8 fun t37 => ldI h31 b29 (0 + 2) .i64 fun t38 => ldI h31 b29 (0 + 3) .i64 fun t39 => ldI h31 b29 (0 + 4) .i64 fun t40 => 
                  f_client_Client_answered t35 (t36, t37, t38, t39, t40, ()) (fun h41 =>
                    J20 (err19, IntKind.wrap .i64 (s26 + 1), ()) h41) h31)) h21) (
              J18 (err19, ()) h21)) s.1 s.2.1) (err, 0, ()) h17)) h)

def m_client_Client_Bytes_1 (a0 : Option Addr) (a1 : Option Addr) (K : Int → Heap → Prop) (h : Heap) : Prop := g_client_Client_Bytes_1 m_frame_Reader_Put m_proto_ReadAnswer m_client_Client_answered m_client_Client_down a0 a1 K h

/-- (*client.Client).at -/
def g_client_Client_at__client_Client_Bytes_1 (f_client_Client_Waiting : (Option Addr) → (Sl → Heap → Prop) → Heap → Prop) (f_client_Client_fall : (Option Addr) → Int → (Heap → Prop) → Heap → Prop) (f_client_Client_Bytes_1 : (Option Addr) → (Option Addr) → (Int → Heap → Prop) → Heap → Prop) (c : Option Addr) (at_ : Int) (then_ : Option Addr × Option Addr × Unit) (K : Int → Heap → Prop) (h : Heap) : Prop :=
  bindI 0 fun t => 
  bindB c.isNone fun t1 => 
  iteP t1 (
    bindI 1 fun t2 => 
    K t2 h) (
    iteP (decide (at_ < 0)) (
      bindI 2 fun t3 => 
      K t3 h) (
      bindB (decide (at_ > 1152921504606846976)) fun t4 => 
      iteP t4 (
        bindI 2 fun t5 => 
        K t5 h) (
        derefP c fun b o => 
        ldI h b (o + 6) .i64 fun t6 => 
        bindB (decide (at_ < t6)) fun t7 => 
        iteP t7 (
          bindI 7 fun t8 => 
          K t8 h) (
          derefP c fun b9 o10 => 
          st h b9 (o10 + 6) (Value.int .i64 at_) fun h11 => 
          f_client_Client_Waiting c (fun t12 h13 =>
            loopM (σ := Int × Unit) (fun J14 s h15 =>
              (fun (s33 : Int) =>
                iteP (decide (s33 < (t12.len : Int))) (
                  idxA t12.ptr t12.len s33 1 fun b16 o17 => 
                  ldI h15 b16 o17 .i64 fun t18 => 
                  bindI t18 fun id => 
                  derefP c fun b19 o20 => 
                  derefP c fun b21 o22 => 
                  ldM h15 b19 (o20 + 8) fun t23 => 
                  ldI h15 b21 (o22 + 1) .i64 fun t24 => 
                  mapGet (.int .i64) h15 t23 (Value.int .i64 id) fun r => asI (r.getD (Value.int .i64 0)) .i64 fun t25 => 
                  need (heldL h15 [(b21, o22 + 1, Value.int .i64 t24)]) <|
                  iteP (decide ((IntKind.wrap .i64 (at_ - t25)) ≥ t24)) (
                    f_client_Client_fall c id (fun h26 =>
                      J14 (IntKind.wrap .i64 (s33 + 1), ()) h26) h15) (
                    J14 (IntKind.wrap .i64 (s33 + 1), ()) h15)) (
                  f_client_Client_Bytes_1 then_.1 then_.2.1 (fun t27 h28 =>
                    bindI t27 fun t29 => 
                    K t29 h28) h15)) s.1) (0, ()) h13) h11))))

def m_client_Client_at__client_Client_Bytes_1 (c : Option Addr) (at_ : Int) (then_ : Option Addr × Option Addr × Unit) (K : Int → Heap → Prop) (h : Heap) : Prop := g_client_Client_at__client_Client_Bytes_1 m_client_Client_Waiting m_client_Client_fall m_client_Client_Bytes_1 c at_ then_ K h

/-- (*client.Client).Bytes -/
def g_client_Client_Bytes (f_client_Client_at__client_Client_Bytes_1 : (Option Addr) → Int → (Option Addr × Option Addr × Unit) → (Int → Heap → Prop) → Heap → Prop) (c : Option Addr) (at_ : Int) (b : Sl) (K : Int → Heap → Prop) (h : Heap) : Prop :=
  newC h [Value.pointer c] 30 fun b1 h2 => 
  newC h2 [Value.slice b.ptr b.len b.cap] 44 fun b3 h4 => 
  bindI 0 fun t => 
  ldP h4 b1 0 fun t5 => 
  f_client_Client_at__client_Client_Bytes_1 t5 at_ (some ⟨b1, 0, none⟩, some ⟨b3, 0, none⟩, ()) (fun t6 h7 =>
    bindI t6 fun t8 => 
    K t8 h7) h4

def m_client_Client_Bytes (c : Option Addr) (at_ : Int) (b : Sl) (K : Int → Heap → Prop) (h : Heap) : Prop := g_client_Client_Bytes m_client_Client_at__client_Client_Bytes_1 c at_ b K h

/-- (*client.Client).Told -/
def g_client_Client_Told (c : Option Addr) (K : Sl → Heap → Prop) (h : Heap) : Prop :=
  iteP c.isNone (
    K ⟨none, 0, 0⟩ h) (
    derefP c fun b o => 
    ldL h b (o + 10) fun t => 
    derefP c fun b1 o2 => 
    st h b1 (o2 + 10) (Value.slice none 0 0) fun h3 => 
    K t h3)

def m_client_Client_Told (c : Option Addr) (K : Sl → Heap → Prop) (h : Heap) : Prop := g_client_Client_Told c K h

/-- (*stream.Net).Look -/
def g_stream_Net_Look (f_stream_Net_at : (Option Addr) → Int → Int → Int → ((Option Addr) → Int → Heap → Prop) → Heap → Prop) (n : Option Addr) (k : Int) (end_ : Int) (K : Int → Int → Int → Heap → Prop) (h : Heap) : Prop :=
  bindI 0 fun way => 
  bindI 0 fun come => 
  bindI 0 fun e => 
  f_stream_Net_at n k end_ 0 (fun t t1 h2 =>
    bindI t1 fun e3 => 
    iteP (e3 != 0) (
      bindI 0 fun way4 => 
      bindI 0 fun come5 => 
      bindI e3 fun e6 => 
      K way4 come5 e6 h2) (
      derefP t fun b o => 
      idxN 2 end_ fun j => 
      ldL h2 b (o + j * 3) fun t7 => 
      derefP t fun b8 o9 => 
      idxN 2 (IntKind.wrap .i64 ((1 : Int) - end_)) fun j10 => 
      ldL h2 b8 (o9 + j10 * 3 + 1) fun t11 => 
      bindI (t7.len : Int) fun way12 => 
      bindI (t11.len : Int) fun come13 => 
      bindI 0 fun e14 => 
      K way12 come13 e14 h2)) h

def m_stream_Net_Look (n : Option Addr) (k : Int) (end_ : Int) (K : Int → Int → Int → Heap → Prop) (h : Heap) : Prop := g_stream_Net_Look m_stream_Net_at n k end_ K h

/-- (*client.Client).Connected -/
def g_client_Client_Connected (c : Option Addr) (K : Bool → Heap → Prop) (h : Heap) : Prop :=
  iteP c.isSome (
    derefP c fun b o => 
    ldB h b (o + 5) fun t => 
    bindB t fun t1 => 
    K t1 h) (
    K false h)

def m_client_Client_Connected (c : Option Addr) (K : Bool → Heap → Prop) (h : Heap) : Prop := g_client_Client_Connected c K h

/-- spillwaytop.TopAnswered -/
def g_spillwaytop_TopAnswered (f_stream_New : ((Option Addr) → Heap → Prop) → Heap → Prop) (f_stream_Net_Listen : (Option Addr) → Sl → (Int → Heap → Prop) → Heap → Prop) (f_stream_Net_Dial : (Option Addr) → Int → (Int → Int → Heap → Prop) → Heap → Prop) (f_client_New : (Int × Int × Int × Unit) → ByteArray → ((Option Addr) → Int → Heap → Prop) → Heap → Prop) (f_client_Client_Up : (Option Addr) → Int → (Int → Heap → Prop) → Heap → Prop) (f_client_Client_Ask : (Option Addr) → Int → (Int × Int × Int × Int × ByteArray × Int × Unit) → (Int → Bool → Int → Heap → Prop) → Heap → Prop) (f_proto_Answer : (Int × Int × Int × Int × Int × Unit) → (Sl → Int → Heap → Prop) → Heap → Prop) (f_frame_Frame : Sl → (Sl → Int → Heap → Prop) → Heap → Prop) (f_stream_Net_Write : (Option Addr) → Int → Int → Sl → (Int → Heap → Prop) → Heap → Prop) (f_client_Client_Waiting : (Option Addr) → (Sl → Heap → Prop) → Heap → Prop) (f_spillwaytop_which : Int → Int → (Int → Heap → Prop) → Heap → Prop) (f_stream_Net_Move : (Option Addr) → Int → Int → Int → (Int → Int → Heap → Prop) → Heap → Prop) (f_stream_Net_Read : (Option Addr) → Int → Int → Int → (Sl → Bool → Int → Heap → Prop) → Heap → Prop) (f_client_Client_Bytes : (Option Addr) → Int → Sl → (Int → Heap → Prop) → Heap → Prop) (f_client_Client_Told : (Option Addr) → (Sl → Heap → Prop) → Heap → Prop) (f_stream_Net_Look : (Option Addr) → Int → Int → (Int → Int → Int → Heap → Prop) → Heap → Prop) (f_client_Client_Connected : (Option Addr) → (Bool → Heap → Prop) → Heap → Prop) (l : Sl) (cuts : Sl) (K : Bool → Heap → Prop) (h : Heap) : Prop :=
  f_stream_New (fun t h1 =>
    iteP t.isNone (
      K false h1) (
      newC h1 [Value.int .i64 1] 3 fun b h2 => 
      f_stream_Net_Listen t ⟨some ⟨b, 0, none⟩, 1, 1⟩ (fun t3 h4 =>
        iteP (t3 != 0) (
          K false h4) (
          f_stream_Net_Dial t 1 (fun t5 t6 h7 =>
            bindI t5 fun conn => 
            bindI t6 fun e => 
            f_client_New (1000000, 1, 1, ()) (ByteArray.mk #[120]) (fun t8 t9 h10 =>
              bindI t9 fun f => 
              iteP (e != 0) (
                K false h10) (
                iteP (f != 0) (
                  K false h10) (
                  f_client_Client_Up t8 0 (fun t11 h12 =>
                    iteP (t11 != 0) (
                      K false h12) (
                      bindI 0 fun want => 
                      cutP (σ := Int × Unit) (fun s51 h52 =>
                        (fun (want50 : Int) =>
                          f_client_Client_Waiting t8 (fun t53 h54 =>
                            bindI (t53.len : Int) fun asked => 
                            cutP (σ := Sl × Unit) (fun s97 h98 =>
                              (fun (told96 : Sl) =>
                                bindI 0 fun last => 
                                bindI 0 fun i99 => 
                                loopM (σ := Int × Int × Unit) (fun J102 s103 h104 =>
                                  (fun (last100 : Int) (i101 : Int) =>
                                    iteP (decide (i101 < (told96.len : Int))) (
                                      idxA told96.ptr told96.len i101 7 fun b105 o106 => 
                                      ldB h104 b105 (o106 + 6) fun t107 => 
                                      iteP t107 (
                                        K false h104) (
                                        idxA told96.ptr told96.len i101 7 fun b108 o109 => 
                                        ldI h104 b108 o109 .i64 fun t110 => 
                                        iteP (decide (t110 ≤ last100)) (
                                          K false h104) (
                                          idxA told96.ptr told96.len i101 7 fun b111 o112 => 
                                          ldI h104 b111 (o112 + 1) .i64 fun t113 => 
                                          idxA told96.ptr told96.len i101 7 fun b114 o115 => 
                                          ldI h104 b114 o115 .i64 fun t116 => 
                                          iteP (t113 != t116) (
                                            K false h104) (
                                            idxA told96.ptr told96.len i101 7 fun b117 o118 => 
                                            ldI h104 b117 o118 .i64 fun t119 => 
                                            bindI t119 fun last120 => 
                                            bindI (IntKind.wrap .i64 (i101 + 1)) fun i121 => 
                                            J102 (last120, i121, ()) h104)))) (
                                      iteP ((told96.len : Int) == want50) (
                                        f_client_Client_Waiting t8 (fun t122 h123 =>
                                          iteP ((t122.len : Int) == (IntKind.wrap .i64 (asked - want50))) (
                                            f_client_Client_Connected t8 (fun t124 h125 =>
                                              bindB t124 fun t126 => 
                                              K t126 h125) h123) (
                                            K false h123)) h104) (
                                        K false h104))) s103.1 s103.2.1) (last, i99, ()) h98) s97.1) (fun J55 =>
                              bindI 0 fun i56 => 
                              loopM (σ := Sl × Int × Unit) (fun J58 s59 h60 =>
                                (fun (told : Sl) (i57 : Int) =>
                                  iteP (decide (i57 < 5000)) (
                                    bindI 7 fun k => 
                                    cutP (σ := Int × Unit) (fun s69 h70 =>
                                      (fun (k68 : Int) =>
                                        f_stream_Net_Move t conn 1 k68 (fun t71 t72 h73 =>
                                          f_stream_Net_Read t conn 0 1000 (fun t74 t75 t76 h77 =>
                                            bindB t75 fun _78 => 
                                            bindI t76 fun e79 => 
                                            iteP (e79 != 0) (
                                              K false h77) (
                                              cutP (σ := Unit) (fun s83 h84 =>
                                                f_client_Client_Told t8 (fun t85 h86 =>
                                                  rdS t85 7 h86 fun new => app 60 7 56 [Value.int .i64 0, Value.int .i64 0, Value.int .u8 0, Value.int .i64 0, Value.int .i64 0, Value.int .i64 0, Value.bool false] told t85.len new h86 fun t87 h88 => 
                                                  f_stream_Net_Look t conn 1 (fun t89 t90 t91 h92 =>
                                                    bindI t89 fun way => 
                                                    bindI t90 fun _93 => 
                                                    bindI t91 fun _94 => 
                                                    iteP (way == 0) (
                                                      J55 (t87, ()) h92) (
                                                      bindI (IntKind.wrap .i64 (i57 + 1)) fun i95 => 
                                                      J58 (t87, i95, ()) h92)) h88) h84) (fun J80 =>
                                                iteP (decide ((t74.len : Int) > 0)) (
                                                  f_client_Client_Bytes t8 5000 t74 (fun t81 h82 =>
                                                    iteP (t81 != 0) (
                                                      K false h82) (
                                                      J80 (()) h82)) h77) (
                                                  J80 (()) h77)))) h73) h70) s69.1) (fun J61 =>
                                      iteP (decide (i57 < (cuts.len : Int))) (
                                        idxA cuts.ptr cuts.len i57 1 fun b62 o63 => 
                                        ldI h60 b62 o63 .i64 fun t64 => 
                                        f_spillwaytop_which t64 50 (fun t65 h66 =>
                                          bindI (IntKind.wrap .i64 ((1 : Int) + t65)) fun k67 => 
                                          J61 (k67, ()) h66) h60) (
                                        J61 (k, ()) h60))) (
                                    J55 (told, ()) h60)) s59.1 s59.2.1) (⟨none, 0, 0⟩, i56, ()) h54)) h52) s51.1) (fun J13 =>
                        bindI 0 fun i => 
                        loopM (σ := Int × Int × Unit) (fun J16 s h17 =>
                          (fun (want14 : Int) (i15 : Int) =>
                            iteP (decide (i15 < (l.len : Int))) (
                              iteP (decide (i15 < 50)) (
                                f_client_Client_Ask t8 0 (0, 1, 1, 1, ByteArray.mk #[], 0, ()) (fun t18 t19 t20 h21 =>
                                  bindI t18 fun id => 
                                  bindB t19 fun _ => 
                                  bindI t20 fun e22 => 
                                  idxA l.ptr l.len i15 5 fun b23 o => 
                                  ldI h21 b23 o .i64 fun t24 => ldI h21 b23 (o + 1) .u8 fun t25 => ldI h21 b23 (o + 2) .i64 fun t26 => ldI h21 b23 (o + 3) .i64 fun t27 => ldI h21 b23 (o + 4) .i64 fun t28 => 
                                  newC h21 [Value.int .i64 0, Value.int .u8 0, Value.int .i64 0, Value.int .i64 0, Value.int .i64 0] 43 fun b29 h30 => 
                                  sts h30 b29 0 [Value.int .i64 t24, Value.int .u8 t25, Value.int .i64 t26, Value.int .i64 t27, Value.int .i64 t28] fun h31 => 
                                  st h31 b29 0 (Value.int .i64 id) fun h32 => 
                                  ldI h32 b29 0 .i64 fun t33 => ldI h32 b29 (0 + 1) .u8 fun t34 => ldI h32 b29 (0 + 2) .i64 fun t35 => ldI h32 b29 (0 + 3) .i64 fun t36 => ldI h32 b29 (0 + 4) .i64 fun t37 => 
                                  f_proto_Answer (t33, t34, t35, t36, t37, ()) (fun t38 t39 h40 =>
                                    bindI t39 fun f41 => 
                                    iteP (e22 != 0) (
                                      K false h40) (
                                      iteP (f41 != 0) (
                                        bindI (IntKind.wrap .i64 (i15 + 1)) fun i42 => 
                                        J16 (want14, i42, ()) h40) (
                                        f_frame_Frame t38 (fun t43 t44 h45 =>
                                          f_stream_Net_Write t conn 1 t43 (fun t46 h47 =>
                                            iteP (t46 != 0) (
                                              K false h47) (
                                              bindI (IntKind.wrap .i64 (want14 + 1)) fun want48 => 
                                              bindI (IntKind.wrap .i64 (i15 + 1)) fun i49 => 
                                              J16 (want48, i49, ()) h47)) h45) h40))) h32) h17) (
                                J13 (want14, ()) h17)) (
                              J13 (want14, ()) h17)) s.1 s.2.1) (want, i, ()) h12))) h10))) h7) h4)) h2)) h

def m_spillwaytop_TopAnswered (l : Sl) (cuts : Sl) (K : Bool → Heap → Prop) (h : Heap) : Prop := g_spillwaytop_TopAnswered m_stream_New m_stream_Net_Listen m_stream_Net_Dial m_client_New m_client_Client_Up m_client_Client_Ask m_proto_Answer m_frame_Frame m_stream_Net_Write m_client_Client_Waiting m_spillwaytop_which m_stream_Net_Move m_stream_Net_Read m_client_Client_Bytes m_client_Client_Told m_stream_Net_Look m_client_Client_Connected l cuts K h

end Go.Proofs.Ytbofhmcjcllcaaa
